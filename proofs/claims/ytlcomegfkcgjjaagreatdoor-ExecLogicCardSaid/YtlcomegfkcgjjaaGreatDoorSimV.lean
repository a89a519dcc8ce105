/-
  SIM, part V: the whole: a call that the interpreter runs to 'true'; calls told ahead, each run by itself.
-/
import Derived.Test.YtlcomegfkcgjjaaGreatDoorSimU
namespace Go.Sim
open Go.RowKit (Below)
set_option linter.unusedVariables false

theorem exec_ok (P : Program) {M : List Memo} (hM : ∀ m ∈ M, MemoOk P m) (w0 : World) : ∀ n : Nat, ExOk P w0 (exec P M n) ∧ LpOk P w0 (exec P M n) := by
  intro n
  induction n with
  | zero => exact ⟨fun c env nt f df k σ K ρ w a Q rnd rd hW hS hG hE hD h hQ => (nofail h).elim, fun c env nt f df k σ K ρ w a Q rnd rd hW hS hG hE hD h hQ => (nofail h).elim⟩
  | succ n ih => exact ⟨text_of_text hM ih.1 ih.2, loop_of_text ih.1 ih.2⟩

theorem start_SI {H : T ABlk} {next : Nat} (h1 : 1 ≤ next) (h2 : next ≤ 1000000001) : SI (start H next) :=
  ⟨h1, h2, Nat.zero_le _, by simp, fun y hy => by simp [T.get] at hy⟩

/-- Nothing of ours lies in the world; the values that nobody looks into are v's. -/
def rhoV (v : Nat → Value) : Rho := ⟨fun _ _ => none, v⟩
theorem goodV (v : Nat → Value) (w : World) : Good w (rhoV v) .leaf w :=
  ⟨Below.refl _ _, (fun b x h => by simp [T.get] at h), (fun b g h hh => by cases hh), (fun b g h b' g' h' hh => by cases hh), (fun b g h x hh => by cases hh)⟩

/-- Any call, from any start that fits the world. -/
theorem calls_any {P : Program} {M : List Memo} (hM : ∀ m ∈ M, MemoOk P m) {fuel f next : Nat} {H : T ABlk} {avs : List AV} {K : Fin} {ρ : Rho} {w : World} {vs : List Value} {R : Ending → World → Prop} (h : run (callF P (exec P M fuel) f avs .ret) (start H next) K = true) (h1 : 1 ≤ next) (h2 : next ≤ 1000000001)
    (hG : Good w ρ H w) (hl : LR ρ avs vs) (hR : ∀ av v σ' ρ' w', K av σ' = true → Below w.heap.size w w' → VR ρ' av v → R (.returned v) w') : Calls P f vs.toArray w R :=
  callsIn_wide.1 ((callF_ok (exec_ok P hM w fuel).1 f avs vs .ret (start H next) K ρ w R (start_SI h1 h2) hG hl h fun av v σ' ρ' w' q1 q2 q3 q4 q5 => hR av v σ' ρ' w' q1 q3.below q5).2)

theorem calls_true_at {P : Program} {M : List Memo} (hM : ∀ m ∈ M, MemoOk P m) {fuel f next : Nat} {H : T ABlk} {avs : List AV} (h : runsTrue P M fuel f avs H next = true) (h1 : 1 ≤ next) (h2 : next ≤ 1000000001) {ρ : Rho} {w : World} {vs : List Value} (hG : Good w ρ H w) (hl : LR ρ avs vs) :
    Calls P f vs.toArray w fun e w' => e = .returned (.bool true) ∧ Below w.heap.size w w' :=
  calls_any hM h h1 h2 hG hl fun av v σ' ρ' w' q1 q3 q5 => by
    cases q5 with
    | bool b =>
      cases b with
      | true => exact ⟨rfl, q3⟩
      | false => exact absurd (show false = true from q1) (by decide)
    | _ => exact absurd (show false = true from q1) (by decide)
theorem calls_args {P : Program} {M : List Memo} (hM : ∀ m ∈ M, MemoOk P m) {fuel f : Nat} {avs : List AV} (h : runsTrue P M fuel f avs .leaf 1 = true) (val : Nat → Value) {vs : List Value} (hl : LR (rhoV val) avs vs) (w : World) :
    Calls P f vs.toArray w fun e w' => e = .returned (.bool true) ∧ Below w.heap.size w w' :=
  calls_true_at hM h (by decide) (by decide) (goodV val w) hl
/-- One argument, whatever it is. -/
theorem calls_one {P : Program} {M : List Memo} (hM : ∀ m ∈ M, MemoOk P m) {fuel f : Nat} (h : runsTrue P M fuel f [.opq 0] .leaf 1 = true) (v : Value) (w : World) :
    Calls P f #[v] w fun e w' => e = .returned (.bool true) ∧ Below w.heap.size w w' :=
  calls_args hM h (fun _ => v) (LR.cons (.opq 0) (LR.nil _)) w
theorem noMemo (P : Program) : ∀ m ∈ ([] : List Memo), MemoOk P m := fun m h => by cases h

/-! ### Calls told ahead -/
/-- Values without an address: one to the bit, wherever they are read. -/
theorem sameA_VR : ∀ (f : Nat) (x y : AV), sameA f x y = true → ∀ (ρ ρ' : Rho) (v : Value), VR ρ x v → VR ρ' y v := by
  intro f
  induction f with
  | zero => intro x y h; simp [sameA] at h
  | succ f ih =>
    intro x y h ρ ρ' v hv
    unfold sameA at h
    split at h
    · cases hv
      have e := of_decide_eq_true (show decide (_ = _) = true by simpa using h)
      rw [e]; exact .bool _
    · rename_i j a j' b
      cases hv
      obtain ⟨h1, h2⟩ := bif'_true h
      have h1 := of_decide_eq_true h1
      have h2 : a = b := by simpa using h2
      subst h1; subst h2
      exact .int _ _
    · cases hv
      have e := (eqL_iff _ _).1 h
      rw [← e]; exact .str _
    · rename_i a b
      cases hv with
      | agg _ cs h1 h2 =>
        have key : ∀ (a b : List AV) (vs : List Value), sameA.sameAll (sameA f) a b = true → LR ρ a vs → LR ρ' b vs := by
          intro a
          induction a with
          | nil =>
            intro b vs h hl
            cases b with
            | nil => rw [hl.nil_inv]; exact LR.nil _
            | cons _ _ => simp [sameA.sameAll] at h
          | cons x a iha =>
            intro b vs h hl
            cases b with
            | nil => simp [sameA.sameAll] at h
            | cons y b =>
              obtain ⟨u, vs', rfl, hu, hl'⟩ := hl.cons_inv
              have h : bif' (sameA f x y) (sameA.sameAll (sameA f) a b) false = true := h
              obtain ⟨g1, g2⟩ := bif'_true h
              exact LR.cons (ih x y g1 ρ ρ' u hu) (iha b vs' g2 hl')
        obtain ⟨q1, q2⟩ := (key a b cs.toList h (LR.of_arr h1 h2)).arr
        exact .agg _ _ q1 q2
    · cases h

theorem memoS_ok {P : Program} {M : List Memo} (hM : ∀ m ∈ M, MemoOk P m) {fuel f : Nat} {arg : List Nat} {res : AV} (h : runsMemoS P M fuel f arg res = true) : MemoOk P (.mk f none arg res) := by
  intro s w hs
  subst hs
  exact calls_any (avs := [.str (bytesOf s)]) (vs := [.string s]) hM h (by decide) (by decide) (goodV (fun _ => undef) w) (LR.cons (.str s) (LR.nil _)) fun av v σ' ρ' w' q1 q3 q5 =>
    ⟨v, rfl, fun ρ => sameA_VR 8 av res q1 ρ' ρ v q5, q3⟩

theorem memo0_ok {P : Program} {M : List Memo} (hM : ∀ m ∈ M, MemoOk P m) {fuel f : Nat} {res : AV} (h : runsMemo0 P M fuel f res = true) : MemoOk P (.mk f (some 0) [] res) := by
  intro w
  exact calls_any (avs := []) (vs := []) hM h (by decide) (by decide) (goodV (fun _ => undef) w) (LR.nil _) fun av v σ' ρ' w' q1 q3 q5 =>
    ⟨v, rfl, fun ρ => sameA_VR 8 av res q1 ρ' ρ v q5, q3⟩

theorem byteRow_run {k : T Cell → Bool} : ∀ (l : List Nat) (i : Nat) (t : T Cell), byteRow l i t k = true →
    ∃ c, k c = true ∧ ∀ o x, c.get o = some x → (∃ (j n : Nat), o = i + j ∧ l[j]? = some n ∧ x = .mk 0 (.int .u8 (n : Nat))) ∨ (t.get o = some x ∧ (o < i ∨ i + l.length ≤ o)) := by
  intro l
  induction l with
  | nil => intro i t h; exact ⟨t, h, fun o x hx => .inr ⟨hx, by simp; omega⟩⟩
  | cons a l ih =>
    intro i t h
    have h : T.setK t i (.mk 0 (.int .u8 (.ofNat a))) (fun t => fN (Nat.succ i) fun i => byteRow l i t k) = true := h
    rw [T.setK_eq, fN_eq] at h
    obtain ⟨c, h1, h2⟩ := ih _ _ h
    refine ⟨c, h1, fun o x hx => ?_⟩
    rcases h2 o x hx with ⟨j, n, e, hb, hx'⟩ | ⟨hx', ho⟩
    · exact .inl ⟨j + 1, n, by omega, by simpa using hb, hx'⟩
    · by_cases e : o = i
      · subst e
        have := T.get_set_some _ _ hx'
        exact .inl ⟨0, a, by omega, rfl, this⟩
      · rw [T.get_set_ne _ e] at hx'
        exact .inr ⟨hx', by simp at ho ⊢; omega⟩

theorem memoB_ok {P : Program} {M : List Memo} (hM : ∀ m ∈ M, MemoOk P m) {fuel f ty : Nat} {arg : List Nat} {res : AV} (h : runsMemoB P M fuel f ty arg res = true) (hne : arg ≠ [] := by decide) : MemoOk P (.mk f (some ty) arg res) := by
  suffices hB : MemoB P f ty arg res by
    cases arg with
    | nil => exact absurd rfl hne
    | cons _ _ => exact hB
  intro blk arr fr c w hw harg hlc hc
  obtain ⟨t, h, ht⟩ := byteRow_run (k := fun t => fN (List.length arg) fun n => T.singK 64 1048576 (ABlk.cells t 0 0 n 0 0 true ty) fun H =>
    run (callF P (exec P M fuel) f [.slc 1048576 0 0 n none 1] .ret) (start H 1048577) fun v _ => sameA 8 v res) arg 0 .leaf h
  rw [fN_eq, T.singK_eq] at h
  have hget : ∀ b x, (T.sing 64 1048576 (ABlk.cells t 0 0 arg.length 0 0 true ty)).get b = some x → b = 1048576 ∧ x = .cells t 0 0 arg.length 0 0 true ty := fun b x hx => by
    rw [T.get_sing _ _ _ _ (by decide)] at hx
    split at hx
    · rename_i e; injection hx with hx; exact ⟨e, hx.symm⟩
    · cases hx
  have hblk : blk < w.heap.size := by
    rcases Nat.lt_or_ge blk w.heap.size with h' | h'
    · exact h'
    · rw [Array.getElem?_eq_none h'] at hw; cases hw
  let ρ : Rho := ⟨fun b g => if b = 1048576 ∧ g = 0 then some ⟨blk, 0, arr.size⟩ else none, fun _ => undef⟩
  have hat : ∀ b g h, ρ.at_ b g = some h → b = 1048576 ∧ g = 0 ∧ h = ⟨blk, 0, arr.size⟩ := fun b g h hh => by
    have hh : (if b = 1048576 ∧ g = 0 then some (⟨blk, 0, arr.size⟩ : Home) else none) = some h := hh
    split at hh
    · rename_i e; injection hh with hh; exact ⟨e.1, e.2, hh.symm⟩
    · cases hh
  have hat0 : ρ.at_ 1048576 0 = some ⟨blk, 0, arr.size⟩ := by
    show (if (1048576 : Nat) = 1048576 ∧ (0 : Nat) = 0 then some (⟨blk, 0, arr.size⟩ : Home) else none) = some ⟨blk, 0, arr.size⟩
    rw [if_pos ⟨rfl, rfl⟩]
  have hG : Good w ρ (T.sing 64 1048576 (ABlk.cells t 0 0 arg.length 0 0 true ty)) w := by
    refine ⟨Below.refl _ _, fun b x hx => ?_, fun b g h hh => ?_, fun b g h b' g' h' hh hh' _ => ?_, fun b g h x hh hx => ?_⟩
    · obtain ⟨e1, e2⟩ := hget b x hx
      subst e1; subst e2
      refine ⟨fun o x hx => ?_, fun g hg => ?_⟩
      · rcases ht o x hx with ⟨j, n, e, hj, ex⟩ | ⟨hx', _⟩
        · have : j < arg.length := by
            rcases Nat.lt_or_ge j arg.length with h' | h'
            · exact h'
            · rw [List.getElem?_eq_none h'] at hj; cases hj
          subst ex
          exact ⟨by omega, by omega, Nat.le_refl _⟩
        · simp [T.get] at hx'
      · have : g = 0 := by omega
        subst this
        refine ⟨_, hat0, (fun h => by cases h), (fun _ h => absurd h (by decide)), arr, fr, hw, rfl, (fun h => by cases h), fun o tag a hoa _ => ?_⟩
        rcases ht o _ hoa with ⟨j, n, e, hj, ex⟩ | ⟨hx', _⟩
        · injection ex with e1 e2
          subst e2
          refine ⟨Nat.zero_le _, _, harg j n hj |> fun h => ?_, .int _ _⟩
          rw [show o - 0 = j by omega]; exact h
        · simp [T.get] at hx'
    · obtain ⟨e1, e2, e3⟩ := hat b g h hh
      subst e3; subst e1
      exact ⟨hblk, _, by rw [T.get_sing _ _ _ _ (by decide), if_pos rfl]⟩
    · obtain ⟨e1, e2, e3⟩ := hat b g h hh
      obtain ⟨f1, f2, f3⟩ := hat b' g' h' hh'
      exact ⟨by rw [e1, f1], by rw [e3, f3]⟩
    · obtain ⟨e1, e2, e3⟩ := hat b g h hh
      obtain ⟨_, f2⟩ := hget b x hx
      subst f2
      show g ≤ 0
      omega
  exact calls_any (avs := [.slc 1048576 0 0 arg.length none 1]) (vs := [.slice (some ⟨blk, 0, none⟩) arg.length c]) hM h (by decide) (by decide) hG
    (LR.cons (.slc _ _ _ _ _ _ _ _ ⟨hlc, .inr ⟨_, hat0, Nat.le_refl _, by simp, by simpa using hc⟩⟩) (LR.nil _)) fun av v σ' ρ' w' q1 q3 q5 =>
    ⟨v, rfl, fun ρ2 => sameA_VR 8 av res q1 ρ' ρ2 v q5, q3⟩
#print axioms memoB_ok
end Go.Sim
