/-
  SIM, part D: a run hangs on what it touches alone ('Loc').
-/
import Derived.Test.YtlcomegfkcgjjaaGreatDoorSimC
namespace Go.Sim
set_option linter.unusedVariables false

theorem T.mem_keys_acc {α : Type} : ∀ (t : T α) (f : Nat → Nat) (acc : List Nat) (x : Nat), x ∈ acc → x ∈ T.keys t f acc := by
  intro t
  induction t with
  | leaf => intro f acc x h; exact h
  | node l v r ihl ihr =>
    intro f acc x h
    simp only [T.keys]
    refine ihl _ _ _ (ihr _ _ _ ?_)
    cases v <;> simp [h]
theorem T.mem_keys {α : Type} : ∀ (t : T α) (f : Nat → Nat) (acc : List Nat) (b : Nat) (a : α), t.get b = some a → f b ∈ T.keys t f acc := by
  intro t
  induction t with
  | leaf => intro f acc b a h; simp [T.get] at h
  | node l v r ihl ihr =>
    intro f acc b a h
    simp only [T.keys]
    cases b with
    | zero =>
      simp only [T.get] at h
      subst h
      exact T.mem_keys_acc _ _ _ _ (T.mem_keys_acc _ _ _ _ (by simp))
    | succ m =>
      simp only [T.get] at h
      split at h
      · have e : m + 1 = 2 * (m / 2) + 1 := by omega
        rw [e]
        exact ihl (fun n => f (2 * n + 1)) _ _ _ h
      · have e : m + 1 = 2 * (m / 2) + 2 := by omega
        rw [e]
        exact T.mem_keys_acc _ _ _ _ (ihr (fun n => f (2 * n + 2)) _ _ _ h)

theorem note_keeps {fs b : Nat} {t : T Unit} {x : Nat} (hb : b + 1 < 2 ^ 64) (h : t.get x = some ()) : (note fs b t).get x = some () := by
  unfold note
  split
  · exact h
  · by_cases e : x = b
    · subst e; exact T.get_set_same _ _ _ hb
    · rw [T.get_set_ne _ e]; exact h
theorem note_has {fs b : Nat} {t : T Unit} (hb : b + 1 < 2 ^ 64) (h : b < fs) : (note fs b t).get b = some () := by
  unfold note
  rw [if_neg (by omega)]
  exact T.get_set_same _ _ _ hb
theorem noteAll_keeps {fs : Nat} : ∀ (l : List Nat) (t : T Unit) (x : Nat), (∀ b ∈ l, b + 1 < 2 ^ 64) → t.get x = some () → (noteAll fs l t).get x = some () := by
  intro l
  induction l with
  | nil => intro t x _ h; exact h
  | cons b l ih => intro t x hl h; exact ih _ _ (fun b hb => hl b (by simp [hb])) (note_keeps (hl b (by simp)) h)
theorem noteAll_has {fs : Nat} : ∀ (l : List Nat) (t : T Unit) (x : Nat), (∀ b ∈ l, b + 1 < 2 ^ 64) → x ∈ l → x < fs → (noteAll fs l t).get x = some () := by
  intro l
  induction l with
  | nil => intro t x _ h; cases h
  | cons b l ih =>
    intro t x hl h hx
    have hl' : ∀ b ∈ l, b + 1 < 2 ^ 64 := fun b hb => hl b (by simp [hb])
    rcases List.mem_cons.mp h with e | h
    · subst e; exact noteAll_keeps l _ _ hl' (note_has (hl x (by simp)) hx)
    · exact ih _ _ hl' h hx
theorem noteW_keeps {fs b : Nat} {w : List Nat} {x : Nat} (h : x ∈ w) : x ∈ noteW fs b w := by
  unfold noteW; split <;> simp [h]
theorem noteW_has {fs b : Nat} {w : List Nat} (h : b < fs) : b ∈ noteW fs b w := by
  unfold noteW; rw [if_neg (by omega)]; simp
theorem mem_noteW {fs b : Nat} {w : List Nat} {x : Nat} (h : x ∈ noteW fs b w) : x ∈ w ∨ (x = b ∧ b < fs) := by
  unfold noteW at h
  split at h
  · exact .inl h
  · rcases List.mem_cons.mp h with e | h
    · exact .inr ⟨e, by omega⟩
    · exact .inl h
theorem noteWAll_keeps {fs : Nat} : ∀ (l w : List Nat) (x : Nat), x ∈ w → x ∈ noteWAll fs l w := by
  intro l
  induction l with
  | nil => intro w x h; exact h
  | cons b l ih => intro w x h; exact ih _ _ (noteW_keeps h)
theorem noteWAll_has {fs : Nat} : ∀ (l w : List Nat) (x : Nat), x ∈ l → x < fs → x ∈ noteWAll fs l w := by
  intro l
  induction l with
  | nil => intro w x h; cases h
  | cons b l ih =>
    intro w x h hx
    rcases List.mem_cons.mp h with e | h
    · subst e; exact noteWAll_keeps l _ _ (noteW_has hx)
    · exact ih _ _ h hx
theorem mem_noteWAll {fs : Nat} : ∀ (l w : List Nat) (x : Nat), x ∈ noteWAll fs l w → x ∈ w ∨ (x ∈ l ∧ x < fs) := by
  intro l
  induction l with
  | nil => intro w x h; exact .inl h
  | cons b l ih =>
    intro w x h
    rcases ih _ _ h with h | h
    · rcases mem_noteW h with h | ⟨e, h⟩
      · exact .inl h
      · subst e; exact .inr ⟨by simp, h⟩
    · exact .inr ⟨by simp [h.1], h.2⟩
/-- What was touched, told by the record or by the number. -/
def Tch (fs n' : Nat) (tc' : T Unit) (b : Nat) : Prop := tc'.get b = some () ∨ (fs ≤ b ∧ b < n')
def Wrt (fs n' : Nat) (w' : List Nat) (b : Nat) : Prop := b ∈ w' ∨ (fs ≤ b ∧ b < n')

theorem small_all {α : Type} : ∀ (t : T α) (f : Nat → Nat) (acc : List Nat) (b : Nat), b ∈ T.keys t f acc → b ∈ acc ∨ ∃ x a, b = f x ∧ t.get x = some a := by
  intro t
  induction t with
  | leaf => intro f acc b h; exact .inl h
  | node l v r ihl ihr =>
    intro f acc b h
    simp only [T.keys] at h
    rcases ihl _ _ _ h with h | ⟨x, a, e, hx⟩
    · rcases ihr _ _ _ h with h | ⟨x, a, e, hx⟩
      · cases v with
        | none => exact .inl h
        | some a =>
          simp only [List.mem_cons] at h
          rcases h with h | h
          · exact .inr ⟨0, a, h, by simp [T.get]⟩
          · exact .inl h
      · refine .inr ⟨2 * x + 2, a, e, ?_⟩
        show (if (2 * x + 1) % 2 = 0 then _ else _) = _
        rw [if_neg (by omega), show (2 * x + 1) / 2 = x by omega]; exact hx
    · refine .inr ⟨2 * x + 1, a, e, ?_⟩
      show (if (2 * x) % 2 = 0 then _ else _) = _
      rw [if_pos (by omega), show (2 * x) / 2 = x by omega]; exact hx

structure LocAt (t : Tr) (h : T ABlk) (n fs : Nat) (tc : T Unit) (w : List Nat) (a : AV) (h' : T ABlk) (n' : Nat) (tc' : T Unit) (w' : List Nat) : Prop where
  run : ∀ K, run t (.mk h n fs tc w) K = K a (.mk h' n' fs tc' w')
  le : n ≤ n'
  lid : n' ≤ 1000000001
  tch : ∀ b, tc.get b = some () → tc'.get b = some ()
  wrt : ∀ b ∈ w, b ∈ w'
  sub : ∀ b ∈ w', tc'.get b = some ()
  low : ∀ b, tc'.get b = some () → b < fs
  same : ∀ b, ¬ Wrt fs n' w' b → h'.get b = h.get b
  like : ∀ h2, (∀ b, Tch fs n' tc' b → h2.get b = h.get b) → ∃ h2', (∀ K, Sim.run t (.mk h2 n fs tc w) K = K a (.mk h2' n' fs tc' w')) ∧
    (∀ b, Tch fs n' tc' b → h2'.get b = h'.get b) ∧ ∀ b, ¬ Wrt fs n' w' b → h2'.get b = h2.get b

theorem loc (t : Tr) : ∀ (h : T ABlk) (n fs : Nat) (tc : T Unit) (w : List Nat), 0 < fs → fs ≤ n → n ≤ 1000000001 → (∀ b ∈ w, tc.get b = some ()) → (∀ b, tc.get b = some () → b < fs) →
    (∀ K, run t (.mk h n fs tc w) K = false) ∨ ∃ a h' n' tc' w', LocAt t h n fs tc w a h' n' tc' w' := by
  induction t with
  | fail => intro h n fs tc w _ _ _ _ _; exact .inl fun K => rfl
  | ret a =>
    intro h n fs tc w h0 h1 h2 h4 h5
    exact .inr ⟨a, h, n, tc, w, fun K => rfl, Nat.le_refl _, h2, fun _ x => x, fun _ x => x, h4, h5, fun _ _ => rfl, fun g hg => ⟨g, fun K => rfl, hg, fun _ _ => rfl⟩⟩
  | rd b k ih =>
    intro h n fs tc w h0 h1 h2 h4 h5
    by_cases hbn : b < n
    case neg => exact .inl fun K => by rw [run_rd, if_neg hbn]
    cases hb : h.get b with
    | none => exact .inl fun K => by rw [run_rd, if_pos hbn, hb]
    | some x =>
      have hb64 : b + 1 < 2 ^ 64 := by omega
      rcases ih x h n fs (note fs b tc) w h0 h1 h2 (fun y hy => note_keeps hb64 (h4 y hy)) (fun y hy => by
        by_cases e : fs ≤ b
        · rw [note, if_pos e] at hy; exact h5 y hy
        · by_cases ey : y = b
          · omega
          · rw [note, if_neg e, T.get_set_ne _ ey] at hy; exact h5 y hy) with hf | ⟨a, h', n', tc', w', L⟩
      · exact .inl fun K => by rw [run_rd, if_pos hbn, hb]; exact hf K
      · refine .inr ⟨a, h', n', tc', w', fun K => ?_, L.le, L.lid, fun y hy => L.tch y (note_keeps hb64 hy), L.wrt, L.sub, L.low, L.same, fun g hg => ?_⟩
        · rw [run_rd, if_pos hbn, hb]; exact L.run K
        · obtain ⟨g', r1, r2, r3⟩ := L.like g hg
          refine ⟨g', fun K => ?_, r2, r3⟩
          have hgb : g.get b = some x := by
            rw [hg b ?_, hb]
            by_cases e : b < fs
            · exact .inl (L.tch b (note_has hb64 e))
            · exact .inr ⟨by omega, by have := L.le; omega⟩
          rw [run_rd, if_pos hbn, hgb]; exact r1 K
  | wr b x k ih =>
    intro h n fs tc w h0 h1 h2 h4 h5
    by_cases hbn : b < n
    case neg => exact .inl fun K => by rw [run_wr, if_neg hbn]
    cases hb : h.get b with
    | none => exact .inl fun K => by rw [run_wr, if_pos hbn, hb]
    | some x0 =>
      have hb64 : b + 1 < 2 ^ 64 := by omega
      rcases ih (h.set b x) n fs (note fs b tc) (noteW fs b w) h0 h1 h2 (fun y hy => by
          rcases mem_noteW hy with hy | ⟨e, hy⟩
          · exact note_keeps hb64 (h4 y hy)
          · subst e; exact note_has hb64 hy) (fun y hy => by
        by_cases e : fs ≤ b
        · rw [note, if_pos e] at hy; exact h5 y hy
        · by_cases ey : y = b
          · omega
          · rw [note, if_neg e, T.get_set_ne _ ey] at hy; exact h5 y hy) with hf | ⟨a, h', n', tc', w', L⟩
      · exact .inl fun K => by rw [run_wr, if_pos hbn, hb]; exact hf K
      · have hwb : Wrt fs n' w' b := by
          by_cases e : b < fs
          · exact .inl (L.wrt b (noteW_has e))
          · exact .inr ⟨by omega, by have := L.le; omega⟩
        have htb : Tch fs n' tc' b := by
          by_cases e : b < fs
          · exact .inl (L.tch b (note_has hb64 e))
          · exact .inr ⟨by omega, by have := L.le; omega⟩
        refine .inr ⟨a, h', n', tc', w', fun K => ?_, L.le, L.lid, fun y hy => L.tch y (note_keeps hb64 hy), fun y hy => L.wrt y (noteW_keeps hy), L.sub, L.low, fun y hy => ?_, fun g hg => ?_⟩
        · rw [run_wr, if_pos hbn, hb]; exact L.run K
        · rw [L.same y hy, T.get_set_ne]
          intro e; subst e; exact hy hwb
        · have hgb : g.get b = some x0 := by rw [hg b htb, hb]
          obtain ⟨g', r1, r2, r3⟩ := L.like (g.set b x) (fun y hy => by
            by_cases e : y = b
            · subst e; rw [T.get_set_same _ _ _ hb64, T.get_set_same _ _ _ hb64]
            · rw [T.get_set_ne _ e, T.get_set_ne _ e]; exact hg y hy)
          refine ⟨g', fun K => ?_, r2, fun y hy => ?_⟩
          · rw [run_wr, if_pos hbn, hgb]; exact r1 K
          · rw [r3 y hy, T.get_set_ne]
            intro e; subst e; exact hy hwb
  | new x k ih =>
    intro h n fs tc w h0 h1 h2 h4 h5
    by_cases hn : n ≤ 1000000000
    case neg => exact .inl fun K => by rw [run_new, if_neg hn]
    cases hno : h.get n with
    | some x0 => exact .inl fun K => by rw [run_new, if_pos hn, hno]
    | none =>
    have hn64 : n + 1 < 2 ^ 64 := by omega
    rcases ih n (h.set n x) (n + 1) fs tc w h0 (by omega) (by omega) h4 h5 with hf | ⟨a, h', n', tc', w', L⟩
    · exact .inl fun K => by rw [run_new, if_pos hn, hno]; exact hf K
    · have hle := L.le
      have hwn : Wrt fs n' w' n := .inr ⟨h1, by omega⟩
      refine .inr ⟨a, h', n', tc', w', fun K => ?_, by omega, L.lid, L.tch, L.wrt, L.sub, L.low, fun y hy => ?_, fun g hg => ?_⟩
      · rw [run_new, if_pos hn, hno]; exact L.run K
      · rw [L.same y hy, T.get_set_ne]
        intro e; subst e; exact hy hwn
      · have hgn : g.get n = none := by rw [hg n (.inr ⟨h1, by omega⟩), hno]
        obtain ⟨g', r1, r2, r3⟩ := L.like (g.set n x) (fun y hy => by
          by_cases e : y = n
          · subst e; rw [T.get_set_same _ _ _ hn64, T.get_set_same _ _ _ hn64]
          · rw [T.get_set_ne _ e, T.get_set_ne _ e]; exact hg y hy)
        refine ⟨g', fun K => ?_, r2, fun y hy => ?_⟩
        · rw [run_new, if_pos hn, hgn]; exact r1 K
        · rw [r3 y hy, T.get_set_ne]
          intro e; subst e; exact hy hwn
  | pick m k ih =>
    intro h n fs tc w h0 h1 h2 h4 h5
    by_cases hm : m ≤ 1
    · have e : ∀ g K, run (.pick m k) (.mk g n fs tc w) K = run (k 0) (.mk g n fs tc w) K := fun g K => by
        show bif' (Nat.ble m 1) (run (k 0) (.mk g n fs tc w) K) _ = _
        rw [bif'_eq, if_pos (Nat.ble_eq.mpr hm)]
      rcases ih 0 h n fs tc w h0 h1 h2 h4 h5 with hf | ⟨a, h', n', tc', w', L⟩
      · exact .inl fun K => by rw [e]; exact hf K
      · refine .inr ⟨a, h', n', tc', w', fun K => by rw [e]; exact L.run K, L.le, L.lid, L.tch, L.wrt, L.sub, L.low, L.same, fun g hg => ?_⟩
        obtain ⟨g', r1, r2, r3⟩ := L.like g hg
        exact ⟨g', fun K => by rw [e]; exact r1 K, r2, r3⟩
    · refine .inl fun K => ?_
      show bif' (Nat.ble m 1) (run (k 0) (.mk h n fs tc w) K) (bif' (Nat.beq fs 0) (allBelow _ m) false) = _
      have e1 : Nat.ble m 1 = false := by
        cases hb : Nat.ble m 1 with
        | false => rfl
        | true => exact absurd (Nat.ble_eq.mp hb) hm
      have e2 : Nat.beq fs 0 = false := by
        cases hb : Nat.beq fs 0 with
        | false => rfl
        | true => have := Nat.eq_of_beq_eq_true hb; omega
      rw [e1, e2]; rfl
  | sub t k iht ihk =>
    intro h n fs tc w h0 h1 h2 h4 h5
    have hfs : fs ≠ 0 := by omega
    rcases iht h n n .leaf [] (by omega) (Nat.le_refl _) h2 (by simp) (fun b hb => by simp [T.get] at hb) with hf | ⟨a1, h1', n1, t1, w1, L1⟩
    · exact .inl fun K => by rw [run_sub]; exact hf _
    · have hk1 : ∀ b ∈ T.keys t1 id [], b + 1 < 2 ^ 64 ∧ b < n := fun b hb => by
        rcases small_all t1 id [] b hb with hb | ⟨x, u, e, hx⟩
        · cases hb
        · have := L1.low x hx
          have e' : b = x := e
          subst e'
          omega
      have hk64 : ∀ b ∈ T.keys t1 id [], b + 1 < 2 ^ 64 := fun b hb => (hk1 b hb).1
      rcases ihk a1 n n1 t1 w1 h1' n1 fs (noteAll fs (T.keys t1 id []) tc) (noteWAll fs w1 w) h0 (by have := L1.le; omega) L1.lid (fun b hb => by
          rcases mem_noteWAll _ _ _ hb with hb | ⟨hb, hlt⟩
          · exact noteAll_keeps _ _ _ hk64 (h4 b hb)
          · exact noteAll_has _ _ _ hk64 (by have := T.mem_keys t1 id [] b () (L1.sub b hb); simpa using this) hlt) (fun b hb => by
          have key : ∀ (l : List Nat) (t : T Unit), (∀ b, t.get b = some () → b < fs) → ∀ b, (noteAll fs l t).get b = some () → b < fs := by
            intro l
            induction l with
            | nil => intro t ht b hb; exact ht b hb
            | cons x l ih =>
              intro t ht b hb
              refine ih _ (fun y hy => ?_) b hb
              by_cases e : fs ≤ x
              · rw [note, if_pos e] at hy; exact ht y hy
              · by_cases ey : y = x
                · omega
                · rw [note, if_neg e, T.get_set_ne _ ey] at hy; exact ht y hy
          exact key _ _ h5 b hb) with hf | ⟨a, h', n', tc', w', L⟩
      · refine .inl fun K => ?_
        rw [run_sub, L1.run]
        simp only [hfs, if_false]
        exact hf K
      · have hle1 := L1.le
        have hle := L.le
        have htch : ∀ b, Tch n n1 t1 b → Tch fs n' tc' b := fun b hb => by
          rcases hb with hb | hb
          · by_cases e : b < fs
            · exact .inl (L.tch b (noteAll_has _ _ _ hk64 (by have := T.mem_keys t1 id [] b () hb; simpa using this) e))
            · have := L1.low b hb
              exact .inr ⟨by omega, by omega⟩
          · exact .inr ⟨by omega, by omega⟩
        have hwrt : ∀ b, Wrt n n1 w1 b → Wrt fs n' w' b := fun b hb => by
          rcases hb with hb | hb
          · by_cases e : b < fs
            · exact .inl (L.wrt b (noteWAll_has _ _ _ hb e))
            · have := L1.low b (L1.sub b hb)
              exact .inr ⟨by omega, by omega⟩
          · exact .inr ⟨by omega, by omega⟩
        refine .inr ⟨a, h', n', tc', w', fun K => ?_, by omega, L.lid, fun b hb => L.tch b (noteAll_keeps _ _ _ hk64 hb), fun b hb => L.wrt b (noteWAll_keeps _ _ _ hb), L.sub, L.low, fun b hb => ?_, fun g hg => ?_⟩
        · rw [run_sub, L1.run]
          simp only [hfs, if_false]
          exact L.run K
        · rw [L.same b hb, L1.same b (fun hw => hb (hwrt b hw))]
        · obtain ⟨g1, r1, r2, r3⟩ := L1.like g (fun b hb => hg b (htch b hb))
          obtain ⟨g', q1, q2, q3⟩ := L.like g1 (fun b hb => by
            by_cases e : Tch n n1 t1 b
            · exact r2 b e
            · have hnw : ¬ Wrt n n1 w1 b := fun hw => e (by
                rcases hw with hw | hw
                · exact .inl (L1.sub b hw)
                · exact .inr hw)
              rw [r3 b hnw, L1.same b hnw]; exact hg b hb)
          refine ⟨g', fun K => ?_, q2, fun b hb => ?_⟩
          · rw [run_sub, r1]
            simp only [hfs, if_false]
            exact q1 K
          · rw [q3 b hb, r3 b (fun hw => hb (hwrt b hw))]
end Go.Sim
