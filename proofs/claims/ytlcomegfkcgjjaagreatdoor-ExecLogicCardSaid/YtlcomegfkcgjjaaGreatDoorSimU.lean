/-
  SIM, part U: calls; a function's text; the whole.
-/
import Derived.Test.YtlcomegfkcgjjaaGreatDoorSimX
namespace Go.Sim
open Go.RowKit (Below)
set_option linter.unusedVariables false

/-- How a way out is called in the model. -/
def cvX : AEx → Exit
  | .normal => .normal
  | .exit id => .exit id
  | .goto l => .goto l
  | .ret => .ret
/-- What is to hold behind a text. -/
def XNxt (w0 : World) (ρ : Rho) (K : Fin) (nt : Nat) (k : XK) (Q : Exit → Act → World → Prop) : Prop :=
  ∀ ex env' df' σ' ρ' w' a', run (k ex env' df') σ' K = true → SI σ' → Good w0 ρ' σ'.h w' → ρ.le ρ' → ER ρ' nt env' a'.tmps → DR ρ' df' a'.defers → Q (cvX ex) a' w'
/-- Of which loop's round it is: the interpreter's number, the world's. -/
def RW (ρ : Rho) : Option Nat → Option Nat → Prop
  | none, r => r = none
  | some l, r => ∃ h, ρ.at_ l 0 = some h ∧ r = some h.blk
theorem RW.mono {ρ ρ' : Rho} (hle : ρ.le ρ') {rnd rd : Option Nat} (h : RW ρ rnd rd) : RW ρ' rnd rd := by
  cases rnd with
  | none => exact h
  | some l => obtain ⟨x, h1, h2⟩ := h; exact ⟨x, hle.at_ _ _ _ h1, h2⟩
def ExOk (P : Program) (w0 : World) (x : X) : Prop :=
  ∀ (c : Code) (env : T AV) (nt f : Nat) (df : List Nat) (k : XK) (σ : St) (K : Fin) (ρ : Rho) (w : World) (a : Act) (Q : Exit → Act → World → Prop) (rnd rd : Option Nat), RW ρ rnd rd → SI σ → Good w0 ρ σ.h w → ER ρ nt env a.tmps → DR ρ df a.defers →
    run (x c env nt f rnd df k) σ K = true → XNxt w0 ρ K nt k Q → c.wpIn (fR rd) 0 P Q a w
/-- A loop, from its text on. -/
def LoopIn (P : Program) (rd : Option Nat) (c : Code) (Q : Exit → Act → World → Prop) (a : Act) (w : World) : Prop :=
  ∀ (b : Frame) (k : List Item) (cs : List Frame), b.roundOf = (fR rd).round → (fR rd).fn b.fn → (fR rd).room (cs.length + 1 + 0) →
    ∃ e a' w', Q e a' w' ∧ ArrivesIn (Machine.fenced P (fR rd)) P (lone (b.atR a (.code c :: .inLoop c :: k)) cs w) b k cs e a' w'
def LpOk (P : Program) (w0 : World) (x : X) : Prop :=
  ∀ (c : Code) (env : T AV) (nt f : Nat) (df : List Nat) (k : XK) (σ : St) (K : Fin) (ρ : Rho) (w : World) (a : Act) (Q : Exit → Act → World → Prop) (rnd rd : Option Nat), RW ρ rnd rd → SI σ → Good w0 ρ σ.h w → ER ρ nt env a.tmps → DR ρ df a.defers →
    run (x (.loop c) env nt f rnd df k) σ K = true → XNxt w0 ρ K nt k Q → LoopIn P rd c Q a w

section
variable {P : Program} {w0 : World} {ρ : Rho} {w : World} {σ : St} {K : Fin} {nt : Nat} {env : T AV} {a : Act}

theorem argsT_run {k : T AV → Tr} : ∀ (l : List AV) (i : Nat) (t : T AV), run (argsT l i t k) σ K = true →
    ∃ c, run (k c) σ K = true ∧ ∀ o x, c.get o = some x → (∃ (j : Nat), o = i + j ∧ l[j]? = some x) ∨ (t.get o = some x ∧ (o < i ∨ i + l.length ≤ o)) := by
  intro l
  induction l with
  | nil => intro i t h; exact ⟨t, h, fun o x hx => .inr ⟨hx, by simp; omega⟩⟩
  | cons a l ih =>
    intro i t h
    have h : run (T.setK t i a fun t => fN (Nat.succ i) fun i => argsT l i t k) σ K = true := h
    rw [T.setK_eq] at h
    obtain ⟨c, h1, h2⟩ := ih _ _ (fNT h)
    refine ⟨c, h1, fun o x hx => ?_⟩
    rcases h2 o x hx with ⟨j, e, hb⟩ | ⟨hx', ho⟩
    · exact .inl ⟨j + 1, by omega, by simpa using hb⟩
    · by_cases e : o = i
      · subst e
        have := T.get_set_some _ _ hx'
        exact .inl ⟨0, by omega, by rw [this]; rfl⟩
      · rw [T.get_set_ne _ e] at hx'
        exact .inr ⟨hx', by simp at ho ⊢; omega⟩
theorem args_ER {l : List AV} {vs : List Value} {n : Nat} {c : T AV} (hl : LR ρ l vs) (hn : l.length ≤ n) (hc : ∀ o x, c.get o = some x → (∃ (j : Nat), o = 0 + j ∧ l[j]? = some x) ∨ ((T.leaf : T AV).get o = some x ∧ (o < 0 ∨ 0 + l.length ≤ o))) :
    ER ρ n c (vs.toArray ++ Array.replicate (n - vs.toArray.size) undef) := by
  refine ⟨by simp [hl.1]; omega, fun t x hx => ?_⟩
  rcases hc t x hx with ⟨j, e, hj⟩ | ⟨h, _⟩
  · have : t = j := by omega
    subst this
    obtain ⟨v, hv, hr⟩ := hl.get hj
    refine ⟨v, ?_, hr⟩
    have hlt : t < vs.length := by
      rcases Nat.lt_or_ge t vs.length with h' | h'
      · exact h'
      · rw [List.getElem?_eq_none h'] at hv; cases hv
    rw [Array.getElem?_append_left (by simpa using hlt)]
    simpa using hv
  · simp [T.get] at h
def retK (k : AV → Tr) : List AV → Tr
  | [v] => k v
  | l => k (.tup l)
theorem retVR {l : List AV} {vs : List Value} {k : AV → Tr} (hl : LR ρ l vs) (h : run (retK k l) σ K = true) : ∃ av, run (k av) σ K = true ∧ VR ρ av (retV vs) := by
  have tup : ∀ (l : List AV) (vs : List Value), LR ρ l vs → VR ρ (.tup l) (.tuple vs.toArray) := fun l vs hl => by
    have : LR ρ l vs.toArray.toList := by simpa using hl
    exact .tup _ _ this.arr.1 this.arr.2
  cases l with
  | nil => rw [hl.nil_inv]; exact ⟨_, h, tup _ _ (LR.nil ρ)⟩
  | cons a l =>
    obtain ⟨v, vs1, rfl, hv, hl1⟩ := hl.cons_inv
    cases l with
    | nil => rw [hl1.nil_inv]; exact ⟨_, h, hv⟩
    | cons b l =>
      obtain ⟨u, vs2, rfl, hu, hl2⟩ := hl1.cons_inv
      exact ⟨_, h, tup _ _ hl⟩

theorem callF_ok {x : X} (hx : ExOk P w0 x) : EnOk P w0 (callF P x) := by
  intro f l vs k σ K ρ w R hS hG hl h hR
  obtain ⟨fn, hf, h⟩ := oelT h
  obtain ⟨c, hb, h⟩ := oelT h
  obtain ⟨hname, h⟩ := bifF h
  have hname : ¬ fn.name = "runtime.NumGoroutine" := by simpa using hname
  obtain ⟨hlen, h⟩ := bifT h
  have hlen := bleT hlen
  obtain ⟨env, h, hc⟩ := argsT_run _ _ _ h
  have hE := args_ER hl hlen hc
  refine ⟨fun args => ?_, callsIn_of_wp_marks hf hb trivial ?_⟩
  · simp [callFunc, hf, hname, hb]
  · refine hx c env fn.ntmps f [] _ σ K ρ w _ _ none none rfl hS hG hE trivial h fun ex env' df' σ' ρ' w' a' h1 h2 h3 h4 h5 h6 => ?_
    have main : run (leaveK df' (resK P env' fn.results.toList fun l => (match l with | [v] => k v | l => k (.tup l)))) σ' K = true → LeavesInM Fence.wide 0 P fn a'.tmps R a'.defers .returning w' := fun h => by
      refine leaveT (fun σ2 w2 g1 g2 g3 => ?_) _ _ _ _ h h2 h3 h6
      obtain ⟨avs, vs, σ3, q1, q2, q3, q4, q5⟩ := resT (P := P) h5 _ _ _ g1 g2 g3
      have q1 : run (retK k avs) σ3 K = true := q1
      obtain ⟨av, r1, r2⟩ := retVR q4 q1
      exact ⟨retV vs, results_run q5, hR av _ σ3 ρ' w2 r1 q2 q3 h4 r2⟩
    cases ex with
    | normal => exact main h1
    | ret => exact main h1
    | exit id => exact (nofail h1).elim
    | goto l => exact (nofail h1).elim

/-! ### Calls told ahead -/
/-- What the table says of a call holds, in whatever world. -/
def MemoS (P : Program) (f : Nat) (arg : List Nat) (res : AV) : Prop :=
  ∀ (s : ByteArray) (w : World), bytesOf s = arg → Calls P f #[.string s] w fun e w' => ∃ v, e = .returned v ∧ (∀ ρ, VR ρ res v) ∧ Below w.heap.size w w'
def MemoB (P : Program) (f ty : Nat) (arg : List Nat) (res : AV) : Prop :=
  ∀ (blk : Nat) (arr : Array Value) (fr : Nat × Nat) (c : Nat) (w : World), w.heap[blk]? = some (.cells arr ty fr) → (∀ (i n : Nat), arg[i]? = some n → arr[i]? = some (Value.int .u8 (n : Nat))) → arg.length ≤ c → c ≤ arr.size →
    Calls P f #[.slice (some ⟨blk, 0, none⟩) arg.length c] w fun e w' => ∃ v, e = .returned v ∧ (∀ ρ, VR ρ res v) ∧ Below w.heap.size w w'
def Memo0 (P : Program) (f : Nat) (res : AV) : Prop :=
  ∀ (w : World), Calls P f #[] w fun e w' => ∃ v, e = .returned v ∧ (∀ ρ, VR ρ res v) ∧ Below w.heap.size w w'
def MemoOk (P : Program) : Memo → Prop
  | .mk f none arg res => MemoS P f arg res
  | .mk f (some _) [] res => Memo0 P f res
  | .mk f (some ty) (a :: arg) res => MemoB P f ty (a :: arg) res
theorem sameTy_eq {a b : Option Nat} (h : sameTy a b = true) : a = b := by
  cases a <;> cases b <;> first | rfl | (cases h; done) | (have := beqT h; subst this; rfl)
theorem memGet_mem {f : Nat} {ty : Option Nat} {arg : List Nat} {r : AV} : ∀ {l : List Memo}, memGet f ty arg l = some r → Memo.mk f ty arg r ∈ l := by
  intro l
  induction l with
  | nil => intro h; cases h
  | cons m l ih =>
    intro h
    cases m with
    | mk g u a q =>
      have h : bif' (Nat.beq f g) (bif' (sameTy ty u) (bif' (eqL arg a) (some q) (memGet f ty arg l)) (memGet f ty arg l)) (memGet f ty arg l) = some r := h
      rw [bif'_eq, bif'_eq, bif'_eq] at h
      split at h
      · rename_i h1
        split at h
        · rename_i h2
          split at h
          · rename_i h3
            injection h with h5
            have e1 := beqT h1
            have e2 := sameTy_eq h2
            have e3 := (eqL_iff _ _).1 h3
            rw [e1, e2, e3, h5]
            exact List.mem_cons_self
          · exact List.mem_cons_of_mem _ (ih h)
        · exact List.mem_cons_of_mem _ (ih h)
      · exact List.mem_cons_of_mem _ (ih h)
theorem textF_run {f : Nat} (h : textF P f = true) (args : Array Value) : (callFunc f args).run P w = .ok (.enter f args) w := by
  unfold textF at h
  split at h
  · rename_i fn hf
    split at h
    · rename_i c hb
      have hn : ¬ fn.name = "runtime.NumGoroutine" := by simpa using h
      simp [callFunc, hf, hn, hb]
    · cases h
  · cases h
theorem Good.later {H : T ABlk} {w' : World} (hG : Good w0 ρ H w) (hb : Below w.heap.size w w') : Good w0 ρ H w' :=
  ⟨hG.below.trans (hb.mono hG.below.size), fun b x hx => (hG.blk b x hx).keep (Rho.le.refl ρ) fun g h hh => hb.block _ (hG.dom _ _ _ hh).1, fun b g h hh => by
    obtain ⟨q1, q2⟩ := hG.dom b g h hh
    exact ⟨Nat.lt_of_lt_of_le q1 hb.size, q2⟩, hG.inj, hG.gens⟩
theorem callM_ok {M : List Memo} (hM : ∀ m ∈ M, MemoOk P m) {en : Enter} (hen : EnOk P w0 en) : EnOk P w0 (callM P M en) := by
  intro f l vs k σ K ρ w R hS hG hl h hR
  have hit : ∀ (σ1 : St) (r : AV), run (bif' (textF P f) (k r) .fail) σ1 K = true → SI σ1 → Good w0 ρ σ1.h w → (Calls P f vs.toArray w fun e w' => ∃ v, e = .returned v ∧ (∀ ρ, VR ρ r v) ∧ Below w.heap.size w w') →
      (∀ args : Array Value, (callFunc f args).run P w = .ok (.enter f args) w) ∧ CallsIn Fence.wide 0 P f vs.toArray w R := by
    intro σ1 r h hS1 hG1 hc
    obtain ⟨ht, h⟩ := bifT h
    refine ⟨textF_run ht, (callsIn_wide.2 hc).mono fun e w' he => ?_⟩
    obtain ⟨v, rfl, hv, hb⟩ := he
    exact hR r v σ1 ρ w' h hS1 (hG1.later hb) (Rho.le.refl ρ) (hv ρ)
  rcases bif2 h with ⟨_, h⟩ | ⟨_, h⟩
  case inr => exact hen f l vs k σ K ρ w R hS hG hl h hR
  have other : ∀ σ1, SI σ1 → σ1.h = σ.h → run (en f l k) σ1 K = true → (∀ args : Array Value, (callFunc f args).run P w = .ok (.enter f args) w) ∧ CallsIn Fence.wide 0 P f vs.toArray w R := fun σ1 hS1 e1 h =>
    hen f l vs k σ1 K ρ w R hS1 (by rw [e1]; exact hG) hl h hR
  cases l with
  | nil =>
    have hv := hl.nil_inv
    subst hv
    have h : run (oel (memGet f (some 0) [] M) (en f [] k) fun r => bif' (textF P f) (k r) .fail) σ K = true := h
    cases hr : memGet f (some 0) [] M with
    | none => rw [hr] at h; exact other σ hS rfl h
    | some r =>
      rw [hr] at h
      have hm : Memo0 P f r := hM _ (memGet_mem hr)
      exact hit σ r h hS hG (hm w)
  | cons a l =>
    cases l with
    | cons a2 l => exact other σ hS rfl h
    | nil =>
      have h : run (memA P M f a k (en f [a] k)) σ K = true := h
      obtain ⟨v, vs', rfl, hv, hl'⟩ := hl.cons_inv
      have := hl'.nil_inv
      subst this
      cases hv with
      | str s =>
        have h : run (oel (memGet f none (bytesOf s) M) (en f [.str (bytesOf s)] k) fun r => bif' (textF P f) (k r) .fail) σ K = true := h
        cases hr : memGet f none (bytesOf s) M with
        | none => rw [hr] at h; exact other σ hS rfl h
        | some r =>
          rw [hr] at h
          have hm : MemoS P f (bytesOf s) r := hM _ (memGet_mem hr)
          exact hit σ r h hS hG (hm s w rfl)
      | slc b g o n cap es a cc hsl =>
        cases cap with
        | some _ => exact other σ hS rfl h
        | none =>
          rcases bif2 h with ⟨ho, h⟩ | ⟨_, h⟩
          case inr => exact other σ hS rfl h
          rcases bif2 h with ⟨hes, h⟩ | ⟨_, h⟩
          case inr => exact other σ hS rfl h
          have ho := beqT ho
          have hes := beqT hes
          obtain ⟨q, σ1, hq, e1, hS1, h⟩ := rd_ok hS h
          have hG1 : Good w0 ρ σ1.h w := by rw [e1]; exact hG
          cases q with
          | cells c gen lo hi fl fh ro ty =>
            obtain ⟨k1, z1⟩ := bifT h
            obtain ⟨k2, z2⟩ := bifT z1
            obtain ⟨k3, z3⟩ := bifT z2
            have k1 := beqT k1
            have k2 := bleT k2
            have k3 := bleT k3
            obtain ⟨av, z4, hlen, hget⟩ := ldsT z3
            obtain ⟨bs, hbs, z5⟩ := oelT z4
            cases hr : memGet f (some ty) bs M with
            | none =>
              have z6 : run (oel (memGet f (some ty) bs M) (en f [.slc b g o n none es] k) fun r => bif' (textF P f) (k r) .fail) σ1 K = true := z5
              rw [hr] at z6
              exact other σ1 hS1 e1 z6
            | some r =>
              have z6 : run (oel (memGet f (some ty) bs M) (en f [.slc b g o n none es] k) fun r => bif' (textF P f) (k r) .fail) σ1 K = true := z5
              rw [hr] at z6
              obtain ⟨hlc, hsl2⟩ := hsl
              obtain ⟨hm, hh, hos, ea, hfit⟩ := hsl2.resolve_left (fun hc => by omega)
              subst ho; subst hes
              have hs0 : hm.shift = 0 := by omega
              have hB := hG.blk _ _ hq
              obtain ⟨hm', q1, _, _, arr, fr, q3, q4, q5, q6⟩ := hB.2 g k2
              rw [hh] at q1; injection q1 with q1; subst q1
              obtain ⟨hbl, hcells⟩ := u8L_cells (o0 := 0) hbs hget (fun o tag a ho ht => q6 o tag a ho ht) hs0
              rw [hlen] at hbl
              have hm2 : MemoB P f ty bs r := by
                have hm3 := hM _ (memGet_mem hr)
                cases bs with
                | nil => simp at hbl; omega
                | cons _ _ => exact hm3
              refine hit σ1 r z6 hS1 hG1 ?_
              have := hm2 hm.blk arr fr cc w q3 (fun i m hi => by have := hcells i m hi; rwa [Nat.zero_add] at this) (by rw [hbl]; exact hlc) (by rw [hs0] at hfit; omega)
              rw [hbl] at this
              rw [ea, hs0]; exact this
          | _ => exact (nofail h).elim
      | _ => exact other σ hS rfl h

/-! ### Control -/
theorem loop_of_text {M : List Memo} {x : X} (hx : ExOk P w0 x) (hl : LpOk P w0 x) : LpOk P w0 (FX P M x) := by
  intro c env nt f df k σ K ρ w a Q rnd rd hW hS hG hE hD h hQ b kk cs hro hb hr
  have h : run (x c env nt f rnd df fun ex env df => (match ex with
    | .normal => x (.loop c) env nt f rnd df k
    | ex => k ex env df)) σ K = true := h
  have hc : c.wpIn (fR rd) 0 P (fun e a' w' => match e with | .normal => LoopIn P rd c Q a' w' | e => Q e a' w') a w := by
    refine hx c env nt f df _ σ K ρ w a _ rnd rd hW hS hG hE hD h fun ex env' df' σ' ρ' w' a' h1 h2 h3 h4 h5 h6 => ?_
    cases ex with
    | normal => exact hl c env' nt f df' k σ' K ρ' w' a' Q rnd rd (hW.mono h4) h2 h3 h5 h6 h1 fun ex2 env2 df2 σ2 ρ2 w2 a2 g1 g2 g3 g4 g5 g6 => hQ ex2 env2 df2 σ2 ρ2 w2 a2 g1 g2 g3 (h4.trans g4) g5 g6
    | exit id => exact hQ (.exit id) env' df' σ' ρ' w' a' h1 h2 h3 h4 h5 h6
    | goto l => exact hQ (.goto l) env' df' σ' ρ' w' a' h1 h2 h3 h4 h5 h6
    | ret => exact hQ .ret env' df' σ' ρ' w' a' h1 h2 h3 h4 h5 h6
  obtain ⟨e, a₁, w₁, hq, harr⟩ := hc b (.inLoop c :: kk) cs hro hb hr
  cases e with
  | normal =>
    obtain ⟨e₂, a₂, w₂, hq₂, harr₂⟩ := hq b kk cs hro hb hr
    exact ⟨e₂, a₂, w₂, hq₂, .of_steps (StepsIn.trans harr (.one (fenced_calm hb hr rfl) stepR_inLoop)) harr₂⟩
  | exit id => exact ⟨_, a₁, w₁, hq, .pass (x := .inLoop c) rfl (fun _ _ => .inl (by simp)) harr⟩
  | goto l => exact ⟨_, a₁, w₁, hq, .pass (x := .inLoop c) rfl (fun _ _ => .inl (by simp)) harr⟩
  | ret => exact ⟨_, a₁, w₁, hq, .pass (x := .inLoop c) rfl (fun _ _ => .inl (by simp)) harr⟩
  | panic ch => exact ⟨_, a₁, w₁, hq, .pass (x := .inLoop c) rfl (fun _ _ => .inl (by simp)) harr⟩
  | outgrown => exact ⟨_, a₁, w₁, hq, .pass (x := .inLoop c) rfl (fun _ _ => .inl (by simp)) harr⟩
theorem condT {av : AV} {v : Value} {t e : Tr} (hv : VR ρ av v) (h : run (condK av t e) σ K = true) : ∃ b, v = .bool b ∧ (b = true → run t σ K = true) ∧ (b = false → run e σ K = true) := by
  cases hv with
  | bool b =>
    rcases bif2 h with ⟨e1, h⟩ | ⟨e1, h⟩
    · subst e1; exact ⟨true, rfl, fun _ => h, (fun e => by cases e)⟩
    · subst e1; exact ⟨false, rfl, (fun e => by cases e), fun _ => h⟩
  | anyB b =>
    have hp := pick_ok (n := 2) h
    exact ⟨b, rfl, fun _ => hp 0 (.inl rfl) (fun _ => rfl), fun _ => hp 1 (.inr (by omega)) (fun h => absurd h (by omega))⟩
  | _ => exact (nofail h).elim
theorem loop_wp {rd : Option Nat} {c : Code} {Q : Exit → Act → World → Prop} (h : LoopIn P rd c Q a w) : (Code.loop c).wpIn (fR rd) 0 P Q a w := by
  intro b k cs hro hb hr
  obtain ⟨e, a', w', hq, harr⟩ := h b k cs hro hb hr
  exact ⟨e, a', w', hq, .of_steps (.one (fenced_calm hb hr rfl) stepR_loop) harr⟩

theorem endLoop_run {l : Nat} {r : Loop} (h : w.heap[l]? = some (.loop r)) (hb : r.state ≠ .busy) : (Instr.endLoop l).run P w = .ok r.pending { w with heap := w.heap.setIfInBounds l (.loop { r with state := .exhausted }) } := by
  have hb' : (r.state == .busy) = false := by
    cases hs : r.state <;> first | rfl | exact absurd hs hb
  simp only [Instr.endLoop, Instr.getLoop, Sem.run_bind, run_getObj' h (by simp), Result.andThen_ok, Sem.run_pure, hb', Bool.false_eq_true, if_false, run_setObj' h (by simp)]
def jumpK (z : Tr) (go : Code → Tr) : Option Code → Tr
  | none => z
  | some c => go c
theorem range_wp {M : List Memo} {x : X} (hx : ExOk P w0 x) {g : Operand} {ps : Array Tmp} {as bd : Code} {f : Nat} {df : List Nat} {k : XK} {Q : Exit → Act → World → Prop} {rnd rd : Option Nat} (hW : RW ρ rnd rd) (hS : SI σ) (hG : Good w0 ρ σ.h w) (hE : ER ρ nt env a.tmps) (hD : DR ρ df a.defers)
    (h : run (FX P M x (.rangeFunc g ps as bd) env nt f rnd df k) σ K = true) (hQ : XNxt w0 ρ K nt k Q) : (Code.rangeFunc g ps as bd).wpIn (fR rd) 0 P Q a w := by
  cases rnd with
  | some _ => exact (nofail h).elim
  | none =>
  have hW : rd = none := hW
  subst hW
  show (Code.rangeFunc g ps as bd).wpIn Fence.wide 0 P Q a w
  have h : run (.new (.dfr true) fun d => .new (.loop .ready none f nt env ps.toList as bd d) fun l => evK env g fun g =>
      rangeF P x g l id (fun c => x c env nt f none (d :: df) k) (k .normal env (d :: df))) σ K = true := h
  obtain ⟨d, σ1, hn1, h641, e1, hS1, h⟩ := new_ok hS h
  obtain ⟨hle1, hG1⟩ := hG.alloc hn1 h641 (.dfr true) (.deferred (some [])) 0 0 (fun ρ' hle hat _ => ⟨_, hat, hG.below.size, by simp⟩)
  rw [← e1] at hG1
  obtain ⟨l, σ2, hn2, h642, e2, hS2, h⟩ := new_ok hS1 h
  refine wpIn_rangeFunc fun fn' _ => ?_
  obtain ⟨hle2, hG2⟩ := hG1.alloc hn2 h642 (.loop .ready none f nt env ps.toList as bd d) (.loop { state := .ready, pending := none, fn := fn', tmps := a.tmps, params := ps, assign := as, body := bd, defers := w.heap.size }) 0 0
    (fun ρ' hle hat _ => ⟨_, hat, by have := hG.below.size; simp; omega, a.tmps, _, fn', hE.mono (hle1.trans hle), hle.at_ _ _ _ (Rho.put_at _ _ _ _), Array.getElem?_push_size⟩)
  rw [← e2] at hG2
  obtain ⟨av, σ3, e3, hS3, h, hv⟩ := ev_ok (x := g) hS2 hG2 (hE.mono (hle1.trans hle2)) h
  rw [← e3] at hG2
  generalize hgv : a.eval g = gv at hv
  cases hv with
  | func fn l1 m1 first captured h1 h2 r1 r2 hf =>
    cases fn with
    | func i =>
      have q1 := LR.of_arr h1 r1
      have q2 := LR.of_arr h2 r2
      have hl := Rho.put_at (ρ.put d 0 ⟨w.heap.size, 0, 0⟩) l 0 ⟨(w.heap.push (.deferred (some []))).size, 0, 0⟩
      have hd := hle2.at_ _ _ _ (Rho.put_at ρ d 0 ⟨w.heap.size, 0, 0⟩)
      simp only [rangeF] at h
      have hargs := (q1.append (LR.cons (.yld l _ hl) (LR.nil _))).append q2
      obtain ⟨hcf, hci⟩ := callF_ok hx i _ _ _ σ3 K _ _ (rangePost Fence.wide 0 P (w.heap.push (.deferred (some []))).size Q { a with defers := [{ target := .collected w.heap.size, args := #[] }] ++ a.defers }) hS3 hG2 hargs h
        (fun av v σ' ρ' w' g1 g2 g3 g4 g5 => by
          obtain ⟨q, σ4, hq, e4, hS4, g1⟩ := rd_ok g2 g1
          have hG4 : Good w0 ρ' σ4.h w' := by rw [e4]; exact g3
          cases q with
          | loop st jump fn nt' tmps ps' as' bd' d' =>
            have hl' := g4.at_ _ _ _ hl
            obtain ⟨hm, hh, hB, tmps', hd', fn2, b1, b2, hheap⟩ := g3.blk _ _ hq
            rw [hl'] at hh; injection hh with hh; subst hh
            have fin : st ≠ .busy → run (.wr l (.loop .exhausted jump fn nt' tmps ps' as' bd' d') (jumpK (k .normal env (d :: df)) (fun c => x c env nt f none (d :: df) k) jump)) σ4 K = true →
                rangePost Fence.wide 0 P (w.heap.push (.deferred (some []))).size Q { a with defers := [{ target := .collected w.heap.size, args := #[] }] ++ a.defers } (.returned v) w' := fun hb g1 => by
              obtain ⟨x0, σ5, hx0, e5, hS5, h64, g1⟩ := wr_ok hS4 g1
              have hG5 := hG4.setObj (x := .loop .exhausted jump fn nt' tmps ps' as' bd' d') (o' := .loop { state := .exhausted, pending := jump, fn := fn2, tmps := tmps', params := ps'.toArray, assign := as', body := bd', defers := hd'.blk }) hx0 h64 hl' hB hheap
                ⟨_, hl', hB, tmps', hd', fn2, b1, b2, set_get hheap⟩
              rw [← e5] at hG5
              refine ⟨jump, _, endLoop_run hheap hb, ?_⟩
              have hDD : DR ρ' (d :: df) ([{ target := .collected w.heap.size, args := #[] }] ++ a.defers) := ⟨⟨_, g4.at_ _ _ _ hd, rfl⟩, hD.mono (hle1.trans (hle2.trans g4))⟩
              have hEE : ER ρ' nt env a.tmps := hE.mono (hle1.trans (hle2.trans g4))
              cases jump with
              | none => exact hQ .normal env (d :: df) σ5 ρ' _ { a with defers := [{ target := .collected w.heap.size, args := #[] }] ++ a.defers } g1 hS5 hG5 (hle1.trans (hle2.trans g4)) hEE hDD
              | some c =>
                exact hx c env nt f (d :: df) k σ5 K ρ' _ { a with defers := [{ target := .collected w.heap.size, args := #[] }] ++ a.defers } Q none none rfl hS5 hG5 hEE hDD g1
                  fun ex2 env2 df2 σ2 ρ2 w2 a2 c1 c2 c3 c4 c5 c6 => hQ ex2 env2 df2 σ2 ρ2 w2 a2 c1 c2 c3 ((hle1.trans (hle2.trans g4)).trans c4) c5 c6
            cases st with
            | busy => exact (nofail g1).elim
            | ready => exact fin (by simp) (by cases jump <;> exact g1)
            | done => exact fin (by simp) (by cases jump <;> exact g1)
            | exhausted => exact fin (by simp) (by cases jump <;> exact g1)
          | _ => exact (nofail g1).elim)
      have ea : (first ++ #[Value.func (.yield (w.heap.push (.deferred (some []))).size) #[] #[]]) ++ captured = (first.toList ++ [Value.func (.yield (w.heap.push (.deferred (some []))).size) #[] #[]] ++ captured.toList).toArray := by apply Array.ext'; simp
      refine ⟨(w.heap.push (.deferred (some []))).size, [{ target := .collected w.heap.size, args := #[] }], { w with heap := (w.heap.push (.deferred (some []))).push (.loop { state := .ready, pending := none, fn := fn', tmps := a.tmps, params := ps, assign := as, body := bd, defers := w.heap.size }) }, { target := .fn (.func i) captured, args := first ++ #[.func (.yield (w.heap.push (.deferred (some []))).size) #[] #[]] }, { w with heap := (w.heap.push (.deferred (some []))).push (.loop { state := .ready, pending := none, fn := fn', tmps := a.tmps, params := ps, assign := as, body := bd, defers := w.heap.size }) }, i, _, _, ?_, ?_, fun _ _ => trivial, ?_, fun h => absurd h (by simp [Fence.wide]), hci⟩
      · simp only [Instr.enterLoop, Fence.wide, Sem.run_bind, run_newObj, Result.andThen_ok, Sem.run_pure]
      · have hcon : ∀ v, a.eval (.const v) = v := fun _ => rfl
        simp only [resolve, hgv, Deferred.ofValue, List.map_toArray, List.map_cons, List.map_nil, hcon, Sem.run_pure]
      · show (callFunc i ((first ++ #[Value.func (.yield (w.heap.push (.deferred (some []))).size) #[] #[]]) ++ captured)).run P _ = _
        rw [ea]
        exact hcf _
    | _ => exact (nofail h).elim
  | _ => exact (nofail h).elim
/-! ### Rounds -/
theorem setPs_ok {k : T AV → Tr} : ∀ (ps : List Nat) (as : List AV) (vs : List Value) (t : T AV) (tmps : Array Value), LR ρ as vs → ER ρ nt t tmps → run (setPs ps as nt t k) σ K = true →
    ∃ t', run (k t') σ K = true ∧ ps.length = vs.length ∧ ER ρ nt t' ((ps.zip vs).foldl (fun tmps x => tmps.setIfInBounds x.1 x.2) tmps) := by
  intro ps
  induction ps with
  | nil =>
    intro as vs t tmps hl hE h
    cases as with
    | nil => rw [hl.nil_inv]; exact ⟨t, h, rfl, hE⟩
    | cons _ _ => exact (nofail h).elim
  | cons p ps ih =>
    intro as vs t tmps hl hE h
    cases as with
    | nil => exact (nofail h).elim
    | cons av as =>
      obtain ⟨v, vs', rfl, hv, hl'⟩ := hl.cons_inv
      have h : run (bif' (Nat.ble (Nat.succ p) nt) (T.setK t p av fun t => setPs ps as nt t k) .fail) σ K = true := h
      obtain ⟨hp, h⟩ := bifT h
      have hp := bleT hp
      rw [T.setK_eq] at h
      have hE' : ER ρ nt (t.set p av) (tmps.setIfInBounds p v) := by
        refine ⟨by rw [Array.size_setIfInBounds]; exact hE.size, fun i b hb => ?_⟩
        by_cases e : i = p
        · subst e
          have := T.get_set_some _ _ hb
          subst this
          exact ⟨v, by rw [Array.getElem?_setIfInBounds, if_pos rfl, if_pos (by rw [hE.size]; omega)], hv⟩
        · rw [T.get_set_ne _ e] at hb
          obtain ⟨u, hu, hr⟩ := hE.val i b hb
          exact ⟨u, by rw [Array.getElem?_setIfInBounds, if_neg (fun e' => e e'.symm)]; exact hu, hr⟩
      obtain ⟨t', q1, q2, q3⟩ := ih as vs' _ _ hl' hE' h
      exact ⟨t', q1, by simp [q2], q3⟩
theorem yield_run {l : Nat} {r : Loop} {vs : List Value} (h : w.heap[l]? = some (.loop r)) (hn : r.params.size = vs.length) : (Instr.yield l vs.toArray).run P w = .ok (.round l r.fn ((r.params.toList.zip vs).foldl (fun tmps x => tmps.setIfInBounds x.1 x.2) r.tmps) r.assign r.body) w := by
  have e : r.params.zip vs.toArray = (r.params.toList.zip vs).toArray := by
    apply Array.ext'; simp
  simp only [Instr.yield, Instr.getLoop, Sem.run_bind, run_getObj' h (by simp), Result.andThen_ok, Sem.run_pure, List.size_toArray, hn, ne_eq, not_true_eq_false, if_false, e, List.foldl_toArray']
theorem beginRound_run {l : Nat} {r : Loop} (h : w.heap[l]? = some (.loop r)) (hb : r.state = .ready) : (Instr.beginRound l).run P w = .ok () { w with heap := w.heap.setIfInBounds l (.loop { r with state := .busy }) } := by
  simp only [Instr.beginRound, Instr.getLoop, Sem.run_bind, run_getObj' h (by simp), Result.andThen_ok, Sem.run_pure, run_setObj' h (by simp), hb]
theorem endRound_run {l : Nat} {r : Loop} (jump : Option Code) (h : w.heap[l]? = some (.loop r)) : (Instr.endRound l jump).run P w = .ok (.bool jump.isNone) { w with heap := w.heap.setIfInBounds l (.loop { r with state := if jump.isNone then .ready else .done, pending := jump }) } := by
  simp only [Instr.endRound, Instr.getLoop, Sem.run_bind, run_getObj' h (by simp), Result.andThen_ok, Sem.run_pure, run_setObj' h (by simp)]
theorem roundF_ok {x : X} (hx : ExOk P w0 x) : RnOk P w0 (roundF x) := by
  intro l as vs k σ K ρ w R hS hG hl h hR
  obtain ⟨q, σ1, hq, e1, hS1, h⟩ := rd_ok hS h
  have hG1 : Good w0 ρ σ1.h w := by rw [e1]; exact hG
  cases q with
  | loop st jump fn nt tmps ps asg bd d =>
    obtain ⟨hm, hh, hB, tmps', hd, fn', b1, b2, hheap⟩ := hG.blk _ _ hq
    obtain ⟨env, h, hlen, hE⟩ := setPs_ok _ _ _ _ _ hl b1 h
    refine ⟨hm, hh, _, _, _, _, yield_run hheap (by simpa using hlen), roundIn_of_wpIn trivial ?_⟩
    refine hx asg env nt fn [] _ σ1 K ρ w _ _ (some l) (some hm.blk) ⟨hm, hh, rfl⟩ hS1 hG1 hE trivial h fun ex env' df' σ' ρ' w' a' g1 g2 g3 g4 g5 g6 => ?_
    cases ex with
    | normal =>
      cases df' with
      | cons _ _ => exact (nofail g1).elim
      | nil =>
        obtain ⟨q2, σ2, hq2, e2, hS2, g1⟩ := rd_ok g2 g1
        have hG2 : Good w0 ρ' σ2.h w' := by rw [e2]; exact g3
        cases q2 with
        | loop st2 jump2 fn2 nt2 tmps2 ps2 as2 bd2 d2 =>
          cases st2 with
          | ready =>
            have hh' := g4.at_ _ _ _ hh
            obtain ⟨hm2, hh2, hB2, tmps2', hd2, fn2', c1, c2, hheap2⟩ := g3.blk _ _ hq2
            rw [hh'] at hh2; injection hh2 with hh2; subst hh2
            obtain ⟨x0, σ3, hx0, e3, hS3, h64, g1⟩ := wr_ok hS2 g1
            have hG3 := hG2.setObj (x := .loop .busy jump2 fn2 nt2 tmps2 ps2 as2 bd2 d2) (o' := .loop { state := .busy, pending := jump2, fn := fn2', tmps := tmps2', params := ps2.toArray, assign := as2, body := bd2, defers := hd2.blk }) hx0 h64 hh' hB2 hheap2
              ⟨_, hh', hB2, tmps2', hd2, fn2', c1, c2, set_get hheap2⟩
            rw [← e3] at hG3
            refine ⟨_, beginRound_run hheap2 rfl, ?_⟩
            refine hx bd env' nt fn2 [] _ σ3 K ρ' _ a' _ (some l) (some hm.blk) ⟨hm, hh', rfl⟩ hS3 hG3 g5 g6 g1 fun ex3 env3 df3 σ4 ρ4 w4 a4 k1 k2 k3 k4 k5 k6 => ?_
            have fin : ∀ jp, run (endRoundK l jp k) σ4 K = true → ∃ v w5, (Instr.endRound hm.blk jp).run P w4 = .ok v w5 ∧ R (.returned v) w5 := fun jp k1 => by
              obtain ⟨q3, σ5, hq3, e5, hS5, k1⟩ := rd_ok k2 k1
              have hG5 : Good w0 ρ4 σ5.h w4 := by rw [e5]; exact k3
              cases q3 with
              | loop st3 jump3 fn3 nt3 tmps3 ps3 as3 bd3 d3 =>
                have hh4 := k4.at_ _ _ _ hh'
                obtain ⟨hm3, hh3, hB3, tmps3', hd3, fn3', c3, c4, hheap3⟩ := k3.blk _ _ hq3
                rw [hh4] at hh3; injection hh3 with hh3; subst hh3
                obtain ⟨x1, σ6, hx1, e6, hS6, h64', k1⟩ := wr_ok hS5 k1
                refine ⟨_, _, endRound_run jp hheap3, ?_⟩
                cases jp with
                | none =>
                  have hG6 := hG5.setObj (x := .loop .ready none fn3 nt3 tmps3 ps3 as3 bd3 d3) (o' := .loop { state := .ready, pending := none, fn := fn3', tmps := tmps3', params := ps3.toArray, assign := as3, body := bd3, defers := hd3.blk }) hx1 h64' hh4 hB3 hheap3
                    ⟨_, hh4, hB3, tmps3', hd3, fn3', c3, c4, set_get hheap3⟩
                  have e6 : σ6.h = σ5.h.set l (.loop .ready none fn3 nt3 tmps3 ps3 as3 bd3 d3) := e6
                  rw [← e6] at hG6
                  exact hR (.bool true) _ σ6 ρ4 _ k1 hS6 hG6 (g4.trans k4) (.bool true)
                | some jc =>
                  have hG6 := hG5.setObj (x := .loop .done (some jc) fn3 nt3 tmps3 ps3 as3 bd3 d3) (o' := .loop { state := .done, pending := some jc, fn := fn3', tmps := tmps3', params := ps3.toArray, assign := as3, body := bd3, defers := hd3.blk }) hx1 h64' hh4 hB3 hheap3
                    ⟨_, hh4, hB3, tmps3', hd3, fn3', c3, c4, set_get hheap3⟩
                  have e6 : σ6.h = σ5.h.set l (.loop .done (some jc) fn3 nt3 tmps3 ps3 as3 bd3 d3) := e6
                  rw [← e6] at hG6
                  exact hR (.bool false) _ σ6 ρ4 _ k1 hS6 hG6 (g4.trans k4) (.bool false)
              | _ => exact (nofail k1).elim
            cases df3 with
            | cons _ _ => exact (nofail k1).elim
            | nil =>
              cases ex3 with
              | normal => exact fin none k1
              | ret => exact fin (some .ret) k1
              | exit id => exact fin (some (.exit id)) k1
              | goto t => exact fin (some (.goto t)) k1
          | _ => exact (nofail g1).elim
        | _ => exact (nofail g1).elim
    | _ => exact (nofail g1).elim
  | _ => exact (nofail h).elim

theorem text_of_text {M : List Memo} (hM : ∀ m ∈ M, MemoOk P m) {x : X} (hx : ExOk P w0 x) (hl : LpOk P w0 x) : ExOk P w0 (FX P M x) := by
  intro c env nt f df k σ K ρ w a Q rnd rd hW hS hG hE hD h hQ
  have here : ∀ {ex : AEx}, run (k ex env df) σ K = true → Q (cvX ex) a w := fun h => hQ _ env df σ ρ w a h hS hG (Rho.le.refl ρ) hE hD
  cases c with
  | skip => exact wpIn_skip (here (ex := .normal) h)
  | label l => exact wpIn_label (here (ex := .normal) h)
  | ret => exact wpIn_ret (here (ex := .ret) h)
  | exit id => exact wpIn_exit (here (ex := .exit id) h)
  | goto l => exact wpIn_goto (here (ex := .goto l) h)
  | region id ops draw =>
    cases draw with
    | true =>
      obtain ⟨hm, h⟩ := bifT h
      obtain ⟨hnt, h⟩ := bifT h
      obtain ⟨htm, h⟩ := bifT h
      exact draw_ok (callM_ok hM (callF_ok hx)) (roundF_ok hx) (bleT hnt) hm ρ a.defers (fun env' σ' ρ' a' w' h1 h2 h3 h4 h5 h6 => hQ .normal env' df σ' ρ' w' a' h1 h2 h3 h4 h5 (by rw [h6]; exact hD.mono h4)) htm h hS hG (Rho.le.refl ρ) hE rfl id
    | false =>
      refine wpIn_region_list (opsK_ok (callM_ok hM (callF_ok hx)) (roundF_ok hx) ρ a.defers (fun env' σ' ρ' a' w' h1 h2 h3 h4 h5 h6 => ?_) _ env σ ρ a w h hS hG (Rho.le.refl ρ) hE rfl)
      exact hQ .normal env' df σ' ρ' w' a' h1 h2 h3 h4 h5 (by rw [h6]; exact hD.mono h4)
  | seq c d =>
    refine wpIn_seq (hx c env nt f df _ σ K ρ w a _ rnd rd hW hS hG hE hD h fun ex env' df' σ' ρ' w' a' h1 h2 h3 h4 h5 h6 => ?_)
    cases ex with
    | normal => exact hx d env' nt f df' k σ' K ρ' w' a' Q rnd rd (hW.mono h4) h2 h3 h5 h6 h1 fun ex2 env2 df2 σ2 ρ2 w2 a2 g1 g2 g3 g4 g5 g6 => hQ ex2 env2 df2 σ2 ρ2 w2 a2 g1 g2 g3 (h4.trans g4) g5 g6
    | exit id => exact hQ (.exit id) env' df' σ' ρ' w' a' h1 h2 h3 h4 h5 h6
    | goto l => exact hQ (.goto l) env' df' σ' ρ' w' a' h1 h2 h3 h4 h5 h6
    | ret => exact hQ .ret env' df' σ' ρ' w' a' h1 h2 h3 h4 h5 h6
  | cond x c d =>
    obtain ⟨av, σ1, e1, hS1, h, hv⟩ := ev_ok hS hG hE h
    have hG1 : Good w0 ρ σ1.h w := by rw [e1]; exact hG
    obtain ⟨b, hxv, ht, he⟩ := condT hv h
    refine wpIn_cond hxv ?_
    cases b with
    | true => exact hx c env nt f df k σ1 K ρ w a Q rnd rd hW hS1 hG1 hE hD (ht rfl) hQ
    | false => exact hx d env nt f df k σ1 K ρ w a Q rnd rd hW hS1 hG1 hE hD (he rfl) hQ
  | block id c =>
    refine wpIn_block (hx c env nt f df _ σ K ρ w a _ rnd rd hW hS hG hE hD h fun ex env' df' σ' ρ' w' a' h1 h2 h3 h4 h5 h6 => ?_)
    cases ex with
    | normal => exact hQ .normal env' df' σ' ρ' w' a' h1 h2 h3 h4 h5 h6
    | exit id' =>
      rcases bif2 h1 with ⟨e, h1'⟩ | ⟨e, h1'⟩
      · have e := beqT e
        show (if id' = id then Q .normal a' w' else Q (.exit id') a' w')
        rw [if_pos e]
        exact hQ .normal env' df' σ' ρ' w' a' h1' h2 h3 h4 h5 h6
      · show (if id' = id then Q .normal a' w' else Q (.exit id') a' w')
        rw [if_neg (fun e' => by subst e'; simp at e)]
        exact hQ (.exit id') env' df' σ' ρ' w' a' h1' h2 h3 h4 h5 h6
    | goto l => exact hQ (.goto l) env' df' σ' ρ' w' a' h1 h2 h3 h4 h5 h6
    | ret => exact hQ .ret env' df' σ' ρ' w' a' h1 h2 h3 h4 h5 h6
  | loop c => exact loop_wp (loop_of_text hx hl c env nt f df k σ K ρ w a Q rnd rd hW hS hG hE hD h hQ)
  | rangeFunc g ps as bd => exact range_wp hx hW hS hG hE hD h hQ
  | _ => exact (nofail h).elim
end
end Go.Sim
