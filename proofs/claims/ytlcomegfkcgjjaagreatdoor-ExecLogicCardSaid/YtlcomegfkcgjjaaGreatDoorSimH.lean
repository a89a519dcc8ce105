/-
  SIM, part H: values and numbers: what the interpreter does is what the model does.
-/
import Derived.Test.YtlcomegfkcgjjaaGreatDoorSimG
import Derived.Laws.Cells
namespace Go.Sim
open Go.RowKit (Below)
set_option linter.unusedVariables false

theorem nofail {σ : St} {K : Fin} (h : run .fail σ K = true) : False := by cases h
theorem oelT {α : Type} {o : Option α} {k : α → Tr} {σ : St} {K : Fin} (h : run (oel o .fail k) σ K = true) : ∃ a, o = some a ∧ run (k a) σ K = true := by
  cases o with
  | none => exact (nofail h).elim
  | some a => exact ⟨a, rfl, h⟩
theorem bifT {b : Bool} {t : Tr} {σ : St} {K : Fin} (h : run (bif' b t .fail) σ K = true) : b = true ∧ run t σ K = true := by
  cases b with
  | true => exact ⟨rfl, h⟩
  | false => exact (nofail h).elim
theorem bifF {b : Bool} {t : Tr} {σ : St} {K : Fin} (h : run (bif' b .fail t) σ K = true) : b = false ∧ run t σ K = true := by
  cases b with
  | false => exact ⟨rfl, h⟩
  | true => exact (nofail h).elim
theorem bif2 {b : Bool} {t e : Tr} {σ : St} {K : Fin} (h : run (bif' b t e) σ K = true) : (b = true ∧ run t σ K = true) ∨ (b = false ∧ run e σ K = true) := by
  cases b with
  | false => exact .inr ⟨rfl, h⟩
  | true => exact .inl ⟨rfl, h⟩
theorem getT {α : Type} {t : T α} {n : Nat} {k : α → Tr} {σ : St} {K : Fin} (h : run (T.getK t n .fail k) σ K = true) : ∃ a, t.get n = some a ∧ run (k a) σ K = true := by
  rw [T.getK_eq] at h
  split at h
  · exact (nofail h).elim
  · exact ⟨_, by assumption, h⟩
theorem fNT {n : Nat} {k : Nat → Tr} {σ : St} {K : Fin} (h : run (fN n k) σ K = true) : run (k n) σ K = true := by rw [fN_eq] at h; exact h
theorem fIT {n : Int} {k : Int → Tr} {σ : St} {K : Fin} (h : run (fI n k) σ K = true) : run (k n) σ K = true := by rw [fI_eq] at h; exact h
theorem bleT {a b : Nat} (h : Nat.ble a b = true) : a ≤ b := Nat.ble_eq.mp h
theorem bleF {a b : Nat} (h : Nat.ble a b = false) : b < a := by
  rcases Nat.lt_or_ge b a with e | e
  · exact e
  · rw [Nat.ble_eq.mpr e] at h; cases h
theorem beqT {a b : Nat} (h : Nat.beq a b = true) : a = b := Nat.eq_of_beq_eq_true h
theorem asBoolT {v : AV} {k : Bool → Tr} {σ : St} {K : Fin} (h : run (asBoolK v k) σ K = true) : ∃ b, v = .bool b ∧ run (k b) σ K = true := by
  cases v <;> first | exact ⟨_, rfl, h⟩ | exact (nofail h).elim
theorem asIntT {v : AV} {k : IntKind → Int → Tr} {σ : St} {K : Fin} (h : run (asIntK v k) σ K = true) : ∃ j n, v = .int j n ∧ run (k j n) σ K = true := by
  cases v <;> first | exact ⟨_, _, rfl, h⟩ | exact (nofail h).elim
theorem asAggT {v : AV} {k : List AV → Tr} {σ : St} {K : Fin} (h : run (asAggK v k) σ K = true) : ∃ l, v = .agg l ∧ run (k l) σ K = true := by
  cases v <;> first | exact ⟨_, rfl, h⟩ | exact (nofail h).elim
theorem natT {n : Int} {k : Nat → Tr} {σ : St} {K : Fin} (h : run (natK n k) σ K = true) : ∃ a : Nat, n = (a : Int) ∧ run (k a) σ K = true := by
  cases n with
  | ofNat a => exact ⟨a, rfl, h⟩
  | negSucc a => exact (nofail h).elim
theorem cellsT {ρ : Rho} {a : AV} {v : Value} {k : List AV → Tr} {σ : St} {K : Fin} (hv : VR ρ a v) (h : run (cellsK a k) σ K = true) : ∃ l, LR ρ l v.cells.toList ∧ run (k l) σ K = true := by
  cases hv with
  | agg l cs h1 h2 => exact ⟨l, LR.of_arr h1 h2, h⟩
  | opq n => exact (nofail h).elim
  | opc n ho =>
    refine ⟨_, ?_, h⟩
    have e : (ρ.val n).cells.toList = [ρ.val n] := by
      cases hv : ρ.val n <;> first | rfl | (rw [hv] at ho; cases ho)
    rw [e]
    exact LR.cons (.opc n ho) (LR.nil ρ)
  | _ => exact ⟨_, LR.cons (by constructor <;> assumption) (LR.nil ρ), h⟩

/-- What an operation that hands back a value comes to. -/
def Res (P : Program) (w0 : World) (ρ : Rho) (w : World) (k : AV → Tr) (K : Fin) (s : Sem Value) : Prop :=
  ∃ av σ' ρ' v w', run (k av) σ' K = true ∧ SI σ' ∧ Good w0 ρ' σ'.h w' ∧ ρ.le ρ' ∧ VR ρ' av v ∧ s.run P w = .ok v w'
def ResU (P : Program) (w0 : World) (ρ : Rho) (w : World) (k : Tr) (K : Fin) (s : Sem Unit) : Prop :=
  ∃ σ' w', run k σ' K = true ∧ SI σ' ∧ Good w0 ρ σ'.h w' ∧ s.run P w = .ok () w'
theorem Res.plain {P : Program} {w0 : World} {ρ : Rho} {w : World} {k : AV → Tr} {K : Fin} {s : Sem Value} {av : AV} {σ : St} {v : Value}
    (hr : run (k av) σ K = true) (hS : SI σ) (hG : Good w0 ρ σ.h w) (hv : VR ρ av v) (hs : s.run P w = .ok v w) : Res P w0 ρ w k K s :=
  ⟨av, σ, ρ, v, w, hr, hS, hG, Rho.le.refl ρ, hv, hs⟩
theorem Res.of_eq {P : Program} {w0 : World} {ρ : Rho} {w : World} {k : AV → Tr} {K : Fin} {s s' : Sem Value} (h : Res P w0 ρ w k K s) (e : s'.run P w = s.run P w) : Res P w0 ρ w k K s' := by
  obtain ⟨av, σ', ρ', v, w', h1, h2, h3, h4, h5, h6⟩ := h
  exact ⟨av, σ', ρ', v, w', h1, h2, h3, h4, h5, e.trans h6⟩

section
variable {w0 : World} {ρ : Rho} {w : World} {σ : St} {K : Fin} {nt : Nat} {env : T AV} {a : Act}

theorem ev_ok {x : Operand} {k : AV → Tr} (hS : SI σ) (hG : Good w0 ρ σ.h w) (hE : ER ρ nt env a.tmps) (h : run (evK env x k) σ K = true) :
    ∃ av σ', σ'.h = σ.h ∧ SI σ' ∧ run (k av) σ' K = true ∧ VR ρ av (a.eval x) := by
  cases x with
  | tmp t =>
    obtain ⟨av, h1, h2⟩ := getT (k := k) h
    obtain ⟨v, hv, hr⟩ := hE.val t av h1
    refine ⟨av, σ, rfl, hS, h2, ?_⟩
    show VR ρ av (a.tmps.getD t undef)
    rw [Array.getD_eq_getD_getElem?, hv]; exact hr
  | const v =>
    obtain ⟨av, h1, h2⟩ := oelT (k := k) h
    exact ⟨av, σ, rfl, hS, h2, cvF_ok ρ _ _ _ h1⟩
  | func f => exact ⟨_, σ, rfl, hS, h, .func _ _ _ _ _ rfl rfl (by simp) (by simp) rfl⟩
  | global g =>
    obtain ⟨hlt, h⟩ := bifT h
    have hlt := bleT hlt
    obtain ⟨x, σ', h1, h2, h3, h4⟩ := rd_ok hS h
    cases x with
    | cells c gen lo hi fl fh ro ty =>
      obtain ⟨h5, h6⟩ := bifT h4
      subst h5
      obtain ⟨hm, q1, _, q2, _⟩ := (hG.blk _ _ h1).2 0 (Nat.zero_le _)
      obtain ⟨e1, e2⟩ := q2 rfl hlt
      refine ⟨_, σ', h2, h3, h6, ?_⟩
      have := VR.ptr (ρ := ρ) g 0 0 hm q1 (by omega)
      rw [e1] at this
      show VR ρ _ (.pointer (some ⟨g, 0, none⟩))
      simpa using this
    | _ => exact (nofail h4).elim

theorem evs_ok : ∀ {l : List Operand} {k : List AV → Tr} {σ : St}, SI σ → Good w0 ρ σ.h w → ER ρ nt env a.tmps → run (evsK env l k) σ K = true →
    ∃ av σ', σ'.h = σ.h ∧ SI σ' ∧ run (k av) σ' K = true ∧ LR ρ av (l.map a.eval) := by
  intro l
  induction l with
  | nil => intro k σ hS hG hE h; exact ⟨[], σ, rfl, hS, h, LR.nil ρ⟩
  | cons x l ih =>
    intro k σ hS hG hE h
    obtain ⟨v, σ1, e1, hS1, h1, r1⟩ := ev_ok (k := fun a => evsK env l fun l => k (a :: l)) hS hG hE h
    obtain ⟨vs, σ2, e2, hS2, h2, r2⟩ := ih hS1 (by rw [e1]; exact hG) hE h1
    exact ⟨v :: vs, σ2, e2.trans e1, hS2, h2, LR.cons r1 r2⟩

/-- Optional values. -/
def OR (ρ : Rho) : Option AV → Option Value → Prop
  | none, none => True
  | some a, some v => VR ρ a v
  | _, _ => False
theorem evo_ok {x : Option Operand} {k : Option AV → Tr} (hS : SI σ) (hG : Good w0 ρ σ.h w) (hE : ER ρ nt env a.tmps) (h : run (evoK env x k) σ K = true) :
    ∃ av σ', σ'.h = σ.h ∧ SI σ' ∧ run (k av) σ' K = true ∧ OR ρ av (x.map a.eval) := by
  cases x with
  | none => exact ⟨none, σ, rfl, hS, h, trivial⟩
  | some x =>
    obtain ⟨v, σ1, e1, hS1, h1, r1⟩ := ev_ok (k := fun a => k (some a)) hS hG hE h
    exact ⟨some v, σ1, e1, hS1, h1, r1⟩
theorem evParts_ok : ∀ {l : List (Nat × Operand)} {k : List (Nat × AV) → Tr} {σ : St}, SI σ → Good w0 ρ σ.h w → ER ρ nt env a.tmps → run (evPartsK env l k) σ K = true →
    ∃ av σ', σ'.h = σ.h ∧ SI σ' ∧ run (k av) σ' K = true ∧ av.map (·.1) = l.map (·.1) ∧ LR ρ (av.map (·.2)) (l.map fun x => a.eval x.2) := by
  intro l
  induction l with
  | nil => intro k σ hS hG hE h; exact ⟨[], σ, rfl, hS, h, rfl, LR.nil ρ⟩
  | cons x l ih =>
    intro k σ hS hG hE h
    obtain ⟨v, σ1, e1, hS1, h1, r1⟩ := ev_ok (k := fun a => evPartsK env l fun l => k ((x.1, a) :: l)) hS hG hE h
    obtain ⟨vs, σ2, e2, hS2, h2, r2, r3⟩ := ih hS1 (by rw [e1]; exact hG) hE h1
    exact ⟨(x.1, v) :: vs, σ2, e2.trans e1, hS2, h2, by simp [r2], LR.cons r1 r3⟩
end
end Go.Sim
