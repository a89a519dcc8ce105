/-
  SIM, part L: memory: new rows, loads, stores.
-/
import Derived.Test.YtlcomegfkcgjjaaGreatDoorSimK
namespace Go.Sim
open Go.RowKit (Below)
set_option linter.unusedVariables false

theorem Good.ext {w0 : World} {ρ : Rho} {H H' : T ABlk} {w : World} (hG : Good w0 ρ H w) (h : ∀ b, H'.get b = H.get b) : Good w0 ρ H' w :=
  ⟨hG.below, fun b x hx => hG.blk b x (by rw [← h]; exact hx), fun b g y hy => by
    obtain ⟨q1, x, q2⟩ := hG.dom b g y hy
    exact ⟨q1, x, by rw [h]; exact q2⟩, hG.inj, fun b g y x hy hx => hG.gens b g y x hy (by rw [← h]; exact hx)⟩

section
variable {P : Program} {w0 : World} {ρ : Rho} {w : World} {σ : St} {K : Fin} {k : AV → Tr}

theorem zeroT {t : TypeId} {k : AV → Tr} (ρ : Rho) (w : World) (h : run (zeroK P t k) σ K = true) : ∃ z zv i, P.info? t = some i ∧ (zeroValue t).run P w = .ok zv w ∧ VR ρ z zv ∧ run (k z) σ K = true := by
  obtain ⟨i, h1, h2⟩ := oelT (k := fun i : TypeInfo => oel i.zero .fail fun v => oel (cvF 8 v) .fail k) h
  obtain ⟨v, h3, h4⟩ := oelT h2
  obtain ⟨a, h5, h6⟩ := oelT h4
  refine ⟨a, v, i, h1, ?_, cvF_ok ρ _ _ _ h5, h6⟩
  simp [zeroValue, typeInfo, Sem.run_bind, run_program, h1, h3]

/-! ### New rows -/
theorem rowT_run {k : T Cell → Tr} : ∀ (l : List AV) (i : Nat) (t : T Cell), run (rowT l i t k) σ K = true →
    ∃ c, run (k c) σ K = true ∧ ∀ o x, c.get o = some x → (∃ (j : Nat) (a : AV), o = i + j ∧ l[j]? = some a ∧ x = .mk 0 a) ∨ (t.get o = some x ∧ (o < i ∨ i + l.length ≤ o)) := by
  intro l
  induction l with
  | nil => intro i t h; exact ⟨t, h, fun o x hx => .inr ⟨hx, by simp; omega⟩⟩
  | cons a l ih =>
    intro i t h
    have h : run (T.setK t i (.mk 0 a) fun t => fN (Nat.succ i) fun i => rowT l i t k) σ K = true := h
    rw [T.setK_eq] at h
    obtain ⟨c, h1, h2⟩ := ih _ _ (fNT h)
    refine ⟨c, h1, fun o x hx => ?_⟩
    rcases h2 o x hx with ⟨j, b, e, hb, hx'⟩ | ⟨hx', ho⟩
    · exact .inl ⟨j + 1, b, by omega, by simpa using hb, hx'⟩
    · by_cases e : o = i
      · subst e
        have := T.get_set_some _ _ hx'
        exact .inl ⟨0, a, by omega, rfl, this⟩
      · rw [T.get_set_ne _ e] at hx'
        exact .inr ⟨hx', by simp at ho ⊢; omega⟩

/-- A new row: of the world's row the first cells are told. -/
theorem newRowF_ok {l : List AV} {k : Nat → Tr} (fl : Nat) (arr : Array Value) (e : TypeId) (fr : Nat × Nat) (hfr : fr.1 ≤ fr.2 ∧ ∀ x, (x < arr.size ∨ fl ≤ 0) → fr.1 ≤ x → x < fr.2 → False) (hS : SI σ) (hG : Good w0 ρ σ.h w) (hsz : l.length ≤ arr.size) (hl : ∀ (i : Nat) (a : AV), l[i]? = some a → ∃ v, arr[i]? = some v ∧ VR ρ a v)
    (h : run (newRowM fl e l k) σ K = true) :
    ∃ b σ', run (k b) σ' K = true ∧ SI σ' ∧ ρ.le (ρ.put b 0 ⟨w.heap.size, 0, arr.size⟩) ∧ Good w0 (ρ.put b 0 ⟨w.heap.size, 0, arr.size⟩) σ'.h { w with heap := w.heap.push (.cells arr e fr) } := by
  have h : run (rowT l 0 .leaf fun t => fN (List.length l) fun n => .new (.cells t 0 0 n fl 0 false e) k) σ K = true := h
  obtain ⟨c, h1, h2⟩ := rowT_run _ _ _ h
  obtain ⟨n, σ', hn, h64, hh, hS', h3⟩ := new_ok hS (fNT h1)
  obtain ⟨hle, hG'⟩ := hG.alloc hn h64 (.cells c 0 0 l.length fl 0 false e) (.cells arr e fr) 0 arr.size (fun ρ' hle hat _ => by
    refine ⟨fun o x hx => ?_, fun g hg => ?_⟩
    · rcases h2 o x hx with ⟨j, a, e1, ha, ex⟩ | ⟨hx', _⟩
      · have : x.tag = 0 := by rw [ex]; rfl
        have : j < l.length := by
          rcases Nat.lt_or_ge j l.length with h' | h'
          · exact h'
          · rw [List.getElem?_eq_none h'] at ha; cases ha
        omega
      · simp [T.get] at hx'
    · have : g = 0 := by omega
      subst this
      refine ⟨_, hat, fun _ => hG.below.size, (fun h => by cases h), arr, fr, ?_, rfl, fun _ => ⟨hfr.1, fun x h1 h2 h3 => (hfr.2 x h1 h2 h3).elim⟩, fun o tag a ho ht => ?_⟩
      · show (w.heap.push _)[w.heap.size]? = _
        simp
      · rcases h2 o _ ho with ⟨j, b, e1, hb, hx⟩ | ⟨hx', _⟩
        · injection hx with hx1 hx2
          subst hx2
          obtain ⟨v, hv, hr⟩ := hl j a hb
          refine ⟨Nat.zero_le _, v, ?_, hr.mono hle⟩
          show arr[o - 0]? = some v
          rw [show o - 0 = j by omega]; exact hv
        · simp [T.get] at hx')
  exact ⟨n, σ', h3, hS', hle, by rw [hh]; exact hG'⟩
theorem newRow_ok {l : List AV} {k : Nat → Tr} (arr : Array Value) (e : TypeId) (hS : SI σ) (hG : Good w0 ρ σ.h w) (hsz : l.length ≤ arr.size) (hl : ∀ (i : Nat) (a : AV), l[i]? = some a → ∃ v, arr[i]? = some v ∧ VR ρ a v)
    (h : run (newRowK e l k) σ K = true) :
    ∃ b σ', run (k b) σ' K = true ∧ SI σ' ∧ ρ.le (ρ.put b 0 ⟨w.heap.size, 0, arr.size⟩) ∧ Good w0 (ρ.put b 0 ⟨w.heap.size, 0, arr.size⟩) σ'.h { w with heap := w.heap.push (.cells arr e) } :=
  newRowF_ok 0 arr e (0, 0) ⟨Nat.le_refl _, fun x _ _ h => absurd h (by simp)⟩ hS hG hsz hl h
theorem LR.to_arr {l : List AV} {cs : Array Value} (h : LR ρ l cs.toList) : l.length ≤ cs.size ∧ ∀ (i : Nat) (a : AV), l[i]? = some a → ∃ v, cs[i]? = some v ∧ VR ρ a v :=
  ⟨by have := h.1; simp at this; omega, fun i a ha => by obtain ⟨v, hv, hr⟩ := h.get ha; exact ⟨v, by simpa using hv, hr⟩⟩
theorem newVar_ok {a : AV} {v : Value} {t : TypeId} (hS : SI σ) (hG : Good w0 ρ σ.h w) (hv : VR ρ a v) (h : run (newVarK t a k) σ K = true) :
    Res P w0 ρ w k K (do pure (.pointer (some (← newVar t v)))) := by
  obtain ⟨l, hl, h1⟩ := cellsT hv h
  obtain ⟨q1, q2⟩ := LR.to_arr hl
  obtain ⟨b, σ', h2, hS', hle, hG'⟩ := newRow_ok v.cells t hS hG q1 q2 h1
  refine ⟨_, σ', _, _, _, h2, hS', hG', hle, VR.ptr b 0 0 _ (Rho.put_at _ _ _ _) (Nat.zero_le _), ?_⟩
  simp [newVar, newRow]
theorem alloc_ok {t : TypeId} (hS : SI σ) (hG : Good w0 ρ σ.h w) (h : run (zeroK P t fun z => newVarK t z k) σ K = true) : Res P w0 ρ w k K (Instr.alloc t true (.tuple #[])) := by
  obtain ⟨z, zv, i, _, hz, hr, h1⟩ := zeroT ρ w h
  refine (newVar_ok (P := P) (t := t) hS hG hr h1).of_eq ?_
  simp [Instr.alloc, Sem.run_bind, hz]
theorem box_ok {a : AV} {v : Value} {t : TypeId} (hS : SI σ) (hG : Good w0 ρ σ.h w) (hv : VR ρ a v) (h : run (newVarK t a k) σ K = true) : Res P w0 ρ w k K (Instr.box t v) :=
  newVar_ok hS hG hv h

/-! ### Loads -/
theorem cell_of {b g o tag : Nat} {a : AV} {c : T Cell} {gen lo hi fl fh ty : Nat} {ro : Bool} {h : Home} {H : T ABlk} (hG : Good w0 ρ H w) (hb : H.get b = some (.cells c gen lo hi fl fh ro ty)) (hh : ρ.at_ b g = some h) (hg : g ≤ gen)
    (hc : c.get o = some (.mk tag a)) (ht : tag ≤ g) : h.shift ≤ o ∧ ∃ v, w.cell? ⟨h.blk, o - h.shift, none⟩ = some v ∧ VR ρ a v := by
  obtain ⟨hm, q1, _, _, arr, fr, q2, q3, _, q4⟩ := (hG.blk _ _ hb).2 g hg
  rw [hh] at q1; injection q1 with q1; subst q1
  obtain ⟨r1, v, r2, r3⟩ := q4 o tag a hc ht
  refine ⟨r1, v, ?_, r3⟩
  simp [World.cell?, q2, r2]
theorem ldsT {c : T Cell} {g : Nat} : ∀ {n o : Nat} {k : List AV → Tr}, run (ldsK c g n o k) σ K = true → ∃ l, run (k l) σ K = true ∧ l.length = n ∧ ∀ (j : Nat) (a : AV), l[j]? = some a → ∃ tag, c.get (o + j) = some (.mk tag a) ∧ tag ≤ g := by
  intro n
  induction n with
  | zero => intro o k h; exact ⟨[], h, rfl, by simp⟩
  | succ n ih =>
    intro o k h
    have h : run (T.getK c o .fail fun x => match x with
      | .mk tag v => bif' (Nat.ble tag g) (fN (Nat.succ o) fun o => ldsK c g n o fun l => k (v :: l)) .fail) σ K = true := h
    obtain ⟨x, hx, h⟩ := getT h
    cases x with
    | mk tag v =>
      obtain ⟨ht, h⟩ := bifT h
      obtain ⟨l, h1, h2, h3⟩ := ih (fNT h)
      refine ⟨v :: l, h1, by simp [h2], fun j a ha => ?_⟩
      cases j with
      | zero => simp at ha; subst ha; exact ⟨tag, hx, bleT ht⟩
      | succ j =>
        obtain ⟨tag', q1, q2⟩ := h3 j a (by simpa using ha)
        exact ⟨tag', by rw [show o + (j + 1) = Nat.succ o + j by omega]; exact q1, q2⟩
theorem loadRow_ok {b g o n : Nat} {h0 : Home} {k : List AV → Tr} (hS : SI σ) (hG : Good w0 ρ σ.h w) (hh : ρ.at_ b g = some h0) (ho : h0.shift ≤ o) (h : run (loadRowK b g o n k) σ K = true) :
    ∃ l cs σ', σ'.h = σ.h ∧ SI σ' ∧ run (k l) σ' K = true ∧ LR ρ l cs ∧ cs.length = n ∧ (∀ (j : Nat) (v : Value), cs[j]? = some v → w.cell? ⟨h0.blk, o - h0.shift + j, none⟩ = some v) ∧ (loadCells ⟨h0.blk, o - h0.shift, none⟩ n).run P w = .ok cs.toArray w := by
  obtain ⟨x, σ1, hx, e1, hS1, h⟩ := rd_ok hS h
  cases x with
  | cells c gen lo hi fl fh ro ty =>
    obtain ⟨hg, h⟩ := bifT h
    have hg := bleT hg
    obtain ⟨l, h1, h2, h3⟩ := ldsT h
    have key : ∀ (j : Nat) (a : AV), l[j]? = some a → ∃ v, w.cell? ⟨h0.blk, o - h0.shift + j, none⟩ = some v ∧ VR ρ a v := fun j a ha => by
      obtain ⟨tag, q1, q2⟩ := h3 j a ha
      obtain ⟨_, v, r2, r3⟩ := cell_of hG hx hh hg q1 q2
      exact ⟨v, by rw [show o - h0.shift + j = o + j - h0.shift by omega]; exact r2, r3⟩
    let cs : List Value := (List.range l.length).map fun j => (w.cell? ⟨h0.blk, o - h0.shift + j, none⟩).getD undef
    have hcs : cs.length = n := by simp [cs, h2]
    have hcell : ∀ (j : Nat) (v : Value), cs[j]? = some v → w.cell? ⟨h0.blk, o - h0.shift + j, none⟩ = some v := fun j v hv => by
      have hj : j < l.length := by
        rcases Nat.lt_or_ge j l.length with h' | h'
        · exact h'
        · rw [List.getElem?_eq_none (by simp [cs]; exact h')] at hv; cases hv
      obtain ⟨v', hv', _⟩ := key j l[j] (List.getElem?_eq_getElem hj)
      simp [cs, hj, hv'] at hv
      rw [hv', hv]
    refine ⟨l, cs, σ1, e1, hS1, h1, ⟨by simp [cs], fun j a v ha hv => ?_⟩, hcs, hcell, ?_⟩
    · obtain ⟨v', hv', hr⟩ := key j a ha
      have := hcell j v hv
      rw [hv'] at this; injection this with this; subst this; exact hr
    · have := run_loadCells_list (P := P) w ⟨h0.blk, o - h0.shift, none⟩ cs (fun j v hv => by
        have := hcell j v hv
        unfold Addr.add
        split
        · rename_i e; subst e; simpa using this
        · exact this)
      rw [hcs] at this; exact this
  | _ => exact (nofail h).elim
/-- A load turns nothing. -/
theorem load_okP {t : TypeId} {x : AV} {v : Value} (hS : SI σ) (hG : Good w0 ρ σ.h w) (hx : VR ρ x v) (h : run (loadK P t x k) σ K = true) : ∃ av σ' u, run (k av) σ' K = true ∧ SI σ' ∧ Good w0 ρ σ'.h w ∧ VR ρ av u ∧ (Instr.loadAt t v).run P w = .ok u w := by
  cases hx with
  | ptr b g o h0 hh ho =>
    obtain ⟨d, hu, h⟩ := undT h
    rcases bif2 h with ⟨hd, h⟩ | ⟨hd, h⟩
    · obtain ⟨i, hi, h⟩ := sizeT h
      obtain ⟨l, cs, σ', e, hS', h1, hl, hlen, _, hrun⟩ := loadRow_ok (P := P) hS hG hh ho h
      have hl' : LR ρ l cs.toArray.toList := by simpa using hl
      refine ⟨_, _, _, h1, hS', by rw [e]; exact hG, VR.agg l cs.toArray hl'.arr.1 hl'.arr.2, ?_⟩
      simp only [Instr.loadAt, Instr.sureAddr, loadVar, Sem.run_bind, Sem.run_pure, Result.andThen_ok, isAgg_run hu, hd, if_true, sizeOf_run hi, hrun]
    · obtain ⟨y, σ1, hy, e1, hS1, h⟩ := rd_ok hS h
      cases y with
      | cells c gen lo hi fl fh ro ty =>
        obtain ⟨hg, h⟩ := bifT h
        obtain ⟨z, hz, h⟩ := getT h
        cases z with
        | mk tag a =>
          obtain ⟨ht, h⟩ := bifT h
          obtain ⟨_, v, hv, hr⟩ := cell_of hG hy hh (bleT hg) hz (bleT ht)
          refine ⟨_, _, _, h, hS1, by rw [e1]; exact hG, hr, ?_⟩
          simp only [Instr.loadAt, Instr.sureAddr, loadVar, Sem.run_bind, Sem.run_pure, Result.andThen_ok, isAgg_run hu, hd, Bool.false_eq_true, if_false, run_load, hv]
      | _ => exact (nofail h).elim
  | _ => exact (nofail h).elim
theorem load_ok {t : TypeId} {x : AV} {v : Value} (hS : SI σ) (hG : Good w0 ρ σ.h w) (hx : VR ρ x v) (h : run (loadK P t x k) σ K = true) : Res P w0 ρ w k K (Instr.loadAt t v) := by
  obtain ⟨av, σ', u, h1, h2, h3, h4, h5⟩ := load_okP (P := P) hS hG hx h
  exact .plain h1 h2 h3 h4 h5
end
end Go.Sim
