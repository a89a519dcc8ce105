/- SYM, part L: memory: new rows, loads, stores; SYM, part La: data out of cells: what is pulled is what lies there. -/
import Derived.Test.YtldnnonkobikdaaGreatDoorSymJ
namespace Go.Sym
open Go.RowKit (Below)
set_option linter.unusedVariables false
theorem Good.ext {w0 : World} {ρ : Rho} {H H' : T ABlk} {w : World} (hG : Good w0 ρ H w) (h : ∀ b, H'.get b = H.get b) : Good w0 ρ H' w :=
  ⟨hG.below, fun b x hx => hG.blk b x (by rw [← h]; exact hx), fun b g y hy => by
    obtain ⟨q1, x, q2⟩ := hG.dom b g y hy
    exact ⟨q1, x, by rw [h]; exact q2⟩, hG.inj, fun b g y x hy hx => hG.gens b g y x hy (by rw [← h]; exact hx), hG.frz, hG.frzB⟩
section
variable {P : Program} {w0 : World} {ρ : Rho} {w : World} {σ : St} {K : Fin} {k : AV → Tr}
theorem zeroT {t : TypeId} {k : AV → Tr} (ρ : Rho) (w : World) (h : run (zeroK P t k) σ K = true) : ∃ z zv i, P.info? t = some i ∧ (zeroValue t).run P w = .ok zv w ∧ VR ρ z zv ∧ run (k z) σ K = true := by
  obtain ⟨i, h1, h2⟩ := oelT (k := fun i : TypeInfo => oel i.zero .fail fun v => oel (cvF 8 v) .fail k) h
  obtain ⟨v, h3, h4⟩ := oelT h2
  obtain ⟨a, h5, h6⟩ := oelT h4
  refine ⟨a, v, i, h1, ?_, cvF_ok ρ _ _ _ h5, h6⟩
  simp [zeroValue, typeInfo, Sem.run_bind, run_program, h1, h3]
theorem rowT_run {k : T Cell → Tr} : ∀ (l : List AV) (i : Nat) (t : T Cell), run (rowT l i t k) σ K = true →
    ∃ c, run (k c) σ K = true ∧ ∀ o x, c.get o = some x → (∃ (j : Nat) (a : AV), o = i + j ∧ l[j]? = some a ∧ x = .mk 0 a) ∨ (t.get o = some x ∧ (o < i ∨ i + l.length ≤ o)) := by
  intro l
  induction l with
  | nil => intro i t h; exact ⟨t, h, fun o x hx => .inr ⟨hx, by simp; omega⟩⟩
  | cons a l ih =>
    intro i t h
    have h : run (T.setK t i (.mk 0 a) fun t => fN (Nat.succ i) fun i => rowT l i t k) σ K = true := h
    rw [T.setK_eq] at h
    obtain ⟨c, h1, h2⟩ := ih _ _ (fNT h)
    refine ⟨c, h1, fun o x hx => ?_⟩
    rcases h2 o x hx with ⟨j, b, e, hb, hx'⟩ | ⟨hx', ho⟩
    · exact .inl ⟨j + 1, b, by omega, by simpa using hb, hx'⟩
    · by_cases e : o = i
      · subst e
        have := T.get_set_some _ _ hx'
        exact .inl ⟨0, a, by omega, rfl, this⟩
      · rw [T.get_set_ne _ e] at hx'
        exact .inr ⟨hx', by simp at ho ⊢; omega⟩
theorem newRowF_ok {l : List AV} {k : Nat → Tr} (fl : Nat) (arr : Array Value) (e : TypeId) (fr : Nat × Nat) (hfr : fr.1 ≤ fr.2 ∧ ∀ x, (x < arr.size ∨ fl ≤ 0) → fr.1 ≤ x → x < fr.2 → False) (hS : SI σ) (hG : Good w0 ρ σ.h w) (hsz : l.length ≤ arr.size) (hl : ∀ (i : Nat) (a : AV), l[i]? = some a → ∃ v, arr[i]? = some v ∧ VR ρ a v)
    (h : run (newRowM fl e l k) σ K = true) :
    ∃ b σ', run (k b) σ' K = true ∧ SI σ' ∧ ρ.le (ρ.put b 0 ⟨w.heap.size, 0, arr.size⟩) ∧ Good w0 (ρ.put b 0 ⟨w.heap.size, 0, arr.size⟩) σ'.h { w with heap := w.heap.push (.cells arr e fr) } := by
  have h : run (rowT l 0 .leaf fun t => fN (List.length l) fun n => .new (.cells t 0 0 n fl 0 false e) k) σ K = true := h
  obtain ⟨c, h1, h2⟩ := rowT_run _ _ _ h
  obtain ⟨n, σ', hn, h64, hh, hS', h3⟩ := new_ok hS (fNT h1)
  obtain ⟨hle, hG'⟩ := hG.alloc hn h64 (.cells c 0 0 l.length fl 0 false e) (.cells arr e fr) 0 arr.size (fun ρ' hle hat _ => by
    refine ⟨fun o x hx => ?_, fun g hg => ?_⟩
    · rcases h2 o x hx with ⟨j, a, e1, ha, ex⟩ | ⟨hx', _⟩
      · have : x.tag = 0 := by rw [ex]; rfl
        have : j < l.length := by
          rcases Nat.lt_or_ge j l.length with h' | h'
          · exact h'
          · rw [List.getElem?_eq_none h'] at ha; cases ha
        omega
      · simp [T.get] at hx'
    · have : g = 0 := by omega
      subst this
      refine ⟨_, hat, fun _ => .new hG.below.size, (fun h => by cases h), arr, fr, ?_, rfl, fun _ => ⟨hfr.1, fun x h1 h2 h3 => (hfr.2 x h1 h2 h3).elim⟩, fun o tag a ho ht => ?_⟩
      · show (w.heap.push _)[w.heap.size]? = _
        simp
      · rcases h2 o _ ho with ⟨j, b, e1, hb, hx⟩ | ⟨hx', _⟩
        · injection hx with hx1 hx2
          subst hx2
          obtain ⟨v, hv, hr⟩ := hl j a hb
          refine ⟨Nat.zero_le _, v, ?_, hr.mono hle⟩
          show arr[o - 0]? = some v
          rw [show o - 0 = j by omega]; exact hv
        · simp [T.get] at hx')
  exact ⟨n, σ', h3, hS', hle, by rw [hh]; exact hG'⟩
theorem newRow_ok {l : List AV} {k : Nat → Tr} (arr : Array Value) (e : TypeId) (hS : SI σ) (hG : Good w0 ρ σ.h w) (hsz : l.length ≤ arr.size) (hl : ∀ (i : Nat) (a : AV), l[i]? = some a → ∃ v, arr[i]? = some v ∧ VR ρ a v)
    (h : run (newRowK e l k) σ K = true) :
    ∃ b σ', run (k b) σ' K = true ∧ SI σ' ∧ ρ.le (ρ.put b 0 ⟨w.heap.size, 0, arr.size⟩) ∧ Good w0 (ρ.put b 0 ⟨w.heap.size, 0, arr.size⟩) σ'.h { w with heap := w.heap.push (.cells arr e) } :=
  newRowF_ok 0 arr e (0, 0) ⟨Nat.le_refl _, fun x _ _ h => absurd h (by simp)⟩ hS hG hsz hl h
theorem LR.to_arr {l : List AV} {cs : Array Value} (h : LR ρ l cs.toList) : l.length ≤ cs.size ∧ ∀ (i : Nat) (a : AV), l[i]? = some a → ∃ v, cs[i]? = some v ∧ VR ρ a v :=
  ⟨by have := h.1; simp at this; omega, fun i a ha => by obtain ⟨v, hv, hr⟩ := h.get ha; exact ⟨v, by simpa using hv, hr⟩⟩
theorem newVar_ok {a : AV} {v : Value} {t : TypeId} (hS : SI σ) (hG : Good w0 ρ σ.h w) (hv : VR ρ a v) (h : run (newVarK t a k) σ K = true) :
    Res P w0 ρ w k K (do pure (.pointer (some (← newVar t v)))) := by
  obtain ⟨l, hl, h1⟩ := cellsT hv h
  obtain ⟨q1, q2⟩ := LR.to_arr hl
  obtain ⟨b, σ', h2, hS', hle, hG'⟩ := newRow_ok v.cells t hS hG q1 q2 h1
  refine ⟨_, σ', _, _, _, h2, hS', hG', hle, VR.ptr b 0 0 _ (Rho.put_at _ _ _ _) (Nat.zero_le _), ?_⟩
  simp [newVar, newRow]
theorem alloc_ok {t : TypeId} (hS : SI σ) (hG : Good w0 ρ σ.h w) (h : run (zeroK P t fun z => newVarK t z k) σ K = true) : Res P w0 ρ w k K (Instr.alloc t true (.tuple #[])) := by
  obtain ⟨z, zv, i, _, hz, hr, h1⟩ := zeroT ρ w h
  refine (newVar_ok (P := P) (t := t) hS hG hr h1).of_eq ?_
  simp [Instr.alloc, Sem.run_bind, hz]
theorem box_ok {a : AV} {v : Value} {t : TypeId} (hS : SI σ) (hG : Good w0 ρ σ.h w) (hv : VR ρ a v) (h : run (newVarK t a k) σ K = true) : Res P w0 ρ w k K (Instr.box t v) :=
  newVar_ok hS hG hv h
theorem cell_of {b g o tag : Nat} {a : AV} {c : T Cell} {gen lo hi fl fh ty : Nat} {ro : Bool} {h : Home} {H : T ABlk} (hG : Good w0 ρ H w) (hb : H.get b = some (.cells c gen lo hi fl fh ro ty)) (hh : ρ.at_ b g = some h) (hg : g ≤ gen)
    (hc : c.get o = some (.mk tag a)) (ht : tag ≤ g) : h.shift ≤ o ∧ ∃ v, w.cell? ⟨h.blk, o - h.shift, none⟩ = some v ∧ VR ρ a v := by
  obtain ⟨hm, q1, _, _, arr, fr, q2, q3, _, q4⟩ := (hG.blk _ _ hb).2 g hg
  rw [hh] at q1; injection q1 with q1; subst q1
  obtain ⟨r1, v, r2, r3⟩ := q4 o tag a hc ht
  refine ⟨r1, v, ?_, r3⟩
  simp [World.cell?, q2, r2]
theorem ldsT {c : T Cell} {g : Nat} : ∀ {n o : Nat} {k : List AV → Tr}, run (ldsK c g n o k) σ K = true → ∃ l, run (k l) σ K = true ∧ l.length = n ∧ ∀ (j : Nat) (a : AV), l[j]? = some a → ∃ tag, c.get (o + j) = some (.mk tag a) ∧ tag ≤ g := by
  intro n
  induction n with
  | zero => intro o k h; exact ⟨[], h, rfl, by simp⟩
  | succ n ih =>
    intro o k h
    have h : run (T.getK c o .fail fun x => match x with
      | .mk tag v => bif' (Nat.ble tag g) (fN (Nat.succ o) fun o => ldsK c g n o fun l => k (v :: l)) .fail) σ K = true := h
    obtain ⟨x, hx, h⟩ := getT h
    cases x with
    | mk tag v =>
      obtain ⟨ht, h⟩ := bifT h
      obtain ⟨l, h1, h2, h3⟩ := ih (fNT h)
      refine ⟨v :: l, h1, by simp [h2], fun j a ha => ?_⟩
      cases j with
      | zero => simp at ha; subst ha; exact ⟨tag, hx, bleT ht⟩
      | succ j =>
        obtain ⟨tag', q1, q2⟩ := h3 j a (by simpa using ha)
        exact ⟨tag', by rw [show o + (j + 1) = Nat.succ o + j by omega]; exact q1, q2⟩
theorem loadRow_ok {b g o n : Nat} {h0 : Home} {k : List AV → Tr} (hS : SI σ) (hG : Good w0 ρ σ.h w) (hh : ρ.at_ b g = some h0) (ho : h0.shift ≤ o) (h : run (loadRowK b g o n k) σ K = true) :
    ∃ l cs σ', σ'.h = σ.h ∧ SI σ' ∧ run (k l) σ' K = true ∧ LR ρ l cs ∧ cs.length = n ∧ (∀ (j : Nat) (v : Value), cs[j]? = some v → w.cell? ⟨h0.blk, o - h0.shift + j, none⟩ = some v) ∧ (loadCells ⟨h0.blk, o - h0.shift, none⟩ n).run P w = .ok cs.toArray w := by
  obtain ⟨x, σ1, hx, e1, hS1, h⟩ := rd_ok hS h
  cases x with
  | cells c gen lo hi fl fh ro ty =>
    obtain ⟨hg, h⟩ := bifT h
    have hg := bleT hg
    obtain ⟨l, h1, h2, h3⟩ := ldsT h
    have key : ∀ (j : Nat) (a : AV), l[j]? = some a → ∃ v, w.cell? ⟨h0.blk, o - h0.shift + j, none⟩ = some v ∧ VR ρ a v := fun j a ha => by
      obtain ⟨tag, q1, q2⟩ := h3 j a ha
      obtain ⟨_, v, r2, r3⟩ := cell_of hG hx hh hg q1 q2
      exact ⟨v, by rw [show o - h0.shift + j = o + j - h0.shift by omega]; exact r2, r3⟩
    let cs : List Value := (List.range l.length).map fun j => (w.cell? ⟨h0.blk, o - h0.shift + j, none⟩).getD undef
    have hcs : cs.length = n := by simp [cs, h2]
    have hcell : ∀ (j : Nat) (v : Value), cs[j]? = some v → w.cell? ⟨h0.blk, o - h0.shift + j, none⟩ = some v := fun j v hv => by
      have hj : j < l.length := by
        rcases Nat.lt_or_ge j l.length with h' | h'
        · exact h'
        · rw [List.getElem?_eq_none (by simp [cs]; exact h')] at hv; cases hv
      obtain ⟨v', hv', _⟩ := key j l[j] (List.getElem?_eq_getElem hj)
      simp [cs, hj, hv'] at hv
      rw [hv', hv]
    refine ⟨l, cs, σ1, e1, hS1, h1, ⟨by simp [cs], fun j a v ha hv => ?_⟩, hcs, hcell, ?_⟩
    · obtain ⟨v', hv', hr⟩ := key j a ha
      have := hcell j v hv
      rw [hv'] at this; injection this with this; subst this; exact hr
    · have := run_loadCells_list (P := P) w ⟨h0.blk, o - h0.shift, none⟩ cs (fun j v hv => by
        have := hcell j v hv
        unfold Addr.add
        split
        · rename_i e; subst e; simpa using this
        · exact this)
      rw [hcs] at this; exact this
  | _ => exact (nofail h).elim
theorem load_okP {t : TypeId} {x : AV} {v : Value} (hS : SI σ) (hG : Good w0 ρ σ.h w) (hx : VR ρ x v) (h : run (loadK P t x k) σ K = true) : ∃ av σ' u, run (k av) σ' K = true ∧ SI σ' ∧ Good w0 ρ σ'.h w ∧ VR ρ av u ∧ (Instr.loadAt t v).run P w = .ok u w := by
  cases hx with
  | ptr b g o h0 hh ho =>
    obtain ⟨d, hu, h⟩ := undT h
    rcases bif2 h with ⟨hd, h⟩ | ⟨hd, h⟩
    · obtain ⟨i, hi, h⟩ := sizeT h
      obtain ⟨l, cs, σ', e, hS', h1, hl, hlen, _, hrun⟩ := loadRow_ok (P := P) hS hG hh ho h
      have hl' : LR ρ l cs.toArray.toList := by simpa using hl
      refine ⟨_, _, _, h1, hS', by rw [e]; exact hG, VR.agg l cs.toArray hl'.arr.1 hl'.arr.2, ?_⟩
      simp only [Instr.loadAt, Instr.sureAddr, loadVar, Sem.run_bind, Sem.run_pure, Result.andThen_ok, isAgg_run hu, hd, if_true, sizeOf_run hi, hrun]
    · obtain ⟨y, σ1, hy, e1, hS1, h⟩ := rd_ok hS h
      cases y with
      | cells c gen lo hi fl fh ro ty =>
        obtain ⟨hg, h⟩ := bifT h
        obtain ⟨z, hz, h⟩ := getT h
        cases z with
        | mk tag a =>
          obtain ⟨ht, h⟩ := bifT h
          obtain ⟨_, v, hv, hr⟩ := cell_of hG hy hh (bleT hg) hz (bleT ht)
          refine ⟨_, _, _, h, hS1, by rw [e1]; exact hG, hr, ?_⟩
          simp only [Instr.loadAt, Instr.sureAddr, loadVar, Sem.run_bind, Sem.run_pure, Result.andThen_ok, isAgg_run hu, hd, Bool.false_eq_true, if_false, run_load, hv]
      | _ => exact (nofail h).elim
  | cptr l blk off arr ty hf hb r =>
    obtain ⟨⟨fr, hw⟩, _⟩ := hG.frz _ _ _ hf
    obtain ⟨d, hu, h⟩ := undT h
    rcases bif2 h with ⟨hd, h⟩ | ⟨hd, h⟩
    · obtain ⟨i, hi, h⟩ := sizeT h
      have h := forceAT h
      obtain ⟨hn, h⟩ := bifT h
      have hn := beqT hn
      have hle : i.size ≤ l.length := by rw [List.length_take] at hn; omega
      have hcs : ((arr.toList.drop off).take i.size).length = i.size := by simp; omega
      have hget : ∀ (j : Nat) (v : Value), ((arr.toList.drop off).take i.size)[j]? = some v → j < i.size ∧ arr[off + j]? = some v := fun j v hv => by
        have hj : j < i.size := by
          rcases Nat.lt_or_ge j i.size with h' | h'
          · exact h'
          · rw [List.getElem?_eq_none (by omega)] at hv; cases hv
        refine ⟨hj, ?_⟩
        rw [List.getElem?_take_of_lt hj, List.getElem?_drop] at hv
        simpa using hv
      have hl : LR ρ (l.take i.size) ((arr.toList.drop off).take i.size) := by
        refine ⟨by rw [hcs, hn], fun j a v ha hv => ?_⟩
        obtain ⟨hj, hv⟩ := hget j v hv
        rw [List.getElem?_take_of_lt hj] at ha
        exact r j a v ha hv
      have hrun := run_loadCells_list (P := P) w ⟨blk, off, none⟩ ((arr.toList.drop off).take i.size) (fun j v hv => by
        obtain ⟨_, hv⟩ := hget j v hv
        unfold Addr.add
        split
        · rename_i e; subst e; simp [World.cell?, hw]; simpa using hv
        · simp [World.cell?, hw]; exact hv)
      rw [hcs] at hrun
      have hl' : LR ρ (l.take i.size) ((arr.toList.drop off).take i.size).toArray.toList := by simpa using hl
      refine ⟨_, _, _, h, hS, hG, VR.agg _ ((arr.toList.drop off).take i.size).toArray hl'.arr.1 hl'.arr.2, ?_⟩
      simp only [Instr.loadAt, Instr.sureAddr, loadVar, Sem.run_bind, Sem.run_pure, Result.andThen_ok, isAgg_run hu, hd, if_true, sizeOf_run hi, hrun]
    · obtain ⟨a, ha, h⟩ := oelT h
      have hlt : 0 < l.length := by
        rcases Nat.lt_or_ge 0 l.length with h' | h'
        · exact h'
        · rw [List.getElem?_eq_none h'] at ha; cases ha
      have hv : arr[off]? = some arr[off] := Array.getElem?_eq_getElem (by omega)
      refine ⟨_, _, _, h, hS, hG, r 0 a _ ha (show arr[off + 0]? = some arr[off] by rw [Nat.add_zero]; exact hv), ?_⟩
      simp only [Instr.loadAt, Instr.sureAddr, loadVar, Sem.run_bind, Sem.run_pure, Result.andThen_ok, isAgg_run hu, hd, Bool.false_eq_true, if_false, run_load]
      simp [World.cell?, hw, hv]
  | gptr b g i o es hm hh hs =>
    obtain ⟨q, σ1, hq, e1, hS1, h⟩ := rd_ok hS h
    have hG1 : Good w0 ρ σ1.h w := by rw [e1]; exact hG
    cases q with
    | grow c gen ty =>
      obtain ⟨k1, z1⟩ := bifT h
      obtain ⟨k2, z2⟩ := bifT z1
      obtain ⟨hlt, z3⟩ := req_ok z2
      clear h z1 z2
      have k1 := beqT k1
      have k2 := beqT k2
      subst k1; subst k2
      have h := z3
      clear z3
      rcases hG.blk _ _ hq with h0 | ⟨hm', q1, q2, q3, arr, fr, q4, q5, q6, q7, q8⟩
      · omega
      rw [hh] at q1; injection q1 with q1; subst q1
      have hcell := q8 i hlt
      have hget : ∀ (j : Nat) (a : AV), (c.row i)[j]? = some a → ∃ u, w.cell? ⟨hm.blk, i * c.es + j, none⟩ = some u ∧ VR ρ a u := fun j a ha => by
        obtain ⟨u, u1, u2⟩ := hcell j a ha
        exact ⟨u, by simp [World.cell?, q4, u1], u2⟩
      obtain ⟨d, hu, h⟩ := undT h
      rcases bif2 h with ⟨hd, h⟩ | ⟨hd, h⟩
      · obtain ⟨ii, hi, h⟩ := sizeT h
        have h := forceAT h
        obtain ⟨hn, h⟩ := bifT h
        have hn := beqT hn
        let cs : List Value := (List.range ii.size).map fun j => (w.cell? ⟨hm.blk, i * c.es + o + j, none⟩).getD undef
        have hcs : cs.length = ii.size := by simp [cs]
        have hat : ∀ j, j < ii.size → ∃ a, (((c.row i).drop o).take ii.size)[j]? = some a ∧ (c.row i)[o + j]? = some a := fun j hj => by
          have hj' : j < (((c.row i).drop o).take ii.size).length := by omega
          refine ⟨(((c.row i).drop o).take ii.size)[j], List.getElem?_eq_getElem hj', ?_⟩
          have := List.getElem?_eq_getElem hj'
          rw [List.getElem?_take_of_lt hj, List.getElem?_drop] at this
          exact this
        have hl : LR ρ (((c.row i).drop o).take ii.size) cs := by
          refine ⟨by rw [hcs, hn], fun j a v ha hv => ?_⟩
          have hj : j < ii.size := by
            rcases Nat.lt_or_ge j ii.size with h' | h'
            · exact h'
            · rw [List.getElem?_eq_none (by omega)] at hv; cases hv
          obtain ⟨a', ha', hf⟩ := hat j hj
          rw [ha] at ha'; injection ha' with ha'; subst ha'
          obtain ⟨u, u1, u2⟩ := hget _ _ hf
          have e2 : i * c.es + (o + j) = i * c.es + o + j := by omega
          rw [e2] at u1
          simp [cs, hj, u1] at hv
          rw [← hv]; exact u2
        have hrun := run_loadCells_list (P := P) w ⟨hm.blk, i * c.es + o, none⟩ cs (fun j v hv => by
          have hj : j < ii.size := by
            rcases Nat.lt_or_ge j ii.size with h' | h'
            · exact h'
            · rw [List.getElem?_eq_none (by omega)] at hv; cases hv
          obtain ⟨a', ha', hf⟩ := hat j hj
          obtain ⟨u, u1, u2⟩ := hget _ _ hf
          have e2 : i * c.es + (o + j) = i * c.es + o + j := by omega
          rw [e2] at u1
          simp [cs, hj, u1] at hv
          subst hv
          unfold Addr.add
          split
          · rename_i e; subst e; simpa using u1
          · exact u1)
        rw [hcs] at hrun
        have hl' : LR ρ (((c.row i).drop o).take ii.size) cs.toArray.toList := by simpa using hl
        refine ⟨_, _, _, h, hS1, hG1, VR.agg _ cs.toArray hl'.arr.1 hl'.arr.2, ?_⟩
        simp only [Instr.loadAt, Instr.sureAddr, loadVar, Sem.run_bind, Sem.run_pure, Result.andThen_ok, isAgg_run hu, hd, if_true, sizeOf_run hi, hrun]
      · obtain ⟨a, ha, h⟩ := oelT h
        obtain ⟨u, u1, u2⟩ := hget o a ha
        refine ⟨_, _, _, h, hS1, hG1, u2, ?_⟩
        simp only [Instr.loadAt, Instr.sureAddr, loadVar, Sem.run_bind, Sem.run_pure, Result.andThen_ok, isAgg_run hu, hd, Bool.false_eq_true, if_false, run_load, u1]
    | _ => exact (nofail h).elim
  | _ => exact (nofail h).elim
theorem load_ok {t : TypeId} {x : AV} {v : Value} (hS : SI σ) (hG : Good w0 ρ σ.h w) (hx : VR ρ x v) (h : run (loadK P t x k) σ K = true) : Res P w0 ρ w k K (Instr.loadAt t v) := by
  obtain ⟨av, σ', u, h1, h2, h3, h4, h5⟩ := load_okP (P := P) hS hG hx h
  exact .plain h1 h2 h3 h4 h5
end
end Go.Sym
namespace Go.Sym
open Go.RowKit (Below)
set_option linter.unusedVariables false
def Wk (a r : AV) : Prop := ∀ (ρ : Rho) (v : Value), VR ρ a v → VR ρ r v
theorem Wk.refl (a : AV) : Wk a a := fun _ _ h => h
theorem LR.one {ρ : Rho} {a b : AV} {vs : List Value} (h : LR ρ [a] vs) (hw : ∀ v, VR ρ a v → VR ρ b v) : LR ρ [b] vs := by
  obtain ⟨v, vs', rfl, hv, h'⟩ := h.cons_inv
  have := h'.nil_inv
  subst this
  exact LR.cons (hw v hv) (LR.nil ρ)
theorem LR.split {ρ : Rho} {l m : List AV} {vs : List Value} (h : LR ρ (l ++ m) vs) : ∃ v1 v2, vs = v1 ++ v2 ∧ LR ρ l v1 ∧ LR ρ m v2 := by
  have hl : vs.length = l.length + m.length := by simpa using h.1
  refine ⟨vs.take l.length, vs.drop l.length, (List.take_append_drop _ _).symm, ⟨by simp; omega, fun i a v ha hv => ?_⟩, ⟨by simp; omega, fun i a v ha hv => ?_⟩⟩
  · have hi : i < l.length := by
      rcases Nat.lt_or_ge i l.length with h' | h'
      · exact h'
      · rw [List.getElem?_eq_none h'] at ha; cases ha
    rw [List.getElem?_take_of_lt hi] at hv
    exact h.2 i a v (by rw [List.getElem?_append_left hi]; exact ha) hv
  · rw [List.getElem?_drop] at hv
    exact h.2 (l.length + i) a v (by rw [List.getElem?_append_right (by omega)]; simpa using ha) hv
theorem pI_eq {p : Prop} : pI p = 1 ↔ p := by
  unfold pI
  by_cases h : p <;> simp [h]
theorem pullC_ok {x : Sc} {cs : List AV} {k : G → List AV → Option (List G × List AV)} {q : List G × List AV} (h : pullC x cs none k = some q) :
    ∃ g a r, cs = a :: r ∧ scW x = 1 ∧ k g r = some q ∧ ∀ (ρ : Rho) (vs : List Value), LR ρ [a] vs → LR ρ (scCells x g) vs := by
  cases cs with
  | nil => cases h
  | cons a r =>
    unfold pullC at h
    cases x with
    | i j =>
      simp only at h
      cases hn : numS a with
      | none => rw [hn] at h; cases h
      | some y =>
        obtain ⟨j', n⟩ := y
        rw [hn] at h
        simp only [bif'_eq] at h
        split at h
        · rename_i e
          have e := of_decide_eq_true e
          subst e
          exact ⟨_, a, r, rfl, rfl, h, fun ρ vs hl => hl.one fun v hv => by rw [numS_inv hv hn]; exact .sI _ _⟩
        · cases h
    | b =>
      simp only at h
      cases hn : propS a with
      | none => rw [hn] at h; cases h
      | some p =>
        rw [hn] at h
        exact ⟨_, a, r, rfl, rfl, h, fun ρ vs hl => hl.one fun v hv => by
          obtain ⟨b, e, hb⟩ := propS_inv hv hn
          rw [e]; exact .sB _ b (by rw [hb]; exact pI_eq.symm)⟩
    | s =>
      simp only at h
      cases hn : strS a with
      | none => rw [hn] at h; cases h
      | some p =>
        rw [hn] at h
        exact ⟨_, a, r, rfl, rfl, h, fun ρ vs hl => hl.one fun v hv => by
          obtain ⟨b, e, hb⟩ := strS_inv hv hn
          rw [e, hb]; exact .sS b⟩
    | o =>
      simp only [bif'_eq] at h
      split at h
      · rename_i e
        exact ⟨_, a, r, rfl, rfl, h, fun ρ vs hl => hl.one fun v hv => .any1 v (oneA_ok hv e)⟩
      · cases h
    | sl m =>
      simp only at h
      split at h
      · exact ⟨_, _, r, rfl, rfl, h, fun ρ vs hl => hl.one fun v hv => by cases hv; exact .cvnil _ rfl⟩
      · rename_i m' l
        simp only [bif'_eq] at h
        split at h
        · rename_i e
          have e := Nat.eq_of_beq_eq_true e
          subst e
          exact ⟨_, _, r, rfl, rfl, h, fun ρ vs hl => hl⟩
        · cases h
      · cases h
    | bs =>
      simp only at h
      split at h
      · exact ⟨_, _, r, rfl, rfl, h, fun ρ vs hl => hl.one fun v hv => by cases hv; exact .cvnil _ rfl⟩
      · exact ⟨_, _, r, rfl, rfl, h, fun ρ vs hl => hl⟩
      · cases h
    | h n => cases h
theorem pullRow_ok : ∀ (xs : List Sc) (cs : List AV) (gs : List G) (r : List AV), pullRow xs cs = some (gs, r) →
    ∃ c1, cs = c1 ++ r ∧ c1.length = scsW xs ∧ gs.length = xs.length ∧ ∀ (g : G) (j : Nat), (∀ i, i < xs.length → kid g (j + i) = gAt gs i) → ∀ (ρ : Rho) (vs : List Value), LR ρ c1 vs → LR ρ (dcells xs g j) vs := by
  intro xs
  induction xs with
  | nil =>
    intro cs gs r h
    injection h with h
    injection h with h1 h2
    subst h1; subst h2
    exact ⟨[], rfl, rfl, rfl, fun g j _ ρ vs hl => hl⟩
  | cons x xs ih =>
    intro cs gs r h
    unfold pullRow at h
    obtain ⟨g0, a, r0, rfl, hw, hk, hc⟩ := pullC_ok h
    split at hk
    · rename_i gs' r' hp
      injection hk with hk
      injection hk with h1 h2
      subst h1; subst h2
      obtain ⟨c1, rfl, e2, e4, e3⟩ := ih _ _ _ hp
      refine ⟨a :: c1, rfl, by simp [scsW, hw, e2]; omega, by simp [e4], fun g j hg ρ vs hl => ?_⟩
      obtain ⟨v, vs', rfl, hv, hl'⟩ := hl.cons_inv
      have h0 := hg 0 (by simp)
      have hcell := hc ρ [v] (LR.cons hv (LR.nil ρ))
      have : kid g j = g0 := h0
      show LR ρ (scCells x (kid g j) ++ dcells xs g (j + 1)) ([v] ++ vs')
      rw [this]
      refine hcell.append (e3 g (j + 1) (fun i hi => ?_) ρ vs' hl')
      have := hg (i + 1) (by simp; omega)
      rw [show j + 1 + i = j + (i + 1) by omega, this]
      rfl
    · cases hk
theorem pullMany_ok {xs : List Sc} : ∀ (n : Nat) (cs : List AV) (gs : List G) (r : List AV), pullMany xs n cs = some (gs, r) →
    ∃ c1, cs = c1 ++ r ∧ c1.length = n * scsW xs ∧ gs.length = n ∧ ∀ i, i < n → ∀ (ρ : Rho) (vs : List Value), LR ρ ((c1.drop (i * scsW xs)).take (scsW xs)) vs → LR ρ (dcells xs (gAt gs i) 0) vs := by
  intro n
  induction n with
  | zero =>
    intro cs gs r h
    injection h with h
    injection h with h1 h2
    subst h1; subst h2
    exact ⟨[], rfl, by simp, rfl, fun i hi => by omega⟩
  | succ n ih =>
    intro cs gs r h
    unfold pullMany at h
    split at h
    · rename_i g1 r1 h1
      split at h
      · rename_i gs2 r2 h2
        injection h with h
        injection h with q1 q2
        subst q1; subst q2
        obtain ⟨c1, rfl, e1, e0, e2⟩ := pullRow_ok _ _ _ _ h1
        obtain ⟨c2, rfl, f1, f2, f3⟩ := ih _ _ _ h2
        refine ⟨c1 ++ c2, by simp, by simp [e1, f1, Nat.succ_mul]; omega, by simp [f2], fun i hi ρ vs hl => ?_⟩
        cases i with
        | zero =>
          rw [Nat.zero_mul, List.drop_zero, List.take_append_of_le_length (by omega), List.take_of_length_le (by omega)] at hl
          exact e2 (.node g1) 0 (fun i hi => by simp [kid, gL, gAt]) ρ vs hl
        | succ i =>
          have : (c1 ++ c2).drop ((i + 1) * scsW xs) = c2.drop (i * scsW xs) := by
            rw [List.drop_append, List.drop_of_length_le (by rw [Nat.succ_mul]; omega)]
            simp only [List.nil_append]
            congr 1
            rw [e1, Nat.succ_mul]; omega
          rw [this] at hl
          have := f3 i (by omega) ρ vs hl
          simpa [gAt] using this
      · cases h
    · cases h
theorem pullB_ok : ∀ (cs : List AV) (ns : List Int), pullB cs = some ns → ns.length = cs.length ∧ ∀ (i : Nat) (a : AV), cs[i]? = some a → ∃ n, ns[i]? = some n ∧ numS a = some (.u8, n) := by
  intro cs
  induction cs with
  | nil => intro ns h; injection h with h; subst h; exact ⟨rfl, by simp⟩
  | cons a cs ih =>
    intro ns h
    unfold pullB at h
    split at h
    · rename_i n hn
      split at h
      · rename_i l hl
        injection h with h
        subst h
        obtain ⟨h1, h2⟩ := ih _ hl
        refine ⟨by simp [h1], fun i b hb => ?_⟩
        cases i with
        | zero => simp at hb; subst hb; exact ⟨n, rfl, hn⟩
        | succ i => simp at hb; obtain ⟨m, q1, q2⟩ := h2 i b hb; exact ⟨m, by simpa using q1, q2⟩
      · cases h
    · cases h
theorem toNats_get : ∀ (ns : List Int) (i : Nat) (n : Int), nonneg ns → ns[i]? = some n → (toNats ns)[i]? = some n.toNat ∧ 0 ≤ n := by
  intro ns
  induction ns with
  | nil => intro i n _ h; simp at h
  | cons x ns ih =>
    intro i n hn h
    cases i with
    | zero => simp at h; subst h; exact ⟨rfl, hn.1⟩
    | succ i => simp at h; exact ih i n hn.2 h
theorem toNats_len : ∀ (ns : List Int), (toNats ns).length = ns.length := by
  intro ns
  induction ns with
  | nil => rfl
  | cons x ns ih => simp [toNats, ih]
theorem app_ok {c c' : Ct} {new : List AV} {n : Nat} {p : Prop} (h : c.app new n = some (c', p)) (hp : p) (hn : new.length = n * c.es) :
    c'.len = c.len + n ∧ c'.es = c.es ∧ (∀ i, i < c.len → c'.row i = c.row i) ∧ ∀ i, c.len ≤ i → i < c.len + n → ∀ (ρ : Rho) (vs : List Value), LR ρ ((new.drop ((i - c.len) * c.es)).take c.es) vs → LR ρ (c'.row i) vs := by
  cases c with
  | rows m l =>
    unfold Ct.app at h
    simp only at h
    split at h
    · rename_i gs hg
      injection h with h
      injection h with h1 h2
      subst h1
      obtain ⟨c1, e1, e2, e3, e4⟩ := pullMany_ok _ _ _ _ hg
      have e1 : new = c1 := by simpa using e1
      subst e1
      refine ⟨by simp [Ct.len, e3], rfl, fun i hi => ?_, fun i h1 h2 ρ vs hl => ?_⟩
      · have hi : i < l.length := hi
        simp only [Ct.row, gAt, List.getD_eq_getElem?_getD, List.getElem?_append_left hi]
      · have h1 : l.length ≤ i := h1
        have h2 : i < l.length + n := h2
        have := e4 (i - l.length) (by omega) ρ vs hl
        have e5 : gAt (l ++ gs) i = gAt gs (i - l.length) := by
          simp only [gAt, List.getD_eq_getElem?_getD, List.getElem?_append_right h1]
        simp only [Ct.row, e5]
        exact this
    · cases h
  | bytes s =>
    unfold Ct.app at h
    simp only at h
    split at h
    · rename_i ns hg
      rw [bif'_eq] at h
      split at h
      · rename_i hnl
        have hnl := Nat.eq_of_beq_eq_true hnl
        injection h with h
        injection h with h1 h2
        subst h1; subst h2
        obtain ⟨e1, e2⟩ := pullB_ok _ _ hg
        refine ⟨by simp [Ct.len, toNats_len, hnl], rfl, fun i hi => ?_, fun i h1 h2 ρ vs hl => ?_⟩
        · have hi : i < s.length := hi
          simp only [Ct.row, List.getD_eq_getElem?_getD, List.getElem?_append_left hi]
        · have h1 : s.length ≤ i := h1
          have h2 : i < s.length + n := h2
          have hlt : i - s.length < new.length := by omega
          have hd : (new.drop ((i - s.length) * 1)).take 1 = [new[i - s.length]] := by
            rw [Nat.mul_one, List.drop_eq_getElem_cons hlt]; rfl
          have hl : LR ρ ((new.drop ((i - s.length) * 1)).take 1) vs := hl
          rw [hd] at hl
          refine hl.one fun v hv => ?_
          obtain ⟨n', q1, q2⟩ := e2 (i - s.length) new[i - s.length] (List.getElem?_eq_getElem hlt)
          obtain ⟨q3, q4⟩ := toNats_get _ _ _ hp q1
          rw [numS_inv hv q2]
          have e5 : (s ++ toNats ns).getD i 0 = n'.toNat := by
            rw [List.getD_eq_getElem?_getD, List.getElem?_append_right h1, q3]; rfl
          rw [e5, show ((n'.toNat : Nat) : Int) = n' by omega]
          exact .sI _ _
      · cases h
    · cases h
theorem upd_ok {c c' : Ct} {new : List AV} {i o : Nat} {p : Prop} (h : c.upd i o new = some (c', p)) (hp : p) (hi : i < c.len) (ho : o + new.length ≤ c.es) :
    c'.len = c.len ∧ c'.es = c.es ∧ (∀ i', i' ≠ i → c'.row i' = c.row i') ∧ ∀ (ρ : Rho) (vs : List Value), LR ρ ((c.row i).take o ++ new ++ (c.row i).drop (o + new.length)) vs → LR ρ (c'.row i) vs := by
  cases c with
  | rows m l =>
    unfold Ct.upd at h
    simp only at h
    split at h
    · rename_i gs hg
      injection h with h
      injection h with h1 h2
      subst h1
      obtain ⟨c1, e1, e2, e0, e3⟩ := pullRow_ok _ _ _ _ hg
      have e1 : ((Ct.rows m l).row i).take o ++ new ++ ((Ct.rows m l).row i).drop (o + new.length) = c1 := by simpa using e1
      have hi : i < l.length := hi
      refine ⟨by simp [Ct.len], rfl, fun i' hne => ?_, fun ρ vs hl => ?_⟩
      · simp only [Ct.row, gAt, List.getD_eq_getElem?_getD, List.getElem?_set_ne (Ne.symm hne)]
      · rw [e1] at hl
        have e4 : gAt (l.set i (.node gs)) i = .node gs := by
          simp only [gAt, List.getD_eq_getElem?_getD, List.getElem?_set_self hi, Option.getD_some]
        simp only [Ct.row, e4]
        exact e3 (.node gs) 0 (fun i hi => by simp [kid, gL, gAt]) ρ vs hl
    · cases h
  | bytes s =>
    unfold Ct.upd at h
    simp only at h
    split at h
    · rename_i a
      split at h
      · rename_i n hn
        injection h with h
        injection h with h1 h2
        subst h1; subst h2
        have hi : i < s.length := hi
        refine ⟨by simp [Ct.len], rfl, fun i' hne => ?_, fun ρ vs hl => ?_⟩
        · simp only [Ct.row, List.getD_eq_getElem?_getD, List.getElem?_set_ne (Ne.symm hne)]
        · have hl : LR ρ [a] vs := hl
          have e4 : (s.set i n.toNat).getD i 0 = n.toNat := by
            rw [List.getD_eq_getElem?_getD, List.getElem?_set_self hi]; rfl
          refine hl.one fun v hv => ?_
          rw [e4, numS_inv hv hn, show ((n.toNat : Nat) : Int) = n by omega]
          exact .sI _ _
      · cases h
    · cases h
theorem LR.ones {ρ : Rho} {l : List AV} {vs : List Value} (hl : LR ρ l vs) (h : ∀ a ∈ l, oneA a = true) : ∀ v ∈ vs, v.oneCell' = true := by
  intro v hv
  obtain ⟨j, hj, e⟩ := List.mem_iff_getElem.1 hv
  have hj' : j < l.length := by have := hl.1; omega
  have := hl.2 j l[j] v (List.getElem?_eq_getElem hj') (by rw [List.getElem?_eq_getElem hj, e])
  exact oneA_ok this (h _ (List.getElem_mem _))
theorem rows_to {ρ : Rho} {l l' : List AV} {A : Nat → Option Value} (h : ∀ j a, l[j]? = some a → ∃ u, A j = some u ∧ VR ρ a u) (hl : ∀ vs, LR ρ l vs → LR ρ l' vs) : ∀ j a, l'[j]? = some a → ∃ u, A j = some u ∧ VR ρ a u := by
  let vs : List Value := (List.range l.length).map fun j => (A j).getD undef
  have hvs : LR ρ l vs := by
    refine ⟨by simp [vs], fun i a v ha hv => ?_⟩
    obtain ⟨u, h1, h2⟩ := h i a ha
    have hi : i < l.length := by
      rcases Nat.lt_or_ge i l.length with h' | h'
      · exact h'
      · rw [List.getElem?_eq_none h'] at ha; cases ha
    simp [vs, hi, h1] at hv
    rw [← hv]; exact h2
  have h' := hl vs hvs
  intro j a ha
  obtain ⟨v, hv, hr⟩ := h'.get ha
  have hj : j < l.length := by
    have := h'.1
    rcases Nat.lt_or_ge j vs.length with h'' | h''
    · simpa [vs] using h''
    · rw [List.getElem?_eq_none h''] at hv; cases hv
  obtain ⟨u, h1, h2⟩ := h j l[j] (List.getElem?_eq_getElem hj)
  simp [vs, hj, h1] at hv
  exact ⟨u, h1, by rw [hv]; exact hr⟩
end Go.Sym
