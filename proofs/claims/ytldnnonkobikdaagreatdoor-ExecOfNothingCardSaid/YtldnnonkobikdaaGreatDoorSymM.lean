/- SYM, part M: stores; SYM, part N: literals; SYM, part O: places, parts, slices, conversions; SYM, part P: slices of slices; SYM, part Q: conversions. -/
import Derived.Test.YtldnnonkobikdaaGreatDoorSymL
import Derived.Test.YtldnnonkobikdaaGreatDoorSymR2
import Derived.Laws.IdiomStrings
import Derived.Laws.BytesArg
namespace Go.Sym
open Go.RowKit (Below)
set_option linter.unusedVariables false
section
variable {P : Program} {w0 : World} {ρ : Rho} {w : World} {σ : St} {K : Fin} {k : AV → Tr}
theorem heap_setCell (w : World) (a : Addr) (v : Value) (i : Nat) : (w.setCell a v).heap[i]? = if a.block = i then (w.heap[i]?).map (fun
      | .cells c elem fr => .cells (if a.spot.isSome then c else c.setIfInBounds a.off v) elem fr
      | o => o) else w.heap[i]? := by
  simp only [World.setCell, Array.getElem?_modify]
  split <;> rfl
theorem Good.store {H : T ABlk} (hG : Good w0 ρ H w) {b o gen lo hi fl fh tag ty : Nat} {c : T Cell} {h : Home} {a0 a : AV} {v : Value} (hb : H.get b = some (.cells c gen lo hi fl fh false ty)) (h64 : b + 1 < 2 ^ 64)
    (hh : ρ.at_ b gen = some h) (hc : c.get o = some (.mk tag a0)) (ht : tag ≤ gen) (hv : VR ρ a v) (hone : oneA a = true) (hfz : ¬ (fl ≤ o ∧ o < fh)) :
    h.shift ≤ o ∧ (Go.store ⟨h.blk, o - h.shift, none⟩ v).run P w = .ok () (w.setCell ⟨h.blk, o - h.shift, none⟩ v) ∧
    Good w0 ρ (H.set b (.cells (c.set o (.mk gen a)) gen lo hi fl fh false ty)) (w.setCell ⟨h.blk, o - h.shift, none⟩ v) := by
  have hB := hG.blk _ _ hb
  obtain ⟨hm, q1, q2, _, arr, fr, q3, q4, q5, q6⟩ := hB.2 gen (Nat.le_refl _)
  rw [hh] at q1; injection q1 with q1; subst q1
  have q2 := q2 rfl
  obtain ⟨q5a, q5b⟩ := q5 rfl
  obtain ⟨hsh, v0, r1, _⟩ := q6 o tag a0 hc ht
  have hlt : o - h.shift < arr.size := by
    rcases Nat.lt_or_ge (o - h.shift) arr.size with h' | h'
    · exact h'
    · rw [Array.getElem?_eq_none h'] at r1; cases r1
  have hcell : w.cell? ⟨h.blk, o - h.shift, none⟩ = some v0 := by simp [World.cell?, q3, r1]
  have hfrz : w.frozen? ⟨h.blk, o - h.shift, none⟩ = false := by
    simp only [World.frozen?, q3]
    obtain ⟨f1, f2⟩ := fr
    cases hx : (decide (f1 ≤ o - h.shift) && decide (o - h.shift < f2)) with
    | false => rfl
    | true =>
      simp only [Bool.and_eq_true, decide_eq_true_eq] at hx
      have := q5b (o - h.shift) (.inl (by omega)) hx.1 hx.2
      exact absurd (by omega) hfz
  refine ⟨hsh, ?_, ?_⟩
  · rw [run_store P w _ v .plain (oneA_ok hv hone), hcell]
    simp [hfrz]
  · refine hG.turn (hrs := ⟨b, gen, h, hh, rfl⟩) hb h64 h.blk q2 (Kept.setCell (p := ⟨h.blk, o - h.shift, none⟩) q2 v) (by simp [World.setCell]) (fun k hk _ => ?_) (fun b' g' h' hh' e' => (hG.inj _ _ _ _ _ _ hh' hh e').1) ⟨fun o' x hx => ?_, fun g' hg' => ?_⟩
    · rw [heap_setCell, if_neg (fun e => hk e.symm)]
    · by_cases eo : o' = o
      · subst eo
        have := T.get_set_some _ _ hx
        rw [this]
        exact ⟨(hB.1 _ _ hc).1, (hB.1 _ _ hc).2.1, Nat.le_refl _⟩
      · rw [T.get_set_ne _ eo] at hx; exact hB.1 _ _ hx
    · obtain ⟨hm', s1, s2, s2', arr', fr', s3, s4, s5, s6⟩ := hB.2 g' hg'
      by_cases eb : hm'.blk = h.blk
      · obtain ⟨_, ehm⟩ := hG.inj _ _ _ _ _ _ s1 hh eb
        subst ehm
        rw [q3] at s3; injection s3 with s3; injection s3 with s3a s3b s3c
        subst s3a; subst s3c
        refine ⟨_, s1, s2, s2', arr.setIfInBounds (o - hm'.shift) v, fr, ?_, by simpa using s4, s5, fun o' tag' a' ho' ht' => ?_⟩
        · rw [heap_setCell, if_pos rfl, q3]; rfl
        · by_cases eo : o' = o
          · subst eo
            have := T.get_set_some _ _ ho'
            injection this with e1 e2
            subst e2
            exact ⟨hsh, v, by rw [Array.getElem?_setIfInBounds]; simp [hlt], hv⟩
          · rw [T.get_set_ne _ eo] at ho'
            obtain ⟨u1, v', u2, u3⟩ := s6 o' tag' a' ho' ht'
            exact ⟨u1, v', by rw [Array.getElem?_setIfInBounds, if_neg (by omega)]; exact u2, u3⟩
      · refine ⟨hm', s1, s2, s2', arr', fr', ?_, s4, s5, fun o' tag' a' ho' ht' => ?_⟩
        · rw [heap_setCell, if_neg (fun e => eb e.symm)]; exact s3
        · by_cases eo : o' = o
          · subst eo
            have := T.get_set_some _ _ ho'
            injection this with e1 e2
            have : g' = gen := by omega
            subst this
            rw [hh] at s1; injection s1 with s1; subst s1
            exact absurd rfl eb
          · rw [T.get_set_ne _ eo] at ho'
            exact s6 o' tag' a' ho' ht'
theorem stsT {b gen lo hi fl fh o0 ty : Nat} {h : Home} (h64 : b + 1 < 2 ^ 64) (hh : ρ.at_ b gen = some h) (ho0 : h.shift ≤ o0) : ∀ (l : List AV) (vs : List Value) (i : Nat) (c : T Cell) (w : World) (H : T ABlk) (k : T Cell → Tr),
    Good w0 ρ H w → H.get b = some (.cells c gen lo hi fl fh false ty) → LR ρ l vs → run (stsK gen fl fh l (o0 + i) c k) σ K = true →
    ∃ c' w', run (k c') σ K = true ∧ (storeCells ⟨h.blk, o0 - h.shift, none⟩ vs i).run P w = .ok () w' ∧ Good w0 ρ (H.set b (.cells c' gen lo hi fl fh false ty)) w' := by
  intro l
  induction l with
  | nil =>
    intro vs i c w H k hG hb hl hr
    rw [hl.nil_inv]
    exact ⟨c, w, hr, rfl, hG.ext fun b' => by
      by_cases e : b' = b
      · subst e; rw [T.get_set_same _ _ _ h64, hb]
      · rw [T.get_set_ne _ e]⟩
  | cons a l ih =>
    intro vs i c w H k hG hb hl hr
    obtain ⟨v, vs', rfl, hv, hl'⟩ := hl.cons_inv
    have hr : run (bif' (oneA a) (bif' (bif' (Nat.ble fl (o0 + i)) (Nat.ble (Nat.succ (o0 + i)) fh) false) .fail (T.getK c (o0 + i) .fail fun x => match x with
      | .mk tag _ => bif' (Nat.ble tag gen) (T.setK c (o0 + i) (.mk gen a) fun c => fN (Nat.succ (o0 + i)) fun o => stsK gen fl fh l o c k) .fail)) .fail) σ K = true := hr
    obtain ⟨hone, hr⟩ := bifT hr
    obtain ⟨hfz, hr⟩ := bifF hr
    obtain ⟨x, hx, hr⟩ := getT hr
    cases x with
    | mk tag a0 =>
      obtain ⟨ht, hr⟩ := bifT hr
      rw [T.setK_eq] at hr
      have hr := fNT hr
      have hfz' : ¬ (fl ≤ o0 + i ∧ o0 + i < fh) := fun ⟨e1, e2⟩ => by
        rw [bif'_eq, if_pos (Nat.ble_eq.mpr e1)] at hfz
        rw [Nat.ble_eq.mpr e2] at hfz; cases hfz
      obtain ⟨_, s1, s2⟩ := hG.store (P := P) hb h64 hh hx (bleT ht) hv hone hfz'
      obtain ⟨c', w', r1, r2, r3⟩ := ih vs' (i + 1) (c.set (o0 + i) (.mk gen a)) _ _ k s2 (T.get_set_same _ _ _ h64) hl' hr
      refine ⟨c', w', r1, ?_, r3.ext fun b' => ?_⟩
      · have ea : (⟨h.blk, o0 - h.shift, none⟩ : Addr).add i = ⟨h.blk, o0 + i - h.shift, none⟩ := by
          unfold Addr.add
          split
          · rename_i e; subst e; simp
          · simp; omega
        simp only [storeCells, Sem.run_bind, ea, s1, Result.andThen_ok]
        exact r2
      · by_cases e : b' = b
        · subst e; rw [T.get_set_same _ _ _ h64, T.get_set_same _ _ _ h64]
        · rw [T.get_set_ne _ e, T.get_set_ne _ e, T.get_set_ne _ e]
theorem storeRow_ok {b g o : Nat} {h : Home} {l : List AV} {vs : List Value} {k : Tr} (hS : SI σ) (hG : Good w0 ρ σ.h w) (hh : ρ.at_ b g = some h) (ho : h.shift ≤ o) (hl : LR ρ l vs) (hr : run (storeRowK b g o l k) σ K = true) :
    ResU P w0 ρ w k K (storeCells ⟨h.blk, o - h.shift, none⟩ vs) := by
  have h64 := rd_small hS hr
  obtain ⟨x, σ1, hx, e1, hS1, hr⟩ := rd_ok hS hr
  cases x with
  | cells c gen lo hi fl fh ro ty =>
    obtain ⟨hro, hr⟩ := bifF hr
    subst hro
    obtain ⟨hg, hr⟩ := bifT hr
    have hg := beqT hg
    subst hg
    obtain ⟨c', w', r1, r2, r3⟩ := stsT (P := P) (o0 := o) h64 hh ho l vs 0 c w σ.h _ hG hx hl hr
    obtain ⟨x0, σ2, _, e2, hS2, _, r4⟩ := wr_ok hS1 r1
    exact ⟨σ2, w', r4, hS2, by rw [e2, e1]; exact r3, r2⟩
  | _ => exact (nofail hr).elim
theorem store_ok {t : TypeId} {x y : AV} {v u : Value} {k : Tr} (hS : SI σ) (hG : Good w0 ρ σ.h w) (hx : VR ρ x v) (hy : VR ρ y u) (hr : run (storeK P t x y k) σ K = true) : ResU P w0 ρ w k K (Instr.storeAt t v u) := by
  cases hx with
  | ptr b g o h hh ho =>
    obtain ⟨i, hi, hr⟩ := sizeT hr
    obtain ⟨l, hl, hr⟩ := cellsT hy hr
    obtain ⟨hlen, hr⟩ := bifT hr
    have hlen := beqT hlen
    obtain ⟨σ', w', r1, r2, r3, r4⟩ := storeRow_ok (P := P) hS hG hh ho hl hr
    refine ⟨σ', w', r1, r2, r3, ?_⟩
    have hsz : u.cells.size = i.size := by rw [← Array.length_toList, hl.1]; exact hlen
    simp only [Instr.storeAt, Instr.sureAddr, storeVar, Sem.run_bind, Sem.run_pure, Result.andThen_ok, sizeOf_run hi, hsz, ne_eq, not_true_eq_false, if_false]
    exact r4
  | gptr b g i o es hm hh hs =>
    obtain ⟨ii, hi, hr⟩ := sizeT hr
    obtain ⟨l, hl, hr⟩ := cellsT hy hr
    obtain ⟨hlen, hr⟩ := bifT hr
    have hlen := beqT hlen
    obtain ⟨hpos, hr⟩ := bifT hr
    have hpos := bleT hpos
    have h64 := rd_small hS hr
    obtain ⟨q, σ1, hq, e1, hS1, hr⟩ := rd_ok hS hr
    have hG1 : Good w0 ρ σ1.h w := by rw [e1]; exact hG
    cases q with
    | grow c gen ty =>
      obtain ⟨k1, z1⟩ := bifT hr
      obtain ⟨k2, z2⟩ := bifT z1
      obtain ⟨k3, z3⟩ := bifT z2
      obtain ⟨k4, z4⟩ := bifT z3
      clear hr z1 z2 z3
      have k1 := beqT k1
      have k2 := beqT k2
      have k3 := bleT k3
      have hone : ∀ a ∈ l, oneA a = true := fun a ha => List.all_eq_true.1 k4 a ha
      subst k1; subst k2
      cases hu : c.upd i o l with
      | none => rw [hu] at z4; exact (nofail z4).elim
      | some r =>
        obtain ⟨c', p⟩ := r
        rw [hu] at z4
        obtain ⟨⟨hin, hp⟩, z5⟩ := req_ok z4
        obtain ⟨x0, σ2, hx0, e2, hS2, _, z6⟩ := wr_ok hS1 z5
        clear z4 z5
        obtain ⟨u1, u2, u3, u4⟩ := upd_ok hu hp hin (by omega)
        have hq1 : σ1.h.get b = some (.grow c g ty) := by rw [e1]; exact hq
        rcases hG1.blk _ _ hq1 with h0 | ⟨hm', q1, q2, q3, arr, fr, q4, q5, q6, q7, q8⟩
        · omega
        rw [hh] at q1; injection q1 with q1; subst q1
        have hcl : u.cells.toList.length = l.length := hl.1
        have hrow : i * c.es + c.es ≤ c.len * c.es := by rw [← Nat.succ_mul]; exact Nat.mul_le_mul_right _ hin
        have hend : (i * c.es + o) + u.cells.toList.length ≤ arr.size := by rw [hcl]; omega
        obtain ⟨arr', s1, s2, s3, s4, s5, s6, s7⟩ := setCells_heap hm.blk u.cells.toList (i * c.es + o) w arr ty fr q4 hend
        have hst := run_storeCells_cells (P := P) hm.blk (i * c.es + o) u.cells.toList 0 w (fun j hj => by
            simp only [World.cell?, q4]
            simp only [Option.isSome_none, Bool.false_eq_true, if_false, Nat.add_zero]
            rw [Array.getElem?_eq_getElem (by omega)]; rfl) (fun j hj => by
            simp only [World.frozen?, q4, Nat.add_zero]
            cases hx : (decide (fr.1 ≤ i * c.es + o + j) && decide (i * c.es + o + j < fr.2)) with
            | false => rfl
            | true =>
              simp only [Bool.and_eq_true, decide_eq_true_eq] at hx
              exact (q7 _ (by omega) hx.1 hx.2).elim) (hl.ones hone)
        rw [Nat.add_zero] at hst
        have hG3 : Good w0 ρ (σ1.h.set b (.grow c' g ty)) (w.setCells hm.blk (i * c.es + o) u.cells.toList) := by
          refine hG1.turn (hrs := ⟨b, g, hm, hh, rfl⟩) hq1 h64 hm.blk q3 (Kept.of_set (s7 0 (Nat.zero_le _)) s5 q3) (by omega) (fun x hx _ => s5 x hx) (fun b' g' h' hh' e' => (hG.inj _ _ _ _ _ _ hh' hh e').1) ?_
          refine .inr ⟨hm, hh, q2, q3, arr', fr, s1, by omega, by rw [u1, u2]; exact q6, q7, fun i' hi' => ?_⟩
          rw [u1] at hi'
          rw [u2]
          by_cases e : i' = i
          · subst e
            refine rows_to (fun j a ha => ?_) (u4 ρ)
            have hrl := c.row_len i'
            have hj : j < c.es := by
              rcases Nat.lt_or_ge j c.es with h' | h'
              · exact h'
              · rw [List.getElem?_eq_none (by simp; omega)] at ha; cases ha
            by_cases hj1 : j < o
            · rw [List.append_assoc, List.getElem?_append_left (by simp; omega), List.getElem?_take_of_lt hj1] at ha
              obtain ⟨uu, v1, v2⟩ := q8 i' hin j a ha
              exact ⟨uu, by rw [s4 _ (.inl (by omega))]; exact v1, v2⟩
            · by_cases hj2 : j < o + l.length
              · rw [List.append_assoc, List.getElem?_append_right (by simp; omega), List.getElem?_append_left (by simp; omega)] at ha
                have ha : l[j - o]? = some a := by rw [← ha]; congr 1; simp; omega
                obtain ⟨uu, v1, v2⟩ := hl.get ha
                refine ⟨uu, ?_, v2⟩
                have hjl : j - o < u.cells.toList.length := by
                  rcases Nat.lt_or_ge (j - o) u.cells.toList.length with h' | h'
                  · exact h'
                  · rw [List.getElem?_eq_none h'] at v1; cases v1
                have := s3 (j - o) hjl
                rw [show i' * c.es + j = i' * c.es + o + (j - o) by omega, this]; exact v1
              · rw [List.getElem?_append_right (by simp; omega), List.getElem?_drop] at ha
                have ha : (c.row i')[j]? = some a := by rw [← ha]; congr 1; simp; omega
                obtain ⟨uu, v1, v2⟩ := q8 i' hin j a ha
                exact ⟨uu, by rw [s4 _ (.inr (by rw [hcl]; omega))]; exact v1, v2⟩
          · rw [u3 i' e]
            intro j a ha
            obtain ⟨uu, v1, v2⟩ := q8 i' hi' j a ha
            have hj : j < c.es := by
              have := c.row_len i'
              rcases Nat.lt_or_ge j c.es with h' | h'
              · exact h'
              · rw [List.getElem?_eq_none (by omega)] at ha; cases ha
            refine ⟨uu, ?_, v2⟩
            rw [s4 _ ?_]
            · exact v1
            · rw [hcl]
              rcases Nat.lt_or_gt_of_ne e with e | e
              · left
                have : i' * c.es + c.es ≤ i * c.es := by rw [← Nat.succ_mul]; exact Nat.mul_le_mul_right _ e
                omega
              · right
                have : i * c.es + c.es ≤ i' * c.es := by rw [← Nat.succ_mul]; exact Nat.mul_le_mul_right _ e
                omega
        refine ⟨σ2, _, z6, hS2, by rw [e2]; exact hG3, ?_⟩
        have hsz : u.cells.size = ii.size := by rw [← Array.length_toList, hl.1]; exact hlen
        simp only [Instr.storeAt, Instr.sureAddr, storeVar, Sem.run_bind, Sem.run_pure, Result.andThen_ok, sizeOf_run hi, hsz, ne_eq, not_true_eq_false, if_false]
        exact hst
    | _ => exact (nofail hr).elim
  | _ => exact (nofail hr).elim
end
end Go.Sym
namespace Go.Sym
open Go.RowKit (Below)
set_option linter.unusedVariables false
theorem foldl_set_get (off : Nat) : ∀ (l : List Value) (j : Nat) (cs : Array Value), off + j + l.length ≤ cs.size →
    ((l.zipIdx j).foldl (fun cs p => cs.setIfInBounds (off + p.2) p.1) cs).size = cs.size ∧
    ∀ x, ((l.zipIdx j).foldl (fun cs p => cs.setIfInBounds (off + p.2) p.1) cs)[x]? = if off + j ≤ x ∧ x < off + j + l.length then l[x - off - j]? else cs[x]? := by
  intro l
  induction l with
  | nil => intro j cs _; refine ⟨rfl, fun x => ?_⟩; simp; intro h1 h2; omega
  | cons a l ih =>
    intro j cs h
    simp only [List.length_cons] at h
    rw [List.zipIdx_cons, List.foldl_cons]
    obtain ⟨h1, h2⟩ := ih (j + 1) (cs.setIfInBounds (off + j) a) (by simp; omega)
    refine ⟨by rw [h1]; simp, fun x => ?_⟩
    rw [h2 x, Array.getElem?_setIfInBounds]
    simp only [List.length_cons]
    by_cases e : x = off + j
    · subst e
      rw [if_neg (by omega), if_pos rfl, if_pos (by omega), if_pos (by omega)]
      simp
    · by_cases e2 : off + (j + 1) ≤ x ∧ x < off + (j + 1) + l.length
      · rw [if_pos e2, if_pos (by omega), show x - off - j = (x - off - (j + 1)) + 1 by omega]
        simp
      · rw [if_neg e2, if_neg (by omega), if_neg (by omega)]
section
variable {P : Program} {w0 : World} {ρ : Rho} {w : World} {σ : St} {K : Fin} {k : AV → Tr}
theorem fillOne_LR {l cs : List AV} {arr : Array Value} {vs : Array Value} {off : Nat} (hl : LR ρ l arr.toList) (hc : LR ρ cs vs.toList) (hlen : off + cs.length ≤ l.length) :
    LR ρ (fillOne l off cs) (vs.zipIdx.foldl (fun cs (c, j) => cs.setIfInBounds (off + j) c) arr).toList := by
  have hn : vs.size = cs.length := by have := hc.1; simpa using this
  have hm : arr.size = l.length := by have := hl.1; simpa using this
  have e : vs.zipIdx.foldl (fun cs (c, j) => cs.setIfInBounds (off + j) c) arr = (vs.toList.zipIdx 0).foldl (fun cs p => cs.setIfInBounds (off + p.2) p.1) arr := by
    rw [← Array.foldl_toList, Array.toList_zipIdx]
  rw [e]
  obtain ⟨h1, h2⟩ := foldl_set_get off vs.toList 0 arr (by simp [hn, hm]; omega)
  have hlenE : (fillOne l off cs).length = l.length := by simp [fillOne]; omega
  refine ⟨by rw [hlenE]; simp [h1, hm], fun i a v ha hv => ?_⟩
  have hv : ((vs.toList.zipIdx 0).foldl (fun cs p => cs.setIfInBounds (off + p.2) p.1) arr)[i]? = some v := by simpa using hv
  rw [h2 i] at hv
  have hi : i < l.length := by
    rcases Nat.lt_or_ge i l.length with h' | h'
    · exact h'
    · rw [List.getElem?_eq_none (by rw [hlenE]; exact h')] at ha; cases ha
  have hvl : vs.toList.length = cs.length := by simp [hn]
  rw [hvl] at hv
  by_cases c1 : i < off
  · rw [if_neg (by omega)] at hv
    have : (fillOne l off cs)[i]? = l[i]? := by
      unfold fillOne
      rw [List.append_assoc, List.getElem?_append_left (by simp; omega), List.getElem?_take, if_pos c1]
    rw [this] at ha
    exact hl.2 i a v ha (by simpa using hv)
  · by_cases c2 : i < off + cs.length
    · rw [if_pos (by omega)] at hv
      have : (fillOne l off cs)[i]? = cs[i - off]? := by
        unfold fillOne
        rw [List.append_assoc, List.getElem?_append_right (by simp; omega), List.getElem?_append_left (by simp; omega)]
        congr 1; simp; omega
      rw [this] at ha
      exact hc.2 (i - off) a v ha (by simpa using hv)
    · rw [if_neg (by omega)] at hv
      have : (fillOne l off cs)[i]? = l[i]? := by
        unfold fillOne
        rw [List.getElem?_append_right (by simp; omega)]
        rw [List.getElem?_drop]
        congr 1; simp; omega
      rw [this] at ha
      exact hl.2 i a v ha (by simpa using hv)
theorem fillT {place : Nat → Option (Nat × Nat)} : ∀ (parts : List (Nat × AV)) (ps : List (Nat × Value)) (cells : List AV) (arr : Array Value) (k : List AV → Tr), parts.map (·.1) = ps.map (·.1) → LR ρ (parts.map (·.2)) (ps.map (·.2)) → LR ρ cells arr.toList →
    run (fillA place cells parts k) σ K = true → ∃ l arr', run (k l) σ K = true ∧ LR ρ l arr'.toList ∧ Instr.fill place arr ps = some arr' := by
  intro parts
  induction parts with
  | nil =>
    intro ps cells arr k h1 h2 hl h
    have : ps = [] := by cases ps <;> simp at h1 ⊢
    subst this
    exact ⟨cells, arr, h, hl, rfl⟩
  | cons p parts ih =>
    intro ps cells arr k h1 h2 hl h
    cases ps with
    | nil => simp at h1
    | cons q ps =>
      simp only [List.map_cons, List.cons.injEq] at h1
      obtain ⟨h1a, h1b⟩ := h1
      simp only [List.map_cons] at h2
      obtain ⟨v, vs', e, hv, h2'⟩ := h2.cons_inv
      injection e with e1 e2
      subst e1; subst e2
      have h : run (oel (place p.1) .fail fun q => cellsK p.2 fun cs => bif' (Nat.beq cs.length q.2) (bif' (Nat.ble (q.1 + q.2) cells.length) (forceA (fillOne cells q.1 cs) fun cells => fillA place cells parts k) .fail) .fail) σ K = true := h
      obtain ⟨pl, hpl, h⟩ := oelT h
      obtain ⟨cs, hcs, h⟩ := cellsT hv h
      obtain ⟨hb1, h⟩ := bifT h
      obtain ⟨hb2, h⟩ := bifT h
      have hb1 := beqT hb1
      have hb2 := bleT hb2
      have hn : q.2.cells.size = cs.length := by have := hcs.1; simpa using this
      have hm : arr.size = cells.length := by have := hl.1; simpa using this
      obtain ⟨l, arr', r1, r2, r3⟩ := ih ps _ _ k h1b h2' (fillOne_LR (off := pl.1) hl hcs (by omega)) (forceAT h)
      refine ⟨l, arr', r1, r2, ?_⟩
      obtain ⟨qi, qv⟩ := q
      obtain ⟨off, size⟩ := pl
      simp only at h1a hb1 hb2 hn ⊢
      simp only [Instr.fill, ← h1a, hpl]
      rw [if_neg]
      · exact r3
      · simp; omega
theorem places_run (fs : Array Field) (h : sizesOk P fs = true) : ∃ pl : Array (Nat × Nat), (fs.mapM fun f => do pure (f.offset, ← sizeOf f.type) : Sem (Array (Nat × Nat))).run P w = .ok pl w ∧ ∀ i, pl[i]? = places P fs i := by
  refine ⟨(fs.toList.map fun f => (f.offset, ((P.info? f.type).map (·.size)).getD 0)).toArray, ?_, fun i => ?_⟩
  · rw [Array.mapM_eq_mapM_toList, Sem.run_map]
    have key : ∀ l : List Field, (∀ f ∈ l, (P.info? f.type).isSome = true) → (l.mapM fun f => do pure (f.offset, ← sizeOf f.type) : Sem (List (Nat × Nat))).run P w = .ok (l.map fun f => (f.offset, ((P.info? f.type).map (·.size)).getD 0)) w := by
      intro l
      induction l with
      | nil => intro _; rfl
      | cons f l ih =>
        intro hl
        have hf := hl f (by simp)
        cases hi : P.info? f.type with
        | none => rw [hi] at hf; cases hf
        | some i =>
          rw [List.mapM_cons]
          simp only [Sem.run_bind, sizeOf_run hi, Result.andThen_ok, Sem.run_pure, ih (fun x hx => hl x (by simp [hx]))]
          simp [hi]
    rw [key fs.toList (fun f hf => by simp only [sizesOk, List.all_eq_true] at h; exact h f hf)]
    rfl
  · simp only [places, List.getElem?_toArray, List.getElem?_map, Array.getElem?_toList]
    cases hf : fs[i]? with
    | none => rfl
    | some f =>
      simp only [Option.map_some]
      have : (P.info? f.type).isSome = true := by
        simp only [sizesOk, List.all_eq_true] at h
        exact h f (List.mem_of_getElem? (by simpa using hf))
      cases hi : P.info? f.type with
      | none => rw [hi] at this; cases this
      | some x => rfl
theorem build_ok {t : TypeId} {parts : List (Nat × AV)} {ps : Array (Nat × Value)} (hS : SI σ) (hG : Good w0 ρ σ.h w) (h1 : parts.map (·.1) = ps.toList.map (·.1)) (h2 : LR ρ (parts.map (·.2)) (ps.toList.map (·.2)))
    (h : run (buildA P t parts k) σ K = true) : Res P w0 ρ w k K (Instr.build t ps) := by
  obtain ⟨z, zv, i, hi, hz, hzr, h⟩ := zeroT ρ w h
  obtain ⟨d, hu, h⟩ := undT h
  cases d with
  | struct fs =>
    obtain ⟨hs, h⟩ := bifT h
    obtain ⟨zl, hzl, h⟩ := cellsT hzr h
    obtain ⟨l, arr, r1, r2, r3⟩ := fillT parts ps.toList zl zv.cells _ h1 h2 hzl h
    obtain ⟨pl, p1, p2⟩ := places_run (P := P) (w := w) fs hs
    refine .plain r1 hS hG (VR.agg l arr r2.arr.1 r2.arr.2) ?_
    have e : (fun x => pl[x]?) = places P fs := funext p2
    simp only [Instr.build, Sem.run_bind, hz, Result.andThen_ok, run_underlying hu, p1]
    rw [e, r3]
    rfl
  | array n e =>
    obtain ⟨j, hj, h⟩ := sizeT h
    obtain ⟨zl, hzl, h⟩ := cellsT hzr h
    obtain ⟨l, arr, r1, r2, r3⟩ := fillT parts ps.toList zl zv.cells _ h1 h2 hzl h
    refine .plain r1 hS hG (VR.agg l arr r2.arr.1 r2.arr.2) ?_
    simp only [Instr.build, Sem.run_bind, hz, Result.andThen_ok, run_underlying hu, sizeOf_run hj]
    rw [r3]
    rfl
  | _ => exact (nofail h).elim
theorem repeat_len (z : List AV) (n : Nat) : (repeatL z n).length = n * z.length := by
  induction n with
  | zero => simp [repeatL]
  | succ n ih => simp [repeatL, ih, Nat.succ_mul]; omega
theorem repeat_LR {z : List AV} {zv : Array Value} (hz : LR ρ z zv.toList) (hpos : 1 ≤ z.length) (n : Nat) : LR ρ (repeatL z n) ((Array.range (n * z.length)).map fun i => zv[i % zv.size]!).toList := by
  have hs : zv.size = z.length := by have := hz.1; simpa using this
  refine ⟨by simp [repeat_len], fun i a v ha hv => ?_⟩
  have hi : i < n * z.length := by
    rcases Nat.lt_or_ge i (n * z.length) with h' | h'
    · exact h'
    · rw [List.getElem?_eq_none (by rw [repeat_len]; exact h')] at ha; cases ha
  have key : ∀ (n i : Nat), i < n * z.length → (repeatL z n)[i]? = z[i % z.length]? := by
    intro n
    induction n with
    | zero => intro i hi; simp at hi
    | succ n ih =>
      intro i hi
      simp only [repeatL]
      by_cases c : i < z.length
      · rw [List.getElem?_append_left c, Nat.mod_eq_of_lt c]
      · rw [List.getElem?_append_right (by omega), ih _ (by rw [Nat.succ_mul] at hi; omega)]
        congr 1
        rw [Nat.mod_eq_sub_mod (by omega : i ≥ z.length)]
  rw [key n i hi] at ha
  have hv : zv[i % zv.size]! = v := by
    simp [hi] at hv
    exact hv
  have hlt : i % zv.size < zv.size := Nat.mod_lt _ (by omega)
  refine hz.2 (i % z.length) a v ha ?_
  rw [← hs]
  simp only [Array.getElem?_toList]
  rw [← hv, getElem!_pos zv _ hlt, Array.getElem?_eq_getElem hlt]
theorem buildSlice_ok {t : TypeId} {len : Nat} {parts : List (Nat × AV)} {ps : Array (Nat × Value)} (hS : SI σ) (hG : Good w0 ρ σ.h w) (h1 : parts.map (·.1) = ps.toList.map (·.1)) (h2 : LR ρ (parts.map (·.2)) (ps.toList.map (·.2)))
    (h : run (buildSliceA P t len parts k) σ K = true) : Res P w0 ρ w k K (Instr.buildSlice t len ps) := by
  obtain ⟨d, hu, h⟩ := undT h
  cases d with
  | slice e =>
    obtain ⟨j, hj, h⟩ := sizeT h
    obtain ⟨hb, h⟩ := bifT h
    obtain ⟨hb1, h⟩ := bifT h
    have hb := bleT hb
    have hb1 := bleT hb1
    obtain ⟨z, zv, i, hi, hz, hzr, h⟩ := zeroT ρ w h
    obtain ⟨zl, hzl, h⟩ := cellsT hzr h
    obtain ⟨hb2, h⟩ := bifT h
    have hb2 := beqT hb2
    have hrep := repeat_LR hzl (by omega) len
    rw [hb2] at hrep
    obtain ⟨zero, hrun, hrep'⟩ : ∃ zero : Array Value, (if len * j.size = 0 then pure #[] else do pure (← zeroValue e).cells : Sem (Array Value)).run P w = .ok zero w ∧ LR ρ (repeatL zl len) ((Array.range (len * j.size)).map fun i => zero[i % zero.size]!).toList := by
      by_cases e0 : len * j.size = 0
      · have : len = 0 := by
          rcases Nat.mul_eq_zero.mp e0 with h' | h'
          · exact h'
          · omega
        subst this
        refine ⟨#[], by rw [if_pos e0]; rfl, ?_⟩
        simp [repeatL]; exact LR.nil ρ
      · exact ⟨zv.cells, by rw [if_neg e0]; simp [hz], hrep⟩
    obtain ⟨l, arr, r1, r2, r3⟩ := fillT parts ps.toList (repeatL zl len) _ _ h1 h2 hrep' h
    obtain ⟨q1, q2⟩ := LR.to_arr r2
    obtain ⟨b, σ', h5, hS', hle, hG'⟩ := newRow_ok arr e hS hG q1 q2 r1
    refine ⟨_, σ', _, _, _, h5, hS', hG', hle, VR.slc b 0 0 len (some len) j.size _ len ⟨Nat.le_refl _, rfl, _, Rho.put_at _ _ _ _, Nat.zero_le _, rfl⟩, ?_⟩
    simp only [Instr.buildSlice, Sem.run_bind, run_underlying hu, Result.andThen_ok, sizeOf_run hj]
    rw [if_neg (by omega)]
    by_cases e0 : len * j.size = 0
    · rw [if_pos e0] at hrun ⊢
      rw [Sem.run_bind, hrun]
      simp only [Result.andThen_ok, r3]
      simp [newRow]
    · rw [if_neg e0] at hrun ⊢
      have hz0 : zv.cells = zero := by simpa [hz] using hrun
      subst hz0
      simp only [Sem.run_bind, hz, Result.andThen_ok, Sem.run_pure, r3]
      simp [newRow]
  | _ => exact (nofail h).elim
end
end Go.Sym
namespace Go.Sym
open Go.RowKit (Below)
set_option linter.unusedVariables false
theorem add_addr {h : Home} {o n : Nat} (ho : h.shift ≤ o) : (⟨h.blk, o - h.shift, none⟩ : Addr).add n = ⟨h.blk, o + n - h.shift, none⟩ := by
  unfold Addr.add
  split
  · rename_i e; subst e; simp
  · simp; omega
theorem VR.ptr_add {ρ : Rho} {b g o n : Nat} {h : Home} (hh : ρ.at_ b g = some h) (ho : h.shift ≤ o) : VR ρ (.ptr b g (o + n)) (.pointer (some ((⟨h.blk, o - h.shift, none⟩ : Addr).add n))) := by
  rw [add_addr ho]; exact .ptr b g (o + n) h hh (by omega)
theorem slHome {ρ : Rho} {b g o len : Nat} {cap : Option Nat} {es : Nat} {a : Addr} {c : Nat} (h : SlOk ρ b g o len cap es a c) (hl : 0 < len) : ∃ h, ρ.at_ b g = some h ∧ h.shift ≤ o ∧ a = ⟨h.blk, o - h.shift, none⟩ := by
  obtain ⟨h1, h2⟩ := h
  cases cap with
  | some k => obtain ⟨_, x, hx, r1, r2⟩ := h2; exact ⟨x, hx, r1, r2⟩
  | none =>
    rcases h2 with ⟨e, _⟩ | ⟨x, hx, r1, r2, _⟩
    · omega
    · exact ⟨x, hx, r1, r2⟩
theorem add_plain {b o n : Nat} : (⟨b, o, none⟩ : Addr).add n = ⟨b, o + n, none⟩ := by
  unfold Addr.add
  split
  · rename_i e; subst e; simp
  · simp
section
variable {P : Program} {w0 : World} {ρ : Rho} {w : World} {σ : St} {K : Fin} {k : AV → Tr}
theorem partA_ok {t : TypeId} {l : List AV} {cs : Array Value} {off : Nat} (hS : SI σ) (hG : Good w0 ρ σ.h w) (hl : LR ρ l cs.toList) (h : run (partA P t l off k) σ K = true) : Res P w0 ρ w k K (part t cs off) := by
  obtain ⟨d, hu, h⟩ := undT h
  obtain ⟨i, hi⟩ := info_of_underlying hu
  rcases bif2 h with ⟨hd, h⟩ | ⟨hd, h⟩
  · obtain ⟨j, hj, h⟩ := sizeT h
    rw [hi] at hj; injection hj with hj; subst hj
    obtain ⟨v, h1, h2⟩ := part_run (w := w) hu hi hl (off := off) (a := .agg ((l.drop off).take i.size)) (by rw [if_pos hd])
    exact .plain (forceAT h) hS hG h2 h1
  · obtain ⟨a, ha, h⟩ := oelT h
    obtain ⟨v, h1, h2⟩ := part_run (w := w) hu hi hl (off := off) (a := a) (by rw [if_neg (by rw [hd]; simp)]; exact ha)
    exact .plain h hS hG h2 h1
theorem field_ok {t : TypeId} {x : AV} {v : Value} {i : Nat} (hS : SI σ) (hG : Good w0 ρ σ.h w) (hx : VR ρ x v) (h : run (fieldA P t x i k) σ K = true) : Res P w0 ρ w k K (Instr.field t v i) := by
  obtain ⟨d, hu, h⟩ := undT h
  cases d with
  | struct fs =>
    obtain ⟨f, hf, h⟩ := oelT h
    obtain ⟨l, e, h⟩ := asAggT h
    subst e
    cases hx with
    | agg _ cs h1 h2 =>
      refine (partA_ok hS hG (LR.of_arr h1 h2) h).of_eq ?_
      simp only [Instr.field, Sem.run_bind, run_underlying hu, Result.andThen_ok, hf]
      simp [asAgg]
  | _ => exact (nofail h).elim
theorem fieldAddr_ok {t : TypeId} {x : AV} {v : Value} {i : Nat} (hS : SI σ) (hG : Good w0 ρ σ.h w) (hx : VR ρ x v) (h : run (fieldAddrA P t x i k) σ K = true) : Res P w0 ρ w k K (Instr.fieldAt t v i) := by
  obtain ⟨d, hu, h⟩ := undT h
  cases d with
  | struct fs =>
    cases hx with
    | ptr b g o h0 hh ho =>
      obtain ⟨f, hf, h⟩ := oelT h
      obtain ⟨j, hj, h⟩ := sizeT h
      obtain ⟨hz, h⟩ := bifF h
      have hz : ¬ j.size = 0 := fun e => by rw [e] at hz; cases hz
      refine .plain (fNT h) hS hG (VR.ptr_add hh ho) ?_
      simp only [Instr.fieldAt, Sem.run_bind, run_underlying hu, Result.andThen_ok, hf, Instr.sureAddr, Sem.run_pure, fieldPlace, sizeOf_run hj, if_neg hz]
    | gptr b g m o es hm hh hs =>
      obtain ⟨f, hf, h⟩ := oelT h
      obtain ⟨j, hj, h⟩ := sizeT h
      obtain ⟨hz, h⟩ := bifF h
      have hz : ¬ j.size = 0 := fun e => by rw [e] at hz; cases hz
      refine .plain h hS hG (VR.gptr b g m (o + f.offset) es hm hh hs) ?_
      simp only [Instr.fieldAt, Sem.run_bind, run_underlying hu, Result.andThen_ok, hf, Instr.sureAddr, Sem.run_pure, fieldPlace, sizeOf_run hj, if_neg hz, add_plain, Nat.add_assoc]
    | cptr l blk off arr ty hfz hb r =>
      obtain ⟨f, hf, h⟩ := oelT h
      obtain ⟨j, hj, h⟩ := sizeT h
      obtain ⟨hz, h⟩ := bifF h
      have hz : ¬ j.size = 0 := fun e => by rw [e] at hz; cases hz
      obtain ⟨hle, h⟩ := bifT h
      have hle := bleT hle
      have h := forceAT h
      refine .plain h hS hG (VR.cptr (l.drop f.offset) blk (off + f.offset) arr ty hfz (by rw [List.length_drop]; omega) fun j a v ha hv => ?_) ?_
      · rw [List.getElem?_drop] at ha
        exact r (f.offset + j) a v ha (by rw [← hv]; congr 1; omega)
      · simp only [Instr.fieldAt, Sem.run_bind, run_underlying hu, Result.andThen_ok, hf, Instr.sureAddr, Sem.run_pure, fieldPlace, sizeOf_run hj, if_neg hz, add_plain]
    | _ => exact (nofail h).elim
  | _ => exact (nofail h).elim
theorem indexAddr0_ok {t : TypeId} {x ix : AV} {v u : Value} (hS : SI σ) (hG : Good w0 ρ σ.h w) (hx : VR ρ x v) (hy : VR ρ ix u) (h : run (indexAddrA0 P t x ix k) σ K = true) : Res P w0 ρ w k K (Instr.indexAt t v u) := by
  obtain ⟨kk, n, e, h⟩ := asIntT h
  subst e
  cases hy
  obtain ⟨i, e, h⟩ := natT h
  subst e
  obtain ⟨d, hu, h⟩ := undT h
  cases d with
  | array len e =>
    cases hx with
    | ptr b g o h0 hh ho =>
      obtain ⟨hb, h⟩ := bifT h
      have hb := bleT hb
      obtain ⟨j, hj, h⟩ := sizeT h
      refine .plain (fNT h) hS hG (VR.ptr_add hh ho) ?_
      have hlt : (0 : Int) ≤ (i : Int) ∧ (i : Int) < (len : Int) := by omega
      simp only [Instr.indexAt, Sem.run_bind, asIntOf, Sem.run_pure, Result.andThen_ok, run_underlying hu, Instr.sureAddr, if_pos hlt, sizeOf_run hj, Int.toNat_natCast]
    | _ => exact (nofail h).elim
  | slice e =>
    cases hx with
    | slc b g o len cap es a c hsl =>
      obtain ⟨hb, h⟩ := bifT h
      have hb := bleT hb
      obtain ⟨j, hj, h⟩ := sizeT h
      obtain ⟨h0, hh, ho, ea⟩ := slHome hsl (by omega)
      subst ea
      refine .plain (fNT h) hS hG (VR.ptr_add hh ho) ?_
      have hlt : (0 : Int) ≤ (i : Int) ∧ (i : Int) < (len : Int) := by omega
      simp only [Instr.indexAt, Sem.run_bind, asIntOf, Sem.run_pure, Result.andThen_ok, run_underlying hu, if_pos hlt, sizeOf_run hj, Int.toNat_natCast]
    | _ => exact (nofail h).elim
  | _ => exact (nofail h).elim
theorem viewAt_ok {t : TypeId} {c : Ct} {ix : AV} {v u : Value} (hS : SI σ) (hG : Good w0 ρ σ.h w) (hx : VR ρ (.cv c) v) (hy : VR ρ ix u) (h : run (viewAtA P t c ix k) σ K = true) : Res P w0 ρ w k K (Instr.indexAt t v u) := by
  obtain ⟨d, hu, h⟩ := undT h
  split at h
  · rename_i e kk i hi
    have e2 := numS_inv hy hi
    subst e2
    obtain ⟨j, hj, h⟩ := sizeT h
    obtain ⟨he, h⟩ := bifT h
    have he := beqT he
    obtain ⟨hlt, h⟩ := req_ok h
    have h := forceAT h
    have hlt : (0 : Int) ≤ i ∧ i < (c.len : Int) := hlt
    have hin : i.toNat < c.len := by omega
    cases hx with
    | cv _ blk off cp arr ty hf hc hb r =>
      refine .plain h hS hG (VR.cptr (c.row i.toNat) blk (off + i.toNat * c.es) arr ty hf ?_ fun j a v ha hv => r i.toNat j a v hin ha hv) ?_
      · rw [c.row_len]
        have : i.toNat * c.es + c.es ≤ c.len * c.es := by rw [← Nat.succ_mul]; exact Nat.mul_le_mul_right _ hin
        omega
      · simp only [Instr.indexAt, Sem.run_bind, asIntOf, Sem.run_pure, Result.andThen_ok, run_underlying hu, if_pos hlt, sizeOf_run hj, he, add_plain]
    | cvnil _ h0 => omega
    | cvempty _ _ h0 => omega
  · exact (nofail h).elim
theorem growAt_ok {t : TypeId} {b g n es : Nat} {ix : AV} {v u : Value} (hS : SI σ) (hG : Good w0 ρ σ.h w) (hx : VR ρ (.gsl b g n es) v) (hy : VR ρ ix u) (h : run (growAtA P t b g n es ix k) σ K = true) : Res P w0 ρ w k K (Instr.indexAt t v u) := by
  obtain ⟨d, hu, h⟩ := undT h
  split at h
  · rename_i e kk i hi
    have e2 := numS_inv hy hi
    subst e2
    obtain ⟨j, hj, h⟩ := sizeT h
    obtain ⟨he, h⟩ := bifT h
    have he := beqT he
    obtain ⟨hlt, h⟩ := req_ok h
    have hin : i.toNat < n := by omega
    cases hx with
    | gsl _ _ _ _ hm c hn hh hs hc hz =>
      refine .plain h hS hG (VR.gptr b g i.toNat 0 es hm hh hs) ?_
      simp only [Instr.indexAt, Sem.run_bind, asIntOf, Sem.run_pure, Result.andThen_ok, run_underlying hu, if_pos hlt, sizeOf_run hj, he, add_plain, Nat.zero_add, Nat.add_zero]
    | gnil _ _ _ => omega
    | gempty _ _ _ _ => omega
  · exact (nofail h).elim
theorem indexAddr_ok {t : TypeId} {x ix : AV} {v u : Value} (hS : SI σ) (hG : Good w0 ρ σ.h w) (hx : VR ρ x v) (hy : VR ρ ix u) (h : run (indexAddrA P t x ix k) σ K = true) : Res P w0 ρ w k K (Instr.indexAt t v u) := by
  unfold indexAddrA at h
  split at h
  · exact viewAt_ok hS hG hx hy h
  · exact growAt_ok hS hG hx hy h
  · exact indexAddr0_ok hS hG hx hy h
theorem bytesOf_get (s : ByteArray) (i : Nat) : (bytesOf s)[i]? = (s[i]?).map UInt8.toNat := by
  unfold bytesOf
  rw [List.getElem?_map]
  congr 1
  by_cases h : i < s.size
  · rw [getElem?_pos s i h]
    have h' : i < s.data.toList.length := by simpa using h
    rw [List.getElem?_eq_getElem h']
    rfl
  · rw [getElem?_neg s i h, List.getElem?_eq_none (by simpa using h)]
theorem index0_ok {t : TypeId} {x ix : AV} {v u : Value} (hS : SI σ) (hG : Good w0 ρ σ.h w) (hx : VR ρ x v) (hy : VR ρ ix u) (h : run (indexA0 P t x ix k) σ K = true) : Res P w0 ρ w k K (Instr.index t v u) := by
  obtain ⟨kk, n, e, h⟩ := asIntT h
  subst e
  cases hy
  obtain ⟨i, e, h⟩ := natT h
  subst e
  obtain ⟨d, hu, h⟩ := undT h
  cases d with
  | array len e =>
    cases hx with
    | agg l cs h1 h2 =>
      obtain ⟨hb, h⟩ := bifT h
      have hb := bleT hb
      obtain ⟨j, hj, h⟩ := sizeT h
      have hlt : (0 : Int) ≤ (i : Int) ∧ (i : Int) < (len : Int) := by omega
      refine (partA_ok hS hG (LR.of_arr h1 h2) h).of_eq ?_
      simp only [Instr.index, Sem.run_bind, asIntOf, Sem.run_pure, Result.andThen_ok, run_underlying hu, if_pos hlt, sizeOf_run hj, Int.toNat_natCast]
    | _ => exact (nofail h).elim
  | string =>
    cases hx with
    | str s =>
      obtain ⟨c, hc, h⟩ := oelT h
      rw [bytesOf_get] at hc
      cases hs : s[i]? with
      | none => rw [hs] at hc; cases hc
      | some cc =>
        rw [hs] at hc
        injection hc with hc
        subst hc
        refine .plain (fNT h) hS hG (.int _ _) ?_
        have h0 : (0 : Int) ≤ (i : Int) := by omega
        simp only [Instr.index, Sem.run_bind, asIntOf, Sem.run_pure, Result.andThen_ok, run_underlying hu, if_pos h0, Int.toNat_natCast, hs]
        rfl
    | _ => exact (nofail h).elim
  | _ => exact (nofail h).elim
theorem strAt_ok {t : TypeId} {s : ByteArray} {kk : IntKind} {i : Int} (hS : SI σ) (hG : Good w0 ρ σ.h w) (h : run (strAtA P t (bytesOf s) i k) σ K = true) : Res P w0 ρ w k K (Instr.index t (.string s) (.int kk i)) := by
  obtain ⟨d, hu, h⟩ := undT h
  cases d with
  | string =>
    obtain ⟨⟨h0, h1⟩, h⟩ := req_ok h
    rw [bytesOf_length] at h1
    have hin : i.toNat < s.size := by omega
    have hb : byteAt (bytesOf s) i.toNat = (s[i.toNat]).toNat := by
      unfold byteAt
      rw [List.getD_eq_getElem?_getD, bytesOf_get, getElem?_pos s i.toNat hin]
      exact Nat.mod_eq_of_lt (UInt8.toNat_lt _)
    rw [hb] at h
    refine .plain h hS hG (.sI _ _) ?_
    simp only [Instr.index, Sem.run_bind, asIntOf, Sem.run_pure, Result.andThen_ok, run_underlying hu, if_pos h0, getElem?_pos s i.toNat hin]
  | _ => exact (nofail h).elim
theorem index_ok {t : TypeId} {x ix : AV} {v u : Value} (hS : SI σ) (hG : Good w0 ρ σ.h w) (hx : VR ρ x v) (hy : VR ρ ix u) (h : run (indexA P t x ix k) σ K = true) : Res P w0 ρ w k K (Instr.index t v u) := by
  rcases bif2 h with ⟨_, h⟩ | ⟨_, h⟩
  · split at h
    · rename_i l kk i el ei
      obtain ⟨s, e1, e2⟩ := strS_inv hx el
      have e3 := numS_inv hy ei
      subst e1; subst e2; subst e3
      exact strAt_ok hS hG h
    · exact (nofail h).elim
  · exact index0_ok hS hG hx hy h
theorem extract_ok {x : AV} {v : Value} {i : Nat} (hS : SI σ) (hG : Good w0 ρ σ.h w) (hx : VR ρ x v) (h : run (extractA x i k) σ K = true) : Res P w0 ρ w k K (Instr.extract v i) := by
  cases hx with
  | tup l cs h1 h2 =>
    obtain ⟨a, ha, h⟩ := oelT h
    obtain ⟨u, hu, hr⟩ := (LR.of_arr h1 h2).get ha
    have hu : cs[i]? = some u := by simpa using hu
    exact .plain h hS hG hr (by simp [Instr.extract, hu])
  | _ => exact (nofail h).elim
theorem mkIface_ok {t : TypeId} {x : AV} {v : Value} (hS : SI σ) (hG : Good w0 ρ σ.h w) (hx : VR ρ x v) (h : run (mkIfaceA P t x k) σ K = true) : Res P w0 ρ w k K (Instr.makeInterface t v) := by
  obtain ⟨d, hu, h⟩ := undT h
  cases d with
  | interface m => exact (nofail h).elim
  | _ => exact .plain h hS hG (.iface t x v hx) (by simp [Instr.makeInterface, run_underlying hu])
theorem boundT {ov : Option AV} {vv : Option Value} {d top : Nat} {k : Nat → Tr} (ho : OR ρ ov vv) (h : run (boundK ov d top k) σ K = true) :
    ∃ n, run (k n) σ K = true ∧ ((ov = none ∧ vv = none ∧ n = d) ∨ ∃ kk, ov.isSome = true ∧ vv = some (.int kk (n : Int)) ∧ n ≤ top) := by
  cases ov with
  | none =>
    cases vv with
    | none => exact ⟨d, h, .inl ⟨rfl, rfl, rfl⟩⟩
    | some v => exact ho.elim
  | some a =>
    cases vv with
    | none => exact ho.elim
    | some v =>
      obtain ⟨kk, n, e, h⟩ := asIntT h
      subst e
      cases ho
      obtain ⟨i, e, h⟩ := natT h
      subst e
      obtain ⟨hb, h⟩ := bifT h
      exact ⟨i, h, .inr ⟨kk, rfl, rfl, bleT hb⟩⟩
theorem sliceBound_run {kk : IntKind} {n y : Nat} {code : BoundsCode} (h : n ≤ y) : (Instr.sliceBound (.int kk (n : Int)) y code).run P w = .ok n w := by
  simp [Instr.sliceBound, asIntOf, h]
theorem boundsT' {isS : Bool} {len cap c : Nat} {lo hi mx : Option AV} {lo' hi' mx' : Option Value} {k : Nat → Nat → Nat → Tr} (hlc : len ≤ cap) (hcc : cap ≤ c) (hmx : mx = none → c = cap) (h1 : OR ρ lo lo') (h2 : OR ρ hi hi') (h3 : OR ρ mx mx') (h : run (boundsK len cap lo hi mx k) σ K = true) :
    ∃ l hh m, run (k l hh m) σ K = true ∧ (Instr.sliceBounds isS len c lo' hi' mx').run P w = .ok (l, hh, m) w ∧ l ≤ hh ∧ hh ≤ m ∧ m ≤ cap := by
  obtain ⟨m, h, hm⟩ := boundT h3 h
  have hrun : ∃ hh l, run (k l hh m) σ K = true ∧ ((hi = none ∧ hi' = none ∧ hh = len ∧ mx = none) ∨ ∃ kk, hi' = some (.int kk (hh : Int)) ∧ hh ≤ m) ∧ ((lo = none ∧ lo' = none ∧ l = 0) ∨ ∃ kk, lo.isSome = true ∧ lo' = some (.int kk (l : Int)) ∧ l ≤ hh) := by
    cases hi with
    | none =>
      cases mx with
      | some _ => exact (nofail h).elim
      | none =>
        obtain ⟨hh, h, hhi⟩ := boundT (d := len) (top := m) (k := fun h => boundK lo 0 h fun l => k l h m) h2 h
        obtain ⟨l, h, hl⟩ := boundT (k := fun l => k l hh m) h1 h
        refine ⟨hh, l, h, ?_, hl⟩
        rcases hhi with ⟨a, b, c⟩ | ⟨kk, a, b, c⟩
        · exact .inl ⟨rfl, b, c, rfl⟩
        · simp at a
    | some x =>
      obtain ⟨hh, h, hhi⟩ := boundT (d := len) (top := m) (k := fun h => boundK lo 0 h fun l => k l h m) h2 (by cases mx <;> exact h)
      obtain ⟨l, h, hl⟩ := boundT (k := fun l => k l hh m) h1 h
      refine ⟨hh, l, h, ?_, hl⟩
      rcases hhi with ⟨a, b, c⟩ | ⟨kk, a, b, c⟩
      · cases a
      · exact .inr ⟨kk, b, c⟩
  obtain ⟨hh, l, hk, hhi, hlo⟩ := hrun
  have hmc : m ≤ cap := by rcases hm with ⟨_, _, e⟩ | ⟨_, _, _, e⟩ <;> omega
  have hhm : hh ≤ m := by
    rcases hhi with ⟨_, _, e, emx⟩ | ⟨_, _, e⟩
    · rcases hm with ⟨_, _, em⟩ | ⟨_, em, _, _⟩
      · omega
      · rw [emx] at em; simp at em
    · exact e
  have hll : l ≤ hh := by rcases hlo with ⟨_, _, e⟩ | ⟨_, _, _, e⟩ <;> omega
  refine ⟨l, hh, m, hk, ?_, hll, hhm, hmc⟩
  rcases hm with ⟨em1, em2, em3⟩ | ⟨km, em1, em2, em3⟩
  · subst em2
    rcases hhi with ⟨_, eh, eh2, _⟩ | ⟨kh, eh, eh2⟩
    · subst eh; subst eh2; rw [← hmx em1] at em3; subst em3
      rcases hlo with ⟨_, el, el2⟩ | ⟨kl, _, el, el2⟩
      · subst el; subst el2; simp [Instr.sliceBounds]
      · subst el; simp [Instr.sliceBounds, sliceBound_run el2]
    · subst eh; rw [← hmx em1] at em3; subst em3
      rcases hlo with ⟨_, el, el2⟩ | ⟨kl, _, el, el2⟩
      · subst el; subst el2; simp [Instr.sliceBounds, sliceBound_run eh2]
      · subst el; simp [Instr.sliceBounds, sliceBound_run el2, sliceBound_run eh2]
  · subst em2
    rcases hhi with ⟨_, eh, eh2, e⟩ | ⟨kh, eh, eh2⟩
    · rw [e] at em1; simp at em1
    · subst eh
      rcases hlo with ⟨_, el, el2⟩ | ⟨kl, _, el, el2⟩
      · subst el; subst el2; simp [Instr.sliceBounds, sliceBound_run eh2, sliceBound_run (Nat.le_trans em3 hcc)]
      · subst el; simp [Instr.sliceBounds, sliceBound_run el2, sliceBound_run eh2, sliceBound_run (Nat.le_trans em3 hcc)]
theorem boundsT {isS : Bool} {len cap : Nat} {lo hi mx : Option AV} {lo' hi' mx' : Option Value} {k : Nat → Nat → Nat → Tr} (hlc : len ≤ cap) (h1 : OR ρ lo lo') (h2 : OR ρ hi hi') (h3 : OR ρ mx mx') (h : run (boundsK len cap lo hi mx k) σ K = true) :
    ∃ l hh m, run (k l hh m) σ K = true ∧ (Instr.sliceBounds isS len cap lo' hi' mx').run P w = .ok (l, hh, m) w ∧ l ≤ hh ∧ hh ≤ m ∧ m ≤ cap :=
  boundsT' hlc (Nat.le_refl _) (fun _ => rfl) h1 h2 h3 h
end
end Go.Sym
namespace Go.Sym
open Go.RowKit (Below)
set_option linter.unusedVariables false
section
variable {P : Program} {w0 : World} {ρ : Rho} {w : World} {σ : St} {K : Fin} {k : AV → Tr}
theorem slcKn_ok {b g o s l h m : Nat} {hm : Home} (hh : ρ.at_ b g = some hm) (ho : hm.shift ≤ o) (hhm : h ≤ m) (hr : run (slcKn b g o s l h m k) σ K = true) :
    ∃ r, run (k r) σ K = true ∧ VR ρ r (.slice (some (if m = l then ⟨hm.blk, o - hm.shift, none⟩ else (⟨hm.blk, o - hm.shift, none⟩ : Addr).add (l * s))) (h - l) (m - l)) := by
  unfold slcKn at hr
  have hr := fNT hr
  have hr := fNT hr
  rcases bif2 hr with ⟨e, hr⟩ | ⟨e, hr⟩
  · have e := beqT e
    refine ⟨_, hr, ?_⟩
    rw [if_pos e]
    exact .slc _ _ _ _ _ _ _ _ ⟨by omega, rfl, hm, hh, ho, rfl⟩
  · have e : ¬ m = l := fun e' => by subst e'; simp at e
    have hr := fNT hr
    refine ⟨_, hr, ?_⟩
    rw [if_neg e, add_addr ho]
    exact .slc _ _ _ _ _ _ _ _ ⟨by omega, rfl, hm, hh, by omega, rfl⟩
theorem slcUn_ok {b g o s l h len c : Nat} {a : Addr} (hs : SlOk ρ b g o len none s a c) (hl : l ≤ h) (hh : h ≤ len) (hr : run (slcUn b g o s l h k) σ K = true) :
    ∃ r, run (k r) σ K = true ∧ VR ρ r (.slice (some (if c = l then a else a.add (l * s))) (h - l) (c - l)) := by
  obtain ⟨hlen, hs⟩ := hs
  unfold slcUn at hr
  have hr := fNT hr
  rcases bif2 hr with ⟨e, hr⟩ | ⟨e, hr⟩
  · have e := beqT e
    subst e
    refine ⟨_, hr, ?_⟩
    have ea : (if c = 0 then a else a.add (0 * s)) = a := by
      split
      · rfl
      · unfold Addr.add; simp
    rw [ea]
    refine .slc _ _ _ _ _ _ _ _ ⟨by omega, ?_⟩
    rcases hs with ⟨h1, h2⟩ | ⟨hm, h1, h2, h3, h4⟩
    · exact .inl ⟨by omega, by omega⟩
    · exact .inr ⟨hm, h1, h2, h3, by simpa using h4⟩
  · have e : ¬ l = 0 := fun e' => by subst e'; simp at e
    have hr := fNT hr
    refine ⟨_, hr, ?_⟩
    refine .slc _ _ _ _ _ _ _ _ ⟨by omega, ?_⟩
    by_cases hc : c = l
    · exact .inl ⟨by omega, by omega⟩
    · rcases hs with ⟨h1, h2⟩ | ⟨hm, h1, h2, h3, h4⟩
      · omega
      · refine .inr ⟨hm, h1, by omega, ?_, ?_⟩
        · rw [if_neg hc, h3, add_addr h2]
        · have : c * s = l * s + (c - l) * s := by rw [← Nat.add_mul]; congr 1; omega
          omega
theorem some_if {α : Type} {p : Prop} [Decidable p] {a b : α} : (if p then some a else some b) = some (if p then a else b) := by split <;> rfl
theorem slice_str {t : TypeId} {s : ByteArray} {lo hi mx : Option AV} {lo' hi' mx' : Option Value} (hS : SI σ) (hG : Good w0 ρ σ.h w) (h1 : OR ρ lo lo') (h2 : OR ρ hi hi') (h3 : OR ρ mx mx')
    (hu : P.underlying t = some .string) (h : run (sliceS (bytesOf s) lo hi mx k) σ K = true) : Res P w0 ρ w k K (Instr.sliceAt t (.string s) lo' hi' mx') := by
  cases mx with
  | some _ => exact (nofail h).elim
  | none =>
    cases mx' with
    | some _ => exact h3.elim
    | none =>
      have hn : (bytesOf s).length = s.size := by unfold bytesOf; rw [List.length_map]; rfl
      unfold sliceS at h
      have h := fNT h
      obtain ⟨l, hh, m, h, hb, hl, hm, hc⟩ := boundsT (P := P) (w := w) (isS := false) (Nat.le_refl _) h1 h2 h3 h
      have h := forceT h
      refine .plain h hS hG (v := .string (s.extract l hh)) ?_ ?_
      · have e : ((bytesOf s).take hh).drop l = bytesOf (s.extract l hh) := by
          unfold bytesOf
          rw [← List.map_take, ← List.map_drop, ByteArray.data_extract, Array.toList_extract, List.extract_eq_take_drop, List.drop_take]
        rw [e]; exact .str _
      · rw [hn] at hb
        simp only [Instr.sliceAt, Instr.slice, Sem.run_bind, run_underlying hu, Result.andThen_ok, Option.isSome_none, Bool.false_eq_true, if_false, Sem.run_pure]
        simp [hb, Result.andThen_ok]
theorem sliceA0_ok {t : TypeId} {x : AV} {v : Value} {lo hi mx : Option AV} {lo' hi' mx' : Option Value} (hS : SI σ) (hG : Good w0 ρ σ.h w) (hx : VR ρ x v) (h1 : OR ρ lo lo') (h2 : OR ρ hi hi') (h3 : OR ρ mx mx')
    (h : run (sliceA0 P t x lo hi mx k) σ K = true) : Res P w0 ρ w k K (Instr.sliceAt t v lo' hi' mx') := by
  obtain ⟨d, hu, h⟩ := undT h
  cases d with
  | array n e =>
    cases hx with
    | ptr b g o hm hh ho =>
      obtain ⟨l, hi, m, h, hb, hl, hhm, hc⟩ := boundsT (P := P) (w := w) (isS := false) (Nat.le_refl _) h1 h2 h3 h
      obtain ⟨j, hj, h⟩ := sizeT h
      obtain ⟨r, h, hr⟩ := slcKn_ok hh ho hhm h
      refine .plain h hS hG hr ?_
      simp only [Instr.sliceAt, Sem.run_bind, run_underlying hu, Result.andThen_ok, Instr.sureAddr, Sem.run_pure, hb, sizeOf_run hj]
    | _ => exact (nofail h).elim
  | string =>
    cases hx with
    | str s => exact slice_str hS hG h1 h2 h3 hu h
    | _ => exact (nofail h).elim
  | slice e =>
    cases hx with
    | nils =>
      obtain ⟨j, hj, h⟩ := sizeT h
      obtain ⟨l, hi, m, h, hb, hl, hhm, hc⟩ := boundsT (P := P) (w := w) (isS := true) (Nat.le_refl _) h1 h2 h3 h
      have : m = 0 := by omega
      subst this
      have : hi = 0 := by omega
      subst this
      have : l = 0 := by omega
      subst this
      refine .plain h hS hG .nils ?_
      simp only [Instr.sliceAt, Instr.slice, Sem.run_bind, run_underlying hu, Result.andThen_ok, Sem.run_pure, hb, sizeOf_run hj, if_true, Nat.sub_self]
    | slc b g o len cap es a c hsl =>
      cases cap with
      | some c' =>
        obtain ⟨j, hj, h⟩ := sizeT h
        obtain ⟨hes, h⟩ := bifT h
        have hes := beqT hes
        obtain ⟨hlen, ec, hm, hh, ho, ea⟩ := hsl
        subst ec; subst ea
        obtain ⟨l, hi, m, h, hb, hl, hhm, hc⟩ := boundsT (P := P) (w := w) (isS := true) hlen h1 h2 h3 h
        obtain ⟨r, h, hr⟩ := slcKn_ok hh ho hhm h
        refine .plain h hS hG hr ?_
        subst hes
        simp only [Instr.sliceAt, Instr.slice, Sem.run_bind, run_underlying hu, Result.andThen_ok, Sem.run_pure, hb, sizeOf_run hj, Option.map_some, some_if]
      | none =>
        obtain ⟨j, hj, h⟩ := sizeT h
        obtain ⟨hes, h⟩ := bifT h
        have hes := beqT hes
        subst hes
        cases mx with
        | none =>
          cases mx' with
          | some _ => exact h3.elim
          | none =>
            unfold sliceUn at h
            obtain ⟨hh, h, hhi⟩ := boundT (d := len) (top := len) h2 h
            obtain ⟨l, h, hlo⟩ := boundT (d := 0) (top := hh) h1 h
            have hle : hh ≤ len := by rcases hhi with ⟨_, _, e⟩ | ⟨_, _, _, e⟩ <;> omega
            have hll : l ≤ hh := by rcases hlo with ⟨_, _, e⟩ | ⟨_, _, _, e⟩ <;> omega
            obtain ⟨r, h, hr⟩ := slcUn_ok hsl hll hle h
            refine .plain h hS hG hr ?_
            have hb : (Instr.sliceBounds true len c lo' hi' none).run P w = .ok (l, hh, c) w := by
              have hcl := hsl.1
              rcases hhi with ⟨_, eh, eh2⟩ | ⟨kh, _, eh, eh2⟩
              · subst eh; subst eh2
                rcases hlo with ⟨_, el, el2⟩ | ⟨kl, _, el, el2⟩
                · subst el; subst el2; simp [Instr.sliceBounds]
                · subst el; simp [Instr.sliceBounds, sliceBound_run el2]
              · subst eh
                rcases hlo with ⟨_, el, el2⟩ | ⟨kl, _, el, el2⟩
                · subst el; subst el2; simp [Instr.sliceBounds, sliceBound_run (Nat.le_trans eh2 hcl)]
                · subst el; simp [Instr.sliceBounds, sliceBound_run el2, sliceBound_run (Nat.le_trans eh2 hcl)]
            simp only [Instr.sliceAt, Instr.slice, Sem.run_bind, run_underlying hu, Result.andThen_ok, Sem.run_pure, hb, sizeOf_run hj, Option.map_some, some_if]
        | some y =>
          obtain ⟨hz, h⟩ := bifF h
          have hz : len ≠ 0 := by intro e; subst e; simp at hz
          obtain ⟨hlc, hs⟩ := hsl
          obtain ⟨l, hi, m, h, hb, hl, hhm, hc⟩ := boundsT' (P := P) (w := w) (isS := true) (Nat.le_refl _) hlc (fun e => by cases e) h1 h2 h3 h
          rcases hs with ⟨h1', h2'⟩ | ⟨hm, hh, ho, ea, hfit⟩
          · omega
          · subst ea
            obtain ⟨r, h, hr⟩ := slcKn_ok hh ho hhm h
            refine .plain h hS hG hr ?_
            simp only [Instr.sliceAt, Instr.slice, Sem.run_bind, run_underlying hu, Result.andThen_ok, Sem.run_pure, hb, sizeOf_run hj, Option.map_some, some_if]
    | _ => exact (nofail h).elim
  | _ => exact (nofail h).elim
theorem symBoundT {ov : Option AV} {vv : Option Value} {d : Int} {k : Int → Tr} (ho : OR ρ ov vv) (h : run (symBoundK ov d k) σ K = true) :
    ∃ n, run (k n) σ K = true ∧ ((vv = none ∧ n = d) ∨ ∃ kk, vv = some (.int kk n)) := by
  cases ov with
  | none =>
    cases vv with
    | none => exact ⟨d, h, .inl ⟨rfl, rfl⟩⟩
    | some v => exact ho.elim
  | some a =>
    cases vv with
    | none => exact ho.elim
    | some v =>
      unfold symBoundK at h
      simp only at h
      split at h
      · rename_i kk n hi
        exact ⟨n, h, .inr ⟨kk, by rw [numS_inv ho hi]⟩⟩
      · exact (nofail h).elim
theorem symBounds_run {isS : Bool} {len c : Nat} {lo' hi' : Option Value} {l h : Int} (hlc : len ≤ c) (hl : (lo' = none ∧ l = 0) ∨ ∃ kk, lo' = some (.int kk l)) (hh : (hi' = none ∧ h = (len : Int)) ∨ ∃ kk, hi' = some (.int kk h))
    (hr : 0 ≤ l ∧ l ≤ h ∧ h ≤ (len : Int)) : (Instr.sliceBounds isS len c lo' hi' none).run P w = .ok (l.toNat, h.toNat, c) w := by
  obtain ⟨a, ea⟩ : ∃ a : Nat, l = (a : Int) := ⟨l.toNat, by omega⟩
  obtain ⟨b, eb⟩ : ∃ b : Nat, h = (b : Int) := ⟨h.toNat, by omega⟩
  subst ea; subst eb
  simp only [Int.toNat_natCast]
  have hab : a ≤ b := by omega
  have hbl : b ≤ len := by omega
  rcases hh with ⟨eh, eh2⟩ | ⟨kh, eh⟩
  · subst eh
    have : b = len := by omega
    subst this
    rcases hl with ⟨el, el2⟩ | ⟨kl, el⟩
    · subst el
      have : a = 0 := by omega
      subst this
      simp [Instr.sliceBounds]
    · subst el; simp [Instr.sliceBounds, sliceBound_run hab]
  · subst eh
    rcases hl with ⟨el, el2⟩ | ⟨kl, el⟩
    · subst el
      have : a = 0 := by omega
      subst this
      simp [Instr.sliceBounds, sliceBound_run (Nat.le_trans hbl hlc)]
    · subst el; simp [Instr.sliceBounds, sliceBound_run hab, sliceBound_run (Nat.le_trans hbl hlc)]
theorem symSlice_ok {t : TypeId} {x : AV} {v : Value} {lo hi mx : Option AV} {lo' hi' mx' : Option Value} (hS : SI σ) (hG : Good w0 ρ σ.h w) (hx : VR ρ x v) (h1 : OR ρ lo lo') (h2 : OR ρ hi hi') (h3 : OR ρ mx mx')
    (h : run (symSliceA P t x lo hi mx k) σ K = true) : Res P w0 ρ w k K (Instr.sliceAt t v lo' hi' mx') := by
  obtain ⟨d, hu, h⟩ := undT h
  split at h
  · rename_i e c _
    cases mx' with
    | some _ => exact h3.elim
    | none =>
    obtain ⟨j, hj, h⟩ := sizeT h
    obtain ⟨he, h⟩ := bifT h
    have he := beqT he
    obtain ⟨b, h8, hb⟩ := symBoundT h2 h
    obtain ⟨a, h7, ha⟩ := symBoundT h1 h8
    obtain ⟨hr, h9⟩ := req_ok h7
    clear h h8 h7
    cases hx with
    | cv _ blk off cp arr ty hf hc hbd r =>
      have hbs := symBounds_run (P := P) (w := w) (isS := true) hc ha hb hr
      obtain ⟨a, rfl⟩ : ∃ q : Nat, a = (q : Int) := ⟨a.toNat, by omega⟩
      obtain ⟨b, rfl⟩ : ∃ q : Nat, b = (q : Int) := ⟨b.toNat, by omega⟩
      simp only [Int.toNat_natCast] at hbs h9
      have hab : a ≤ b := by omega
      have hbn : b ≤ c.len := by omega
      have hlen := c.cut_len hab hbn
      have hes := c.cut_es a b
      have hmul : a * c.es + (b - a) * c.es = b * c.es := by rw [← Nat.add_mul]; congr 1; omega
      have hmul2 : b * c.es ≤ c.len * c.es := Nat.mul_le_mul_right _ hbn
      have hrun : (Instr.sliceAt t (.slice (some ⟨blk, off, none⟩) c.len cp) lo' hi' none).run P w = .ok (.slice (some (if cp = a then ⟨blk, off, none⟩ else ⟨blk, off + a * j.size, none⟩)) (b - a) (cp - a)) w := by
        simp only [Instr.sliceAt, Instr.slice, Sem.run_bind, run_underlying hu, Result.andThen_ok, Sem.run_pure, hbs, sizeOf_run hj, Option.map_some, some_if, add_plain]
      rw [he] at hrun
      by_cases hca : cp = a
      · rw [if_pos hca] at hrun
        have hba : b - a = 0 := by omega
        have hz : off + (c.cut a b).len * (c.cut a b).es ≤ arr.size := by rw [hlen, hba, Nat.zero_mul]; omega
        have := VR.cv (ρ := ρ) (c.cut a b) blk off (cp - a) arr ty hf (by omega) hz (fun i q av u hi hq hu2 => by omega)
        rw [hlen] at this
        exact .plain h9 hS hG this hrun
      · rw [if_neg hca] at hrun
        have := VR.cv (ρ := ρ) (c.cut a b) blk (off + a * c.es) (cp - a) arr ty hf (by omega) (by rw [hlen, hes]; omega) (fun i q av u hi hq hu2 => by
          rw [hlen] at hi
          rw [c.cut_row (by omega)] at hq
          rw [hes] at hu2
          exact r (a + i) q av u (by omega) hq (by rw [← hu2]; congr 1; rw [Nat.add_mul]; omega))
        rw [hlen] at this
        exact .plain h9 hS hG this hrun
    | cvnil _ h0 =>
      rw [h0] at hb hr
      have hbs := symBounds_run (P := P) (w := w) (isS := true) (c := 0) (Nat.le_refl 0) ha hb hr
      obtain rfl : a = 0 := by have := hr.2.2; omega
      obtain rfl : b = 0 := by have := hr.2.2; omega
      refine .plain h9 hS hG (.cvnil _ (by rw [c.cut_len (by simp) (by simp)]; rfl)) ?_
      simp only [Int.toNat_zero] at hbs
      simp only [Instr.sliceAt, Instr.slice, Sem.run_bind, run_underlying hu, Result.andThen_ok, Sem.run_pure, hbs, sizeOf_run hj, if_true, Nat.sub_self]
    | cvempty _ ad h0 =>
      rw [h0] at hb hr
      have hbs := symBounds_run (P := P) (w := w) (isS := true) (c := 0) (Nat.le_refl 0) ha hb hr
      obtain rfl : a = 0 := by have := hr.2.2; omega
      obtain rfl : b = 0 := by have := hr.2.2; omega
      refine .plain h9 hS hG (.cvempty _ ad (by rw [c.cut_len (by simp) (by simp)]; rfl)) ?_
      simp only [Int.toNat_zero] at hbs
      simp only [Instr.sliceAt, Instr.slice, Sem.run_bind, run_underlying hu, Result.andThen_ok, Sem.run_pure, hbs, sizeOf_run hj, if_true, Nat.sub_self, Option.map_some]
  · rename_i x2 _
    cases mx' with
    | some _ => exact h3.elim
    | none =>
    split at h
    · rename_i l hl
      obtain ⟨s, e1, e2⟩ := strS_inv hx hl
      subst e1; subst e2
      obtain ⟨b, h, hb⟩ := symBoundT h2 h
      obtain ⟨a, h, ha⟩ := symBoundT h1 h
      obtain ⟨hr, h⟩ := req_ok h
      rw [bytesOf_length] at hb hr
      have hbs := symBounds_run (P := P) (w := w) (isS := false) (Nat.le_refl s.size) ha hb hr
      refine .plain h hS hG (v := .string (s.extract a.toNat b.toNat)) ?_ ?_
      · have e : ((bytesOf s).take b.toNat).drop a.toNat = bytesOf (s.extract a.toNat b.toNat) := by
          unfold bytesOf
          rw [← List.map_take, ← List.map_drop, ByteArray.data_extract, Array.toList_extract, List.extract_eq_take_drop, List.drop_take]
        rw [e]; exact .sS _
      · simp only [Instr.sliceAt, Instr.slice, Sem.run_bind, run_underlying hu, Result.andThen_ok, Option.isSome_none, Bool.false_eq_true, if_false, Sem.run_pure]
        simp [hbs, Result.andThen_ok]
    · exact (nofail h).elim
  · exact (nofail h).elim
theorem sliceA_ok {t : TypeId} {x : AV} {v : Value} {lo hi mx : Option AV} {lo' hi' mx' : Option Value} (hS : SI σ) (hG : Good w0 ρ σ.h w) (hx : VR ρ x v) (h1 : OR ρ lo lo') (h2 : OR ρ hi hi') (h3 : OR ρ mx mx')
    (h : run (sliceA P t x lo hi mx k) σ K = true) : Res P w0 ρ w k K (Instr.sliceAt t v lo' hi' mx') := by
  rcases bif2 h with ⟨_, h⟩ | ⟨_, h⟩
  · exact symSlice_ok hS hG hx h1 h2 h3 h
  · exact sliceA0_ok hS hG hx h1 h2 h3 h
end
end Go.Sym
namespace Go.Sym
open Go.RowKit (Below)
set_option linter.unusedVariables false
theorem byteCells_LR (ρ : Rho) (s : ByteArray) : LR ρ (byteCells (bytesOf s)) (s.data.toList.map fun b => Value.int .u8 b.toNat) := by
  refine ⟨by simp [byteCells, bytesOf], fun i a v ha hv => ?_⟩
  unfold byteCells bytesOf at ha
  rw [List.map_map, List.getElem?_map] at ha
  rw [List.getElem?_map] at hv
  cases hs : s.data.toList[i]? with
  | none => rw [hs] at ha; cases ha
  | some b =>
    rw [hs] at ha hv
    injection ha with ha
    injection hv with hv
    subst ha; subst hv
    exact .int .u8 (b.toNat : Int)
theorem bytesRow_size {s : ByteArray} {c : Nat} (h : s.size ≤ c) : (bytesRow s c).size = c := by
  unfold bytesRow
  have : s.data.size = s.size := rfl
  simp; omega
theorem bytesRow_get {s : ByteArray} {c i : Nat} {v : Value} (h : (s.data.toList.map fun b => Value.int .u8 b.toNat)[i]? = some v) : (bytesRow s c)[i]? = some v := by
  unfold bytesRow
  have hi : i < s.data.size := by
    rcases Nat.lt_or_ge i s.data.size with h' | h'
    · exact h'
    · rw [List.getElem?_eq_none (by simpa using h')] at h; cases h
  rw [Array.getElem?_append_left (by simpa using hi)]
  simpa using h
theorem u8LT {ρ : Rho} : ∀ {l : List AV} {vs : List Value} {r : List Nat}, u8L l = some r → LR ρ l vs → ∃ bs : List UInt8, r = bs.map UInt8.toNat ∧ vs = bs.map fun b => Value.int .u8 (b.toNat : Int) := by
  intro l
  induction l with
  | nil => intro vs r h hl; injection h with h; subst h; exact ⟨[], rfl, hl.nil_inv⟩
  | cons a l ih =>
    intro vs r h hl
    obtain ⟨v, vs', rfl, hv, hl'⟩ := hl.cons_inv
    unfold u8L at h
    split at h
    · rename_i e; cases e
    · rename_i n r' e
      injection e with e1 e2
      subst e1; subst e2
      split at h
      · rename_i hn
        split at h
        · rename_i l' hl2
          injection h with h
          subst h
          obtain ⟨bs, e1, e2⟩ := ih hl2 hl'
          cases hv
          have hnn : (UInt8.ofNat n).toNat = n := by simp; omega
          refine ⟨UInt8.ofNat n :: bs, by rw [List.map_cons, hnn, e1], ?_⟩
          rw [List.map_cons, hnn, e2]; rfl
        · cases h
      · cases h
    · cases h
theorem pull_bytes {ρ : Rho} : ∀ {l : List AV} {vs : List Value} {ns : List Int}, pullB l = some ns → inB ns → LR ρ l vs → ∃ bs : List UInt8, toNats ns = bs.map UInt8.toNat ∧ vs = bs.map fun b => Value.int .u8 (b.toNat : Int) := by
  intro l
  induction l with
  | nil => intro vs r h _ hl; injection h with h; subst h; exact ⟨[], rfl, hl.nil_inv⟩
  | cons a l ih =>
    intro vs r h hb hl
    obtain ⟨v, vs', rfl, hv, hl'⟩ := hl.cons_inv
    unfold pullB at h
    split at h
    · rename_i n hn
      split at h
      · rename_i r' hr
        injection h with h
        subst h
        obtain ⟨⟨h0, h1⟩, hb⟩ := hb
        obtain ⟨bs, e1, e2⟩ := ih hr hb hl'
        have hnn : (UInt8.ofNat n.toNat).toNat = n.toNat := by simp; omega
        refine ⟨UInt8.ofNat n.toNat :: bs, by rw [List.map_cons, hnn, ← e1]; rfl, ?_⟩
        rw [List.map_cons, hnn, e2, numS_inv hv hn, Int.toNat_of_nonneg h0]
      · cases h
    · cases h
theorem bytesStr_ok {ρ : Rho} {l : List AV} {vs : List Value} {k : AV → Tr} {σ : St} {K : Fin} (hl : LR ρ l vs) (h : run (bytesStr l k) σ K = true) : ∃ (bs : List UInt8) (x : AV), vs = (bs.map fun b => Value.int .u8 (b.toNat : Int)) ∧ VR ρ x (.string ⟨bs.toArray⟩) ∧ run (k x) σ K = true := by
  unfold bytesStr at h
  split at h
  · rename_i r hr
    obtain ⟨bs, e2, e3⟩ := u8LT hr hl
    subst e2
    refine ⟨bs, _, e3, ?_, h⟩
    have := VR.str (ρ := ρ) ⟨bs.toArray⟩
    simpa [bytesOf] using this
  · obtain ⟨ns, hr, h⟩ := oelT h
    obtain ⟨hp, h⟩ := req_ok h
    obtain ⟨bs, e2, e3⟩ := pull_bytes hr hp hl
    rw [e2] at h
    refine ⟨bs, _, e3, ?_, h⟩
    have := VR.sS (ρ := ρ) ⟨bs.toArray⟩
    simpa [bytesOf] using this
section
variable {P : Program} {w0 : World} {ρ : Rho} {w : World} {σ : St} {K : Fin} {k : AV → Tr}
theorem conv_bytes {src dst e : TypeId} {s : ByteArray} (hS : SI σ) (hG : Good w0 ρ σ.h w) (hs : P.underlying src = some .string) (hd : P.underlying dst = some (.slice e)) (he : P.underlying e = some (.int .u8))
    (h : run (fN (List.length (bytesOf s)) fun n => bif' (Nat.ble n 1000000) (newRowM 1 e (byteCells (bytesOf s)) fun b => k (.slc b 0 0 n none 1)) .fail) σ K = true) :
    Res P w0 ρ w k K (convert src dst (.string s)) := by
  obtain ⟨_, h⟩ := bifT (fNT h)
  have hn : (bytesOf s).length = s.size := by unfold bytesOf; rw [List.length_map]; rfl
  have hge := grownCap_ge w s.size 0 e
  have hsz := bytesRow_size hge
  have hL := byteCells_LR ρ s
  obtain ⟨b, σ', h2, hS', hle, hG'⟩ := newRowF_ok 1 (w := w.drew) (bytesRow s (grownCap w s.size 0 e)) e ((bytesRow s (grownCap w s.size 0 e)).size, (bytesRow s (grownCap w s.size 0 e)).size + 1)
    ⟨by simp, fun x h1 h2 _ => by omega⟩ hS (hG.drawn _) (by simp [byteCells, hn, hsz]; exact hge) (fun i a ha => by
      obtain ⟨v, hv, hr⟩ := hL.get ha
      exact ⟨v, bytesRow_get hv, hr⟩) h
  refine ⟨_, σ', _, _, _, h2, hS', hG', hle, ?_, run_bytes_of_string w src dst e s hs hd he⟩
  rw [hn]
  refine .slc _ _ _ _ _ _ _ _ ⟨hge, .inr ⟨_, Rho.put_at _ _ _ _, Nat.zero_le _, rfl, ?_⟩⟩
  show 0 - 0 + grownCap w s.size 0 e * 1 ≤ (bytesRow s _).size
  omega
theorem conv_back {src dst e : TypeId} {x : AV} {v : Value} (hS : SI σ) (hG : Good w0 ρ σ.h w) (hs : P.underlying src = some (.slice e)) (hd : P.underlying dst = some .string) (he : P.underlying e = some (.int .u8)) (hx : VR ρ x v)
    {b g o len es : Nat} {cap : Option Nat} (ex : x = .slc b g o len cap es)
    (h : run (bif' (Nat.beq len 0) (k (.str [])) (loadRowK b g o len fun l => bytesStr l k)) σ K = true) :
    Res P w0 ρ w k K (convert src dst v) := by
  subst ex
  cases hx with
  | slc b g o len cap es a c hsl =>
    rcases bif2 h with ⟨hb, h⟩ | ⟨hb, h⟩
    · have hb := beqT hb
      subst hb
      refine .plain h hS hG (v := .string ⟨#[]⟩) ?_ ?_
      · exact .str ⟨#[]⟩
      · exact run_convert_bytes_back w src dst e a c [] hs he hd (fun j hj => by cases hj)
    · have hb : 0 < len := by
        rcases Nat.eq_zero_or_pos len with e | e
        · subst e; simp at hb
        · exact e
      obtain ⟨hm, hh, ho, ea⟩ := slHome hsl hb
      subst ea
      obtain ⟨l, cs, σ', e1, hS', h, hL, hlen, hcell, _⟩ := loadRow_ok (P := P) hS hG hh ho h
      obtain ⟨bs, x, e3, hx, h⟩ := bytesStr_ok hL h
      have hbl : bs.length = len := by rw [← hlen, e3, List.length_map]
      refine .plain h hS' (by rw [e1]; exact hG) (v := .string ⟨bs.toArray⟩) hx ?_
      · have := run_convert_bytes_back (P := P) w src dst e ⟨hm.blk, o - hm.shift, none⟩ c bs hs he hd (fun j hj => by
          have h1 := hcell j (.int .u8 (bs[j].toNat : Int)) (by rw [e3]; simp [hj])
          unfold Addr.add
          split
          · rename_i e; subst e; simpa using h1
          · exact h1)
        rw [hbl] at this
        exact this
theorem heap_freeze (w : World) (a : Addr) (n : Nat) (hn : n ≠ 0) (i : Nat) : (w.freeze a n).heap[i]? = if a.block = i then (w.heap[i]?).map (fun
      | .cells c elem (lo, hi) => .cells c elem (if lo == hi then (a.off, a.off + n) else (min lo a.off, max hi (a.off + n)))
      | o => o) else w.heap[i]? := by
  simp only [World.freeze, if_neg hn, Array.getElem?_modify]
  split <;> rfl
theorem Good.freezeAt {H : T ABlk} (hG : Good w0 ρ H w) {b g gen lo hi fl fh fl' fh' ty off n : Nat} {c : T Cell} {h : Home} (hb : H.get b = some (.cells c gen lo hi fl fh false ty)) (h64 : b + 1 < 2 ^ 64)
    (hh : ρ.at_ b g = some h) (hg : g ≤ gen) (hn : n ≠ 0)
    (hold : ∀ (x : Nat) (hm : Home), (x < hm.size ∨ fl' ≤ fh') → (∀ q, (q < hm.size ∨ fl ≤ fh) → True) → ((x < hm.size ∨ fl ≤ fh) → fl ≤ x + hm.shift ∧ x + hm.shift < fh) → fl' ≤ x + hm.shift ∧ x + hm.shift < fh')
    (hnew : ∀ f1 f2 : Nat, f1 ≤ f2 → (∀ x, (x < h.size ∨ fl ≤ fh) → f1 ≤ x → x < f2 → fl ≤ x + h.shift ∧ x + h.shift < fh) → ∀ x, (x < h.size ∨ fl' ≤ fh') → (if f1 = f2 then off ≤ x ∧ x < off + n else min f1 off ≤ x ∧ x < max f2 (off + n)) → fl' ≤ x + h.shift ∧ x + h.shift < fh') :
    Good w0 ρ (H.set b (.cells c gen lo hi fl' fh' false ty)) (w.freeze ⟨h.blk, off, none⟩ n) := by
  have hB := hG.blk _ _ hb
  obtain ⟨hm, q1, q2, _, arr, fr, q3, q4, q5, q6⟩ := hB.2 g hg
  rw [hh] at q1; injection q1 with q1; subst q1
  have q2 := q2 rfl
  have hsz : (w.freeze ⟨h.blk, off, none⟩ n).heap.size = w.heap.size := by simp [World.freeze, hn]
  refine hG.turn (hrs := ⟨b, g, h, hh, rfl⟩) hb h64 h.blk q2 ⟨by simp [World.freeze, hn], by simp [World.freeze, hn], by simp [World.freeze, hn], by rw [hsz]; exact Nat.le_refl _, fun k hk ho => ?_⟩ (by rw [hsz]; exact Nat.le_refl _) (fun k hk _ => ?_) (fun b' g' h' hh' e' => (hG.inj _ _ _ _ _ _ hh' hh e').1) ⟨hB.1, fun g' hg' => ?_⟩
  · rw [heap_freeze _ _ _ hn, if_neg (fun e => by have e : h.blk = k := e; rcases q2 with q2 | q2; omega; exact ho (e ▸ q2))]
  · rw [heap_freeze _ _ _ hn, if_neg (fun e => hk e.symm)]
  · obtain ⟨hm', s1, s2, s2', arr', fr', s3, s4, s5, s6⟩ := hB.2 g' hg'
    obtain ⟨q5a, q5b⟩ := s5 rfl
    by_cases eb : hm'.blk = h.blk
    · obtain ⟨_, ehm⟩ := hG.inj _ _ _ _ _ _ s1 hh eb
      subst ehm
      obtain ⟨f1, f2⟩ := fr'
      refine ⟨_, s1, s2, s2', arr', _, by rw [heap_freeze _ _ _ hn, if_pos rfl, s3]; rfl, s4, fun _ => ⟨?_, fun x hx h1 h2 => ?_⟩, s6⟩
      · simp only at q5a
        split <;> simp <;> omega
      · refine hnew f1 f2 q5a q5b x hx ?_
        by_cases e : f1 = f2
        · rw [if_pos e]
          rw [if_pos (by simpa using e)] at h1 h2
          exact ⟨h1, h2⟩
        · rw [if_neg e]
          rw [if_neg (by simpa using e)] at h1 h2
          exact ⟨h1, h2⟩
    · refine ⟨hm', s1, s2, s2', arr', fr', by rw [heap_freeze _ _ _ hn, if_neg (fun e => eb e.symm)]; exact s3, s4, fun _ => ⟨q5a, fun x hx h1 h2 => ?_⟩, s6⟩
      exact hold x hm' hx (fun _ _ => trivial) fun hq => q5b x hq h1 h2
theorem conv_mark {src dst e e' : TypeId} {b g o len es : Nat} {cap : Option Nat} {v : Value} (hS : SI σ) (hG : Good w0 ρ σ.h w) (hs : P.underlying src = some (.slice e')) (hd : P.underlying dst = some (.slice e))
    (he : P.underlying e = some (.int .u8)) (hx : VR ρ (.slc b g o len cap es) v) (hsd : src = dst) (hlen : 1 ≤ len)
    (h : run (.rd b fun q => (match q with
      | .cells c gen lo hi fl fh ro ty => bif' ro .fail (bif' (Nat.beq fh 0) (bif' (Nat.ble g gen) (.wr b (.cells c gen lo hi 1 0 false ty) (k (.slc b g o len cap es))) .fail) .fail)
      | _ => .fail)) σ K = true) : Res P w0 ρ w k K (convert src dst v) := by
  obtain ⟨q, σ', h1, h2, h3, h⟩ := rd_ok hS h
  cases q with
  | cells c gen lo hi fl fh ro ty =>
    obtain ⟨ero, h5⟩ := bifF h
    obtain ⟨efh, h6⟩ := bifT h5
    obtain ⟨hgg, h7⟩ := bifT h6
    clear h h5 h6
    obtain ⟨x0, σ2, hx0, e2, hS2, h64, h8⟩ := wr_ok h3 h7
    have efh := beqT efh
    have hgg := bleT hgg
    subst ero; subst efh
    cases hx with
    | slc b g o len cap es a c' hsl =>
      obtain ⟨hm, hh, ho, ea⟩ := slHome hsl hlen
      have hB := hG.blk _ _ h1
      obtain ⟨hm2, q1, _, _, arr, fr, q3, q4, q5, q6⟩ := hB.2 g hgg
      rw [hh] at q1; injection q1 with q1; subst q1
      have hG' := hG.freezeAt (fl' := 1) (fh' := 0) (off := arr.size) (n := 1) h1 h64 hh hgg (by decide) (fun x hm3 hx1 _ hx2 => by
          have := hx2 (.inl (by omega))
          omega) (fun f1 f2 hf hq x hx1 hx2 => by
          have hxs : x < hm.size := by omega
          split at hx2
          · omega
          · rename_i hne
            have h3 : f1 ≤ x := by simp only [Nat.min_def] at hx2; split at hx2 <;> omega
            have := hq f1 (.inl (by omega)) (Nat.le_refl _) (by omega)
            omega)
      refine ⟨_, σ2, ρ, .slice (some a) len c', _, h8, hS2, by rw [e2, h2]; exact hG', Rho.le.refl ρ, .slc _ _ _ _ _ _ _ _ hsl, ?_⟩
      have hb : (src == dst) = true := by simpa using hsd
      have hblk : a.block = hm.blk := by rw [ea]
      have hsh : w.shape? hm.blk = some (ty, arr.size) := by simp [World.shape?, q3]
      simp [convert, run_underlying hs, run_underlying hd, run_underlying he, hb, markStringish, hblk, hsh]
  | _ => exact (nofail h).elim
theorem rowAt_mono {fits : TypeId → Bool} : ∀ (d : Nat) (e : TypeId) (c c' off n : Nat), c ≤ c' → rowAt P fits d e c off n = true → rowAt P fits d e c' off n = true := by
  intro d
  cases d with
  | zero => intro e c c' off n _ h; simp [rowAt] at h
  | succ d =>
    intro e c c' off n hcc h
    simp only [rowAt] at h ⊢
    split at h
    · cases h
    · rename_i hs
      rw [if_neg hs]
      rw [Bool.or_eq_true] at h ⊢
      rcases h with h | h
      · left
        simp only [Bool.and_eq_true, decide_eq_true_eq] at h ⊢
        exact ⟨⟨h.1.1, by omega⟩, h.2⟩
      · right
        rw [Bool.and_eq_true] at h ⊢
        exact ⟨by have := of_decide_eq_true h.1; exact decide_eq_true (by omega), h.2⟩
theorem liesAt_mono : ∀ (d : Nat) (e : TypeId) (c c' off : Nat) (u : TypeId) (n : Nat), c ≤ c' → liesAt P d e c off u n = true → liesAt P d e c' off u n = true := by
  intro d
  induction d with
  | zero => intro e c c' off u n _ h; simp [liesAt] at h
  | succ d ih =>
    intro e c c' off u n hcc h
    simp only [liesAt] at h ⊢
    rw [Bool.or_eq_true] at h ⊢
    rcases h with h | h
    · exact .inl (rowAt_mono _ _ _ _ _ _ hcc h)
    · right
      split at h
      · exact ih _ _ _ _ _ _ hcc h
      · cases h
theorem lies_ok {b g o n : Nat} {u : TypeId} {t : Tr} {h0 : Home} (hS : SI σ) (hG : Good w0 ρ σ.h w) (hh : ρ.at_ b g = some h0) (h : run (liesK P b g o u n t) σ K = true) :
    ∃ σ', run t σ' K = true ∧ SI σ' ∧ σ'.h = σ.h ∧ h0.shift = 0 ∧ (variablesAt ⟨h0.blk, o, none⟩ u n).run P w = .ok true w ∧ ∃ ty m, w.shape? h0.blk = some (ty, m) := by
  obtain ⟨q, σ1, hq, e1, hS1, h⟩ := rd_ok hS h
  cases q with
  | cells c gen lo hi fl fh ro ty =>
    obtain ⟨k1, h⟩ := bifT h
    obtain ⟨k2, h⟩ := bifT h
    obtain ⟨x0, hx0, h⟩ := getT h
    cases x0 with
    | mk t0 a0 =>
      obtain ⟨k3, h⟩ := bifT h
      have h := fNT h
      obtain ⟨x1, hx1, h⟩ := getT h
      cases x1 with
      | mk t1 a1 =>
        obtain ⟨k4, h⟩ := bifT h
        obtain ⟨k5, h⟩ := bifT h
        obtain ⟨hm, q1, _, _, arr, fr, q3, q4, q5, q6⟩ := (hG.blk _ _ hq).2 g (bleT k1)
        rw [hh] at q1; injection q1 with q1; subst q1
        obtain ⟨r1, _⟩ := q6 0 t0 a0 hx0 (bleT k3)
        obtain ⟨_, v, r2, _⟩ := q6 _ t1 a1 hx1 (bleT k4)
        have hs0 : h0.shift = 0 := by omega
        have hge : Nat.sub hi 1 < arr.size := by
          rcases Nat.lt_or_ge (Nat.sub hi 1) arr.size with h' | h'
          · exact h'
          · rw [hs0, Array.getElem?_eq_none (by omega)] at r2; cases r2
        have hhi : hi ≤ arr.size := by
          have : Nat.sub hi 1 = hi - 1 := rfl
          omega
        have hsh : w.shape? h0.blk = some (ty, arr.size) := by simp [World.shape?, q3]
        refine ⟨σ1, h, hS1, e1, hs0, ?_, ty, arr.size, hsh⟩
        have hl := liesAt_mono (P := P) P.depth ty _ (arr.size / P.cellsOf ty) o u n (Nat.div_le_div_right hhi) k5
        simp [variablesAt, hsh, hl]
  | _ => exact (nofail h).elim
theorem ptr_addr {h : Home} {o : Nat} (hs : h.shift = 0) : (⟨h.blk, o - h.shift, none⟩ : Addr) = ⟨h.blk, o, none⟩ := by rw [hs]; rfl
theorem seenAt_run {a : Addr} {ty m : Nat} (hsh : w.shape? a.block = some (ty, m)) : (Conv.seenAt a).run P w = .ok a w := by
  simp [Conv.seenAt, viewAt, hsh]
theorem convA0_ok {src dst : TypeId} {x : AV} {v : Value} (hS : SI σ) (hG : Good w0 ρ σ.h w) (hx : VR ρ x v) (h : run (convA0 P src dst x k) σ K = true) : Res P w0 ρ w k K (convert src dst v) := by
  obtain ⟨s, hs, h1⟩ := undT h
  obtain ⟨d, hd, h2⟩ := undT h1
  clear h h1
  split at h2 <;> (have h := h2; clear h2)
  · cases hx
    have h := wrapT h
    refine .plain h hS hG (.int _ _) ?_
    simp [convert, run_underlying hs, run_underlying hd, Conv.intToInt]
  · cases hx
    refine .plain h hS hG (.str _) ?_
    simp [convert, run_underlying hs, run_underlying hd]
  · obtain ⟨de, he, h⟩ := undT h
    split at h
    · cases hx
      exact conv_bytes hS hG hs hd he h
    · exact (nofail h).elim
  · obtain ⟨hsd, h⟩ := bifT h
    obtain ⟨de, he, h⟩ := undT h
    split at h
    · obtain ⟨hl, h⟩ := bifT h
      exact conv_mark hS hG hs hd he hx (by simpa using beqT hsd) (bleT hl) h
    · exact (nofail h).elim
  · cases hx
    refine .plain h hS hG .nilp ?_
    simp [convert, run_underlying hs, run_underlying hd, Conv.unsafePointer]
  · rename_i t0 b g o
    cases hx with
    | ptr b g o hm hh ho =>
      obtain ⟨i, hi, h⟩ := sizeT h
      obtain ⟨hz, h⟩ := bifF h
      have hz : ¬ i.size = 0 := fun e => by rw [e] at hz; cases hz
      obtain ⟨q, σ1, hq, e1, hS1, h⟩ := rd_ok hS h
      have hG1 : Good w0 ρ σ1.h w := by rw [e1]; exact hG
      cases q with
      | cells c gen lo hi2 fl fh ro ty =>
        obtain ⟨k1, h⟩ := bifT h
        obtain ⟨x0, hx0, h⟩ := getT h
        cases x0 with
        | mk tag a0 =>
          obtain ⟨k2, h⟩ := bifT h
          obtain ⟨hm2, q1, _, _, arr, fr, q3, q4, q5, q6⟩ := (hG.blk _ _ hq).2 g (bleT k1)
          rw [hh] at q1; injection q1 with q1; subst q1
          obtain ⟨_, v, r2, _⟩ := q6 o tag a0 hx0 (bleT k2)
          have hlt : o - hm.shift < arr.size := by
            rcases Nat.lt_or_ge (o - hm.shift) arr.size with h' | h'
            · exact h'
            · rw [Array.getElem?_eq_none h'] at r2; cases r2
          have hsh : w.shape? hm.blk = some (ty, arr.size) := by simp [World.shape?, q3]
          refine .plain h hS1 hG1 (.ptr b g o hm hh ho) ?_
          have hnl : ¬ arr.size ≤ o - hm.shift := by omega
          simp [convert, run_underlying hs, run_underlying hd, Conv.unsafePointer, seenAt_run (a := ⟨hm.blk, o - hm.shift, none⟩) hsh, cellsIn, hsh, sizeOf_run hi, hz, hnl]
      | _ => exact (nofail h).elim
  · cases hx
    refine .plain h hS hG .nilp ?_
    simp [convert, run_underlying hs, run_underlying hd, Conv.unsafePointer]
  · rename_i u b g o
    cases hx with
    | ptr b g o hm hh ho =>
      obtain ⟨i, hi, h⟩ := sizeT h
      obtain ⟨σ1, h, hS1, e1, hs0, hv, ty, m, hsh⟩ := lies_ok hS hG hh h
      refine .plain h hS1 (by rw [e1]; exact hG) (.ptr b g o hm hh ho) ?_
      rw [ptr_addr hs0]
      simp [convert, run_underlying hs, run_underlying hd, Conv.unsafePointer, seenAt_run (a := ⟨hm.blk, o, none⟩) hsh, sizeOf_run hi, hv]
  · obtain ⟨de, he, h⟩ := undT h
    split at h
    · cases hx
      refine .plain h hS hG (v := .string ⟨#[]⟩) (.str ⟨#[]⟩) ?_
      exact (run_convert_bytes_nil w src _ hs he 0 0 dst hd)
    · exact conv_back hS hG hs hd he hx rfl h
    · exact (nofail h).elim
  · exact (nofail h).elim
theorem bstr_run {src dst e : TypeId} {s : List Nat} {a : Addr} {c : Nat} (hs : P.underlying src = some (.slice e)) (hd : P.underlying dst = some .string) (he : P.underlying e = some (.int .u8))
    (hc : ∀ j n, s[j]? = some n → w.cell? (a.add j) = some (.int .u8 (n : Nat))) : ∃ t : ByteArray, bytesOf t = bstr s ∧ (convert src dst (.slice (some a) s.length c)).run P w = .ok (.string t) w := by
  have fold : ∀ (l : List Nat) (r : ByteArray), (l.map (fun n : Nat => (n : Int))).foldl (fun r n => r.push (UInt8.ofNat n.toNat)) r = ⟨r.data ++ (l.map UInt8.ofNat).toArray⟩ := by
    intro l
    induction l with
    | nil => intro r; simp
    | cons n l ih =>
      intro r
      simp only [List.map_cons, List.foldl_cons]
      rw [ih]
      simp [ByteArray.push]
  refine ⟨⟨(s.map UInt8.ofNat).toArray⟩, ?_, ?_⟩
  · simp [bytesOf, bstr, List.map_map, Function.comp_def]
  · rw [run_convert_bytes_string w src dst e (some a) s.length c hs he hd]
    have hl := run_loadCells_list (P := P) w a ((s.map (fun n : Nat => (n : Int))).map (Value.int .u8)) (fun j v hj => by
      rw [List.map_map, List.getElem?_map] at hj
      cases hn : s[j]? with
      | none => rw [hn] at hj; cases hj
      | some n =>
        rw [hn] at hj
        injection hj with hj
        rw [← hj]; exact hc j n hn)
    simp only [List.length_map] at hl
    rw [run_bytesToString w a s.length c _ hl, fold]
    have he0 : ByteArray.empty.data = #[] := rfl
    rw [he0]
    simp
theorem row_bytes {s : List Nat} {j n : Nat} (h : s[j]? = some n) : ((Ct.bytes s).row j)[0]? = some (.sI .u8 (n : Nat)) := by
  simp [Ct.row, List.getD_eq_getElem?_getD, h]
theorem symConv_ok {src dst : TypeId} {x : AV} {v : Value} (hS : SI σ) (hG : Good w0 ρ σ.h w) (hx : VR ρ x v) (h : run (symConvA P src dst x k) σ K = true) : Res P w0 ρ w k K (convert src dst v) := by
  obtain ⟨s, hs, h1⟩ := undT h
  obtain ⟨d, hd, h2⟩ := undT h1
  clear h h1
  split at h2 <;> (have h := h2; clear h2)
  · cases hx
    have h := wrapST h
    refine .plain h hS hG (.sI _ _) ?_
    simp [convert, run_underlying hs, run_underlying hd, Conv.intToInt]
  · cases hx
    refine .plain h hS hG (.sS _) ?_
    simp [convert, run_underlying hs, run_underlying hd]
  · rename_i e l
    obtain ⟨de, he, h⟩ := undT h
    split at h
    · cases hx with
      | sS s =>
        have hn : (bytesOf s).length = s.size := bytesOf_length s
        have hge := grownCap_ge w s.size 0 e
        have hsz := bytesRow_size hge
        rcases ask_ok h with ⟨hpos, h⟩ | ⟨hpos, h⟩
        · obtain ⟨b, σ', hnone, h64, e1, hS', h⟩ := new_ok hS h
          have hGd : Good w0 ρ σ.h w.drew := hG.drawn _
          obtain ⟨hle, hG'⟩ := hGd.alloc hnone h64 (.grow (.bytes (bytesOf s)) 0 e) (.cells (bytesRow s (grownCap w s.size 0 e)) e ((bytesRow s (grownCap w s.size 0 e)).size, (bytesRow s (grownCap w s.size 0 e)).size + 1)) 0 (bytesRow s (grownCap w s.size 0 e)).size (fun ρ' hle hat _ => by
            refine .inr ⟨_, hat, rfl, .new hG.below.size, bytesRow s (grownCap w s.size 0 e), ((bytesRow s (grownCap w s.size 0 e)).size, (bytesRow s (grownCap w s.size 0 e)).size + 1), ?_, rfl, ?_, ?_, fun i hi j a ha => ?_⟩
            · show (w.heap.push _)[w.heap.size]? = _
              simp
            · show (bytesOf s).length * 1 ≤ (bytesRow s (grownCap w s.size 0 e)).size
              rw [hn, hsz]; omega
            · intro x h1 h2 h3
              simp only at h1 h2
              omega
            · have hi : i < (bytesOf s).length := hi
              have hsi : (bytesOf s)[i]? = some (bytesOf s)[i] := List.getElem?_eq_getElem hi
              cases j with
              | succ j => simp [Ct.row] at ha
              | zero =>
                rw [row_bytes hsi] at ha
                injection ha with ha
                subst ha
                refine ⟨.int .u8 ((bytesOf s)[i] : Nat), ?_, .sI _ _⟩
                show (bytesRow s _)[i * 1 + 0]? = _
                refine bytesRow_get ?_
                rw [Nat.mul_one, Nat.add_zero, List.getElem?_map]
                unfold bytesOf at hsi ⊢
                rw [List.getElem?_map] at hsi
                cases hq : s.data.toList[i]? with
                | none => rw [hq] at hsi; cases hsi
                | some q => rw [hq] at hsi; injection hsi with hsi; simp only [Option.map_some]; rw [← hsi])
          rw [← e1] at hG'
          refine ⟨_, σ', _, _, _, h, hS', hG', hle, ?_, run_bytes_of_string w src dst e s hs hd he⟩
          have hlt : 0 < s.size := by omega
          rw [hn]
          refine .gsl b 0 s.size 1 _ _ hlt (Rho.put_at _ _ _ _) rfl hge ?_
          show grownCap w s.size 0 e * 1 ≤ (bytesRow s _).size
          omega
        · have h0 : s.size = 0 := by omega
          obtain ⟨b, σ', h2, hS', hle, hG'⟩ := newRowF_ok 1 (w := w.drew) (bytesRow s (grownCap w s.size 0 e)) e ((bytesRow s (grownCap w s.size 0 e)).size, (bytesRow s (grownCap w s.size 0 e)).size + 1)
            ⟨by simp, fun x h1 h2 _ => by omega⟩ hS (hG.drawn _) (by simp) (fun i a ha => by simp at ha) h
          have hrun := run_bytes_of_string w src dst e s hs hd he
          have e0 := congrArg (fun n => Value.slice (some ⟨w.heap.size, 0, none⟩) n (grownCap w s.size 0 e)) h0
          have hrun : (convert src dst (.string s)).run P w = .ok (Value.slice (some ⟨w.heap.size, 0, none⟩) 0 (grownCap w s.size 0 e)) (w.drew.alloc (.cells (bytesRow s (grownCap w s.size 0 e)) e ((bytesRow s (grownCap w s.size 0 e)).size, (bytesRow s (grownCap w s.size 0 e)).size + 1))) := by rw [hrun]; exact congrArg (Result.ok · _) e0
          refine ⟨_, σ', _, _, _, h2, hS', hG', hle, ?_, hrun⟩
          exact VR.slc (ρ := ρ.put b 0 ⟨w.heap.size, 0, (bytesRow s (grownCap w s.size 0 e)).size⟩) b 0 0 0 none 1 ⟨w.heap.size, 0, none⟩ (grownCap w s.size 0 e) ⟨Nat.zero_le _, .inr ⟨_, Rho.put_at _ _ _ _, Nat.zero_le _, rfl, by
            show 0 - 0 + grownCap w s.size 0 e * 1 ≤ (bytesRow s _).size
            omega⟩⟩
    · exact (nofail h).elim
  · obtain ⟨de, he, h⟩ := undT h
    split at h
    · rename_i e s _ _
      cases hx with
      | cv _ blk off cp arr ty hf hc hb r =>
        obtain ⟨⟨fr, hw⟩, _⟩ := hG.frz _ _ _ hf
        have hb : off + s.length * 1 ≤ arr.size := hb
        obtain ⟨t, ht, hrun⟩ := bstr_run (P := P) (w := w) (s := s) (a := ⟨blk, off, none⟩) (c := cp) hs hd he (fun j n hj => by
          have hjl : j < s.length := by
            rcases Nat.lt_or_ge j s.length with h' | h'
            · exact h'
            · rw [List.getElem?_eq_none h'] at hj; cases hj
          have hv : arr[off + j * 1 + 0]? = some arr[off + j] := by rw [Nat.mul_one, Nat.add_zero]; exact Array.getElem?_eq_getElem (by omega)
          have := r j 0 _ _ hjl (row_bytes hj) hv
          rw [add_plain]
          simp only [World.cell?, hw]
          simp only [Option.isSome_none, Bool.false_eq_true, if_false]
          rw [Array.getElem?_eq_getElem (by omega)]
          cases hcell : arr[off + j]'(by omega) with
          | int k2 n2 => rw [hcell] at this; cases this; rfl
          | _ => rw [hcell] at this; cases this)
        refine .plain h hS hG (v := .string t) (by rw [← ht]; exact .sS t) hrun
      | cvnil _ h0 =>
        have h0 : s.length = 0 := h0
        have : s = [] := List.length_eq_zero_iff.1 h0
        subst this
        refine .plain h hS hG (v := .string ⟨#[]⟩) (.sS ⟨#[]⟩) (run_convert_bytes_nil w src _ hs he 0 0 dst hd)
      | cvempty _ a h0 =>
        have h0 : s.length = 0 := h0
        have : s = [] := List.length_eq_zero_iff.1 h0
        subst this
        refine .plain h hS hG (v := .string ⟨#[]⟩) (.sS ⟨#[]⟩) (run_convert_bytes_back w src dst _ a 0 [] hs he hd (fun j hj => by cases hj))
    · exact (nofail h).elim
  · rename_i e b g n es
    obtain ⟨de, he, h⟩ := undT h
    split at h
    · obtain ⟨q, σ1, hq, e1, hS1, z0⟩ := rd_ok hS h
      clear h
      have hG1 : Good w0 ρ σ1.h w := by rw [e1]; exact hG
      split at z0
      · rename_i s gen ty
        obtain ⟨k1, z1⟩ := bifT z0
        obtain ⟨k2, z2⟩ := bifT z1
        obtain ⟨k3, z3⟩ := req_ok z2
        clear z0 z1 z2
        have k1 := beqT k1
        have k2 := beqT k2
        subst k1; subst k2
        have hsn : ∀ {m : Nat}, s.length = m → m = 0 → s = [] := fun e1 e2 => List.length_eq_zero_iff.1 (by omega)
        cases hx with
        | gsl _ _ _ _ hm c hn0 hh hsh hcc hz =>
          rcases hG.blk _ _ hq with h0 | ⟨hm', q1, q2, q3, arr, fr, q4, q5, q6, q7, q8⟩
          · have h0 : s.length = 0 := h0
            omega
          rw [hh] at q1; injection q1 with q1; subst q1
          obtain ⟨t, ht, hrun⟩ := bstr_run (P := P) (w := w) (s := s) (a := ⟨hm.blk, 0, none⟩) (c := c) hs hd he (fun j n hj => by
            have hjl : j < s.length := by
              rcases Nat.lt_or_ge j s.length with h' | h'
              · exact h'
              · rw [List.getElem?_eq_none h'] at hj; cases hj
            obtain ⟨u, u1, u2⟩ := q8 j hjl 0 _ (row_bytes hj)
            rw [add_plain]
            simp only [World.cell?, q4]
            simp only [Option.isSome_none, Bool.false_eq_true, if_false, Nat.zero_add]
            have u1 : arr[j * 1 + 0]? = some u := u1
            rw [Nat.mul_one, Nat.add_zero] at u1
            rw [u1]
            cases u2; rfl)
          rw [k3] at hrun
          exact .plain z3 hS1 hG1 (v := .string t) (by rw [← ht]; exact .sS t) hrun
        | gnil _ _ _ =>
          obtain rfl := hsn k3 rfl
          exact .plain z3 hS1 hG1 (v := .string ⟨#[]⟩) (.sS ⟨#[]⟩) (run_convert_bytes_nil w src _ hs he 0 0 dst hd)
        | gempty _ _ _ a =>
          obtain rfl := hsn k3 rfl
          exact .plain z3 hS1 hG1 (v := .string ⟨#[]⟩) (.sS ⟨#[]⟩) (run_convert_bytes_back w src dst _ a 0 [] hs he hd (fun j hj => by cases hj))
      · exact (nofail z0).elim
    · exact (nofail h).elim
  · exact (nofail h).elim
theorem convA_ok {src dst : TypeId} {x : AV} {v : Value} (hS : SI σ) (hG : Good w0 ρ σ.h w) (hx : VR ρ x v) (h : run (convA P src dst x k) σ K = true) : Res P w0 ρ w k K (convert src dst v) := by
  rcases bif2 h with ⟨_, h⟩ | ⟨_, h⟩
  · exact symConv_ok hS hG hx h
  · exact convA0_ok hS hG hx h
end
end Go.Sym
