/-
  SIM, part M: stores.
-/
import Derived.Test.YtlcomegfkcgjjaaGreatDoorSimL
namespace Go.Sim
open Go.RowKit (Below)
set_option linter.unusedVariables false

section
variable {P : Program} {w0 : World} {ρ : Rho} {w : World} {σ : St} {K : Fin} {k : AV → Tr}

theorem heap_setCell (w : World) (a : Addr) (v : Value) (i : Nat) : (w.setCell a v).heap[i]? = if a.block = i then (w.heap[i]?).map (fun
      | .cells c elem fr => .cells (if a.spot.isSome then c else c.setIfInBounds a.off v) elem fr
      | o => o) else w.heap[i]? := by
  simp only [World.setCell, Array.getElem?_modify]
  split <;> rfl

/-- One cell of ours is stored. -/
theorem Good.store {H : T ABlk} (hG : Good w0 ρ H w) {b o gen lo hi fl fh tag ty : Nat} {c : T Cell} {h : Home} {a0 a : AV} {v : Value} (hb : H.get b = some (.cells c gen lo hi fl fh false ty)) (h64 : b + 1 < 2 ^ 64)
    (hh : ρ.at_ b gen = some h) (hc : c.get o = some (.mk tag a0)) (ht : tag ≤ gen) (hv : VR ρ a v) (hone : oneA a = true) (hfz : ¬ (fl ≤ o ∧ o < fh)) :
    h.shift ≤ o ∧ (Go.store ⟨h.blk, o - h.shift, none⟩ v).run P w = .ok () (w.setCell ⟨h.blk, o - h.shift, none⟩ v) ∧
    Good w0 ρ (H.set b (.cells (c.set o (.mk gen a)) gen lo hi fl fh false ty)) (w.setCell ⟨h.blk, o - h.shift, none⟩ v) := by
  have hB := hG.blk _ _ hb
  obtain ⟨hm, q1, q2, _, arr, fr, q3, q4, q5, q6⟩ := hB.2 gen (Nat.le_refl _)
  rw [hh] at q1; injection q1 with q1; subst q1
  have q2 := q2 rfl
  obtain ⟨q5a, q5b⟩ := q5 rfl
  obtain ⟨hsh, v0, r1, _⟩ := q6 o tag a0 hc ht
  have hlt : o - h.shift < arr.size := by
    rcases Nat.lt_or_ge (o - h.shift) arr.size with h' | h'
    · exact h'
    · rw [Array.getElem?_eq_none h'] at r1; cases r1
  have hcell : w.cell? ⟨h.blk, o - h.shift, none⟩ = some v0 := by simp [World.cell?, q3, r1]
  have hfrz : w.frozen? ⟨h.blk, o - h.shift, none⟩ = false := by
    simp only [World.frozen?, q3]
    obtain ⟨f1, f2⟩ := fr
    cases hx : (decide (f1 ≤ o - h.shift) && decide (o - h.shift < f2)) with
    | false => rfl
    | true =>
      simp only [Bool.and_eq_true, decide_eq_true_eq] at hx
      have := q5b (o - h.shift) (.inl (by omega)) hx.1 hx.2
      exact absurd (by omega) hfz
  refine ⟨hsh, ?_, ?_⟩
  · rw [run_store P w _ v .plain (oneA_ok hv hone), hcell]
    simp [hfrz]
  · refine hG.turn hb h64 h.blk q2 ((Below.refl _ _).setCell (p := ⟨h.blk, o - h.shift, none⟩) q2 v) (by simp [World.setCell]) (fun k hk _ => ?_) (fun b' g' h' hh' e' => (hG.inj _ _ _ _ _ _ hh' hh e').1) ⟨fun o' x hx => ?_, fun g' hg' => ?_⟩
    · rw [heap_setCell, if_neg (fun e => hk e.symm)]
    · by_cases eo : o' = o
      · subst eo
        have := T.get_set_some _ _ hx
        rw [this]
        exact ⟨(hB.1 _ _ hc).1, (hB.1 _ _ hc).2.1, Nat.le_refl _⟩
      · rw [T.get_set_ne _ eo] at hx; exact hB.1 _ _ hx
    · obtain ⟨hm', s1, s2, s2', arr', fr', s3, s4, s5, s6⟩ := hB.2 g' hg'
      by_cases eb : hm'.blk = h.blk
      · obtain ⟨_, ehm⟩ := hG.inj _ _ _ _ _ _ s1 hh eb
        subst ehm
        rw [q3] at s3; injection s3 with s3; injection s3 with s3a s3b s3c
        subst s3a; subst s3c
        refine ⟨_, s1, s2, s2', arr.setIfInBounds (o - hm'.shift) v, fr, ?_, by simpa using s4, s5, fun o' tag' a' ho' ht' => ?_⟩
        · rw [heap_setCell, if_pos rfl, q3]; rfl
        · by_cases eo : o' = o
          · subst eo
            have := T.get_set_some _ _ ho'
            injection this with e1 e2
            subst e2
            exact ⟨hsh, v, by rw [Array.getElem?_setIfInBounds]; simp [hlt], hv⟩
          · rw [T.get_set_ne _ eo] at ho'
            obtain ⟨u1, v', u2, u3⟩ := s6 o' tag' a' ho' ht'
            exact ⟨u1, v', by rw [Array.getElem?_setIfInBounds, if_neg (by omega)]; exact u2, u3⟩
      · refine ⟨hm', s1, s2, s2', arr', fr', ?_, s4, s5, fun o' tag' a' ho' ht' => ?_⟩
        · rw [heap_setCell, if_neg (fun e => eb e.symm)]; exact s3
        · by_cases eo : o' = o
          · subst eo
            have := T.get_set_some _ _ ho'
            injection this with e1 e2
            have : g' = gen := by omega
            subst this
            rw [hh] at s1; injection s1 with s1; subst s1
            exact absurd rfl eb
          · rw [T.get_set_ne _ eo] at ho'
            exact s6 o' tag' a' ho' ht'

theorem stsT {b gen lo hi fl fh o0 ty : Nat} {h : Home} (h64 : b + 1 < 2 ^ 64) (hh : ρ.at_ b gen = some h) (ho0 : h.shift ≤ o0) : ∀ (l : List AV) (vs : List Value) (i : Nat) (c : T Cell) (w : World) (H : T ABlk) (k : T Cell → Tr),
    Good w0 ρ H w → H.get b = some (.cells c gen lo hi fl fh false ty) → LR ρ l vs → run (stsK gen fl fh l (o0 + i) c k) σ K = true →
    ∃ c' w', run (k c') σ K = true ∧ (storeCells ⟨h.blk, o0 - h.shift, none⟩ vs i).run P w = .ok () w' ∧ Good w0 ρ (H.set b (.cells c' gen lo hi fl fh false ty)) w' := by
  intro l
  induction l with
  | nil =>
    intro vs i c w H k hG hb hl hr
    rw [hl.nil_inv]
    exact ⟨c, w, hr, rfl, hG.ext fun b' => by
      by_cases e : b' = b
      · subst e; rw [T.get_set_same _ _ _ h64, hb]
      · rw [T.get_set_ne _ e]⟩
  | cons a l ih =>
    intro vs i c w H k hG hb hl hr
    obtain ⟨v, vs', rfl, hv, hl'⟩ := hl.cons_inv
    have hr : run (bif' (oneA a) (bif' (bif' (Nat.ble fl (o0 + i)) (Nat.ble (Nat.succ (o0 + i)) fh) false) .fail (T.getK c (o0 + i) .fail fun x => match x with
      | .mk tag _ => bif' (Nat.ble tag gen) (T.setK c (o0 + i) (.mk gen a) fun c => fN (Nat.succ (o0 + i)) fun o => stsK gen fl fh l o c k) .fail)) .fail) σ K = true := hr
    obtain ⟨hone, hr⟩ := bifT hr
    obtain ⟨hfz, hr⟩ := bifF hr
    obtain ⟨x, hx, hr⟩ := getT hr
    cases x with
    | mk tag a0 =>
      obtain ⟨ht, hr⟩ := bifT hr
      rw [T.setK_eq] at hr
      have hr := fNT hr
      have hfz' : ¬ (fl ≤ o0 + i ∧ o0 + i < fh) := fun ⟨e1, e2⟩ => by
        rw [bif'_eq, if_pos (Nat.ble_eq.mpr e1)] at hfz
        rw [Nat.ble_eq.mpr e2] at hfz; cases hfz
      obtain ⟨_, s1, s2⟩ := hG.store (P := P) hb h64 hh hx (bleT ht) hv hone hfz'
      obtain ⟨c', w', r1, r2, r3⟩ := ih vs' (i + 1) (c.set (o0 + i) (.mk gen a)) _ _ k s2 (T.get_set_same _ _ _ h64) hl' hr
      refine ⟨c', w', r1, ?_, r3.ext fun b' => ?_⟩
      · have ea : (⟨h.blk, o0 - h.shift, none⟩ : Addr).add i = ⟨h.blk, o0 + i - h.shift, none⟩ := by
          unfold Addr.add
          split
          · rename_i e; subst e; simp
          · simp; omega
        simp only [storeCells, Sem.run_bind, ea, s1, Result.andThen_ok]
        exact r2
      · by_cases e : b' = b
        · subst e; rw [T.get_set_same _ _ _ h64, T.get_set_same _ _ _ h64]
        · rw [T.get_set_ne _ e, T.get_set_ne _ e, T.get_set_ne _ e]

theorem storeRow_ok {b g o : Nat} {h : Home} {l : List AV} {vs : List Value} {k : Tr} (hS : SI σ) (hG : Good w0 ρ σ.h w) (hh : ρ.at_ b g = some h) (ho : h.shift ≤ o) (hl : LR ρ l vs) (hr : run (storeRowK b g o l k) σ K = true) :
    ResU P w0 ρ w k K (storeCells ⟨h.blk, o - h.shift, none⟩ vs) := by
  have h64 := rd_small hS hr
  obtain ⟨x, σ1, hx, e1, hS1, hr⟩ := rd_ok hS hr
  cases x with
  | cells c gen lo hi fl fh ro ty =>
    obtain ⟨hro, hr⟩ := bifF hr
    subst hro
    obtain ⟨hg, hr⟩ := bifT hr
    have hg := beqT hg
    subst hg
    obtain ⟨c', w', r1, r2, r3⟩ := stsT (P := P) (o0 := o) h64 hh ho l vs 0 c w σ.h _ hG hx hl hr
    obtain ⟨x0, σ2, _, e2, hS2, _, r4⟩ := wr_ok hS1 r1
    exact ⟨σ2, w', r4, hS2, by rw [e2, e1]; exact r3, r2⟩
  | _ => exact (nofail hr).elim

theorem store_ok {t : TypeId} {x y : AV} {v u : Value} {k : Tr} (hS : SI σ) (hG : Good w0 ρ σ.h w) (hx : VR ρ x v) (hy : VR ρ y u) (hr : run (storeK P t x y k) σ K = true) : ResU P w0 ρ w k K (Instr.storeAt t v u) := by
  cases hx with
  | ptr b g o h hh ho =>
    obtain ⟨i, hi, hr⟩ := sizeT hr
    obtain ⟨l, hl, hr⟩ := cellsT hy hr
    obtain ⟨hlen, hr⟩ := bifT hr
    have hlen := beqT hlen
    obtain ⟨σ', w', r1, r2, r3, r4⟩ := storeRow_ok (P := P) hS hG hh ho hl hr
    refine ⟨σ', w', r1, r2, r3, ?_⟩
    have hsz : u.cells.size = i.size := by rw [← Array.length_toList, hl.1]; exact hlen
    simp only [Instr.storeAt, Instr.sureAddr, storeVar, Sem.run_bind, Sem.run_pure, Result.andThen_ok, sizeOf_run hi, hsz, ne_eq, not_true_eq_false, if_false]
    exact r4
  | _ => exact (nofail hr).elim
end
end Go.Sim
