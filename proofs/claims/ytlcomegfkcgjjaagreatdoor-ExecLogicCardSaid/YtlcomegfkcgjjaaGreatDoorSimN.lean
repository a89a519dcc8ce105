/-
  SIM, part N: literals.
-/
import Derived.Test.YtlcomegfkcgjjaaGreatDoorSimM
namespace Go.Sim
open Go.RowKit (Below)
set_option linter.unusedVariables false

theorem foldl_set_get (off : Nat) : ∀ (l : List Value) (j : Nat) (cs : Array Value), off + j + l.length ≤ cs.size →
    ((l.zipIdx j).foldl (fun cs p => cs.setIfInBounds (off + p.2) p.1) cs).size = cs.size ∧
    ∀ x, ((l.zipIdx j).foldl (fun cs p => cs.setIfInBounds (off + p.2) p.1) cs)[x]? = if off + j ≤ x ∧ x < off + j + l.length then l[x - off - j]? else cs[x]? := by
  intro l
  induction l with
  | nil => intro j cs _; refine ⟨rfl, fun x => ?_⟩; simp; intro h1 h2; omega
  | cons a l ih =>
    intro j cs h
    simp only [List.length_cons] at h
    rw [List.zipIdx_cons, List.foldl_cons]
    obtain ⟨h1, h2⟩ := ih (j + 1) (cs.setIfInBounds (off + j) a) (by simp; omega)
    refine ⟨by rw [h1]; simp, fun x => ?_⟩
    rw [h2 x, Array.getElem?_setIfInBounds]
    simp only [List.length_cons]
    by_cases e : x = off + j
    · subst e
      rw [if_neg (by omega), if_pos rfl, if_pos (by omega), if_pos (by omega)]
      simp
    · by_cases e2 : off + (j + 1) ≤ x ∧ x < off + (j + 1) + l.length
      · rw [if_pos e2, if_pos (by omega), show x - off - j = (x - off - (j + 1)) + 1 by omega]
        simp
      · rw [if_neg e2, if_neg (by omega), if_neg (by omega)]

section
variable {P : Program} {w0 : World} {ρ : Rho} {w : World} {σ : St} {K : Fin} {k : AV → Tr}

theorem fillOne_LR {l cs : List AV} {arr : Array Value} {vs : Array Value} {off : Nat} (hl : LR ρ l arr.toList) (hc : LR ρ cs vs.toList) (hlen : off + cs.length ≤ l.length) :
    LR ρ (fillOne l off cs) (vs.zipIdx.foldl (fun cs (c, j) => cs.setIfInBounds (off + j) c) arr).toList := by
  have hn : vs.size = cs.length := by have := hc.1; simpa using this
  have hm : arr.size = l.length := by have := hl.1; simpa using this
  have e : vs.zipIdx.foldl (fun cs (c, j) => cs.setIfInBounds (off + j) c) arr = (vs.toList.zipIdx 0).foldl (fun cs p => cs.setIfInBounds (off + p.2) p.1) arr := by
    rw [← Array.foldl_toList, Array.toList_zipIdx]
  rw [e]
  obtain ⟨h1, h2⟩ := foldl_set_get off vs.toList 0 arr (by simp [hn, hm]; omega)
  have hlenE : (fillOne l off cs).length = l.length := by simp [fillOne]; omega
  refine ⟨by rw [hlenE]; simp [h1, hm], fun i a v ha hv => ?_⟩
  have hv : ((vs.toList.zipIdx 0).foldl (fun cs p => cs.setIfInBounds (off + p.2) p.1) arr)[i]? = some v := by simpa using hv
  rw [h2 i] at hv
  have hi : i < l.length := by
    rcases Nat.lt_or_ge i l.length with h' | h'
    · exact h'
    · rw [List.getElem?_eq_none (by rw [hlenE]; exact h')] at ha; cases ha
  have hvl : vs.toList.length = cs.length := by simp [hn]
  rw [hvl] at hv
  by_cases c1 : i < off
  · rw [if_neg (by omega)] at hv
    have : (fillOne l off cs)[i]? = l[i]? := by
      unfold fillOne
      rw [List.append_assoc, List.getElem?_append_left (by simp; omega), List.getElem?_take, if_pos c1]
    rw [this] at ha
    exact hl.2 i a v ha (by simpa using hv)
  · by_cases c2 : i < off + cs.length
    · rw [if_pos (by omega)] at hv
      have : (fillOne l off cs)[i]? = cs[i - off]? := by
        unfold fillOne
        rw [List.append_assoc, List.getElem?_append_right (by simp; omega), List.getElem?_append_left (by simp; omega)]
        congr 1; simp; omega
      rw [this] at ha
      exact hc.2 (i - off) a v ha (by simpa using hv)
    · rw [if_neg (by omega)] at hv
      have : (fillOne l off cs)[i]? = l[i]? := by
        unfold fillOne
        rw [List.getElem?_append_right (by simp; omega)]
        rw [List.getElem?_drop]
        congr 1; simp; omega
      rw [this] at ha
      exact hl.2 i a v ha (by simpa using hv)

theorem fillT {place : Nat → Option (Nat × Nat)} : ∀ (parts : List (Nat × AV)) (ps : List (Nat × Value)) (cells : List AV) (arr : Array Value) (k : List AV → Tr), parts.map (·.1) = ps.map (·.1) → LR ρ (parts.map (·.2)) (ps.map (·.2)) → LR ρ cells arr.toList →
    run (fillA place cells parts k) σ K = true → ∃ l arr', run (k l) σ K = true ∧ LR ρ l arr'.toList ∧ Instr.fill place arr ps = some arr' := by
  intro parts
  induction parts with
  | nil =>
    intro ps cells arr k h1 h2 hl h
    have : ps = [] := by cases ps <;> simp at h1 ⊢
    subst this
    exact ⟨cells, arr, h, hl, rfl⟩
  | cons p parts ih =>
    intro ps cells arr k h1 h2 hl h
    cases ps with
    | nil => simp at h1
    | cons q ps =>
      simp only [List.map_cons, List.cons.injEq] at h1
      obtain ⟨h1a, h1b⟩ := h1
      simp only [List.map_cons] at h2
      obtain ⟨v, vs', e, hv, h2'⟩ := h2.cons_inv
      injection e with e1 e2
      subst e1; subst e2
      have h : run (oel (place p.1) .fail fun q => cellsK p.2 fun cs => bif' (Nat.beq cs.length q.2) (bif' (Nat.ble (q.1 + q.2) cells.length) (forceA (fillOne cells q.1 cs) fun cells => fillA place cells parts k) .fail) .fail) σ K = true := h
      obtain ⟨pl, hpl, h⟩ := oelT h
      obtain ⟨cs, hcs, h⟩ := cellsT hv h
      obtain ⟨hb1, h⟩ := bifT h
      obtain ⟨hb2, h⟩ := bifT h
      have hb1 := beqT hb1
      have hb2 := bleT hb2
      have hn : q.2.cells.size = cs.length := by have := hcs.1; simpa using this
      have hm : arr.size = cells.length := by have := hl.1; simpa using this
      obtain ⟨l, arr', r1, r2, r3⟩ := ih ps _ _ k h1b h2' (fillOne_LR (off := pl.1) hl hcs (by omega)) (forceAT h)
      refine ⟨l, arr', r1, r2, ?_⟩
      obtain ⟨qi, qv⟩ := q
      obtain ⟨off, size⟩ := pl
      simp only at h1a hb1 hb2 hn ⊢
      simp only [Instr.fill, ← h1a, hpl]
      rw [if_neg]
      · exact r3
      · simp; omega

theorem places_run (fs : Array Field) (h : sizesOk P fs = true) : ∃ pl : Array (Nat × Nat), (fs.mapM fun f => do pure (f.offset, ← sizeOf f.type) : Sem (Array (Nat × Nat))).run P w = .ok pl w ∧ ∀ i, pl[i]? = places P fs i := by
  refine ⟨(fs.toList.map fun f => (f.offset, ((P.info? f.type).map (·.size)).getD 0)).toArray, ?_, fun i => ?_⟩
  · rw [Array.mapM_eq_mapM_toList, Sem.run_map]
    have key : ∀ l : List Field, (∀ f ∈ l, (P.info? f.type).isSome = true) → (l.mapM fun f => do pure (f.offset, ← sizeOf f.type) : Sem (List (Nat × Nat))).run P w = .ok (l.map fun f => (f.offset, ((P.info? f.type).map (·.size)).getD 0)) w := by
      intro l
      induction l with
      | nil => intro _; rfl
      | cons f l ih =>
        intro hl
        have hf := hl f (by simp)
        cases hi : P.info? f.type with
        | none => rw [hi] at hf; cases hf
        | some i =>
          rw [List.mapM_cons]
          simp only [Sem.run_bind, sizeOf_run hi, Result.andThen_ok, Sem.run_pure, ih (fun x hx => hl x (by simp [hx]))]
          simp [hi]
    rw [key fs.toList (fun f hf => by simp only [sizesOk, List.all_eq_true] at h; exact h f hf)]
    rfl
  · simp only [places, List.getElem?_toArray, List.getElem?_map, Array.getElem?_toList]
    cases hf : fs[i]? with
    | none => rfl
    | some f =>
      simp only [Option.map_some]
      have : (P.info? f.type).isSome = true := by
        simp only [sizesOk, List.all_eq_true] at h
        exact h f (List.mem_of_getElem? (by simpa using hf))
      cases hi : P.info? f.type with
      | none => rw [hi] at this; cases this
      | some x => rfl

theorem build_ok {t : TypeId} {parts : List (Nat × AV)} {ps : Array (Nat × Value)} (hS : SI σ) (hG : Good w0 ρ σ.h w) (h1 : parts.map (·.1) = ps.toList.map (·.1)) (h2 : LR ρ (parts.map (·.2)) (ps.toList.map (·.2)))
    (h : run (buildA P t parts k) σ K = true) : Res P w0 ρ w k K (Instr.build t ps) := by
  obtain ⟨z, zv, i, hi, hz, hzr, h⟩ := zeroT ρ w h
  obtain ⟨d, hu, h⟩ := undT h
  cases d with
  | struct fs =>
    obtain ⟨hs, h⟩ := bifT h
    obtain ⟨zl, hzl, h⟩ := cellsT hzr h
    obtain ⟨l, arr, r1, r2, r3⟩ := fillT parts ps.toList zl zv.cells _ h1 h2 hzl h
    obtain ⟨pl, p1, p2⟩ := places_run (P := P) (w := w) fs hs
    refine .plain r1 hS hG (VR.agg l arr r2.arr.1 r2.arr.2) ?_
    have e : (fun x => pl[x]?) = places P fs := funext p2
    simp only [Instr.build, Sem.run_bind, hz, Result.andThen_ok, run_underlying hu, p1]
    rw [e, r3]
    rfl
  | array n e =>
    obtain ⟨j, hj, h⟩ := sizeT h
    obtain ⟨zl, hzl, h⟩ := cellsT hzr h
    obtain ⟨l, arr, r1, r2, r3⟩ := fillT parts ps.toList zl zv.cells _ h1 h2 hzl h
    refine .plain r1 hS hG (VR.agg l arr r2.arr.1 r2.arr.2) ?_
    simp only [Instr.build, Sem.run_bind, hz, Result.andThen_ok, run_underlying hu, sizeOf_run hj]
    rw [r3]
    rfl
  | _ => exact (nofail h).elim
theorem repeat_len (z : List AV) (n : Nat) : (repeatL z n).length = n * z.length := by
  induction n with
  | zero => simp [repeatL]
  | succ n ih => simp [repeatL, ih, Nat.succ_mul]; omega
theorem repeat_LR {z : List AV} {zv : Array Value} (hz : LR ρ z zv.toList) (hpos : 1 ≤ z.length) (n : Nat) : LR ρ (repeatL z n) ((Array.range (n * z.length)).map fun i => zv[i % zv.size]!).toList := by
  have hs : zv.size = z.length := by have := hz.1; simpa using this
  refine ⟨by simp [repeat_len], fun i a v ha hv => ?_⟩
  have hi : i < n * z.length := by
    rcases Nat.lt_or_ge i (n * z.length) with h' | h'
    · exact h'
    · rw [List.getElem?_eq_none (by rw [repeat_len]; exact h')] at ha; cases ha
  have key : ∀ (n i : Nat), i < n * z.length → (repeatL z n)[i]? = z[i % z.length]? := by
    intro n
    induction n with
    | zero => intro i hi; simp at hi
    | succ n ih =>
      intro i hi
      simp only [repeatL]
      by_cases c : i < z.length
      · rw [List.getElem?_append_left c, Nat.mod_eq_of_lt c]
      · rw [List.getElem?_append_right (by omega), ih _ (by rw [Nat.succ_mul] at hi; omega)]
        congr 1
        rw [Nat.mod_eq_sub_mod (by omega : i ≥ z.length)]
  rw [key n i hi] at ha
  have hv : zv[i % zv.size]! = v := by
    simp [hi] at hv
    exact hv
  have hlt : i % zv.size < zv.size := Nat.mod_lt _ (by omega)
  refine hz.2 (i % z.length) a v ha ?_
  rw [← hs]
  simp only [Array.getElem?_toList]
  rw [← hv, getElem!_pos zv _ hlt, Array.getElem?_eq_getElem hlt]
theorem buildSlice_ok {t : TypeId} {len : Nat} {parts : List (Nat × AV)} {ps : Array (Nat × Value)} (hS : SI σ) (hG : Good w0 ρ σ.h w) (h1 : parts.map (·.1) = ps.toList.map (·.1)) (h2 : LR ρ (parts.map (·.2)) (ps.toList.map (·.2)))
    (h : run (buildSliceA P t len parts k) σ K = true) : Res P w0 ρ w k K (Instr.buildSlice t len ps) := by
  obtain ⟨d, hu, h⟩ := undT h
  cases d with
  | slice e =>
    obtain ⟨j, hj, h⟩ := sizeT h
    obtain ⟨hb, h⟩ := bifT h
    obtain ⟨hb1, h⟩ := bifT h
    have hb := bleT hb
    have hb1 := bleT hb1
    obtain ⟨z, zv, i, hi, hz, hzr, h⟩ := zeroT ρ w h
    obtain ⟨zl, hzl, h⟩ := cellsT hzr h
    obtain ⟨hb2, h⟩ := bifT h
    have hb2 := beqT hb2
    have hrep := repeat_LR hzl (by omega) len
    rw [hb2] at hrep
    obtain ⟨zero, hrun, hrep'⟩ : ∃ zero : Array Value, (if len * j.size = 0 then pure #[] else do pure (← zeroValue e).cells : Sem (Array Value)).run P w = .ok zero w ∧ LR ρ (repeatL zl len) ((Array.range (len * j.size)).map fun i => zero[i % zero.size]!).toList := by
      by_cases e0 : len * j.size = 0
      · have : len = 0 := by
          rcases Nat.mul_eq_zero.mp e0 with h' | h'
          · exact h'
          · omega
        subst this
        refine ⟨#[], by rw [if_pos e0]; rfl, ?_⟩
        simp [repeatL]; exact LR.nil ρ
      · exact ⟨zv.cells, by rw [if_neg e0]; simp [hz], hrep⟩
    obtain ⟨l, arr, r1, r2, r3⟩ := fillT parts ps.toList (repeatL zl len) _ _ h1 h2 hrep' h
    obtain ⟨q1, q2⟩ := LR.to_arr r2
    obtain ⟨b, σ', h5, hS', hle, hG'⟩ := newRow_ok arr e hS hG q1 q2 r1
    refine ⟨_, σ', _, _, _, h5, hS', hG', hle, VR.slc b 0 0 len (some len) j.size _ len ⟨Nat.le_refl _, rfl, _, Rho.put_at _ _ _ _, Nat.zero_le _, rfl⟩, ?_⟩
    simp only [Instr.buildSlice, Sem.run_bind, run_underlying hu, Result.andThen_ok, sizeOf_run hj]
    rw [if_neg (by omega)]
    by_cases e0 : len * j.size = 0
    · rw [if_pos e0] at hrun ⊢
      rw [Sem.run_bind, hrun]
      simp only [Result.andThen_ok, r3]
      simp [newRow]
    · rw [if_neg e0] at hrun ⊢
      have hz0 : zv.cells = zero := by simpa [hz] using hrun
      subst hz0
      simp only [Sem.run_bind, hz, Result.andThen_ok, Sem.run_pure, r3]
      simp [newRow]
  | _ => exact (nofail h).elim
end
end Go.Sim
