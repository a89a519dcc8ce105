/-
  SYM, part R: append, len, maps and iterators (of what the first version needs).
-/
import Derived.Test.YtldnnonkobikdaaGreatDoorSymM
import Derived.Test.YtldnnonkobikdaaGreatDoorSymR1
import Derived.Test.YtldnnonkobikdaaGreatDoorSymR2
import Derived.Laws.Sem
namespace Go.Sym
open Go.RowKit (Below)
set_option linter.unusedVariables false
section
variable {P : Program} {w0 : World} {ρ : Rho} {w : World} {σ : St} {K : Fin} {k : AV → Tr}
theorem run_getObj' {r : Nat} {o : Obj} (h : w.heap[r]? = some o) (ho : ∀ c t f, o ≠ .cells c t f) : (getObj r).run P w = .ok o w := by
  cases o <;> first | (exact absurd rfl (ho _ _ _)) | (simp [getObj, Sem.run, h])
theorem lenA_ok {x : AV} {v : Value} {f : Nat → Tr} (hx : VR ρ x v) (h : run (lenA x f) σ K = true) : ∃ n, run (f n) σ K = true ∧ ∀ w, (Builtin.lenOf v).run P w = .ok n w := by
  cases hx with
  | nils => exact ⟨0, h, fun _ => rfl⟩
  | slc b g o len cap es a c hsl => exact ⟨len, h, fun _ => rfl⟩
  | str s =>
    have hn : (bytesOf s).length = s.size := by unfold bytesOf; rw [List.length_map]; rfl
    exact ⟨s.size, by have := fNT h; rw [hn] at this; exact this, fun _ => rfl⟩
  | _ => exact (nofail h).elim
theorem firstK_ok {x : AV} {v : Value} {size n len : Nat} {f : List AV → Tr} (hS : SI σ) (hG : Good w0 ρ σ.h w) (hx : VR ρ x v) (hlen : (Builtin.lenOf v).run P w = .ok len w) (hn : n ≤ len) (hsz : 1 ≤ size) (h : run (firstK size n x f) σ K = true) :
    ∃ l cs σ', σ'.h = σ.h ∧ SI σ' ∧ run (f l) σ' K = true ∧ LR ρ l cs ∧ cs.length = n * size ∧ ∀ w2 : World, w2.heap = w.heap → (Builtin.firstCells size n v).run P w2 = .ok cs.toArray w2 := by
  cases hx with
  | nils =>
    have : len = 0 := by
      have : Result.ok 0 w = Result.ok len w := hlen
      injection this with e; exact e.symm
    subst this
    have : n = 0 := by omega
    subst this
    exact ⟨[], [], σ, rfl, hS, h, LR.nil ρ, by simp, fun _ _ => rfl⟩
  | slc b g o ln cap es a c hsl =>
    have : ln = len := by
      have : Result.ok ln w = Result.ok len w := hlen
      injection this
    subst this
    rcases bif2 h with ⟨hz, h⟩ | ⟨hz, h⟩
    · have hz := beqT hz
      refine ⟨[], [], σ, rfl, hS, h, LR.nil ρ, by simp [hz], fun w2 _ => ?_⟩
      simp [Builtin.firstCells, hz, loadCells, loadCellsFrom]
    · have h := fNT h
      have hpos : 0 < ln := by
        rcases Nat.eq_zero_or_pos n with e | e
        · subst e; simp at hz
        · omega
      obtain ⟨hm, hh, ho, ea⟩ := slHome hsl hpos
      subst ea
      obtain ⟨l, cs, σ', e1, hS', h, hL, hlen, hcell, _⟩ := loadRow_ok (P := P) hS hG hh ho h
      refine ⟨l, cs, σ', e1, hS', h, hL, hlen, fun w2 hw2 => run_firstCells_some w2 size n _ ln c cs hlen fun j v hj => ?_⟩
      rw [add_addr ho, ← hcell j v hj]
      simp only [World.cell?, hw2]
      rw [show o + j - hm.shift = o - hm.shift + j by omega]
  | str s =>
    obtain ⟨h1, h⟩ := bifT h
    have h1 := beqT h1
    subst h1
    have h := forceAT (forceT h)
    have hls : s.size = len := by
      have : Result.ok s.size w = Result.ok len w := hlen
      injection this
    have hL := (byteCells_LR ρ s).take n
    have e1 : (byteCells (bytesOf s)).take n = byteCells ((bytesOf s).take n) := by simp [byteCells, List.map_take]
    rw [e1] at hL
    refine ⟨_, _, σ, rfl, hS, h, hL, ?_, fun w2 _ => ?_⟩
    · have : s.data.size = s.size := rfl
      simp; omega
    simp only [Builtin.firstCells, Sem.run_pure]
    congr 1
    apply Array.ext'
    simp [ByteArray.data_extract, List.extract_eq_take_drop]
  | _ => exact (nofail h).elim
theorem grow_ok {e : TypeId} {size need : Nat} {old new : List AV} {ovs nvs : List Value} {rest : Nat → List Value} {a : Value} (hS : SI σ) (hG : Good w0 ρ σ.h w) (ho : LR ρ old ovs) (hn : LR ρ new nvs)
    (c : Nat) (hc : need ≤ c) (hr : ovs.length + nvs.length + (rest c).length = c * size)
    (h : run (appendGrow e size old new need k) σ K = true) (s : Sem Value) (hs : s.run P w = .ok (.slice (some ⟨w.heap.size, 0, none⟩) need c) (w.drew.alloc (.cells (ovs ++ nvs ++ rest c).toArray e))) : Res P w0 ρ w k K s := by
  have h := forceAT h
  have hL := ho.append hn
  obtain ⟨b, σ', h2, hS', hle, hG'⟩ := newRow_ok (w := w.drew) (ovs ++ nvs ++ rest c).toArray e hS (hG.drawn _) (by simp [ho.1, hn.1]) (fun i a ha => by
    obtain ⟨v, hv, hr⟩ := hL.get ha
    refine ⟨v, ?_, hr⟩
    have hi : i < (ovs ++ nvs).length := by
      rcases Nat.lt_or_ge i (ovs ++ nvs).length with h' | h'
      · exact h'
      · rw [List.getElem?_eq_none h'] at hv; cases hv
    show (ovs ++ nvs ++ rest c).toArray[i]? = some v
    rw [List.getElem?_toArray, List.getElem?_append_left hi]; exact hv) h
  refine ⟨_, σ', _, _, _, h2, hS', hG', hle, ?_, hs⟩
  refine .slc _ _ _ _ _ _ _ _ ⟨hc, .inr ⟨_, Rho.put_at _ _ _ _, Nat.zero_le _, rfl, ?_⟩⟩
  show 0 - 0 + c * size ≤ (ovs ++ nvs ++ rest c).toArray.size
  simp; omega
theorem tailT_run {g : Nat} {f : T Cell → Tr} : ∀ (l : List AV) (i : Nat) (t : T Cell), run (tailT g l i t f) σ K = true →
    ∃ c, run (f c) σ K = true ∧ (∀ a ∈ l, oneA a = true) ∧ ∀ o x, c.get o = some x → (∃ (j : Nat) (a : AV), o = i + j ∧ l[j]? = some a ∧ x = .mk g a) ∨ (t.get o = some x ∧ (o < i ∨ i + l.length ≤ o)) := by
  intro l
  induction l with
  | nil => intro i t h; exact ⟨t, h, by simp, fun o x hx => .inr ⟨hx, by simp; omega⟩⟩
  | cons a l ih =>
    intro i t h
    have h : run (bif' (oneA a) (T.setK t i (.mk g a) fun t => fN (Nat.succ i) fun i => tailT g l i t f) .fail) σ K = true := h
    obtain ⟨h1, h⟩ := bifT h
    rw [T.setK_eq] at h
    obtain ⟨c, h2, h3, h4⟩ := ih _ _ (fNT h)
    refine ⟨c, h2, fun b hb => ?_, fun o x hx => ?_⟩
    · rcases List.mem_cons.mp hb with e | hb
      · subst e; exact h1
      · exact h3 b hb
    · rcases h4 o x hx with ⟨j, b, e, hb, hx'⟩ | ⟨hx', ho⟩
      · exact .inl ⟨j + 1, b, by omega, by simpa using hb, hx'⟩
      · by_cases e : o = i
        · subst e
          have := T.get_set_some _ _ hx'
          exact .inl ⟨0, a, by omega, rfl, this⟩
        · rw [T.get_set_ne _ e] at hx'
          exact .inr ⟨hx', by simp at ho ⊢; omega⟩
theorem Good.fork {H : T ABlk} {w' : World} (hG : Good w0 ρ H w) {b gen lo hi fl fh hi' ty : Nat} {c c' : T Cell} {h2 : Home} (hb : H.get b = some (.cells c gen lo hi fl fh false ty)) (h64 : b + 1 < 2 ^ 64)
    (hbe : Kept ρ.own w0.heap.size w w') (hrest : ∀ k, k < w.heap.size → (∀ g h, ρ.at_ b g = some h → h.blk ≠ k) → w'.heap[k]? = w.heap[k]?) (hsz : w.heap.size ≤ w'.heap.size) (hother : ∀ b' g h, b' ≠ b → ρ.at_ b' g = some h → w'.heap[h.blk]? = w.heap[h.blk]?) (hh2 : h2.blk < w'.heap.size)
    (hnew : (∃ g', ρ.at_ b g' = some h2) ∨ w.heap.size ≤ h2.blk) (hB : ρ.le (ρ.put b (gen + 1) h2) → BR (ρ.put b (gen + 1) h2) w0.heap.size w' b (.cells c' (gen + 1) lo hi' fl fh false ty)) :
    ρ.le (ρ.put b (gen + 1) h2) ∧ Good w0 (ρ.put b (gen + 1) h2) (H.set b (.cells c' (gen + 1) lo hi' fl fh false ty)) w' := by
  have hnone : ρ.at_ b (gen + 1) = none := by
    cases h : ρ.at_ b (gen + 1) with
    | none => rfl
    | some x =>
      have : gen + 1 ≤ gen := hG.gens b (gen + 1) x _ h hb
      omega
  have hle : ρ.le (ρ.put b (gen + 1) h2) := Rho.le_put hnone
  refine ⟨hle, hG.below.trans hbe, fun b' y hy => ?_, fun b' g h hh => ?_, fun b1 g1 x1 b2 g2 x2 hx1 hx2 e => ?_, fun b' g h y hh hy => ?_, fun b' arr ty hf => ?_, hG.frzB⟩
  · by_cases e : b' = b
    · subst e
      rw [T.get_set_same _ _ _ h64] at hy
      injection hy with hy; subst hy
      exact hB hle
    · rw [T.get_set_ne _ e] at hy
      exact (hG.blk b' y hy).keep hle fun g h hh => hother b' g h e hh
  · simp only [Rho.put] at hh
    split at hh
    · rename_i e
      injection hh with hh; subst hh
      exact ⟨hh2, _, by rw [e.1]; exact T.get_set_same _ _ _ h64⟩
    · obtain ⟨q1, y, q2⟩ := hG.dom _ _ _ hh
      refine ⟨by omega, ?_⟩
      by_cases e : b' = b
      · subst e; exact ⟨_, T.get_set_same _ _ _ h64⟩
      · exact ⟨y, by rw [T.get_set_ne _ e]; exact q2⟩
  · simp only [Rho.put] at hx1 hx2
    split at hx1
    · rename_i c1
      injection hx1 with hx1
      subst hx1
      split at hx2
      · rename_i c2
        injection hx2 with hx2
        exact ⟨c1.1.trans c2.1.symm, hx2⟩
      · rcases hnew with ⟨g', hg'⟩ | hnew
        · rw [c1.1]; exact hG.inj _ _ _ _ _ _ hg' hx2 e
        · have := (hG.dom _ _ _ hx2).1; omega
    · split at hx2
      · rename_i c2
        injection hx2 with hx2
        subst hx2
        rcases hnew with ⟨g', hg'⟩ | hnew
        · rw [c2.1]; exact hG.inj _ _ _ _ _ _ hx1 hg' e
        · have := (hG.dom _ _ _ hx1).1; omega
      · exact hG.inj _ _ _ _ _ _ hx1 hx2 e
  · by_cases e : b' = b
    · subst e
      rw [T.get_set_same _ _ _ h64] at hy
      injection hy with hy; subst hy
      simp only [Rho.put] at hh
      split at hh
      · rename_i c1; show g ≤ gen + 1; omega
      · have : g ≤ gen := hG.gens b' g h _ hh hb
        show g ≤ gen + 1; omega
    · rw [T.get_set_ne _ e] at hy
      simp only [Rho.put] at hh
      split at hh
      · rename_i c1; exact absurd c1.1 e
      · exact hG.gens b' g h y hh hy
  · have hf : ρ.frz b' = some (arr, ty) := hf
    obtain ⟨⟨fr, q1⟩, q2⟩ := hG.frz b' arr ty hf
    have hlt : b' < w.heap.size := by
      rcases Nat.lt_or_ge b' w.heap.size with h' | h'
      · exact h'
      · rw [Array.getElem?_eq_none h'] at q1; cases q1
    refine ⟨⟨fr, by rw [hrest b' hlt (fun g h hh => q2 _ _ _ hh)]; exact q1⟩, fun b1 g h hh => ?_⟩
    simp only [Rho.put] at hh
    split at hh
    · injection hh with hh; subst hh
      rcases hnew with ⟨g', hg'⟩ | hnew
      · exact q2 _ _ _ hg'
      · omega
    · exact q2 _ _ _ hh
theorem Good.forkX {H : T ABlk} {w' : World} (hG : Good w0 ρ H w) {b gen : Nat} {x0 x : ABlk} {h2 : Home} (hb : H.get b = some x0) (hg0 : ∀ g, gOk g x0 → g ≤ gen) (hg1 : ∀ g, g ≤ gen + 1 → gOk g x) (h64 : b + 1 < 2 ^ 64)
    (hbe : Kept ρ.own w0.heap.size w w') (hrest : ∀ k, k < w.heap.size → (∀ g h, ρ.at_ b g = some h → h.blk ≠ k) → w'.heap[k]? = w.heap[k]?) (hsz : w.heap.size ≤ w'.heap.size) (hother : ∀ b' g h, b' ≠ b → ρ.at_ b' g = some h → w'.heap[h.blk]? = w.heap[h.blk]?) (hh2 : h2.blk < w'.heap.size)
    (hnew : (∃ g', ρ.at_ b g' = some h2) ∨ w.heap.size ≤ h2.blk) (hB : ρ.le (ρ.put b (gen + 1) h2) → BR (ρ.put b (gen + 1) h2) w0.heap.size w' b x) :
    ρ.le (ρ.put b (gen + 1) h2) ∧ Good w0 (ρ.put b (gen + 1) h2) (H.set b x) w' := by
  have hnone : ρ.at_ b (gen + 1) = none := by
    cases h : ρ.at_ b (gen + 1) with
    | none => rfl
    | some y =>
      have : gen + 1 ≤ gen := hg0 _ (hG.gens b (gen + 1) y _ h hb)
      omega
  have hle : ρ.le (ρ.put b (gen + 1) h2) := Rho.le_put hnone
  refine ⟨hle, hG.below.trans hbe, fun b' y hy => ?_, fun b' g h hh => ?_, fun b1 g1 x1 b2 g2 x2 hx1 hx2 e => ?_, fun b' g h y hh hy => ?_, fun b' arr ty hf => ?_, hG.frzB⟩
  · by_cases e : b' = b
    · subst e
      rw [T.get_set_same _ _ _ h64] at hy
      injection hy with hy; subst hy
      exact hB hle
    · rw [T.get_set_ne _ e] at hy
      exact (hG.blk b' y hy).keep hle fun g h hh => hother b' g h e hh
  · simp only [Rho.put] at hh
    split at hh
    · rename_i e
      injection hh with hh; subst hh
      exact ⟨hh2, _, by rw [e.1]; exact T.get_set_same _ _ _ h64⟩
    · obtain ⟨q1, y, q2⟩ := hG.dom _ _ _ hh
      refine ⟨by omega, ?_⟩
      by_cases e : b' = b
      · subst e; exact ⟨_, T.get_set_same _ _ _ h64⟩
      · exact ⟨y, by rw [T.get_set_ne _ e]; exact q2⟩
  · simp only [Rho.put] at hx1 hx2
    split at hx1
    · rename_i c1
      injection hx1 with hx1
      subst hx1
      split at hx2
      · rename_i c2
        injection hx2 with hx2
        exact ⟨c1.1.trans c2.1.symm, hx2⟩
      · rcases hnew with ⟨g', hg'⟩ | hnew
        · rw [c1.1]; exact hG.inj _ _ _ _ _ _ hg' hx2 e
        · have := (hG.dom _ _ _ hx2).1; omega
    · split at hx2
      · rename_i c2
        injection hx2 with hx2
        subst hx2
        rcases hnew with ⟨g', hg'⟩ | hnew
        · rw [c2.1]; exact hG.inj _ _ _ _ _ _ hx1 hg' e
        · have := (hG.dom _ _ _ hx1).1; omega
      · exact hG.inj _ _ _ _ _ _ hx1 hx2 e
  · by_cases e : b' = b
    · subst e
      rw [T.get_set_same _ _ _ h64] at hy
      injection hy with hy; subst hy
      simp only [Rho.put] at hh
      split at hh
      · rename_i c1; exact hg1 g (by omega)
      · have : g ≤ gen := hg0 _ (hG.gens b' g h _ hh hb)
        exact hg1 g (by omega)
    · rw [T.get_set_ne _ e] at hy
      simp only [Rho.put] at hh
      split at hh
      · rename_i c1; exact absurd c1.1 e
      · exact hG.gens b' g h y hh hy
  · have hf : ρ.frz b' = some (arr, ty) := hf
    obtain ⟨⟨fr, q1⟩, q2⟩ := hG.frz b' arr ty hf
    have hlt : b' < w.heap.size := by
      rcases Nat.lt_or_ge b' w.heap.size with h' | h'
      · exact h'
      · rw [Array.getElem?_eq_none h'] at q1; cases q1
    refine ⟨⟨fr, by rw [hrest b' hlt (fun g h hh => q2 _ _ _ hh)]; exact q1⟩, fun b1 g h hh => ?_⟩
    simp only [Rho.put] at hh
    split at hh
    · injection hh with hh; subst hh
      rcases hnew with ⟨g', hg'⟩ | hnew
      · exact q2 _ _ _ hg'
      · omega
    · exact q2 _ _ _ hh
theorem put_old {b g gen : Nat} {h h2 : Home} (hg : g ≤ gen) (hh : ρ.at_ b g = some h) : (ρ.put b (gen + 1) h2).at_ b g = some h := by
  simp only [Rho.put]
  rw [if_neg (fun e => by omega)]; exact hh
theorem fork_room {b gen lo fl fh len size n ty : Nat} {c0 : T Cell} {new : List AV} {nvs : List Value} {H : T ABlk} {h : Home} (hG : Good w0 ρ H w) (h64 : b + 1 < 2 ^ 64)
    (hb : H.get b = some (.cells c0 gen lo (lo + len * size) fl fh false ty)) (hh : ρ.at_ b gen = some h) (ho : h.shift ≤ lo) (hfh : fh ≤ lo + len * size) (hnew : LR ρ new nvs) (hn : new.length = n * size) {cap : Nat} (hcap : len + n ≤ cap) (hfit : lo - h.shift + cap * size ≤ h.size)
    (hone : ∀ a ∈ new, oneA a = true) {c : T Cell} (hc : ∀ o x, c.get o = some x → (∃ (j : Nat) (a : AV), o = (lo + len * size) + j ∧ new[j]? = some a ∧ x = .mk (gen + 1) a) ∨ (c0.get o = some x ∧ (o < lo + len * size ∨ lo + len * size + new.length ≤ o))) :
    ∃ w', (storeCells ((⟨h.blk, lo - h.shift, none⟩ : Addr).add (len * size)) nvs).run P w = .ok () w' ∧ ρ.le (ρ.put b (gen + 1) h) ∧ Good w0 (ρ.put b (gen + 1) h) (H.set b (.cells c (gen + 1) lo (lo + len * size + n * size) fl fh false ty)) w' := by
  have hB := hG.blk _ _ hb
  obtain ⟨hm, q1, q2, _, arr, fr, q3, q4, q5, q6⟩ := hB.2 gen (Nat.le_refl _)
  rw [hh] at q1; injection q1 with q1; subst q1
  have q2 := q2 rfl
  obtain ⟨q5a, q5b⟩ := q5 rfl
  have hnl : nvs.length = n * size := by rw [hnew.1, hn]
  have hmul : (len + n) * size ≤ cap * size := Nat.mul_le_mul hcap (Nat.le_refl _)
  rw [Nat.add_mul] at hmul
  have hend : lo + len * size - h.shift + nvs.length ≤ arr.size := by rw [hnl, q4]; omega
  obtain ⟨arr', s1, s2, s3, s4, s5, s6, s7⟩ := setCells_heap h.blk nvs (lo + len * size - h.shift) w arr ty fr q3 hend
  have hst := run_storeCells_cells (P := P) h.blk (lo + len * size - h.shift) nvs 0 w (fun j hj => by
      simp only [World.cell?, q3]
      simp only [Option.isSome_none, Bool.false_eq_true, if_false, Nat.add_zero]
      rw [Array.getElem?_eq_getElem (by omega)]; rfl) (fun j hj => by
      simp only [World.frozen?, q3, Nat.add_zero]
      cases hx : (decide (fr.1 ≤ lo + len * size - h.shift + j) && decide (lo + len * size - h.shift + j < fr.2)) with
      | false => rfl
      | true =>
        simp only [Bool.and_eq_true, decide_eq_true_eq] at hx
        have := q5b _ (.inl (show lo + len * size - h.shift + j < h.size by rw [← q4]; omega)) hx.1 hx.2
        omega) (hnew.ones hone)
  rw [Nat.add_zero] at hst
  refine ⟨_, by rw [add_addr ho]; exact hst, ?_⟩
  refine hG.fork hb h64 (Kept.of_set (s7 0 (Nat.zero_le _)) s5 q2) (fun k _ hk => s5 k (fun e => hk gen h hh e.symm)) (by omega) (fun b' g' h' hne hh' => s5 _ fun e' => hne (hG.inj _ _ _ _ _ _ hh' hh e').1) (by have := (hG.dom _ _ _ hh).1; omega) (.inl ⟨gen, hh⟩) fun hle => ⟨fun o x hx => ?_, fun g hg => ?_⟩
  · rcases hc o x hx with ⟨j, a, e1, e2, e3⟩ | ⟨hx, hlt⟩
    · have : j < new.length := by
        rcases Nat.lt_or_ge j new.length with h' | h'
        · exact h'
        · rw [List.getElem?_eq_none h'] at e2; cases e2
      subst e3
      exact ⟨by omega, by omega, Nat.le_refl _⟩
    · have := hB.1 o x hx
      omega
  · by_cases eg : g = gen + 1
    · subst eg
      refine ⟨h, Rho.put_at _ _ _ _, fun _ => q2, (fun hc => by cases hc), arr', fr, s1, by omega, fun _ => ⟨q5a, q5b⟩, fun o tag a hoa ht => ?_⟩
      rcases hc o _ hoa with ⟨j, a', e1, e2, e3⟩ | ⟨hx, hlt⟩
      · injection e3 with e3 e4
        subst e4
        have hj : j < new.length := by
          rcases Nat.lt_or_ge j new.length with h' | h'
          · exact h'
          · rw [List.getElem?_eq_none h'] at e2; cases e2
        obtain ⟨v, hv, hr⟩ := hnew.get e2
        refine ⟨by omega, v, ?_, hr.mono hle⟩
        rw [show o - h.shift = lo + len * size - h.shift + j by omega, s3 j (by omega)]; exact hv
      · have hin := hB.1 o _ hx
        obtain ⟨r1, v, r2, r3⟩ := q6 o tag a hx (by have := hin.2.2; exact this)
        refine ⟨r1, v, ?_, r3.mono hle⟩
        rw [s4 _ (.inl (by omega))]; exact r2
    · have hg : g ≤ gen := by omega
      obtain ⟨hm', t1, t2, t2', arr1, fr1, t3, t4, t5, t6⟩ := hB.2 g hg
      by_cases eb : hm'.blk = h.blk
      · obtain ⟨_, ehm⟩ := hG.inj _ _ _ _ _ _ t1 hh eb
        subst ehm
        rw [q3] at t3; injection t3 with t3; injection t3 with t3a t3b t3c
        subst t3a; subst t3c
        refine ⟨_, put_old hg t1, t2, t2', arr', fr, s1, by omega, t5, fun o tag a hoa ht => ?_⟩
        rcases hc o _ hoa with ⟨j, a', e1, e2, e3⟩ | ⟨hx, hlt⟩
        · injection e3 with e3 e4
          omega
        · have hin := hB.1 o _ hx
          obtain ⟨r1, v, r2, r3⟩ := t6 o tag a hx ht
          refine ⟨r1, v, ?_, r3.mono hle⟩
          rw [s4 _ (.inl (by omega))]; exact r2
      · refine ⟨hm', put_old hg t1, t2, t2', arr1, fr1, by rw [s5 _ eb]; exact t3, t4, t5, fun o tag a hoa ht => ?_⟩
        rcases hc o _ hoa with ⟨j, a', e1, e2, e3⟩ | ⟨hx, hlt⟩
        · injection e3 with e3 e4
          omega
        · obtain ⟨r1, v, r2, r3⟩ := t6 o tag a hx ht
          exact ⟨r1, v, r2, r3.mono hle⟩
theorem fork_new {b gen lo fl fh len size n : Nat} {c0 : T Cell} {new : List AV} {nvs olds rest : List Value} {H : T ABlk} {h : Home} {e2 : TypeId} (hG : Good w0 ρ H w) (h64 : b + 1 < 2 ^ 64)
    (hb : H.get b = some (.cells c0 gen lo (lo + len * size) fl fh false e2)) (hh : ρ.at_ b gen = some h) (hnew : LR ρ new nvs) (hn : new.length = n * size) (holen : olds.length = len * size)
    (hsl : 0 < len → h.shift ≤ lo) (hold : ∀ j v, olds[j]? = some v → 0 < len → w.cell? ⟨h.blk, lo - h.shift + j, none⟩ = some v)
    {c : T Cell} (hc : ∀ o x, c.get o = some x → (∃ (j : Nat) (a : AV), o = (lo + len * size) + j ∧ new[j]? = some a ∧ x = .mk (gen + 1) a) ∨ (c0.get o = some x ∧ (o < lo + len * size ∨ lo + len * size + new.length ≤ o))) :
    ρ.le (ρ.put b (gen + 1) ⟨w.heap.size, lo, (olds ++ nvs ++ rest).length⟩) ∧
    Good w0 (ρ.put b (gen + 1) ⟨w.heap.size, lo, (olds ++ nvs ++ rest).length⟩) (H.set b (.cells c (gen + 1) lo (lo + len * size + n * size) fl fh false e2)) (w.drew.alloc (.cells (olds ++ nvs ++ rest).toArray e2)) := by
  have hB := hG.blk _ _ hb
  have hpush : ∀ k, k < w.heap.size → (w.drew.alloc (.cells (olds ++ nvs ++ rest).toArray e2)).heap[k]? = w.heap[k]? := fun k hk => Below.heap_alloc w.drew _ k hk
  have hnl : nvs.length = n * size := by rw [hnew.1, hn]
  refine hG.fork hb h64 (Kept.of (((Below.refl _ _).drew).alloc hG.below.size _)) (fun k hk _ => hpush k hk) (by simp) (fun b' g' h' _ hh' => hpush _ (hG.dom _ _ _ hh').1) (by simp) (.inr (Nat.le_refl _)) fun hle => ⟨fun o x hx => ?_, fun g hg => ?_⟩
  · rcases hc o x hx with ⟨j, a, e1, e2, e3⟩ | ⟨hx, hlt⟩
    · have : j < new.length := by
        rcases Nat.lt_or_ge j new.length with h' | h'
        · exact h'
        · rw [List.getElem?_eq_none h'] at e2; cases e2
      subst e3
      exact ⟨by omega, by omega, Nat.le_refl _⟩
    · have := hB.1 o x hx
      omega
  · by_cases eg : g = gen + 1
    · subst eg
      refine ⟨_, Rho.put_at _ _ _ _, fun _ => .new hG.below.size, (fun hc => by cases hc), (olds ++ nvs ++ rest).toArray, (0, 0), ?_, by simp, fun _ => ⟨Nat.le_refl _, fun x _ _ h3 => absurd h3 (by simp)⟩, fun o tag a hoa ht => ?_⟩
      · show (w.heap.push _)[w.heap.size]? = _
        simp
      rcases hc o _ hoa with ⟨j, a', e1, e2', e3⟩ | ⟨hx, hlt⟩
      · injection e3 with e3 e4
        subst e4
        have hj : j < new.length := by
          rcases Nat.lt_or_ge j new.length with h' | h'
          · exact h'
          · rw [List.getElem?_eq_none h'] at e2'; cases e2'
        obtain ⟨v, hv, hr⟩ := hnew.get e2'
        refine ⟨by show lo ≤ o; omega, v, ?_, hr.mono hle⟩
        show (olds ++ nvs ++ rest).toArray[o - lo]? = some v
        rw [List.getElem?_toArray, List.append_assoc, List.getElem?_append_right (by omega), List.getElem?_append_left (by omega), show o - lo - olds.length = j by omega]; exact hv
      · have hin := hB.1 o _ hx
        obtain ⟨hm, q1, q2, _, arr, fr, q3, q4, q5, q6⟩ := hB.2 gen (Nat.le_refl _)
        rw [hh] at q1; injection q1 with q1; subst q1
        obtain ⟨r1, v, r2, r3⟩ := q6 o tag a hx (by have := hin.2.2; exact this)
        refine ⟨hin.1, v, ?_, r3.mono hle⟩
        have hlt : o - lo < olds.length := by omega
        show (olds ++ nvs ++ rest).toArray[o - lo]? = some v
        rw [List.getElem?_toArray, List.append_assoc, List.getElem?_append_left hlt]
        have hpos : 0 < len := by
          rcases Nat.eq_zero_or_pos len with e0 | e0
          · subst e0; omega
          · exact e0
        have := hold (o - lo) olds[o - lo] (List.getElem?_eq_getElem hlt) hpos
        have hsl := hsl hpos
        rw [show lo - h.shift + (o - lo) = o - h.shift by omega] at this
        simp [World.cell?, q3, r2] at this
        rw [List.getElem?_eq_getElem hlt, this]
    · have hg : g ≤ gen := by omega
      obtain ⟨hm', t1, t2, t2', arr1, fr1, t3, t4, t5, t6⟩ := hB.2 g hg
      refine ⟨hm', put_old hg t1, t2, t2', arr1, fr1, by rw [hpush _ (hG.dom _ _ _ t1).1]; exact t3, t4, t5, fun o tag a hoa ht => ?_⟩
      rcases hc o _ hoa with ⟨j, a', e1, e2, e3⟩ | ⟨hx, hlt⟩
      · injection e3 with e3 e4
        omega
      · obtain ⟨r1, v, r2, r3⟩ := t6 o tag a hx ht
        exact ⟨r1, v, r2, r3.mono hle⟩
def growF (f : Nat → List AV) (len size : Nat) (new : List AV) : Nat → List AV := fun i => if i < len then f i else (new.drop ((i - len) * size)).take size
theorem growF_old {f : Nat → List AV} {len size i : Nat} {new : List AV} (h : i < len) : growF f len size new i = f i := by unfold growF; rw [if_pos h]
theorem growF_new {f : Nat → List AV} {len size i : Nat} {new : List AV} (h : ¬ i < len) : growF f len size new i = (new.drop ((i - len) * size)).take size := by unfold growF; rw [if_neg h]
theorem growF_len {f : Nat → List AV} {len size n i : Nat} {new : List AV} (h : ¬ i < len) (hi : i < len + n) (hn : new.length = n * size) : (growF f len size new i).length = size := by
  rw [growF_new h, List.length_take, List.length_drop, hn]
  have : (i - len) * size + size ≤ n * size := by rw [← Nat.succ_mul]; exact Nat.mul_le_mul_right _ (by omega)
  omega
theorem growF_get {f : Nat → List AV} {len size i j : Nat} {new : List AV} {a : AV} (h : ¬ i < len) (ha : (growF f len size new i)[j]? = some a) : j < size ∧ new[(i - len) * size + j]? = some a := by
  rw [growF_new h] at ha
  have hj : j < size := by
    rcases Nat.lt_or_ge j size with h' | h'
    · exact h'
    · rw [List.getElem?_eq_none (by rw [List.length_take]; omega)] at ha; cases ha
  rw [List.getElem?_take_of_lt hj, List.getElem?_drop] at ha
  exact ⟨hj, ha⟩
theorem grow_cells {f : Nat → List AV} {len size n : Nat} {new : List AV} {nvs : List Value} {arr : Array Value} (hnew : LR ρ new nvs) (hn : new.length = n * size)
    (h1 : ∀ i, i < len → (f i).length = size ∧ ∀ j a, (f i)[j]? = some a → ∃ u, arr[i * size + j]? = some u ∧ VR ρ a u) (h2 : ∀ j v, nvs[j]? = some v → arr[len * size + j]? = some v) :
    ∀ i, i < len + n → (growF f len size new i).length = size ∧ ∀ j a, (growF f len size new i)[j]? = some a → ∃ u, arr[i * size + j]? = some u ∧ VR ρ a u := by
  intro i hi
  by_cases h : i < len
  · rw [growF_old h]; exact h1 i h
  · refine ⟨growF_len h hi hn, fun j a ha => ?_⟩
    obtain ⟨hj, ha⟩ := growF_get h ha
    obtain ⟨u, hu, hr⟩ := hnew.get ha
    refine ⟨u, ?_, hr⟩
    have := h2 _ _ hu
    rw [← Nat.add_assoc, ← Nat.add_mul, show len + (i - len) = i by omega] at this
    exact this
theorem growK_ok {tys : Array TypeId} {ts tx e ty : TypeId} {dx : TypeDesc} {i : TypeInfo} {z : Value} {b g len n : Nat} {l : List AV} {cs : List Value} {v u : Value} (hS : SI σ) (hG : Good w0 ρ σ.h w) (hx : VR ρ (.gsl b g len i.size) v) (h0 : tys[0]? = some ts) (h1 : tys[1]? = some tx)
    (ht : P.underlying ts = some (.slice e)) (hdx : P.underlying tx = some dx) (hni : ∀ j, dx ≠ .int j) (hi : P.info? e = some i) (hby : i.bytes ≤ 1000) (hiz : i.zero = some z) (hzs : z.cells.size = i.size)
    (hlen : ∀ w : World, (Builtin.lenOf u).run P w = .ok n w) (hn : n ≤ 1000000) (hpos : 0 < n) (hL : LR ρ l cs) (hcl : cs.length = n * i.size) (hfirst : ∀ w2 : World, w2.heap = w.heap → (Builtin.firstCells i.size n u).run P w2 = .ok cs.toArray w2)
    (h : run (growK e b g len i.size n l k) σ K = true) : Res P w0 ρ w k K (Builtin.append_ tys ty #[v, u]) := by
  have h64 := rd_small hS h
  obtain ⟨q, σ1, hq, e1, hS1, h⟩ := rd_ok hS h
  have hG1 : Good w0 ρ σ1.h w := by rw [e1]; exact hG
  cases q with
  | grow c0 gen t2 =>
    obtain ⟨k1, z1⟩ := bifT h
    obtain ⟨k2, z2⟩ := bifT z1
    obtain ⟨k3, z3⟩ := bifT z2
    obtain ⟨k4, z4⟩ := bifT z3
    obtain ⟨k5, z5⟩ := bifT z4
    cases hap : c0.app l n with
    | none => rw [hap] at z5; exact (nofail z5).elim
    | some r0 =>
    obtain ⟨c1, pr⟩ := r0
    rw [hap] at z5
    obtain ⟨⟨k6, k7, kp⟩, z6⟩ := req_ok z5
    obtain ⟨x0, σ2, hx0, e2, hS2, _, z7⟩ := wr_ok hS1 z6
    clear h z1 z2 z3 z4 z5 z6
    have k1 := beqT k1
    have k2 := beqT k2
    have k3 := beqT k3
    have k4 := beqT k4
    have hone : ∀ a ∈ l, oneA a = true := fun a ha => List.all_eq_true.1 k5 a ha
    obtain ⟨a1, a2, a3, a4⟩ := app_ok hap kp (by rw [k4, k2])
    have ato : ∀ (ρ2 : Rho) (i2 : Nat), i2 < c0.len + n → ∀ vs, LR ρ2 (growF c0.row c0.len c0.es l i2) vs → LR ρ2 (c1.row i2) vs := fun ρ2 i2 hi2 vs hvs => by
      by_cases h' : i2 < c0.len
      · rw [growF_old h'] at hvs; rw [a3 i2 h']; exact hvs
      · rw [growF_new h'] at hvs
        exact a4 i2 (by omega) hi2 ρ2 vs hvs
    obtain ⟨f, hf⟩ : ∃ f, f = c0.row := ⟨_, rfl⟩
    obtain ⟨m, hm9⟩ : ∃ m, m = c0.len := ⟨_, rfl⟩
    have hfl : ∀ ii, (f ii).length = i.size := fun ii => by rw [hf, c0.row_len, k2]
    rw [← hf, ← hm9, k2] at ato
    rw [← hm9] at a1 k6
    rw [k2] at a2
    subst k1; subst k3; subst k6
    have hq1 : σ1.h.get b = some (.grow c0 g t2) := by rw [e1]; exact hq
    have hB := hG1.blk _ _ hq1
    have hnb : n * i.bytes ≤ 1000000 * 1000 := Nat.mul_le_mul hn hby
    have fresh : ∀ (base : Option Addr) (c : Nat) (olds : List Value), v = .slice base m c → c < m + n → Builtin.nextslicecap (m + n) c * i.bytes ≤ 281474976710656 → olds.length = m * i.size →
        (∀ ii, ii < m → (f ii).length = i.size ∧ ∀ j a, (f ii)[j]? = some a → ∃ uu, olds[ii * i.size + j]? = some uu ∧ VR ρ a uu) → (Builtin.firstCells i.size m (.slice base m c)).run P w.drew = .ok olds.toArray w.drew → Res P w0 ρ w k K (Builtin.append_ tys ty #[v, u]) := by
      intro base c olds ev hlt hfit hol hoc hof
      subst ev
      have hrun := run_append_new (P := P) (w := w) (ty := ty) h0 h1 ht hdx hni hi hiz (hlen w) hlt (by omega) hfit hof (hfirst _ rfl)
      have hge := grownCap_ge w (m + n) c t2
      have hpush : ∀ k, k < w.heap.size → (w.drew.alloc (.cells (olds ++ cs ++ (Builtin.zeroCells z.cells (grownCap w (m + n) c t2 - (m + n))).toList).toArray t2)).heap[k]? = w.heap[k]? := fun k hk => Below.heap_alloc w.drew _ k hk
      have hsz : (olds ++ cs ++ (Builtin.zeroCells z.cells (grownCap w (m + n) c t2 - (m + n))).toList).length = grownCap w (m + n) c t2 * i.size := by
        rw [List.length_append, List.length_append, hol, hcl, Array.length_toList, size_zeroCells, hzs, ← Nat.add_mul, ← Nat.add_mul]
        congr 1; omega
      obtain ⟨hle, hG3⟩ := hG1.forkX (w' := w.drew.alloc (.cells (olds ++ cs ++ (Builtin.zeroCells z.cells (grownCap w (m + n) c t2 - (m + n))).toList).toArray t2)) (x := .grow c1 (g + 1) t2) (gen := g)
        (h2 := ⟨w.heap.size, 0, grownCap w (m + n) c t2 * i.size⟩) hq1 (fun g' h' => h') (fun g' h' => h') h64 (Kept.of (((Below.refl _ _).drew).alloc hG.below.size _)) (fun k hk _ => hpush k hk) (by simp) (fun b' g' h' _ hh' => hpush _ (hG.dom _ _ _ hh').1) (by simp) (.inr (Nat.le_refl _)) (fun hle => by
          refine .inr ⟨_, Rho.put_at _ _ _ _, rfl, .new hG.below.size, (olds ++ cs ++ (Builtin.zeroCells z.cells (grownCap w (m + n) c t2 - (m + n))).toList).toArray, (0, 0), ?_, by rw [List.size_toArray]; exact hsz, ?_, fun x _ _ h3 => absurd h3 (by simp), ?_⟩
          · show (w.heap.push _)[w.heap.size]? = _
            simp
          · rw [a1, a2]; exact Nat.mul_le_mul_right _ hge
          · intro ii hii
            rw [a1] at hii
            rw [a2]
            have := grow_cells (ρ := ρ) (f := f) (len := m) (arr := (olds ++ cs ++ (Builtin.zeroCells z.cells (grownCap w (m + n) c t2 - (m + n))).toList).toArray) hL k4 (fun i2 hi2 => ⟨(hoc i2 hi2).1, fun j a ha => by
                obtain ⟨uu, u1, u2⟩ := (hoc i2 hi2).2 j a ha
                refine ⟨uu, ?_, u2⟩
                have hjl : i2 * i.size + j < olds.length := by
                  rcases Nat.lt_or_ge (i2 * i.size + j) olds.length with h' | h'
                  · exact h'
                  · rw [List.getElem?_eq_none h'] at u1; cases u1
                rw [List.getElem?_toArray, List.append_assoc, List.getElem?_append_left hjl]; exact u1⟩) (fun j vv hv => by
                have hjl : j < cs.length := by
                  rcases Nat.lt_or_ge j cs.length with h' | h'
                  · exact h'
                  · rw [List.getElem?_eq_none h'] at hv; cases hv
                rw [List.getElem?_toArray, List.append_assoc, List.getElem?_append_right (by omega), List.getElem?_append_left (by omega), show m * i.size + j - olds.length = j by omega]; exact hv) ii hii
            exact rows_to (fun j a ha => by obtain ⟨uu, u1, u2⟩ := this.2 j a ha; exact ⟨uu, u1, u2.mono hle⟩) (ato _ ii hii))
      refine ⟨_, σ2, _, _, _, z7, hS2, by rw [e2]; exact hG3, hle, .gsl b (g + 1) (m + n) i.size _ (grownCap w (m + n) c t2) (by omega) (Rho.put_at _ _ _ _) rfl hge (Nat.le_refl _), hrun⟩
    cases hx with
    | gnil _ _ _ =>
      refine fresh none 0 [] rfl (by omega) (by rw [Nat.zero_add, nextslicecap_zero hpos]; omega) (by simp) (fun ii hii => by omega) (by simp [Builtin.firstCells])
    | gempty _ _ _ a =>
      refine fresh (some a) 0 [] rfl (by omega) (by rw [Nat.zero_add, nextslicecap_zero hpos]; omega) (by simp) (fun ii hii => by omega) (by simp [Builtin.firstCells, loadCells, loadCellsFrom])
    | gsl _ _ _ _ hm c hm0 hh hsh hc hz =>
      rcases hB with hB | ⟨hm', q1, q2, q3, arr, fr, q4, q5, q6, q7, q8⟩
      · omega
      rw [← hf, ← hm9, k2] at q8
      rw [← hm9, k2] at q6
      rw [hh] at q1; injection q1 with q1; subst q1
      rcases Nat.lt_or_ge c (m + n) with hlt | hroom
      · have hmc : m * i.size ≤ c * i.size := Nat.mul_le_mul_right _ hc
        refine fresh (some ⟨hm.blk, 0, none⟩) c (arr.toList.take (m * i.size)) rfl hlt ?_ (by rw [List.length_take, Array.length_toList]; omega) (fun ii hii => ⟨hfl ii, fun j a ha => ?_⟩) ?_
        · have h1 : Builtin.nextslicecap (m + n) c ≤ 2 * (m + n) := nextslicecap_le hlt
          have h2 := Nat.mul_le_mul h1 hby
          omega
        · obtain ⟨uu, u1, u2⟩ := q8 ii hii j a ha
          refine ⟨uu, ?_, u2⟩
          have hj : j < i.size := by
            have := hfl ii
            rcases Nat.lt_or_ge j (f ii).length with h' | h'
            · omega
            · rw [List.getElem?_eq_none h'] at ha; cases ha
          have : ii * i.size + i.size ≤ m * i.size := by rw [← Nat.succ_mul]; exact Nat.mul_le_mul_right _ hii
          rw [List.getElem?_take_of_lt (by omega)]
          simpa using u1
        · refine run_firstCells_some _ i.size m _ m c _ (by rw [List.length_take, Array.length_toList]; omega) fun j vv hj => ?_
          rw [add_plain]
          rw [List.getElem?_take] at hj
          split at hj
          · show w.cell? _ = _
            rw [Nat.zero_add]
            simp [World.cell?, q4]
            simpa using hj
          · cases hj
      · have hmul : (m + n) * i.size ≤ c * i.size := Nat.mul_le_mul_right _ hroom
        rw [Nat.add_mul] at hmul
        have hend : m * i.size + cs.length ≤ arr.size := by rw [hcl]; omega
        obtain ⟨arr', s1, s2, s3, s4, s5, s6, s7⟩ := setCells_heap hm.blk cs (m * i.size) w arr t2 fr q4 hend
        have hst := run_storeCells_cells (P := P) hm.blk (m * i.size) cs 0 w (fun j hj => by
            simp only [World.cell?, q4]
            simp only [Option.isSome_none, Bool.false_eq_true, if_false, Nat.add_zero]
            rw [Array.getElem?_eq_getElem (by omega)]; rfl) (fun j hj => by
            simp only [World.frozen?, q4, Nat.add_zero]
            cases hx : (decide (fr.1 ≤ m * i.size + j) && decide (m * i.size + j < fr.2)) with
            | false => rfl
            | true =>
              simp only [Bool.and_eq_true, decide_eq_true_eq] at hx
              exact (q7 _ (by omega) hx.1 hx.2).elim) (hL.ones hone)
        rw [Nat.add_zero] at hst
        have hrun := run_append_store (P := P) (w := w) (ty := ty) h0 h1 ht hdx hni hi (hlen w) hroom (hfirst w rfl) (a := ⟨hm.blk, 0, none⟩) (by rw [add_plain, Nat.zero_add]; exact hst)
        obtain ⟨hle, hG3⟩ := hG1.forkX (w' := w.setCells hm.blk (m * i.size) cs) (x := .grow c1 (g + 1) t2) (gen := g) (h2 := hm) hq1 (fun g' h' => h') (fun g' h' => h') h64
          (Kept.of_set (s7 0 (Nat.zero_le _)) s5 q3) (fun k _ hk => s5 k (fun e => hk g hm hh e.symm)) (by omega) (fun b' g' h' hne hh' => s5 _ fun e' => hne (hG.inj _ _ _ _ _ _ hh' hh e').1) (by have := (hG.dom _ _ _ hh).1; omega) (.inl ⟨g, hh⟩) (fun hle => by
            refine .inr ⟨_, Rho.put_at _ _ _ _, q2, q3, arr', fr, s1, by omega, by rw [a1, a2, Nat.add_mul]; omega, q7, ?_⟩
            intro ii hii
            rw [a1] at hii
            rw [a2]
            have := grow_cells (ρ := ρ) (f := f) (len := m) (arr := arr') hL k4 (fun i2 hi2 => ⟨hfl i2, fun j a ha => by
                obtain ⟨uu, u1, u2⟩ := q8 i2 hi2 j a ha
                refine ⟨uu, ?_, u2⟩
                have hj : j < i.size := by
                  have := hfl i2
                  rcases Nat.lt_or_ge j (f i2).length with h' | h'
                  · omega
                  · rw [List.getElem?_eq_none h'] at ha; cases ha
                have : i2 * i.size + i.size ≤ m * i.size := by rw [← Nat.succ_mul]; exact Nat.mul_le_mul_right _ hi2
                rw [s4 _ (.inl (by omega))]; exact u1⟩) (fun j vv hv => by
                have hjl : j < cs.length := by
                  rcases Nat.lt_or_ge j cs.length with h' | h'
                  · exact h'
                  · rw [List.getElem?_eq_none h'] at hv; cases hv
                rw [s3 j hjl]; exact hv) ii hii
            exact rows_to (fun j a ha => by obtain ⟨uu, u1, u2⟩ := this.2 j a ha; exact ⟨uu, u1, u2.mono hle⟩) (ato _ ii hii))
        exact ⟨_, σ2, _, _, _, z7, hS2, by rw [e2]; exact hG3, hle, .gsl b (g + 1) (m + n) i.size hm c (by omega) (Rho.put_at _ _ _ _) hsh hroom hz, hrun⟩
  | _ => exact (nofail h).elim
theorem rd_congr {b : Nat} {f g : ABlk → Tr} (hfg : ∀ q σ', run (f q) σ' K = true → run (g q) σ' K = true) (h : run (.rd b f) σ K = true) : run (.rd b g) σ K = true := by
  cases σ with
  | mk H n fs tc w =>
    rw [run_rd] at h ⊢
    split at h
    case isFalse => cases h
    rename_i hb
    rw [if_pos hb]
    split at h
    · cases h
    · exact hfg _ _ h
def natsV (t : List Nat) : List AV := t.map fun n : Nat => AV.sI .u8 (Int.ofNat n)
def natsI (t : List Nat) : List Int := t.map fun n : Nat => Int.ofNat n
theorem pullB_nats (t : List Nat) : pullB (natsV t) = some (natsI t) ∧ toNats (natsI t) = t ∧ nonneg (natsI t) := by
  induction t with
  | nil => exact ⟨rfl, rfl, trivial⟩
  | cons a t ih =>
    obtain ⟨h1, h2, h3⟩ := ih
    refine ⟨?_, ?_, ?_⟩
    · show pullB (AV.sI .u8 (Int.ofNat a) :: natsV t) = some (Int.ofNat a :: natsI t)
      simp only [pullB, numS, h1]
    · show (Int.ofNat a).toNat :: toNats (natsI t) = a :: t
      rw [h2]; rfl
    · exact ⟨Int.natCast_nonneg _, h3⟩
theorem symB_ok {t : List Nat} {y : AV} {u : Value} (hG : Good w0 ρ σ.h w) (hy : VR ρ y u) (h : symB y = some t) :
    (∀ w : World, (Builtin.lenOf u).run P w = .ok t.length w) ∧ ∃ cs : List Value, LR ρ (natsV t) cs ∧ cs.length = t.length ∧ ∀ w2 : World, w2.heap = w.heap → (Builtin.firstCells 1 t.length u).run P w2 = .ok cs.toArray w2 := by
  cases hy with
  | sS s =>
    injection h with h
    subst h
    have hn : (bytesOf s).length = s.size := by unfold bytesOf; rw [List.length_map]; rfl
    have hL := byteCells_LR ρ s
    refine ⟨fun w => by rw [hn]; rfl, s.data.toList.map fun b => Value.int .u8 b.toNat, ⟨by simp [natsV, bytesOf], fun i a v ha hv => ?_⟩, ?_, fun w2 _ => ?_⟩
    · unfold natsV bytesOf at ha
      rw [List.map_map, List.getElem?_map] at ha
      rw [List.getElem?_map] at hv
      cases hs : s.data.toList[i]? with
      | none => rw [hs] at ha; cases ha
      | some b =>
        rw [hs] at ha hv
        injection ha with ha; injection hv with hv
        subst ha; subst hv
        exact .sI _ _
    · rw [hn, List.length_map]; rfl
    · rw [hn]
      simp only [Builtin.firstCells, Sem.run_pure]
      congr 1
      apply Array.ext'
      simp [ByteArray.data_extract, List.extract_eq_take_drop]
  | cv c blk off cp arr ty hf hc hb r =>
    cases c with
    | rows m l => cases h
    | bytes t' =>
    injection h with h
    subst h
    have hb : off + t'.length ≤ arr.size := by simpa [Ct.len, Ct.es] using hb
    refine ⟨fun w => rfl, ((arr.toList.drop off).take t'.length), ⟨by simp [natsV]; omega, fun i a v ha hv => ?_⟩, by simp; omega, fun w2 hw2 => ?_⟩
    · have hi : i < t'.length := by
        rcases Nat.lt_or_ge i t'.length with h' | h'
        · exact h'
        · rw [List.getElem?_eq_none (by simpa [natsV] using h')] at ha; cases ha
      unfold natsV at ha
      rw [List.getElem?_map, List.getElem?_eq_getElem hi] at ha
      injection ha with ha
      rw [List.getElem?_take_of_lt hi, List.getElem?_drop] at hv
      refine r i 0 a v hi ?_ ?_
      · show [AV.sI .u8 ((t'.getD i 0 : Nat) : Int)][0]? = some a
        rw [List.getD_eq_getElem?_getD, List.getElem?_eq_getElem hi, ← ha]; rfl
      · show arr[off + i * 1 + 0]? = some v
        rw [Nat.mul_one, Nat.add_zero, ← hv]; simp
    · obtain ⟨⟨fr, hw⟩, _⟩ := hG.frz _ _ _ hf
      refine run_firstCells_some w2 1 _ _ _ _ _ (by simp; omega) fun j v hj => ?_
      have hj' : j < t'.length := by
        rcases Nat.lt_or_ge j t'.length with h' | h'
        · exact h'
        · rw [List.getElem?_eq_none (by simp; omega)] at hj; cases hj
      rw [List.getElem?_take_of_lt hj', List.getElem?_drop] at hj
      have e1 : (⟨blk, off, none⟩ : Addr).add j = ⟨blk, off + j, none⟩ := by
        have := add_addr (h := ⟨blk, 0, 0⟩) (o := off) (n := j) (Nat.zero_le _)
        simpa using this
      rw [e1]
      simp only [World.cell?, hw2, hw]
      rw [← hj]; simp
  | cvnil c h0 =>
    cases c with
    | rows m l => cases h
    | bytes t' =>
    injection h with h
    subst h
    have h0 : t' = [] := List.length_eq_zero_iff.1 h0
    subst h0
    exact ⟨fun _ => rfl, [], LR.nil ρ, rfl, fun _ _ => rfl⟩
  | cvempty c a h0 =>
    cases c with
    | rows m l => cases h
    | bytes t' =>
    injection h with h
    subst h
    have h0 : t' = [] := List.length_eq_zero_iff.1 h0
    subst h0
    exact ⟨fun _ => rfl, [], LR.nil ρ, rfl, fun _ _ => by simp [Builtin.firstCells, loadCells, loadCellsFrom]⟩
  | _ => cases h
theorem appendE_ok {tys : Array TypeId} {ts tx e ty : TypeId} {dx : TypeDesc} {x y : AV} {v u : Value} (hS : SI σ) (hG : Good w0 ρ σ.h w) (hx : VR ρ x v) (hy : VR ρ y u) (h0 : tys[0]? = some ts) (h1 : tys[1]? = some tx)
    (ht : P.underlying ts = some (.slice e)) (hdx : P.underlying tx = some dx) (hni : ∀ j, dx ≠ .int j) (h : run (appendE P e x y k) σ K = true) : Res P w0 ρ w k K (Builtin.append_ tys ty #[v, u]) := by
  obtain ⟨i, hi, h⟩ := infoT h
  obtain ⟨hby, h⟩ := bifT h
  have hby := bleT hby
  obtain ⟨hs1, h⟩ := bifT (fNT h)
  have hs1 := bleT hs1
  obtain ⟨z, zv, i', hi', hzr, hz, h⟩ := zeroT ρ w h
  have hiz : i.zero = some zv := by
    simp [zeroValue, typeInfo, Sem.run_bind, run_program, hi] at hzr
    cases hz0 : i.zero with
    | none => rw [hz0] at hzr; simp at hzr
    | some q => rw [hz0] at hzr; simp at hzr; rw [hzr]
  obtain ⟨zl, hzl, h⟩ := cellsT hz h
  obtain ⟨hzs, h⟩ := bifT h
  have hzs := beqT hzs
  have hzs : zv.cells.size = i.size := by rw [← Array.length_toList, hzl.1]; exact hzs
  cases hsb : symB y with
  | some t =>
    rw [hsb] at h
    obtain ⟨hs1', h⟩ := bifT h
    have hs1' := beqT hs1'
    cases x with
    | gsl b g len es =>
      obtain ⟨hes, h⟩ := bifT h
      have hes := beqT hes
      subst hes
      obtain ⟨hlen, cs, hL, hcl, hfirst⟩ := symB_ok (P := P) (w := w) hG hy hsb
      rcases ask_ok h with ⟨hpos, h⟩ | ⟨hpos, h⟩
      · have h2 : run (growK e b g len 1 t.length (natsV t) k) σ K = true ∧ t.length ≤ 1000000 := by
          refine ⟨rd_congr (fun q σ' h => ?_) h, ?_⟩
          · cases q with
            | grow c gen ty2 =>
              cases c with
              | rows m l => exact (nofail h).elim
              | bytes l0 =>
              obtain ⟨k1, h⟩ := bifT h
              obtain ⟨k2, h⟩ := bifT h
              obtain ⟨k3, h⟩ := req_ok h
              obtain ⟨p1, p2, p3⟩ := pullB_nats t
              show run (bif' (Nat.beq g gen) (bif' (Nat.beq 1 1) (bif' (Nat.beq ty2 e) (bif' (Nat.beq (natsV t).length (t.length * 1)) (bif' ((natsV t).all oneA) _ .fail) .fail) .fail) .fail) .fail) σ' K = true
              have q1 : Nat.beq (natsV t).length (t.length * 1) = true := by rw [Nat.beq_eq]; simp [natsV]
              have q2 : (natsV t).all oneA = true := by unfold natsV; rw [List.all_map, List.all_eq_true]; intro _ _; rfl
              have q3 : Nat.beq (natsI t).length t.length = true := by rw [Nat.beq_eq]; simp [natsI]
              rw [k1, k2, q1, q2]
              have q4 : Ct.app (.bytes l0) (natsV t) t.length = some (.bytes (l0 ++ t), nonneg (natsI t)) := by
                simp only [Ct.app, p1, p2, q3]; rfl
              show run (match Ct.app (.bytes l0) (natsV t) t.length with
                | some (c', p) => Tr.req ((Ct.bytes l0).len = len ∧ len ≤ 1000000000 ∧ p) (.wr b (.grow c' (gen + 1) ty2) (k (.gsl b (gen + 1) (len + t.length) 1)))
                | none => .fail) σ' K = true
              rw [q4]
              show run (Tr.req _ _) σ' K = true
              rw [run_req_pos _ _ _ ⟨k3.1, k3.2.1, p3⟩]
              exact h
            | _ => exact (nofail h).elim
          · obtain ⟨q, σ1, _, _, _, h⟩ := rd_ok hS h
            cases q with
            | grow c gen ty2 =>
              cases c with
              | rows m l => exact (nofail h).elim
              | bytes l0 =>
              obtain ⟨k1, h⟩ := bifT h
              obtain ⟨k2, h⟩ := bifT h
              obtain ⟨k3, h⟩ := req_ok h
              exact k3.2.2
            | _ => exact (nofail h).elim
        rw [← hs1'] at h2 hfirst hx
        exact growK_ok (ty := ty) hS hG hx h0 h1 ht hdx hni hi hby hiz hzs hlen h2.2 hpos hL (by rw [hcl, hs1', Nat.mul_one]) hfirst h2.1
      · have hn0 : t.length = 0 := by omega
        rw [hn0] at hlen
        cases hx with
        | gsl _ _ _ _ hm c hn0 hh hsh hcc hz =>
          exact .plain h hS hG (.gsl _ _ _ _ hm c hn0 hh hsh hcc hz) (run_append_none h0 h1 ht hdx hni hi (hlen _) hcc (firstCells_none (hlen w)))
        | gnil _ _ _ => exact .plain h hS hG (.gnil _ _ _) (run_append_none h0 h1 ht hdx hni hi (hlen _) (Nat.le_refl _) (firstCells_none (hlen w)))
        | gempty _ _ _ a => exact .plain h hS hG (.gempty _ _ _ a) (run_append_none h0 h1 ht hdx hni hi (hlen _) (Nat.le_refl _) (firstCells_none (hlen w)))
    | _ => exact (nofail h).elim
  | none =>
  rw [hsb] at h
  obtain ⟨n, h, hlen⟩ := lenA_ok (P := P) hy h
  obtain ⟨hn, h⟩ := bifT h
  have hn := bleT hn
  obtain ⟨l, cs, σ', e1, hS', h, hL, hcl, hfirst⟩ := firstK_ok (P := P) (w := w.drew) hS (hG.drawn _) hy (hlen _) (Nat.le_refl _) hs1 h
  have hG' : Good w0 ρ σ'.h w := by rw [e1]; exact hG
  have gcase : ∀ b g len es, VR ρ (.gsl b g len es) v → run (appendTo e i.size n l (.gsl b g len es) k) σ' K = true → Res P w0 ρ w k K (Builtin.append_ tys ty #[v, u]) := by
    intro b g len es hx h
    obtain ⟨hes, h⟩ := bifT h
    have hes := beqT hes
    subst hes
    rcases bif2 h with ⟨h0', h⟩ | ⟨h0', h⟩
    · have h0' := beqT h0'
      subst h0'
      cases hx with
      | gsl _ _ _ _ hm c hn0 hh hsh hcc hz =>
        exact .plain h hS' hG' (.gsl _ _ _ _ hm c hn0 hh hsh hcc hz) (run_append_none h0 h1 ht hdx hni hi (hlen _) hcc (firstCells_none (hlen w)))
      | gnil _ _ _ => exact .plain h hS' hG' (.gnil _ _ _) (run_append_none h0 h1 ht hdx hni hi (hlen _) (Nat.le_refl _) (firstCells_none (hlen w)))
      | gempty _ _ _ a => exact .plain h hS' hG' (.gempty _ _ _ a) (run_append_none h0 h1 ht hdx hni hi (hlen _) (Nat.le_refl _) (firstCells_none (hlen w)))
    · have hpos : 0 < n := by
        rcases Nat.eq_zero_or_pos n with e | e
        · subst e; simp at h0'
        · exact e
      exact growK_ok (ty := ty) hS' hG' hx h0 h1 ht hdx hni hi hby hiz hzs hlen hn hpos hL hcl (fun w2 hw2 => hfirst w2 hw2) h
  cases hx with
  | nils =>
    rcases bif2 h with ⟨h0', h⟩ | ⟨h0', h⟩
    · have h0' := beqT h0'
      subst h0'
      exact .plain h hS' hG' .nils (run_append_none h0 h1 ht hdx hni hi (hlen _) (Nat.le_refl _) (firstCells_none (hlen w)))
    · have hpos : 0 < n := by
        rcases Nat.eq_zero_or_pos n with e | e
        · subst e; simp at h0'
        · exact e
      have hnb : n * i.bytes ≤ 1000000 * 1000 := Nat.mul_le_mul hn hby
      have hrun := run_append_new (P := P) (w := w) (ty := ty) (base := none) (sLen := 0) (sCap := 0) (olds := []) h0 h1 ht hdx hni hi hiz (hlen w) (by omega) (by omega) (by rw [Nat.zero_add, nextslicecap_zero hpos]; omega) (by simp [Builtin.firstCells]) (hfirst _ rfl)
      rw [Nat.zero_add] at hrun
      have hge := grownCap_ge w n 0 e
      refine grow_ok (a := .nilIface) (ovs := []) (nvs := cs) (rest := fun c => (Builtin.zeroCells zv.cells (c - n)).toList) hS' hG' (LR.nil ρ) hL (grownCap w n 0 e) hge ?_ h _ hrun
      simp only [List.length_nil, Array.length_toList, size_zeroCells, hzs, hcl, Nat.zero_add, ← Nat.add_mul]
      congr 1; omega
  | slc b g o len cap es a c hsl =>
    obtain ⟨hes, h⟩ := bifT h
    obtain ⟨hlm, h⟩ := bifT h
    have hes := beqT hes
    have hlm := bleT hlm
    rcases bif2 h with ⟨h0', h⟩ | ⟨h0', h⟩
    · have h0' := beqT h0'
      subst h0'
      exact .plain h hS' hG' (.slc _ _ _ _ _ _ _ _ hsl) (run_append_none h0 h1 ht hdx hni hi (hlen _) hsl.1 (firstCells_none (hlen w)))
    · have hpos : 0 < n := by
        rcases Nat.eq_zero_or_pos n with e | e
        · subst e; simp at h0'
        · exact e
      have h := fNT h
      have hfits : Builtin.nextslicecap (len + n) c * i.bytes ≤ 281474976710656 ∨ len + n ≤ c := by
        rcases Nat.lt_or_ge c (len + n) with hlt | hge
        · left
          have h1 : Builtin.nextslicecap (len + n) c ≤ 2 * (len + n) := nextslicecap_le hlt
          have h2 := Nat.mul_le_mul h1 hby
          omega
        · exact .inr hge
      have hge := grownCap_ge w (len + n) c e
      have hszr : ∀ (m : Nat), len * i.size + cs.length + (Builtin.zeroCells zv.cells (m - (len + n))).toList.length = (len + n) * i.size + (m - (len + n)) * i.size := fun m => by
        have hz1 : (Builtin.zeroCells zv.cells (m - (len + n))).toList.length = (m - (len + n)) * i.size := by rw [Array.length_toList, size_zeroCells, hzs]
        rw [hz1, hcl, Nat.add_mul]
      cases cap with
      | some k0 =>
        obtain ⟨hlc, ek, hm, hh, ho, ea⟩ := hsl
        subst ek
        subst ea
        rcases bif2 h with ⟨hrm, h⟩ | ⟨hrm, h⟩
        · have hrm := bleT hrm
          have h := fNT h
          obtain ⟨σ2, w2, q1, q2, q3, q4⟩ := storeRow_ok (P := P) hS' hG' hh (show hm.shift ≤ o + len * i.size by omega) hL h
          refine ⟨_, σ2, ρ, _, w2, q1, q2, q3, Rho.le.refl ρ, .slc _ _ _ _ _ _ _ _ ⟨hrm, rfl, hm, hh, ho, rfl⟩, ?_⟩
          exact run_append_store h0 h1 ht hdx hni hi (hlen w) hrm (hfirst w rfl) (by rw [add_addr ho]; exact q4)
        · have hrm := bleF hrm
          obtain ⟨lo, ovs, σ2, e2, hS2, h, hLo, hol, hof⟩ := firstK_ok (P := P) (v := .slice (some ⟨hm.blk, o - hm.shift, none⟩) len c) (len := len) hS' hG' (.slc b g o len (some c) es _ c ⟨hlc, rfl, hm, hh, ho, rfl⟩) rfl (Nat.le_refl _) hs1 h
          have hG2 : Good w0 ρ σ2.h w := by rw [e2]; exact hG'
          have hrun := run_append_new (P := P) (w := w) (ty := ty) h0 h1 ht hdx hni hi hiz (hlen w) hrm (by omega) (hfits.resolve_right (by omega)) (hof _ rfl) (hfirst _ rfl)
          refine grow_ok (a := .nilIface) (ovs := ovs) (nvs := cs) (rest := fun m => (Builtin.zeroCells zv.cells (m - (len + n))).toList) hS2 hG2 hLo hL (grownCap w (len + n) c e) hge ?_ h _ hrun
          rw [hol]
          have := hszr (grownCap w (len + n) c e)
          rw [this, ← Nat.add_mul]
          congr 1; omega
      | none =>
        have h64 := rd_small hS' h
        obtain ⟨q, σ2, hq, e2, hS2, h⟩ := rd_ok hS' h
        have hG2 : Good w0 ρ σ2.h w := by rw [e2]; exact hG'
        cases q with
        | cells c0 gen lo hi fl fh ro ty =>
          obtain ⟨k1, z1⟩ := bifF h
          obtain ⟨k2, z2⟩ := bifT z1
          obtain ⟨k3, z3⟩ := bifT z2
          obtain ⟨k4, z4⟩ := bifT z3
          obtain ⟨k5, z5'⟩ := bifT z4
          obtain ⟨k6, z5⟩ := bifT z5'
          have z6 := fNT z5
          clear h z1 z2 z3 z4 z5 z5'
          have k6 := beqT k6
          have k2 := beqT k2
          have k3 := beqT k3
          have k4 := beqT k4
          have k5 := bleT k5
          subst k1; subst k2; subst k3; subst ty
          subst hes
          subst k4
          obtain ⟨ct, z7, hone, hct⟩ := tailT_run _ _ _ z6
          have z8 := fNT z7
          obtain ⟨x0, σ3, _, e3, hS3, _, z9⟩ := wr_ok hS2 z8
          have hcl' : l.length = n * i.size := by rw [← hL.1]; exact hcl
          obtain ⟨hm0, hat0, _⟩ := (hG'.blk _ _ hq).2 g (Nat.le_refl _)
          rcases Nat.lt_or_ge c (len + n) with hlt | hroom
          · obtain ⟨olds, hol, hoc, hof⟩ : ∃ olds : List Value, olds.length = len * i.size ∧ (∀ j v, olds[j]? = some v → 0 < len → w.cell? ⟨hm0.blk, o - hm0.shift + j, none⟩ = some v) ∧ (Builtin.firstCells i.size len (.slice (some a) len c)).run P w.drew = .ok olds.toArray w.drew := by
              rcases Nat.eq_zero_or_pos len with hz0 | hz0
              · subst hz0
                exact ⟨[], by simp, by simp, by simp [Builtin.firstCells, loadCells, loadCellsFrom]⟩
              · obtain ⟨hlc, hsl2⟩ := hsl
                obtain ⟨hm, hh, ho, ea, hfit⟩ := hsl2.resolve_left (fun hc => by omega)
                rw [hat0] at hh; injection hh with hh; subst hh
                obtain ⟨hm', q1, q2, _, arr, fr, q3, q4, q5, q6⟩ := (hG'.blk _ _ hq).2 g (Nat.le_refl _)
                rw [hat0] at q1; injection q1 with q1; subst q1
                have hmul : len * i.size ≤ c * i.size := Nat.mul_le_mul hlc (Nat.le_refl _)
                refine ⟨(arr.toList.drop (o - hm0.shift)).take (len * i.size), ?_, fun j v hj _ => ?_, ?_⟩
                · rw [List.length_take, List.length_drop, Array.length_toList, q4]; omega
                · rw [List.getElem?_take] at hj
                  split at hj
                  · rw [List.getElem?_drop, Array.getElem?_toList] at hj
                    simp [World.cell?, q3, hj]
                  · cases hj
                · refine run_firstCells_some _ i.size len a len c _ (by rw [List.length_take, List.length_drop, Array.length_toList, q4]; omega) fun j v hj => ?_
                  rw [ea, add_addr ho]
                  rw [List.getElem?_take] at hj
                  split at hj
                  · rw [List.getElem?_drop, Array.getElem?_toList] at hj
                    show w.cell? _ = _
                    rw [show o + j - hm0.shift = o - hm0.shift + j by omega]
                    simp [World.cell?, q3, hj]
                  · cases hj
            have hrun := run_append_new (P := P) (w := w) (ty := ty) h0 h1 ht hdx hni hi hiz (hlen w) hlt (by omega) (hfits.resolve_right (by omega)) hof (hfirst _ rfl)
            obtain ⟨hle, hG3⟩ := fork_new (e2 := e) (rest := (Builtin.zeroCells zv.cells (grownCap w (len + n) c e - (len + n))).toList) hG' h64 hq hat0 hL hcl' hol (fun hz0 => by
                obtain ⟨hlc, hsl2⟩ := hsl
                obtain ⟨hm, hh, ho, ea, hfit⟩ := hsl2.resolve_left (fun hc => by omega)
                rw [hat0] at hh; injection hh with hh; subst hh; exact ho) hoc hct
            refine ⟨_, σ3, _, _, _, z9, hS3, by rw [e3, e2]; exact hG3, hle, .slc _ _ _ _ _ _ _ _ ⟨hge, .inr ⟨_, Rho.put_at _ _ _ _, Nat.le_refl _, by simp, ?_⟩⟩, hrun⟩
            show o - o + grownCap w (len + n) c e * i.size ≤ (olds ++ cs ++ (Builtin.zeroCells zv.cells (grownCap w (len + n) c e - (len + n))).toList).length
            rw [List.length_append, List.length_append, hol, hszr, ← Nat.add_mul, Nat.sub_self, Nat.zero_add]
            exact Nat.mul_le_mul (by omega) (Nat.le_refl _)
          · obtain ⟨hlc, hsl2⟩ := hsl
            obtain ⟨hm, hh, ho, ea, hfit⟩ := hsl2.resolve_left (fun hc => by omega)
            rw [hat0] at hh; injection hh with hh; subst hh
            subst ea
            obtain ⟨w', q1, hle, hG3⟩ := fork_room (P := P) hG' h64 hq hat0 ho k5 hL hcl' hroom hfit hone hct
            refine ⟨_, σ3, _, _, w', z9, hS3, by rw [e3, e2]; exact hG3, hle, .slc _ _ _ _ _ _ _ _ ⟨hroom, .inr ⟨_, Rho.put_at _ _ _ _, ho, rfl, hfit⟩⟩, ?_⟩
            exact run_append_store h0 h1 ht hdx hni hi (hlen w) hroom (hfirst w rfl) q1
        | _ => exact (nofail h).elim
  | gsl b g len es hm c hn0 hh hsh hcc hz => exact gcase _ _ _ _ (.gsl _ _ _ _ hm c hn0 hh hsh hcc hz) h
  | gnil b g es => exact gcase _ _ _ _ (.gnil _ _ _) h
  | gempty b g es a => exact gcase _ _ _ _ (.gempty _ _ _ a) h
  | _ => exact (nofail h).elim
theorem appendA_ok {tys : Array TypeId} {ty : TypeId} {args : List AV} {vs : List Value} (hS : SI σ) (hG : Good w0 ρ σ.h w) (hl : LR ρ args vs) (h : run (appendA P tys args k) σ K = true) : Res P w0 ρ w k K (Builtin.append_ tys ty vs.toArray) := by
  unfold appendA at h
  split at h
  · rename_i ts tx s x h0 h1
    obtain ⟨v, vs1, rfl, hv, hl1⟩ := hl.cons_inv
    obtain ⟨u, vs2, rfl, hu, hl2⟩ := hl1.cons_inv
    have := hl2.nil_inv
    subst this
    obtain ⟨d, hd, h⟩ := undT h
    obtain ⟨dx, hdx, h⟩ := undT h
    split at h
    · exact (nofail h).elim
    · rename_i e hni
      exact appendE_ok hS hG hv hu h0 h1 hd hdx (fun j ej => hni j ej) h
    · exact (nofail h).elim
  · exact (nofail h).elim
theorem lenOfA_ok {tys : Array TypeId} {ty : TypeId} {args : List AV} {vs : List Value} (hS : SI σ) (hG : Good w0 ρ σ.h w) (hl : LR ρ args vs) (h : run (lenOfA P tys args k) σ K = true) : Res P w0 ρ w k K (Builtin.len_ tys ty vs.toArray) := by
  unfold lenOfA at h
  split at h
  · rename_i t x h0
    obtain ⟨v, vs1, rfl, hv, hl1⟩ := hl.cons_inv
    have := hl1.nil_inv
    subst this
    obtain ⟨d, hd, h⟩ := undT h
    split at h
    · cases hv with
      | str s =>
        have hn : (bytesOf s).length = s.size := by unfold bytesOf; rw [List.length_map]; rfl
        refine .plain (fNT h) hS hG (.int _ _) ?_
        simp [Builtin.len_, h0, run_underlying hd, goInt, hn]
    · refine .plain h hS hG (.int _ _) ?_
      simp [Builtin.len_, h0, run_underlying hd, goInt]
    · cases hv
      refine .plain h hS hG (.int _ _) ?_
      simp [Builtin.len_, h0, run_underlying hd, goInt]
    · cases hv
      refine .plain h hS hG (.int _ _) ?_
      simp [Builtin.len_, h0, run_underlying hd, goInt]
    · cases hv with
      | osl n base len cap hb =>
        refine .plain h hS hG (.anyI .i64 (len : Int)) ?_
        simp [Builtin.len_, h0, run_underlying hd, goInt]
    · cases hv with
      | cv c blk off cp arr t2 hf hc hb r =>
        refine .plain h hS hG (.sI .i64 _) ?_
        simp [Builtin.len_, h0, run_underlying hd, goInt]
      | cvnil c hc0 =>
        refine .plain h hS hG (.sI .i64 _) ?_
        simp [Builtin.len_, h0, run_underlying hd, goInt, hc0]
      | cvempty c a hc0 =>
        refine .plain h hS hG (.sI .i64 _) ?_
        simp [Builtin.len_, h0, run_underlying hd, goInt, hc0]
    · cases hv with
      | gsl b g n es hm c hn0 hh hsh hcc hz =>
        refine .plain h hS hG (.sI .i64 _) ?_
        simp [Builtin.len_, h0, run_underlying hd, goInt]
      | gnil b g es =>
        refine .plain h hS hG (.sI .i64 _) ?_
        simp [Builtin.len_, h0, run_underlying hd, goInt]
      | gempty b g es a =>
        refine .plain h hS hG (.sI .i64 _) ?_
        simp [Builtin.len_, h0, run_underlying hd, goInt]
    · cases hv with
      | sS s =>
        have hn : (bytesOf s).length = s.size := by unfold bytesOf; rw [List.length_map]; rfl
        refine .plain h hS hG (.sI .i64 ((bytesOf s).length : Int)) ?_
        simp [Builtin.len_, h0, run_underlying hd, goInt, hn]
    · cases hv
      refine .plain h hS hG (.int _ _) ?_
      simp [Builtin.len_, h0, run_underlying hd, goInt]
    · cases hv with
      | map b hm hh =>
        obtain ⟨q, σ1, hq, e1, hS1, h⟩ := rd_ok hS h
        cases q with
        | mapo es clock =>
          obtain ⟨hm', hh', hB, es', hheap, hsz, _⟩ := hG.blk _ _ hq
          rw [hh] at hh'; injection hh' with hh'; subst hh'
          refine .plain (fNT h) hS1 (by rw [e1]; exact hG) (.int _ _) ?_
          simp [Builtin.len_, h0, run_underlying hd, goInt, run_getObj' hheap (by simp), hsz]
        | _ => exact (nofail h).elim
    · exact (nofail h).elim
  · exact (nofail h).elim
theorem makeMap_ok {t : TypeId} {r : Option Value} (hr : ∀ v, r = some v → (∃ kt e, P.underlying t = some (.map kt e)) ∧ ∃ j n, v = .int j n) (hS : SI σ) (hG : Good w0 ρ σ.h w) (h : run (.new (.mapo [] 0) fun b => k (.map b)) σ K = true) : Res P w0 ρ w k K (Instr.makeMap t r) := by
  obtain ⟨n, σ', hn, h64, hh, hS', h⟩ := new_ok hS h
  obtain ⟨hle, hG'⟩ := hG.alloc hn h64 (.mapo [] 0) (.map #[] 0) 0 0 (fun ρ' hle hat _ => ⟨_, hat, .new hG.below.size, #[], by simp, rfl, by simp⟩)
  refine ⟨_, σ', _, _, _, h, hS', by rw [hh]; exact hG', hle, .map n _ (Rho.put_at _ _ _ _), ?_⟩
  cases r with
  | none => simp [Instr.makeMap]
  | some v =>
    obtain ⟨⟨kt, e, hu⟩, j, m, rfl⟩ := hr v rfl
    simp [Instr.makeMap, run_underlying hu, asInt, asIntOf]
theorem nilCheckA_ok {x : AV} {v : Value} (hx : VR ρ x v) (h : run (nilCheckA x k) σ K = true) : run (k x) σ K = true ∧ ((∃ a, v = .pointer (some a)) ∨ (∃ f l m, v = .func (.func f) l m) ∨ ∃ f l m, v = .func (.yield f) l m) := by
  cases hx with
  | ptr b g o hm hh ho => exact ⟨h, .inl ⟨_, rfl⟩⟩
  | yld b hm hh => exact ⟨h, .inr (.inr ⟨_, _, _, rfl⟩)⟩
  | func fn l m first captured h1 h2 r1 r2 hf =>
    cases fn with
    | func f => exact ⟨h, .inr (.inl ⟨_, _, _, rfl⟩)⟩
    | yield f => exact ⟨h, .inr (.inr ⟨_, _, _, rfl⟩)⟩
    | _ => exact (nofail h).elim
  | _ => exact (nofail h).elim
end
end Go.Sym
