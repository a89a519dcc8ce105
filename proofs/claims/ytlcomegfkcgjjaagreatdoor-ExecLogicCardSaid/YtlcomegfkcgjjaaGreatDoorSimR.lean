/-
  SIM, part R: append, len, maps and iterators (of what the first version needs).
-/
import Derived.Test.YtlcomegfkcgjjaaGreatDoorSimQ
import Derived.Test.YtlcomegfkcgjjaaGreatDoorSimR1
import Derived.Test.YtlcomegfkcgjjaaGreatDoorSimR2
import Derived.Laws.Sem
namespace Go.Sim
open Go.RowKit (Below)
set_option linter.unusedVariables false

section
variable {P : Program} {w0 : World} {ρ : Rho} {w : World} {σ : St} {K : Fin} {k : AV → Tr}

theorem run_getObj' {r : Nat} {o : Obj} (h : w.heap[r]? = some o) (ho : ∀ c t f, o ≠ .cells c t f) : (getObj r).run P w = .ok o w := by
  cases o <;> first | (exact absurd rfl (ho _ _ _)) | (simp [getObj, Sem.run, h])
theorem lenA_ok {x : AV} {v : Value} {f : Nat → Tr} (hx : VR ρ x v) (h : run (lenA x f) σ K = true) : ∃ n, run (f n) σ K = true ∧ ∀ w, (Builtin.lenOf v).run P w = .ok n w := by
  cases hx with
  | nils => exact ⟨0, h, fun _ => rfl⟩
  | slc b g o len cap es a c hsl => exact ⟨len, h, fun _ => rfl⟩
  | str s =>
    have hn : (bytesOf s).length = s.size := by unfold bytesOf; rw [List.length_map]; rfl
    exact ⟨s.size, by have := fNT h; rw [hn] at this; exact this, fun _ => rfl⟩
  | _ => exact (nofail h).elim

/-- What is appended or copied: its cells, in whatever world that has our blocks as they are. -/
theorem firstK_ok {x : AV} {v : Value} {size n len : Nat} {f : List AV → Tr} (hS : SI σ) (hG : Good w0 ρ σ.h w) (hx : VR ρ x v) (hlen : (Builtin.lenOf v).run P w = .ok len w) (hn : n ≤ len) (hsz : 1 ≤ size) (h : run (firstK size n x f) σ K = true) :
    ∃ l cs σ', σ'.h = σ.h ∧ SI σ' ∧ run (f l) σ' K = true ∧ LR ρ l cs ∧ cs.length = n * size ∧ ∀ w2 : World, w2.heap = w.heap → (Builtin.firstCells size n v).run P w2 = .ok cs.toArray w2 := by
  cases hx with
  | nils =>
    have : len = 0 := by
      have : Result.ok 0 w = Result.ok len w := hlen
      injection this with e; exact e.symm
    subst this
    have : n = 0 := by omega
    subst this
    exact ⟨[], [], σ, rfl, hS, h, LR.nil ρ, by simp, fun _ _ => rfl⟩
  | slc b g o ln cap es a c hsl =>
    have : ln = len := by
      have : Result.ok ln w = Result.ok len w := hlen
      injection this
    subst this
    rcases bif2 h with ⟨hz, h⟩ | ⟨hz, h⟩
    · have hz := beqT hz
      refine ⟨[], [], σ, rfl, hS, h, LR.nil ρ, by simp [hz], fun w2 _ => ?_⟩
      simp [Builtin.firstCells, hz, loadCells, loadCellsFrom]
    · have h := fNT h
      have hpos : 0 < ln := by
        rcases Nat.eq_zero_or_pos n with e | e
        · subst e; simp at hz
        · omega
      obtain ⟨hm, hh, ho, ea⟩ := slHome hsl hpos
      subst ea
      obtain ⟨l, cs, σ', e1, hS', h, hL, hlen, hcell, _⟩ := loadRow_ok (P := P) hS hG hh ho h
      refine ⟨l, cs, σ', e1, hS', h, hL, hlen, fun w2 hw2 => run_firstCells_some w2 size n _ ln c cs hlen fun j v hj => ?_⟩
      rw [add_addr ho, ← hcell j v hj]
      simp only [World.cell?, hw2]
      rw [show o + j - hm.shift = o - hm.shift + j by omega]
  | str s =>
    obtain ⟨h1, h⟩ := bifT h
    have h1 := beqT h1
    subst h1
    have h := forceAT (forceT h)
    have hls : s.size = len := by
      have : Result.ok s.size w = Result.ok len w := hlen
      injection this
    have hL := (byteCells_LR ρ s).take n
    have e1 : (byteCells (bytesOf s)).take n = byteCells ((bytesOf s).take n) := by simp [byteCells, List.map_take]
    rw [e1] at hL
    refine ⟨_, _, σ, rfl, hS, h, hL, ?_, fun w2 _ => ?_⟩
    · have : s.data.size = s.size := rfl
      simp; omega
    simp only [Builtin.firstCells, Sem.run_pure]
    congr 1
    apply Array.ext'
    simp [ByteArray.data_extract, List.extract_eq_take_drop]
  | _ => exact (nofail h).elim

/-- An append that makes a new row. -/
theorem grow_ok {e : TypeId} {size need : Nat} {old new : List AV} {ovs nvs : List Value} {rest : Nat → List Value} {a : Value} (hS : SI σ) (hG : Good w0 ρ σ.h w) (ho : LR ρ old ovs) (hn : LR ρ new nvs)
    (c : Nat) (hc : need ≤ c) (hr : ovs.length + nvs.length + (rest c).length = c * size)
    (h : run (appendGrow e size old new need k) σ K = true) (s : Sem Value) (hs : s.run P w = .ok (.slice (some ⟨w.heap.size, 0, none⟩) need c) (w.drew.alloc (.cells (ovs ++ nvs ++ rest c).toArray e))) : Res P w0 ρ w k K s := by
  have h := forceAT h
  have hL := ho.append hn
  obtain ⟨b, σ', h2, hS', hle, hG'⟩ := newRow_ok (w := w.drew) (ovs ++ nvs ++ rest c).toArray e hS (hG.drawn _) (by simp [ho.1, hn.1]) (fun i a ha => by
    obtain ⟨v, hv, hr⟩ := hL.get ha
    refine ⟨v, ?_, hr⟩
    have hi : i < (ovs ++ nvs).length := by
      rcases Nat.lt_or_ge i (ovs ++ nvs).length with h' | h'
      · exact h'
      · rw [List.getElem?_eq_none h'] at hv; cases hv
    show (ovs ++ nvs ++ rest c).toArray[i]? = some v
    rw [List.getElem?_toArray, List.getElem?_append_left hi]; exact hv) h
  refine ⟨_, σ', _, _, _, h2, hS', hG', hle, ?_, hs⟩
  refine .slc _ _ _ _ _ _ _ _ ⟨hc, .inr ⟨_, Rho.put_at _ _ _ _, Nat.zero_le _, rfl, ?_⟩⟩
  show 0 - 0 + c * size ≤ (ovs ++ nvs ++ rest c).toArray.size
  simp; omega


/-! ### Forks -/
theorem tailT_run {g : Nat} {f : T Cell → Tr} : ∀ (l : List AV) (i : Nat) (t : T Cell), run (tailT g l i t f) σ K = true →
    ∃ c, run (f c) σ K = true ∧ (∀ a ∈ l, oneA a = true) ∧ ∀ o x, c.get o = some x → (∃ (j : Nat) (a : AV), o = i + j ∧ l[j]? = some a ∧ x = .mk g a) ∨ (t.get o = some x ∧ (o < i ∨ i + l.length ≤ o)) := by
  intro l
  induction l with
  | nil => intro i t h; exact ⟨t, h, by simp, fun o x hx => .inr ⟨hx, by simp; omega⟩⟩
  | cons a l ih =>
    intro i t h
    have h : run (bif' (oneA a) (T.setK t i (.mk g a) fun t => fN (Nat.succ i) fun i => tailT g l i t f) .fail) σ K = true := h
    obtain ⟨h1, h⟩ := bifT h
    rw [T.setK_eq] at h
    obtain ⟨c, h2, h3, h4⟩ := ih _ _ (fNT h)
    refine ⟨c, h2, fun b hb => ?_, fun o x hx => ?_⟩
    · rcases List.mem_cons.mp hb with e | hb
      · subst e; exact h1
      · exact h3 b hb
    · rcases h4 o x hx with ⟨j, b, e, hb, hx'⟩ | ⟨hx', ho⟩
      · exact .inl ⟨j + 1, b, by omega, by simpa using hb, hx'⟩
      · by_cases e : o = i
        · subst e
          have := T.get_set_some _ _ hx'
          exact .inl ⟨0, a, by omega, rfl, this⟩
        · rw [T.get_set_ne _ e] at hx'
          exact .inr ⟨hx', by simp at ho ⊢; omega⟩
theorem LR.ones {l : List AV} {vs : List Value} (hl : LR ρ l vs) (h : ∀ a ∈ l, oneA a = true) : ∀ v ∈ vs, v.oneCell' = true := by
  intro v hv
  obtain ⟨j, hj, e⟩ := List.mem_iff_getElem.1 hv
  have hj' : j < l.length := by have := hl.1; omega
  have := hl.2 j l[j] v (List.getElem?_eq_getElem hj') (by rw [List.getElem?_eq_getElem hj, e])
  exact oneA_ok this (h _ (List.getElem_mem _))

/-- A block goes on under its next generation. -/
theorem Good.fork {H : T ABlk} {w' : World} (hG : Good w0 ρ H w) {b gen lo hi fl fh hi' ty : Nat} {c c' : T Cell} {h2 : Home} (hb : H.get b = some (.cells c gen lo hi fl fh false ty)) (h64 : b + 1 < 2 ^ 64)
    (hbe : Below w0.heap.size w w') (hsz : w.heap.size ≤ w'.heap.size) (hother : ∀ b' g h, b' ≠ b → ρ.at_ b' g = some h → w'.heap[h.blk]? = w.heap[h.blk]?) (hh2 : h2.blk < w'.heap.size)
    (hnew : (∃ g', ρ.at_ b g' = some h2) ∨ w.heap.size ≤ h2.blk) (hB : ρ.le (ρ.put b (gen + 1) h2) → BR (ρ.put b (gen + 1) h2) w0.heap.size w' b (.cells c' (gen + 1) lo hi' fl fh false ty)) :
    ρ.le (ρ.put b (gen + 1) h2) ∧ Good w0 (ρ.put b (gen + 1) h2) (H.set b (.cells c' (gen + 1) lo hi' fl fh false ty)) w' := by
  have hnone : ρ.at_ b (gen + 1) = none := by
    cases h : ρ.at_ b (gen + 1) with
    | none => rfl
    | some x =>
      have : gen + 1 ≤ gen := hG.gens b (gen + 1) x _ h hb
      omega
  have hle : ρ.le (ρ.put b (gen + 1) h2) := Rho.le_put hnone
  refine ⟨hle, hG.below.trans hbe, fun b' y hy => ?_, fun b' g h hh => ?_, fun b1 g1 x1 b2 g2 x2 hx1 hx2 e => ?_, fun b' g h y hh hy => ?_⟩
  · by_cases e : b' = b
    · subst e
      rw [T.get_set_same _ _ _ h64] at hy
      injection hy with hy; subst hy
      exact hB hle
    · rw [T.get_set_ne _ e] at hy
      exact (hG.blk b' y hy).keep hle fun g h hh => hother b' g h e hh
  · simp only [Rho.put] at hh
    split at hh
    · rename_i e
      injection hh with hh; subst hh
      exact ⟨hh2, _, by rw [e.1]; exact T.get_set_same _ _ _ h64⟩
    · obtain ⟨q1, y, q2⟩ := hG.dom _ _ _ hh
      refine ⟨by omega, ?_⟩
      by_cases e : b' = b
      · subst e; exact ⟨_, T.get_set_same _ _ _ h64⟩
      · exact ⟨y, by rw [T.get_set_ne _ e]; exact q2⟩
  · simp only [Rho.put] at hx1 hx2
    split at hx1
    · rename_i c1
      injection hx1 with hx1
      subst hx1
      split at hx2
      · rename_i c2
        injection hx2 with hx2
        exact ⟨c1.1.trans c2.1.symm, hx2⟩
      · rcases hnew with ⟨g', hg'⟩ | hnew
        · rw [c1.1]; exact hG.inj _ _ _ _ _ _ hg' hx2 e
        · have := (hG.dom _ _ _ hx2).1; omega
    · split at hx2
      · rename_i c2
        injection hx2 with hx2
        subst hx2
        rcases hnew with ⟨g', hg'⟩ | hnew
        · rw [c2.1]; exact hG.inj _ _ _ _ _ _ hx1 hg' e
        · have := (hG.dom _ _ _ hx1).1; omega
      · exact hG.inj _ _ _ _ _ _ hx1 hx2 e
  · by_cases e : b' = b
    · subst e
      rw [T.get_set_same _ _ _ h64] at hy
      injection hy with hy; subst hy
      simp only [Rho.put] at hh
      split at hh
      · rename_i c1; show g ≤ gen + 1; omega
      · have : g ≤ gen := hG.gens b' g h _ hh hb
        show g ≤ gen + 1; omega
    · rw [T.get_set_ne _ e] at hy
      simp only [Rho.put] at hh
      split at hh
      · rename_i c1; exact absurd c1.1 e
      · exact hG.gens b' g h y hh hy

theorem put_old {b g gen : Nat} {h h2 : Home} (hg : g ≤ gen) (hh : ρ.at_ b g = some h) : (ρ.put b (gen + 1) h2).at_ b g = some h := by
  simp only [Rho.put]
  rw [if_neg (fun e => by omega)]; exact hh

/-- A fork into room. -/
theorem fork_room {b gen lo fl fh len size n ty : Nat} {c0 : T Cell} {new : List AV} {nvs : List Value} {H : T ABlk} {h : Home} (hG : Good w0 ρ H w) (h64 : b + 1 < 2 ^ 64)
    (hb : H.get b = some (.cells c0 gen lo (lo + len * size) fl fh false ty)) (hh : ρ.at_ b gen = some h) (ho : h.shift ≤ lo) (hfh : fh ≤ lo + len * size) (hnew : LR ρ new nvs) (hn : new.length = n * size) {cap : Nat} (hcap : len + n ≤ cap) (hfit : lo - h.shift + cap * size ≤ h.size)
    (hone : ∀ a ∈ new, oneA a = true) {c : T Cell} (hc : ∀ o x, c.get o = some x → (∃ (j : Nat) (a : AV), o = (lo + len * size) + j ∧ new[j]? = some a ∧ x = .mk (gen + 1) a) ∨ (c0.get o = some x ∧ (o < lo + len * size ∨ lo + len * size + new.length ≤ o))) :
    ∃ w', (storeCells ((⟨h.blk, lo - h.shift, none⟩ : Addr).add (len * size)) nvs).run P w = .ok () w' ∧ ρ.le (ρ.put b (gen + 1) h) ∧ Good w0 (ρ.put b (gen + 1) h) (H.set b (.cells c (gen + 1) lo (lo + len * size + n * size) fl fh false ty)) w' := by
  have hB := hG.blk _ _ hb
  obtain ⟨hm, q1, q2, _, arr, fr, q3, q4, q5, q6⟩ := hB.2 gen (Nat.le_refl _)
  rw [hh] at q1; injection q1 with q1; subst q1
  have q2 := q2 rfl
  obtain ⟨q5a, q5b⟩ := q5 rfl
  have hnl : nvs.length = n * size := by rw [hnew.1, hn]
  have hmul : (len + n) * size ≤ cap * size := Nat.mul_le_mul hcap (Nat.le_refl _)
  rw [Nat.add_mul] at hmul
  have hend : lo + len * size - h.shift + nvs.length ≤ arr.size := by rw [hnl, q4]; omega
  obtain ⟨arr', s1, s2, s3, s4, s5, s6, s7⟩ := setCells_heap h.blk nvs (lo + len * size - h.shift) w arr ty fr q3 hend
  have hst := run_storeCells_cells (P := P) h.blk (lo + len * size - h.shift) nvs 0 w (fun j hj => by
      simp only [World.cell?, q3]
      simp only [Option.isSome_none, Bool.false_eq_true, if_false, Nat.add_zero]
      rw [Array.getElem?_eq_getElem (by omega)]; rfl) (fun j hj => by
      simp only [World.frozen?, q3, Nat.add_zero]
      cases hx : (decide (fr.1 ≤ lo + len * size - h.shift + j) && decide (lo + len * size - h.shift + j < fr.2)) with
      | false => rfl
      | true =>
        simp only [Bool.and_eq_true, decide_eq_true_eq] at hx
        have := q5b _ (.inl (show lo + len * size - h.shift + j < h.size by rw [← q4]; omega)) hx.1 hx.2
        omega) (hnew.ones hone)
  rw [Nat.add_zero] at hst
  refine ⟨_, by rw [add_addr ho]; exact hst, ?_⟩
  refine hG.fork hb h64 (s7 _ q2) (by omega) (fun b' g' h' hne hh' => s5 _ fun e' => hne (hG.inj _ _ _ _ _ _ hh' hh e').1) (by have := (hG.dom _ _ _ hh).1; omega) (.inl ⟨gen, hh⟩) fun hle => ⟨fun o x hx => ?_, fun g hg => ?_⟩
  · rcases hc o x hx with ⟨j, a, e1, e2, e3⟩ | ⟨hx, hlt⟩
    · have : j < new.length := by
        rcases Nat.lt_or_ge j new.length with h' | h'
        · exact h'
        · rw [List.getElem?_eq_none h'] at e2; cases e2
      subst e3
      exact ⟨by omega, by omega, Nat.le_refl _⟩
    · have := hB.1 o x hx
      omega
  · by_cases eg : g = gen + 1
    · subst eg
      refine ⟨h, Rho.put_at _ _ _ _, fun _ => q2, (fun hc => by cases hc), arr', fr, s1, by omega, fun _ => ⟨q5a, q5b⟩, fun o tag a hoa ht => ?_⟩
      rcases hc o _ hoa with ⟨j, a', e1, e2, e3⟩ | ⟨hx, hlt⟩
      · injection e3 with e3 e4
        subst e4
        have hj : j < new.length := by
          rcases Nat.lt_or_ge j new.length with h' | h'
          · exact h'
          · rw [List.getElem?_eq_none h'] at e2; cases e2
        obtain ⟨v, hv, hr⟩ := hnew.get e2
        refine ⟨by omega, v, ?_, hr.mono hle⟩
        rw [show o - h.shift = lo + len * size - h.shift + j by omega, s3 j (by omega)]; exact hv
      · have hin := hB.1 o _ hx
        obtain ⟨r1, v, r2, r3⟩ := q6 o tag a hx (by have := hin.2.2; exact this)
        refine ⟨r1, v, ?_, r3.mono hle⟩
        rw [s4 _ (.inl (by omega))]; exact r2
    · have hg : g ≤ gen := by omega
      obtain ⟨hm', t1, t2, t2', arr1, fr1, t3, t4, t5, t6⟩ := hB.2 g hg
      by_cases eb : hm'.blk = h.blk
      · obtain ⟨_, ehm⟩ := hG.inj _ _ _ _ _ _ t1 hh eb
        subst ehm
        rw [q3] at t3; injection t3 with t3; injection t3 with t3a t3b t3c
        subst t3a; subst t3c
        refine ⟨_, put_old hg t1, t2, t2', arr', fr, s1, by omega, t5, fun o tag a hoa ht => ?_⟩
        rcases hc o _ hoa with ⟨j, a', e1, e2, e3⟩ | ⟨hx, hlt⟩
        · injection e3 with e3 e4
          omega
        · have hin := hB.1 o _ hx
          obtain ⟨r1, v, r2, r3⟩ := t6 o tag a hx ht
          refine ⟨r1, v, ?_, r3.mono hle⟩
          rw [s4 _ (.inl (by omega))]; exact r2
      · refine ⟨hm', put_old hg t1, t2, t2', arr1, fr1, by rw [s5 _ eb]; exact t3, t4, t5, fun o tag a hoa ht => ?_⟩
        rcases hc o _ hoa with ⟨j, a', e1, e2, e3⟩ | ⟨hx, hlt⟩
        · injection e3 with e3 e4
          omega
        · obtain ⟨r1, v, r2, r3⟩ := t6 o tag a hx ht
          exact ⟨r1, v, r2, r3.mono hle⟩
/-- A fork into a new row. -/
theorem fork_new {b gen lo fl fh len size n : Nat} {c0 : T Cell} {new : List AV} {nvs olds rest : List Value} {H : T ABlk} {h : Home} {e2 : TypeId} (hG : Good w0 ρ H w) (h64 : b + 1 < 2 ^ 64)
    (hb : H.get b = some (.cells c0 gen lo (lo + len * size) fl fh false e2)) (hh : ρ.at_ b gen = some h) (hnew : LR ρ new nvs) (hn : new.length = n * size) (holen : olds.length = len * size)
    (hsl : 0 < len → h.shift ≤ lo) (hold : ∀ j v, olds[j]? = some v → 0 < len → w.cell? ⟨h.blk, lo - h.shift + j, none⟩ = some v)
    {c : T Cell} (hc : ∀ o x, c.get o = some x → (∃ (j : Nat) (a : AV), o = (lo + len * size) + j ∧ new[j]? = some a ∧ x = .mk (gen + 1) a) ∨ (c0.get o = some x ∧ (o < lo + len * size ∨ lo + len * size + new.length ≤ o))) :
    ρ.le (ρ.put b (gen + 1) ⟨w.heap.size, lo, (olds ++ nvs ++ rest).length⟩) ∧
    Good w0 (ρ.put b (gen + 1) ⟨w.heap.size, lo, (olds ++ nvs ++ rest).length⟩) (H.set b (.cells c (gen + 1) lo (lo + len * size + n * size) fl fh false e2)) (w.drew.alloc (.cells (olds ++ nvs ++ rest).toArray e2)) := by
  have hB := hG.blk _ _ hb
  have hpush : ∀ k, k < w.heap.size → (w.drew.alloc (.cells (olds ++ nvs ++ rest).toArray e2)).heap[k]? = w.heap[k]? := fun k hk => Below.heap_alloc w.drew _ k hk
  have hnl : nvs.length = n * size := by rw [hnew.1, hn]
  refine hG.fork hb h64 (((Below.refl _ _).drew).alloc hG.below.size _) (by simp) (fun b' g' h' _ hh' => hpush _ (hG.dom _ _ _ hh').1) (by simp) (.inr (Nat.le_refl _)) fun hle => ⟨fun o x hx => ?_, fun g hg => ?_⟩
  · rcases hc o x hx with ⟨j, a, e1, e2, e3⟩ | ⟨hx, hlt⟩
    · have : j < new.length := by
        rcases Nat.lt_or_ge j new.length with h' | h'
        · exact h'
        · rw [List.getElem?_eq_none h'] at e2; cases e2
      subst e3
      exact ⟨by omega, by omega, Nat.le_refl _⟩
    · have := hB.1 o x hx
      omega
  · by_cases eg : g = gen + 1
    · subst eg
      refine ⟨_, Rho.put_at _ _ _ _, fun _ => hG.below.size, (fun hc => by cases hc), (olds ++ nvs ++ rest).toArray, (0, 0), ?_, by simp, fun _ => ⟨Nat.le_refl _, fun x _ _ h3 => absurd h3 (by simp)⟩, fun o tag a hoa ht => ?_⟩
      · show (w.heap.push _)[w.heap.size]? = _
        simp
      rcases hc o _ hoa with ⟨j, a', e1, e2', e3⟩ | ⟨hx, hlt⟩
      · injection e3 with e3 e4
        subst e4
        have hj : j < new.length := by
          rcases Nat.lt_or_ge j new.length with h' | h'
          · exact h'
          · rw [List.getElem?_eq_none h'] at e2'; cases e2'
        obtain ⟨v, hv, hr⟩ := hnew.get e2'
        refine ⟨by show lo ≤ o; omega, v, ?_, hr.mono hle⟩
        show (olds ++ nvs ++ rest).toArray[o - lo]? = some v
        rw [List.getElem?_toArray, List.append_assoc, List.getElem?_append_right (by omega), List.getElem?_append_left (by omega), show o - lo - olds.length = j by omega]; exact hv
      · have hin := hB.1 o _ hx
        obtain ⟨hm, q1, q2, _, arr, fr, q3, q4, q5, q6⟩ := hB.2 gen (Nat.le_refl _)
        rw [hh] at q1; injection q1 with q1; subst q1
        obtain ⟨r1, v, r2, r3⟩ := q6 o tag a hx (by have := hin.2.2; exact this)
        refine ⟨hin.1, v, ?_, r3.mono hle⟩
        have hlt : o - lo < olds.length := by omega
        show (olds ++ nvs ++ rest).toArray[o - lo]? = some v
        rw [List.getElem?_toArray, List.append_assoc, List.getElem?_append_left hlt]
        have hpos : 0 < len := by
          rcases Nat.eq_zero_or_pos len with e0 | e0
          · subst e0; omega
          · exact e0
        have := hold (o - lo) olds[o - lo] (List.getElem?_eq_getElem hlt) hpos
        have hsl := hsl hpos
        rw [show lo - h.shift + (o - lo) = o - h.shift by omega] at this
        simp [World.cell?, q3, r2] at this
        rw [List.getElem?_eq_getElem hlt, this]
    · have hg : g ≤ gen := by omega
      obtain ⟨hm', t1, t2, t2', arr1, fr1, t3, t4, t5, t6⟩ := hB.2 g hg
      refine ⟨hm', put_old hg t1, t2, t2', arr1, fr1, by rw [hpush _ (hG.dom _ _ _ t1).1]; exact t3, t4, t5, fun o tag a hoa ht => ?_⟩
      rcases hc o _ hoa with ⟨j, a', e1, e2, e3⟩ | ⟨hx, hlt⟩
      · injection e3 with e3 e4
        omega
      · obtain ⟨r1, v, r2, r3⟩ := t6 o tag a hx ht
        exact ⟨r1, v, r2, r3.mono hle⟩


theorem appendE_ok {tys : Array TypeId} {ts tx e ty : TypeId} {dx : TypeDesc} {x y : AV} {v u : Value} (hS : SI σ) (hG : Good w0 ρ σ.h w) (hx : VR ρ x v) (hy : VR ρ y u) (h0 : tys[0]? = some ts) (h1 : tys[1]? = some tx)
    (ht : P.underlying ts = some (.slice e)) (hdx : P.underlying tx = some dx) (hni : ∀ j, dx ≠ .int j) (h : run (appendE P e x y k) σ K = true) : Res P w0 ρ w k K (Builtin.append_ tys ty #[v, u]) := by
  obtain ⟨i, hi, h⟩ := infoT h
  obtain ⟨hby, h⟩ := bifT h
  have hby := bleT hby
  obtain ⟨hs1, h⟩ := bifT (fNT h)
  have hs1 := bleT hs1
  obtain ⟨z, zv, i', hi', hzr, hz, h⟩ := zeroT ρ w h
  have hiz : i.zero = some zv := by
    simp [zeroValue, typeInfo, Sem.run_bind, run_program, hi] at hzr
    cases hz0 : i.zero with
    | none => rw [hz0] at hzr; simp at hzr
    | some q => rw [hz0] at hzr; simp at hzr; rw [hzr]
  obtain ⟨zl, hzl, h⟩ := cellsT hz h
  obtain ⟨hzs, h⟩ := bifT h
  have hzs := beqT hzs
  have hzs : zv.cells.size = i.size := by rw [← Array.length_toList, hzl.1]; exact hzs
  obtain ⟨n, h, hlen⟩ := lenA_ok (P := P) hy h
  obtain ⟨hn, h⟩ := bifT h
  have hn := bleT hn
  obtain ⟨l, cs, σ', e1, hS', h, hL, hcl, hfirst⟩ := firstK_ok (P := P) (w := w.drew) hS (hG.drawn _) hy (hlen _) (Nat.le_refl _) hs1 h
  have hG' : Good w0 ρ σ'.h w := by rw [e1]; exact hG
  cases hx with
  | nils =>
    rcases bif2 h with ⟨h0', h⟩ | ⟨h0', h⟩
    · have h0' := beqT h0'
      subst h0'
      exact .plain h hS' hG' .nils (run_append_none h0 h1 ht hdx hni hi (hlen _) (Nat.le_refl _) (firstCells_none (hlen w)))
    · have hpos : 0 < n := by
        rcases Nat.eq_zero_or_pos n with e | e
        · subst e; simp at h0'
        · exact e
      have hnb : n * i.bytes ≤ 1000000 * 1000 := Nat.mul_le_mul hn hby
      have hrun := run_append_new (P := P) (w := w) (ty := ty) (base := none) (sLen := 0) (sCap := 0) (olds := []) h0 h1 ht hdx hni hi hiz (hlen w) (by omega) (by omega) (by rw [Nat.zero_add, nextslicecap_zero hpos]; omega) (by simp [Builtin.firstCells]) (hfirst _ rfl)
      rw [Nat.zero_add] at hrun
      have hge := grownCap_ge w n 0 e
      refine grow_ok (a := .nilIface) (ovs := []) (nvs := cs) (rest := fun c => (Builtin.zeroCells zv.cells (c - n)).toList) hS' hG' (LR.nil ρ) hL (grownCap w n 0 e) hge ?_ h _ hrun
      simp only [List.length_nil, Array.length_toList, size_zeroCells, hzs, hcl, Nat.zero_add, ← Nat.add_mul]
      congr 1; omega
  | slc b g o len cap es a c hsl =>
    obtain ⟨hes, h⟩ := bifT h
    obtain ⟨hlm, h⟩ := bifT h
    have hes := beqT hes
    have hlm := bleT hlm
    rcases bif2 h with ⟨h0', h⟩ | ⟨h0', h⟩
    · have h0' := beqT h0'
      subst h0'
      exact .plain h hS' hG' (.slc _ _ _ _ _ _ _ _ hsl) (run_append_none h0 h1 ht hdx hni hi (hlen _) hsl.1 (firstCells_none (hlen w)))
    · have hpos : 0 < n := by
        rcases Nat.eq_zero_or_pos n with e | e
        · subst e; simp at h0'
        · exact e
      have h := fNT h
      have hfits : Builtin.nextslicecap (len + n) c * i.bytes ≤ 281474976710656 ∨ len + n ≤ c := by
        rcases Nat.lt_or_ge c (len + n) with hlt | hge
        · left
          have h1 : Builtin.nextslicecap (len + n) c ≤ 2 * (len + n) := nextslicecap_le hlt
          have h2 := Nat.mul_le_mul h1 hby
          omega
        · exact .inr hge
      have hge := grownCap_ge w (len + n) c e
      have hszr : ∀ (m : Nat), len * i.size + cs.length + (Builtin.zeroCells zv.cells (m - (len + n))).toList.length = (len + n) * i.size + (m - (len + n)) * i.size := fun m => by
        have hz1 : (Builtin.zeroCells zv.cells (m - (len + n))).toList.length = (m - (len + n)) * i.size := by rw [Array.length_toList, size_zeroCells, hzs]
        rw [hz1, hcl, Nat.add_mul]
      cases cap with
      | some k0 =>
        obtain ⟨hlc, ek, hm, hh, ho, ea⟩ := hsl
        subst ek
        subst ea
        rcases bif2 h with ⟨hrm, h⟩ | ⟨hrm, h⟩
        · have hrm := bleT hrm
          have h := fNT h
          obtain ⟨σ2, w2, q1, q2, q3, q4⟩ := storeRow_ok (P := P) hS' hG' hh (show hm.shift ≤ o + len * i.size by omega) hL h
          refine ⟨_, σ2, ρ, _, w2, q1, q2, q3, Rho.le.refl ρ, .slc _ _ _ _ _ _ _ _ ⟨hrm, rfl, hm, hh, ho, rfl⟩, ?_⟩
          exact run_append_store h0 h1 ht hdx hni hi (hlen w) hrm (hfirst w rfl) (by rw [add_addr ho]; exact q4)
        · have hrm := bleF hrm
          obtain ⟨lo, ovs, σ2, e2, hS2, h, hLo, hol, hof⟩ := firstK_ok (P := P) (v := .slice (some ⟨hm.blk, o - hm.shift, none⟩) len c) (len := len) hS' hG' (.slc b g o len (some c) es _ c ⟨hlc, rfl, hm, hh, ho, rfl⟩) rfl (Nat.le_refl _) hs1 h
          have hG2 : Good w0 ρ σ2.h w := by rw [e2]; exact hG'
          have hrun := run_append_new (P := P) (w := w) (ty := ty) h0 h1 ht hdx hni hi hiz (hlen w) hrm (by omega) (hfits.resolve_right (by omega)) (hof _ rfl) (hfirst _ rfl)
          refine grow_ok (a := .nilIface) (ovs := ovs) (nvs := cs) (rest := fun m => (Builtin.zeroCells zv.cells (m - (len + n))).toList) hS2 hG2 hLo hL (grownCap w (len + n) c e) hge ?_ h _ hrun
          rw [hol]
          have := hszr (grownCap w (len + n) c e)
          rw [this, ← Nat.add_mul]
          congr 1; omega
      | none =>
        have h64 := rd_small hS' h
        obtain ⟨q, σ2, hq, e2, hS2, h⟩ := rd_ok hS' h
        have hG2 : Good w0 ρ σ2.h w := by rw [e2]; exact hG'
        cases q with
        | cells c0 gen lo hi fl fh ro ty =>
          obtain ⟨k1, z1⟩ := bifF h
          obtain ⟨k2, z2⟩ := bifT z1
          obtain ⟨k3, z3⟩ := bifT z2
          obtain ⟨k4, z4⟩ := bifT z3
          obtain ⟨k5, z5'⟩ := bifT z4
          obtain ⟨k6, z5⟩ := bifT z5'
          have z6 := fNT z5
          clear h z1 z2 z3 z4 z5 z5'
          have k6 := beqT k6
          have k2 := beqT k2
          have k3 := beqT k3
          have k4 := beqT k4
          have k5 := bleT k5
          subst k1; subst k2; subst k3; subst ty
          subst hes
          subst k4
          obtain ⟨ct, z7, hone, hct⟩ := tailT_run _ _ _ z6
          have z8 := fNT z7
          obtain ⟨x0, σ3, _, e3, hS3, _, z9⟩ := wr_ok hS2 z8
          have hcl' : l.length = n * i.size := by rw [← hL.1]; exact hcl
          obtain ⟨hm0, hat0, _⟩ := (hG'.blk _ _ hq).2 g (Nat.le_refl _)
          rcases Nat.lt_or_ge c (len + n) with hlt | hroom
          · obtain ⟨olds, hol, hoc, hof⟩ : ∃ olds : List Value, olds.length = len * i.size ∧ (∀ j v, olds[j]? = some v → 0 < len → w.cell? ⟨hm0.blk, o - hm0.shift + j, none⟩ = some v) ∧ (Builtin.firstCells i.size len (.slice (some a) len c)).run P w.drew = .ok olds.toArray w.drew := by
              rcases Nat.eq_zero_or_pos len with hz0 | hz0
              · subst hz0
                exact ⟨[], by simp, by simp, by simp [Builtin.firstCells, loadCells, loadCellsFrom]⟩
              · obtain ⟨hlc, hsl2⟩ := hsl
                obtain ⟨hm, hh, ho, ea, hfit⟩ := hsl2.resolve_left (fun hc => by omega)
                rw [hat0] at hh; injection hh with hh; subst hh
                obtain ⟨hm', q1, q2, _, arr, fr, q3, q4, q5, q6⟩ := (hG'.blk _ _ hq).2 g (Nat.le_refl _)
                rw [hat0] at q1; injection q1 with q1; subst q1
                have hmul : len * i.size ≤ c * i.size := Nat.mul_le_mul hlc (Nat.le_refl _)
                refine ⟨(arr.toList.drop (o - hm0.shift)).take (len * i.size), ?_, fun j v hj _ => ?_, ?_⟩
                · rw [List.length_take, List.length_drop, Array.length_toList, q4]; omega
                · rw [List.getElem?_take] at hj
                  split at hj
                  · rw [List.getElem?_drop, Array.getElem?_toList] at hj
                    simp [World.cell?, q3, hj]
                  · cases hj
                · refine run_firstCells_some _ i.size len a len c _ (by rw [List.length_take, List.length_drop, Array.length_toList, q4]; omega) fun j v hj => ?_
                  rw [ea, add_addr ho]
                  rw [List.getElem?_take] at hj
                  split at hj
                  · rw [List.getElem?_drop, Array.getElem?_toList] at hj
                    show w.cell? _ = _
                    rw [show o + j - hm0.shift = o - hm0.shift + j by omega]
                    simp [World.cell?, q3, hj]
                  · cases hj
            have hrun := run_append_new (P := P) (w := w) (ty := ty) h0 h1 ht hdx hni hi hiz (hlen w) hlt (by omega) (hfits.resolve_right (by omega)) hof (hfirst _ rfl)
            obtain ⟨hle, hG3⟩ := fork_new (e2 := e) (rest := (Builtin.zeroCells zv.cells (grownCap w (len + n) c e - (len + n))).toList) hG' h64 hq hat0 hL hcl' hol (fun hz0 => by
                obtain ⟨hlc, hsl2⟩ := hsl
                obtain ⟨hm, hh, ho, ea, hfit⟩ := hsl2.resolve_left (fun hc => by omega)
                rw [hat0] at hh; injection hh with hh; subst hh; exact ho) hoc hct
            refine ⟨_, σ3, _, _, _, z9, hS3, by rw [e3, e2]; exact hG3, hle, .slc _ _ _ _ _ _ _ _ ⟨hge, .inr ⟨_, Rho.put_at _ _ _ _, Nat.le_refl _, by simp, ?_⟩⟩, hrun⟩
            show o - o + grownCap w (len + n) c e * i.size ≤ (olds ++ cs ++ (Builtin.zeroCells zv.cells (grownCap w (len + n) c e - (len + n))).toList).length
            rw [List.length_append, List.length_append, hol, hszr, ← Nat.add_mul, Nat.sub_self, Nat.zero_add]
            exact Nat.mul_le_mul (by omega) (Nat.le_refl _)
          · obtain ⟨hlc, hsl2⟩ := hsl
            obtain ⟨hm, hh, ho, ea, hfit⟩ := hsl2.resolve_left (fun hc => by omega)
            rw [hat0] at hh; injection hh with hh; subst hh
            subst ea
            obtain ⟨w', q1, hle, hG3⟩ := fork_room (P := P) hG' h64 hq hat0 ho k5 hL hcl' hroom hfit hone hct
            refine ⟨_, σ3, _, _, w', z9, hS3, by rw [e3, e2]; exact hG3, hle, .slc _ _ _ _ _ _ _ _ ⟨hroom, .inr ⟨_, Rho.put_at _ _ _ _, ho, rfl, hfit⟩⟩, ?_⟩
            exact run_append_store h0 h1 ht hdx hni hi (hlen w) hroom (hfirst w rfl) q1
        | _ => exact (nofail h).elim
  | _ => exact (nofail h).elim
theorem appendA_ok {tys : Array TypeId} {ty : TypeId} {args : List AV} {vs : List Value} (hS : SI σ) (hG : Good w0 ρ σ.h w) (hl : LR ρ args vs) (h : run (appendA P tys args k) σ K = true) : Res P w0 ρ w k K (Builtin.append_ tys ty vs.toArray) := by
  unfold appendA at h
  split at h
  · rename_i ts tx s x h0 h1
    obtain ⟨v, vs1, rfl, hv, hl1⟩ := hl.cons_inv
    obtain ⟨u, vs2, rfl, hu, hl2⟩ := hl1.cons_inv
    have := hl2.nil_inv
    subst this
    obtain ⟨d, hd, h⟩ := undT h
    obtain ⟨dx, hdx, h⟩ := undT h
    split at h
    · exact (nofail h).elim
    · rename_i e hni
      exact appendE_ok hS hG hv hu h0 h1 hd hdx (fun j ej => hni j ej) h
    · exact (nofail h).elim
  · exact (nofail h).elim
theorem lenOfA_ok {tys : Array TypeId} {ty : TypeId} {args : List AV} {vs : List Value} (hS : SI σ) (hG : Good w0 ρ σ.h w) (hl : LR ρ args vs) (h : run (lenOfA P tys args k) σ K = true) : Res P w0 ρ w k K (Builtin.len_ tys ty vs.toArray) := by
  unfold lenOfA at h
  split at h
  · rename_i t x h0
    obtain ⟨v, vs1, rfl, hv, hl1⟩ := hl.cons_inv
    have := hl1.nil_inv
    subst this
    obtain ⟨d, hd, h⟩ := undT h
    split at h
    · cases hv with
      | str s =>
        have hn : (bytesOf s).length = s.size := by unfold bytesOf; rw [List.length_map]; rfl
        refine .plain (fNT h) hS hG (.int _ _) ?_
        simp [Builtin.len_, h0, run_underlying hd, goInt, hn]
    · refine .plain h hS hG (.int _ _) ?_
      simp [Builtin.len_, h0, run_underlying hd, goInt]
    · cases hv
      refine .plain h hS hG (.int _ _) ?_
      simp [Builtin.len_, h0, run_underlying hd, goInt]
    · cases hv
      refine .plain h hS hG (.int _ _) ?_
      simp [Builtin.len_, h0, run_underlying hd, goInt]
    · cases hv with
      | osl n base len cap hb =>
        refine .plain h hS hG (.anyI .i64 (len : Int)) ?_
        simp [Builtin.len_, h0, run_underlying hd, goInt]
    · cases hv
      refine .plain h hS hG (.int _ _) ?_
      simp [Builtin.len_, h0, run_underlying hd, goInt]
    · cases hv with
      | map b hm hh =>
        obtain ⟨q, σ1, hq, e1, hS1, h⟩ := rd_ok hS h
        cases q with
        | mapo es clock =>
          obtain ⟨hm', hh', hB, es', hheap, hsz, _⟩ := hG.blk _ _ hq
          rw [hh] at hh'; injection hh' with hh'; subst hh'
          refine .plain (fNT h) hS1 (by rw [e1]; exact hG) (.int _ _) ?_
          simp [Builtin.len_, h0, run_underlying hd, goInt, run_getObj' hheap (by simp), hsz]
        | _ => exact (nofail h).elim
    · exact (nofail h).elim
  · exact (nofail h).elim
theorem makeMap_ok {t : TypeId} {r : Option Value} (hr : ∀ v, r = some v → (∃ kt e, P.underlying t = some (.map kt e)) ∧ ∃ j n, v = .int j n) (hS : SI σ) (hG : Good w0 ρ σ.h w) (h : run (.new (.mapo [] 0) fun b => k (.map b)) σ K = true) : Res P w0 ρ w k K (Instr.makeMap t r) := by
  obtain ⟨n, σ', hn, h64, hh, hS', h⟩ := new_ok hS h
  obtain ⟨hle, hG'⟩ := hG.alloc hn h64 (.mapo [] 0) (.map #[] 0) 0 0 (fun ρ' hle hat _ => ⟨_, hat, hG.below.size, #[], by simp, rfl, by simp⟩)
  refine ⟨_, σ', _, _, _, h, hS', by rw [hh]; exact hG', hle, .map n _ (Rho.put_at _ _ _ _), ?_⟩
  cases r with
  | none => simp [Instr.makeMap]
  | some v =>
    obtain ⟨⟨kt, e, hu⟩, j, m, rfl⟩ := hr v rfl
    simp [Instr.makeMap, run_underlying hu, asInt, asIntOf]
theorem nilCheckA_ok {x : AV} {v : Value} (hx : VR ρ x v) (h : run (nilCheckA x k) σ K = true) : run (k x) σ K = true ∧ ((∃ a, v = .pointer (some a)) ∨ (∃ f l m, v = .func (.func f) l m) ∨ ∃ f l m, v = .func (.yield f) l m) := by
  cases hx with
  | ptr b g o hm hh ho => exact ⟨h, .inl ⟨_, rfl⟩⟩
  | yld b hm hh => exact ⟨h, .inr (.inr ⟨_, _, _, rfl⟩)⟩
  | func fn l m first captured h1 h2 r1 r2 hf =>
    cases fn with
    | func f => exact ⟨h, .inr (.inl ⟨_, _, _, rfl⟩)⟩
    | yield f => exact ⟨h, .inr (.inr ⟨_, _, _, rfl⟩)⟩
    | _ => exact (nofail h).elim
  | _ => exact (nofail h).elim
end
end Go.Sim
