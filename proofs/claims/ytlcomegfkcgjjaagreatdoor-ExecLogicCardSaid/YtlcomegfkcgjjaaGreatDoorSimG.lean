/-
  SIM, part G: what the primitives do to the whole.
-/
import Derived.Test.YtlcomegfkcgjjaaGreatDoorSimD
import Derived.Test.YtlcomegfkcgjjaaGreatDoorSimF
namespace Go.Sim
open Go.RowKit (Below)
set_option linter.unusedVariables false

/-- The state is in order. -/
def SI : St → Prop
  | .mk h n fs tc w => 1 ≤ n ∧ n ≤ 1000000001 ∧ fs ≤ n ∧ (∀ b ∈ w, tc.get b = some ()) ∧ ∀ b, tc.get b = some () → b < fs

theorem rd_small {b : Nat} {k : ABlk → Tr} {σ : St} {K : Fin} (hS : SI σ) (h : run (.rd b k) σ K = true) : b + 1 < 2 ^ 64 := by
  cases σ with
  | mk H n fs tc w =>
    rw [run_rd] at h
    split at h
    case isFalse => cases h
    obtain ⟨h1, h2, _⟩ := hS
    omega
theorem rd_ok {b : Nat} {k : ABlk → Tr} {σ : St} {K : Fin} (hS : SI σ) (h : run (.rd b k) σ K = true) :
    ∃ x σ', σ.h.get b = some x ∧ σ'.h = σ.h ∧ SI σ' ∧ run (k x) σ' K = true := by
  cases σ with
  | mk H n fs tc w =>
    rw [run_rd] at h
    split at h
    case isFalse => cases h
    rename_i hbn
    split at h
    · cases h
    · rename_i x hb
      refine ⟨x, _, hb, ?_, ?_, h⟩
      · rfl
      · obtain ⟨h1, h2, h3, h5, h6⟩ := hS
        have h64 : b + 1 < 2 ^ 64 := by omega
        show 1 ≤ n ∧ n ≤ 1000000001 ∧ fs ≤ n ∧ (∀ y ∈ w, (note fs b tc).get y = some ()) ∧ ∀ y, (note fs b tc).get y = some () → y < fs
        refine ⟨h1, h2, h3, fun y hy => note_keeps h64 (h5 y hy), fun y hy => ?_⟩
        by_cases e : fs ≤ b
        · rw [note, if_pos e] at hy; exact h6 y hy
        · by_cases ey : y = b
          · omega
          · rw [note, if_neg e, T.get_set_ne _ ey] at hy; exact h6 y hy
theorem wr_ok {b : Nat} {x : ABlk} {k : Tr} {σ : St} {K : Fin} (hS : SI σ) (h : run (.wr b x k) σ K = true) :
    ∃ x0 σ', σ.h.get b = some x0 ∧ σ'.h = σ.h.set b x ∧ SI σ' ∧ b + 1 < 2 ^ 64 ∧ run k σ' K = true := by
  cases σ with
  | mk H n fs tc w =>
    rw [run_wr] at h
    split at h
    case isFalse => cases h
    rename_i hbn
    split at h
    · cases h
    · rename_i x0 hb
      obtain ⟨h1, h2, h3, h5, h6⟩ := hS
      have h64 : b + 1 < 2 ^ 64 := by omega
      refine ⟨x0, _, hb, rfl, ?_, h64, h⟩
      show 1 ≤ n ∧ n ≤ 1000000001 ∧ fs ≤ n ∧ (∀ y ∈ noteW fs b w, (note fs b tc).get y = some ()) ∧ ∀ y, (note fs b tc).get y = some () → y < fs
      refine ⟨h1, h2, h3, fun y hy => ?_, fun y hy => ?_⟩
      · rcases mem_noteW hy with hy | ⟨e, hy⟩
        · exact note_keeps h64 (h5 y hy)
        · subst e; exact note_has h64 hy
      · by_cases e : fs ≤ b
        · rw [note, if_pos e] at hy; exact h6 y hy
        · by_cases ey : y = b
          · omega
          · rw [note, if_neg e, T.get_set_ne _ ey] at hy; exact h6 y hy
theorem new_ok {x : ABlk} {k : Nat → Tr} {σ : St} {K : Fin} (hS : SI σ) (h : run (.new x k) σ K = true) :
    ∃ n σ', σ.h.get n = none ∧ n + 1 < 2 ^ 64 ∧ σ'.h = σ.h.set n x ∧ SI σ' ∧ run (k n) σ' K = true := by
  cases σ with
  | mk H n fs tc w =>
    rw [run_new] at h
    split at h
    · split at h
      · cases h
      · rename_i hn hno
        obtain ⟨h1, h2, h3, h5, h6⟩ := hS
        refine ⟨n, _, hno, by omega, rfl, ?_, h⟩
        show 1 ≤ n + 1 ∧ n + 1 ≤ 1000000001 ∧ fs ≤ n + 1 ∧ (∀ y ∈ w, tc.get y = some ()) ∧ ∀ y, tc.get y = some () → y < fs
        exact ⟨by omega, by omega, by omega, h5, h6⟩
    · cases h
theorem pick_ok {n : Nat} {k : Nat → Tr} {σ : St} {K : Fin} (h : run (.pick n k) σ K = true) : ∀ i, (i = 0 ∨ i < n) → (n ≤ 1 → i = 0) → run (k i) σ K = true := by
  intro i hi h1
  by_cases hn : n ≤ 1
  · rw [h1 hn]
    have : run (.pick n k) σ K = run (k 0) σ K := by
      show bif' (Nat.ble n 1) (run (k 0) σ K) _ = _
      rw [bif'_eq, if_pos (Nat.ble_eq.mpr hn)]
    rw [← this]; exact h
  · cases σ with
    | mk H m fs tc w =>
      have hb : Nat.ble n 1 = false := by
        cases hb : Nat.ble n 1 with
        | false => rfl
        | true => exact absurd (Nat.ble_eq.mp hb) hn
      have h' : bif' (Nat.ble n 1) (run (k 0) (.mk H m fs tc w) K) (bif' (Nat.beq fs 0) (allBelow (fun i => run (k i) (.mk H m fs tc w) K) n) false) = true := h
      rw [hb] at h'
      have h2 := (bif'_true (b := Nat.beq fs 0) h').2
      exact allBelow_iff.mp h2 i (by omega)

/-! ### Worlds -/
/-- The blocks that w has, w' has too. -/
def Ext (w w' : World) : Prop := ∀ k, k < w.heap.size → w'.heap[k]? = w.heap[k]?
theorem Ext.refl (w : World) : Ext w w := fun _ _ => rfl

theorem ER.mono {ρ ρ' : Rho} (hle : ρ.le ρ') {nt : Nat} {env : T AV} {tmps : Array Value} (h : ER ρ nt env tmps) : ER ρ' nt env tmps :=
  ⟨h.size, fun t a ha => let ⟨v, hv, r⟩ := h.val t a ha; ⟨v, hv, r.mono hle⟩⟩

theorem BR.keep {ρ ρ' : Rho} {B : Nat} {w w' : World} {b : Nat} {x : ABlk} (hle : ρ.le ρ') (hg : ∀ g h, ρ.at_ b g = some h → w'.heap[h.blk]? = w.heap[h.blk]?)
    (h : BR ρ B w b x) : BR ρ' B w' b x := by
  cases x with
  | cells c gen lo hi fl fh ro ty =>
    refine ⟨h.1, fun g hgg => ?_⟩
    obtain ⟨hm, h1, h2, h2', arr, fr, h3, h4, h5, h6⟩ := h.2 g hgg
    refine ⟨hm, hle.at_ _ _ _ h1, h2, h2', arr, fr, by rw [hg g hm h1]; exact h3, h4, h5, fun o tag a ho ht => ?_⟩
    obtain ⟨q1, v, q2, q3⟩ := h6 o tag a ho ht
    exact ⟨q1, v, q2, q3.mono hle⟩
  | mapo es clock =>
    obtain ⟨hm, h1, h2, es', h3, h4, h5⟩ := h
    refine ⟨hm, hle.at_ _ _ _ h1, h2, es', by rw [hg 0 hm h1]; exact h3, h4, fun i k v n e hi he => ?_⟩
    obtain ⟨q1, q2, q3⟩ := h5 i k v n e hi he
    exact ⟨q1.mono hle, q2.mono hle, q3⟩
  | siter s pos =>
    obtain ⟨hm, h1, h2, s', h3, h4⟩ := h
    exact ⟨hm, hle.at_ _ _ _ h1, h2, s', h3, by rw [hg 0 hm h1]; exact h4⟩
  | miter m since seen stepped =>
    obtain ⟨hm, h1, h2, m', seen', h3, h4, h5⟩ := h
    refine ⟨hm, hle.at_ _ _ _ h1, h2, m', seen', by rw [hg 0 hm h1]; exact h3, h4, ?_⟩
    cases m with
    | none => exact h5
    | some x => obtain ⟨hx, q1, q2⟩ := h5; exact ⟨hx, hle.at_ _ _ _ q1, q2⟩
  | dfr live =>
    obtain ⟨hm, h1, h2, h3⟩ := h
    exact ⟨hm, hle.at_ _ _ _ h1, h2, by rw [hg 0 hm h1]; exact h3⟩
  | loop state jump fn nt tmps params assign body defers =>
    obtain ⟨hm, h1, h2, tmps', hd, fn', h3, h4, h5⟩ := h
    exact ⟨hm, hle.at_ _ _ _ h1, h2, tmps', hd, fn', h3.mono hle, hle.at_ _ _ _ h4, by rw [hg 0 hm h1]; exact h5⟩

/-- One home more. -/
def Rho.put (ρ : Rho) (b g : Nat) (h : Home) : Rho := { at_ := fun x y => if x = b ∧ y = g then some h else ρ.at_ x y, val := ρ.val }
theorem Rho.put_at (ρ : Rho) (b g : Nat) (h : Home) : (ρ.put b g h).at_ b g = some h := by simp [Rho.put]
theorem Rho.le_put {ρ : Rho} {b g : Nat} {h : Home} (hno : ρ.at_ b g = none) : ρ.le (ρ.put b g h) :=
  ⟨fun x y z hz => by
    show (if x = b ∧ y = g then some h else ρ.at_ x y) = some z
    by_cases e : x = b ∧ y = g
    · rw [e.1, e.2, hno] at hz; cases hz
    · rw [if_neg e]; exact hz, rfl⟩
theorem Good.none_at {w0 : World} {ρ : Rho} {H : T ABlk} {w : World} (hG : Good w0 ρ H w) {n : Nat} (hn : H.get n = none) (g : Nat) : ρ.at_ n g = none := by
  cases h : ρ.at_ n g with
  | none => rfl
  | some x => obtain ⟨_, y, hy⟩ := hG.dom _ _ _ h; rw [hn] at hy; cases hy

/-- A new block. -/
theorem Good.alloc {w0 : World} {ρ : Rho} {H : T ABlk} {w : World} (hG : Good w0 ρ H w) {n : Nat} (hn : H.get n = none) (h64 : n + 1 < 2 ^ 64) (x : ABlk) (o : Obj) (shift size : Nat)
    (hB : ∀ ρ' : Rho, ρ.le ρ' → ρ'.at_ n 0 = some ⟨w.heap.size, shift, size⟩ → ρ' = ρ.put n 0 ⟨w.heap.size, shift, size⟩ → BR ρ' w0.heap.size { w with heap := w.heap.push o } n x) :
    ρ.le (ρ.put n 0 ⟨w.heap.size, shift, size⟩) ∧ Good w0 (ρ.put n 0 ⟨w.heap.size, shift, size⟩) (H.set n x) { w with heap := w.heap.push o } := by
  have hno := hG.none_at hn 0
  have hle : ρ.le (ρ.put n 0 ⟨w.heap.size, shift, size⟩) := Rho.le_put hno
  refine ⟨hle, ⟨?_, fun b y hy => ?_, fun b g h hh => ?_, fun b g h b' g' h' hh hh' e => ?_, fun b g h y hh hy => ?_⟩⟩
  · exact hG.below.alloc hG.below.size o
  · by_cases e : b = n
    · subst e
      rw [T.get_set_same _ _ _ h64] at hy
      injection hy with hy; subst hy
      exact hB _ hle (Rho.put_at _ _ _ _) rfl
    · rw [T.get_set_ne _ e] at hy
      refine (hG.blk b y hy).keep hle fun g h hh => ?_
      have := (hG.dom _ _ _ hh).1
      show (w.heap.push o)[h.blk]? = _
      rw [Array.getElem?_push, if_neg (by omega)]
  · simp only [Rho.put] at hh
    split at hh
    · rename_i e
      injection hh with hh; subst hh
      obtain ⟨e1, e2⟩ := e; subst e1
      exact ⟨by simp, x, T.get_set_same _ _ _ h64⟩
    · obtain ⟨q1, y, q2⟩ := hG.dom _ _ _ hh
      refine ⟨by show h.blk < (w.heap.push o).size; simp; omega, y, ?_⟩
      rw [T.get_set_ne]
      · exact q2
      · intro e; subst e; rw [hn] at q2; cases q2
  · simp only [Rho.put] at hh hh'
    split at hh
    · rename_i c
      split at hh'
      · rename_i c'
        injection hh with hh; injection hh' with hh'
        exact ⟨c.1.trans c'.1.symm, hh.symm.trans hh'⟩
      · injection hh with hh; subst hh
        have := (hG.dom _ _ _ hh').1
        simp only at e; omega
    · split at hh'
      · injection hh' with hh'; subst hh'
        have := (hG.dom _ _ _ hh).1
        simp only at e; omega
      · exact hG.inj _ _ _ _ _ _ hh hh' e
  · simp only [Rho.put] at hh
    split at hh
    · rename_i c
      rw [c.2]
      cases y <;> first | exact Nat.zero_le _ | trivial
    · have hbn : b ≠ n := fun e => by subst e; rw [hG.none_at hn g] at hh; cases hh
      rw [T.get_set_ne _ hbn] at hy
      exact hG.gens b g h y hh hy

/-- Nothing of the heap turns. -/
theorem Good.drawn {w0 : World} {ρ : Rho} {H : T ABlk} {w : World} (hG : Good w0 ρ H w) (n : Nat) : Good w0 ρ H { w with drawn := n } :=
  ⟨⟨hG.below.os, hG.below.tape, hG.below.output, hG.below.size, hG.below.block⟩, fun b x hx => (hG.blk b x hx).keep (Rho.le.refl ρ) fun _ _ _ => rfl, hG.dom, hG.inj, hG.gens⟩

/-- One block of ours is turned, in the world too. -/
theorem Good.turn {w0 : World} {ρ : Rho} {H : T ABlk} {w w' : World} (hG : Good w0 ρ H w) {b : Nat} {x0 x : ABlk} (hb : H.get b = some x0) (h64 : b + 1 < 2 ^ 64) (r : Nat) (hr : w0.heap.size ≤ r)
    (hbe : Below w0.heap.size w w') (hsz : w.heap.size ≤ w'.heap.size) (hother : ∀ k, k ≠ r → k < w.heap.size → w'.heap[k]? = w.heap[k]?)
    (hown : ∀ b' g h, ρ.at_ b' g = some h → h.blk = r → b' = b) (hB : BR ρ w0.heap.size w' b x) (hgen : ∀ g, gOk g x0 → gOk g x := by intro g h; exact h) : Good w0 ρ (H.set b x) w' := by
  refine ⟨hG.below.trans hbe, fun b' y hy => ?_, fun b' g h hh => ?_, hG.inj, fun b' g h y hh hy => ?_⟩
  · by_cases e : b' = b
    · subst e
      rw [T.get_set_same _ _ _ h64] at hy
      injection hy with hy; subst hy
      exact hB
    · rw [T.get_set_ne _ e] at hy
      refine (hG.blk b' y hy).keep (Rho.le.refl ρ) fun g h hh => ?_
      exact hother _ (fun er => e (hown _ _ _ hh er)) (hG.dom _ _ _ hh).1
  · obtain ⟨q1, y, q2⟩ := hG.dom _ _ _ hh
    refine ⟨by omega, ?_⟩
    by_cases e : b' = b
    · subst e; exact ⟨x, T.get_set_same _ _ _ h64⟩
    · exact ⟨y, by rw [T.get_set_ne _ e]; exact q2⟩
  · by_cases e : b' = b
    · subst e
      rw [T.get_set_same _ _ _ h64] at hy
      injection hy with hy; subst hy
      exact hgen g (hG.gens b' g h x0 hh hb)
    · rw [T.get_set_ne _ e] at hy
      exact hG.gens b' g h y hh hy

end Go.Sim
