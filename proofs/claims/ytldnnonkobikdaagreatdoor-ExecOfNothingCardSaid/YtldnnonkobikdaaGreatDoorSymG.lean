/- SYM, part G: what the primitives do to the whole; SYM, part H: values and numbers: what the interpreter does is what the model does; SYM, part I: numbers and strings. -/
import Derived.Test.YtldnnonkobikdaaGreatDoorSymA
import Derived.Test.YtldnnonkobikdaaGreatDoorSymE
import Derived.Laws.Cells
import Derived.IntWalk
import Derived.Laws.Strings
namespace Go.Sym
open Go.RowKit (Below)
set_option linter.unusedVariables false
def SI : St → Prop
  | .mk h n fs tc w => 1 ≤ n ∧ n ≤ 1000000001 ∧ fs ≤ n ∧ (∀ b ∈ w, tc.get b = some ()) ∧ ∀ b, tc.get b = some () → b < fs
theorem rd_small {b : Nat} {k : ABlk → Tr} {σ : St} {K : Fin} (hS : SI σ) (h : run (.rd b k) σ K = true) : b + 1 < 2 ^ 64 := by
  cases σ with
  | mk H n fs tc w =>
    rw [run_rd] at h
    split at h
    case isFalse => cases h
    obtain ⟨h1, h2, _⟩ := hS
    omega
theorem rd_ok {b : Nat} {k : ABlk → Tr} {σ : St} {K : Fin} (hS : SI σ) (h : run (.rd b k) σ K = true) :
    ∃ x σ', σ.h.get b = some x ∧ σ'.h = σ.h ∧ SI σ' ∧ run (k x) σ' K = true := by
  cases σ with
  | mk H n fs tc w =>
    rw [run_rd] at h
    split at h
    case isFalse => cases h
    rename_i hbn
    split at h
    · cases h
    · rename_i x hb
      refine ⟨x, _, hb, ?_, ?_, h⟩
      · rfl
      · obtain ⟨h1, h2, h3, h5, h6⟩ := hS
        have h64 : b + 1 < 2 ^ 64 := by omega
        show 1 ≤ n ∧ n ≤ 1000000001 ∧ fs ≤ n ∧ (∀ y ∈ w, (note fs b tc).get y = some ()) ∧ ∀ y, (note fs b tc).get y = some () → y < fs
        refine ⟨h1, h2, h3, fun y hy => note_keeps h64 (h5 y hy), fun y hy => ?_⟩
        by_cases e : fs ≤ b
        · rw [note, if_pos e] at hy; exact h6 y hy
        · by_cases ey : y = b
          · omega
          · rw [note, if_neg e, T.get_set_ne _ ey] at hy; exact h6 y hy
theorem wr_ok {b : Nat} {x : ABlk} {k : Tr} {σ : St} {K : Fin} (hS : SI σ) (h : run (.wr b x k) σ K = true) :
    ∃ x0 σ', σ.h.get b = some x0 ∧ σ'.h = σ.h.set b x ∧ SI σ' ∧ b + 1 < 2 ^ 64 ∧ run k σ' K = true := by
  cases σ with
  | mk H n fs tc w =>
    rw [run_wr] at h
    split at h
    case isFalse => cases h
    rename_i hbn
    split at h
    · cases h
    · rename_i x0 hb
      obtain ⟨h1, h2, h3, h5, h6⟩ := hS
      have h64 : b + 1 < 2 ^ 64 := by omega
      refine ⟨x0, _, hb, rfl, ?_, h64, h⟩
      show 1 ≤ n ∧ n ≤ 1000000001 ∧ fs ≤ n ∧ (∀ y ∈ noteW fs b w, (note fs b tc).get y = some ()) ∧ ∀ y, (note fs b tc).get y = some () → y < fs
      refine ⟨h1, h2, h3, fun y hy => ?_, fun y hy => ?_⟩
      · rcases mem_noteW hy with hy | ⟨e, hy⟩
        · exact note_keeps h64 (h5 y hy)
        · subst e; exact note_has h64 hy
      · by_cases e : fs ≤ b
        · rw [note, if_pos e] at hy; exact h6 y hy
        · by_cases ey : y = b
          · omega
          · rw [note, if_neg e, T.get_set_ne _ ey] at hy; exact h6 y hy
theorem new_ok {x : ABlk} {k : Nat → Tr} {σ : St} {K : Fin} (hS : SI σ) (h : run (.new x k) σ K = true) :
    ∃ n σ', σ.h.get n = none ∧ n + 1 < 2 ^ 64 ∧ σ'.h = σ.h.set n x ∧ SI σ' ∧ run (k n) σ' K = true := by
  cases σ with
  | mk H n fs tc w =>
    rw [run_new] at h
    split at h
    · split at h
      · cases h
      · rename_i hn hno
        obtain ⟨h1, h2, h3, h5, h6⟩ := hS
        refine ⟨n, _, hno, by omega, rfl, ?_, h⟩
        show 1 ≤ n + 1 ∧ n + 1 ≤ 1000000001 ∧ fs ≤ n + 1 ∧ (∀ y ∈ w, tc.get y = some ()) ∧ ∀ y, tc.get y = some () → y < fs
        exact ⟨by omega, by omega, by omega, h5, h6⟩
    · cases h
theorem pick_ok {n : Nat} {k : Nat → Tr} {σ : St} {K : Fin} (h : run (.pick n k) σ K = true) : ∀ i, (i = 0 ∨ i < n) → (n ≤ 1 → i = 0) → run (k i) σ K = true := by
  intro i hi h1
  by_cases hn : n ≤ 1
  · rw [h1 hn]
    have : run (.pick n k) σ K = run (k 0) σ K := by
      show bif' (Nat.ble n 1) (run (k 0) σ K) _ = _
      rw [bif'_eq, if_pos (Nat.ble_eq.mpr hn)]
    rw [← this]; exact h
  · cases σ with
    | mk H m fs tc w =>
      have hb : Nat.ble n 1 = false := by
        cases hb : Nat.ble n 1 with
        | false => rfl
        | true => exact absurd (Nat.ble_eq.mp hb) hn
      have h' : bif' (Nat.ble n 1) (run (k 0) (.mk H m fs tc w) K) (bif' (Nat.beq fs 0) (allBelow (fun i => run (k i) (.mk H m fs tc w) K) n) false) = true := h
      rw [hb] at h'
      have h2 := (bif'_true (b := Nat.beq fs 0) h').2
      exact allBelow_iff.mp h2 i (by omega)
theorem ask_ok {p : Prop} {t e : Tr} {σ : St} {K : Fin} (h : run (.ask p t e) σ K = true) : (p ∧ run t σ K = true) ∨ (¬ p ∧ run e σ K = true) := by
  by_cases hp : p
  · exact .inl ⟨hp, by rw [← run_ask_pos t e σ K hp]; exact h⟩
  · exact .inr ⟨hp, by rw [← run_ask_neg t e σ K hp]; exact h⟩
theorem req_ok {p : Prop} {t : Tr} {σ : St} {K : Fin} (h : run (.req p t) σ K = true) : p ∧ run t σ K = true := by
  by_cases hp : p
  · exact ⟨hp, by rw [← run_req_pos t σ K hp]; exact h⟩
  · rw [run_req_neg t σ K hp] at h; cases h
def Ext (w w' : World) : Prop := ∀ k, k < w.heap.size → w'.heap[k]? = w.heap[k]?
theorem Ext.refl (w : World) : Ext w w := fun _ _ => rfl
theorem ER.mono {ρ ρ' : Rho} (hle : ρ.le ρ') {nt : Nat} {env : T AV} {tmps : Array Value} (h : ER ρ nt env tmps) : ER ρ' nt env tmps :=
  ⟨h.size, fun t a ha => let ⟨v, hv, r⟩ := h.val t a ha; ⟨v, hv, r.mono hle⟩⟩
theorem BR.keep {ρ ρ' : Rho} {B : Nat} {w w' : World} {b : Nat} {x : ABlk} (hle : ρ.le ρ') (hg : ∀ g h, ρ.at_ b g = some h → w'.heap[h.blk]? = w.heap[h.blk]?)
    (h : BR ρ B w b x) : BR ρ' B w' b x := by
  cases x with
  | cells c gen lo hi fl fh ro ty =>
    refine ⟨h.1, fun g hgg => ?_⟩
    obtain ⟨hm, h1, h2, h2', arr, fr, h3, h4, h5, h6⟩ := h.2 g hgg
    refine ⟨hm, hle.at_ _ _ _ h1, fun hr => (h2 hr).mono hle, h2', arr, fr, by rw [hg g hm h1]; exact h3, h4, h5, fun o tag a ho ht => ?_⟩
    obtain ⟨q1, v, q2, q3⟩ := h6 o tag a ho ht
    exact ⟨q1, v, q2, q3.mono hle⟩
  | grow c gen ty =>
    rcases h with h1 | ⟨hm, h1, hs, h2, arr, fr, h3, h4, h5, h6, h7⟩
    · exact .inl h1
    · refine .inr ⟨hm, hle.at_ _ _ _ h1, hs, h2.mono hle, arr, fr, by rw [hg gen hm h1]; exact h3, h4, h5, h6, fun i hi j a ha => ?_⟩
      obtain ⟨u, q1, q2⟩ := h7 i hi j a ha
      exact ⟨u, q1, q2.mono hle⟩
  | mapo es clock =>
    obtain ⟨hm, h1, h2, es', h3, h4, h5⟩ := h
    refine ⟨hm, hle.at_ _ _ _ h1, h2.mono hle, es', by rw [hg 0 hm h1]; exact h3, h4, fun i k v n e hi he => ?_⟩
    obtain ⟨q1, q2, q3⟩ := h5 i k v n e hi he
    exact ⟨q1.mono hle, q2.mono hle, q3⟩
  | siter s pos =>
    obtain ⟨hm, h1, h2, s', h3, h4⟩ := h
    exact ⟨hm, hle.at_ _ _ _ h1, h2.mono hle, s', h3, by rw [hg 0 hm h1]; exact h4⟩
  | miter m since seen stepped =>
    obtain ⟨hm, h1, h2, m', seen', h3, h4, h5⟩ := h
    refine ⟨hm, hle.at_ _ _ _ h1, h2.mono hle, m', seen', by rw [hg 0 hm h1]; exact h3, h4, ?_⟩
    cases m with
    | none => exact h5
    | some x => obtain ⟨hx, q1, q2⟩ := h5; exact ⟨hx, hle.at_ _ _ _ q1, q2⟩
  | dfr live =>
    obtain ⟨hm, h1, h2, h3⟩ := h
    exact ⟨hm, hle.at_ _ _ _ h1, h2.mono hle, by rw [hg 0 hm h1]; exact h3⟩
  | loop state jump fn nt tmps params assign body defers =>
    obtain ⟨hm, h1, h2, tmps', hd, fn', h3, h4, h5⟩ := h
    exact ⟨hm, hle.at_ _ _ _ h1, h2.mono hle, tmps', hd, fn', h3.mono hle, hle.at_ _ _ _ h4, by rw [hg 0 hm h1]; exact h5⟩
def Rho.put (ρ : Rho) (b g : Nat) (h : Home) : Rho := { at_ := fun x y => if x = b ∧ y = g then some h else ρ.at_ x y, val := ρ.val, own := ρ.own, frz := ρ.frz, frz0 := ρ.frz0 }
theorem Rho.put_at (ρ : Rho) (b g : Nat) (h : Home) : (ρ.put b g h).at_ b g = some h := by simp [Rho.put]
theorem Rho.le_put {ρ : Rho} {b g : Nat} {h : Home} (hno : ρ.at_ b g = none) : ρ.le (ρ.put b g h) :=
  ⟨fun x y z hz => by
    show (if x = b ∧ y = g then some h else ρ.at_ x y) = some z
    by_cases e : x = b ∧ y = g
    · rw [e.1, e.2, hno] at hz; cases hz
    · rw [if_neg e]; exact hz, rfl, rfl, fun _ _ h => h, rfl⟩
theorem Good.none_at {w0 : World} {ρ : Rho} {H : T ABlk} {w : World} (hG : Good w0 ρ H w) {n : Nat} (hn : H.get n = none) (g : Nat) : ρ.at_ n g = none := by
  cases h : ρ.at_ n g with
  | none => rfl
  | some x => obtain ⟨_, y, hy⟩ := hG.dom _ _ _ h; rw [hn] at hy; cases hy
theorem Good.alloc {w0 : World} {ρ : Rho} {H : T ABlk} {w : World} (hG : Good w0 ρ H w) {n : Nat} (hn : H.get n = none) (h64 : n + 1 < 2 ^ 64) (x : ABlk) (o : Obj) (shift size : Nat)
    (hB : ∀ ρ' : Rho, ρ.le ρ' → ρ'.at_ n 0 = some ⟨w.heap.size, shift, size⟩ → ρ' = ρ.put n 0 ⟨w.heap.size, shift, size⟩ → BR ρ' w0.heap.size { w with heap := w.heap.push o } n x) :
    ρ.le (ρ.put n 0 ⟨w.heap.size, shift, size⟩) ∧ Good w0 (ρ.put n 0 ⟨w.heap.size, shift, size⟩) (H.set n x) { w with heap := w.heap.push o } := by
  have hno := hG.none_at hn 0
  have hle : ρ.le (ρ.put n 0 ⟨w.heap.size, shift, size⟩) := Rho.le_put hno
  refine ⟨hle, ⟨?_, fun b y hy => ?_, fun b g h hh => ?_, fun b g h b' g' h' hh hh' e => ?_, fun b g h y hh hy => ?_, fun b arr ty hf => ?_, hG.frzB⟩⟩
  · exact hG.below.alloc hG.below.size o
  · by_cases e : b = n
    · subst e
      rw [T.get_set_same _ _ _ h64] at hy
      injection hy with hy; subst hy
      exact hB _ hle (Rho.put_at _ _ _ _) rfl
    · rw [T.get_set_ne _ e] at hy
      refine (hG.blk b y hy).keep hle fun g h hh => ?_
      have := (hG.dom _ _ _ hh).1
      show (w.heap.push o)[h.blk]? = _
      rw [Array.getElem?_push, if_neg (by omega)]
  · simp only [Rho.put] at hh
    split at hh
    · rename_i e
      injection hh with hh; subst hh
      obtain ⟨e1, e2⟩ := e; subst e1
      exact ⟨by simp, x, T.get_set_same _ _ _ h64⟩
    · obtain ⟨q1, y, q2⟩ := hG.dom _ _ _ hh
      refine ⟨by show h.blk < (w.heap.push o).size; simp; omega, y, ?_⟩
      rw [T.get_set_ne]
      · exact q2
      · intro e; subst e; rw [hn] at q2; cases q2
  · simp only [Rho.put] at hh hh'
    split at hh
    · rename_i c
      split at hh'
      · rename_i c'
        injection hh with hh; injection hh' with hh'
        exact ⟨c.1.trans c'.1.symm, hh.symm.trans hh'⟩
      · injection hh with hh; subst hh
        have := (hG.dom _ _ _ hh').1
        simp only at e; omega
    · split at hh'
      · injection hh' with hh'; subst hh'
        have := (hG.dom _ _ _ hh).1
        simp only at e; omega
      · exact hG.inj _ _ _ _ _ _ hh hh' e
  · simp only [Rho.put] at hh
    split at hh
    · rename_i c
      rw [c.2]
      cases y <;> first | exact Nat.zero_le _ | trivial
    · have hbn : b ≠ n := fun e => by subst e; rw [hG.none_at hn g] at hh; cases hh
      rw [T.get_set_ne _ hbn] at hy
      exact hG.gens b g h y hh hy
  · have hf : ρ.frz b = some (arr, ty) := hf
    obtain ⟨⟨fr, q1⟩, q2⟩ := hG.frz b arr ty hf
    have hlt : b < w.heap.size := by
      rcases Nat.lt_or_ge b w.heap.size with h' | h'
      · exact h'
      · rw [Array.getElem?_eq_none h'] at q1; cases q1
    refine ⟨⟨fr, ?_⟩, fun b' g h hh => ?_⟩
    · show (w.heap.push o)[b]? = _
      rw [Array.getElem?_push, if_neg (by omega)]; exact q1
    · simp only [Rho.put] at hh
      split at hh
      · injection hh with hh; subst hh
        show w.heap.size ≠ b
        omega
      · exact q2 _ _ _ hh
theorem Good.drawn {w0 : World} {ρ : Rho} {H : T ABlk} {w : World} (hG : Good w0 ρ H w) (n : Nat) : Good w0 ρ H { w with drawn := n } :=
  ⟨⟨hG.below.os, hG.below.tape, hG.below.output, hG.below.size, hG.below.block⟩, fun b x hx => (hG.blk b x hx).keep (Rho.le.refl ρ) fun _ _ _ => rfl, hG.dom, hG.inj, hG.gens, hG.frz, hG.frzB⟩
theorem Good.turn {w0 : World} {ρ : Rho} {H : T ABlk} {w w' : World} (hG : Good w0 ρ H w) {b : Nat} {x0 x : ABlk} (hb : H.get b = some x0) (h64 : b + 1 < 2 ^ 64) (r : Nat) (hr : Own ρ w0.heap.size r)
    (hbe : Kept ρ.own w0.heap.size w w') (hsz : w.heap.size ≤ w'.heap.size) (hother : ∀ k, k ≠ r → k < w.heap.size → w'.heap[k]? = w.heap[k]?)
    (hown : ∀ b' g h, ρ.at_ b' g = some h → h.blk = r → b' = b) (hB : BR ρ w0.heap.size w' b x) (hgen : ∀ g, gOk g x0 → gOk g x := by intro g h; exact h) (hrs : ∃ b' g h, ρ.at_ b' g = some h ∧ h.blk = r) : Good w0 ρ (H.set b x) w' := by
  refine ⟨hG.below.trans hbe, fun b' y hy => ?_, fun b' g h hh => ?_, hG.inj, fun b' g h y hh hy => ?_, fun b' arr ty hf => ?_, hG.frzB⟩
  · by_cases e : b' = b
    · subst e
      rw [T.get_set_same _ _ _ h64] at hy
      injection hy with hy; subst hy
      exact hB
    · rw [T.get_set_ne _ e] at hy
      refine (hG.blk b' y hy).keep (Rho.le.refl ρ) fun g h hh => ?_
      exact hother _ (fun er => e (hown _ _ _ hh er)) (hG.dom _ _ _ hh).1
  · obtain ⟨q1, y, q2⟩ := hG.dom _ _ _ hh
    refine ⟨by omega, ?_⟩
    by_cases e : b' = b
    · subst e; exact ⟨x, T.get_set_same _ _ _ h64⟩
    · exact ⟨y, by rw [T.get_set_ne _ e]; exact q2⟩
  · by_cases e : b' = b
    · subst e
      rw [T.get_set_same _ _ _ h64] at hy
      injection hy with hy; subst hy
      exact hgen g (hG.gens b' g h x0 hh hb)
    · rw [T.get_set_ne _ e] at hy
      exact hG.gens b' g h y hh hy
  · obtain ⟨⟨fr, q1⟩, q2⟩ := hG.frz b' arr ty hf
    have hlt : b' < w.heap.size := by
      rcases Nat.lt_or_ge b' w.heap.size with h' | h'
      · exact h'
      · rw [Array.getElem?_eq_none h'] at q1; cases q1
    refine ⟨⟨fr, ?_⟩, q2⟩
    obtain ⟨x1, x2, x3, x4, x5⟩ := hrs
    rw [hother b' (fun e => q2 _ _ _ x4 (x5.trans e.symm)) hlt]; exact q1
end Go.Sym
namespace Go.Sym
open Go.RowKit (Below)
set_option linter.unusedVariables false
theorem nofail {σ : St} {K : Fin} (h : run .fail σ K = true) : False := by cases h
theorem oelT {α : Type} {o : Option α} {k : α → Tr} {σ : St} {K : Fin} (h : run (oel o .fail k) σ K = true) : ∃ a, o = some a ∧ run (k a) σ K = true := by
  cases o with
  | none => exact (nofail h).elim
  | some a => exact ⟨a, rfl, h⟩
theorem bifT {b : Bool} {t : Tr} {σ : St} {K : Fin} (h : run (bif' b t .fail) σ K = true) : b = true ∧ run t σ K = true := by
  cases b with
  | true => exact ⟨rfl, h⟩
  | false => exact (nofail h).elim
theorem bifF {b : Bool} {t : Tr} {σ : St} {K : Fin} (h : run (bif' b .fail t) σ K = true) : b = false ∧ run t σ K = true := by
  cases b with
  | false => exact ⟨rfl, h⟩
  | true => exact (nofail h).elim
theorem bif2 {b : Bool} {t e : Tr} {σ : St} {K : Fin} (h : run (bif' b t e) σ K = true) : (b = true ∧ run t σ K = true) ∨ (b = false ∧ run e σ K = true) := by
  cases b with
  | false => exact .inr ⟨rfl, h⟩
  | true => exact .inl ⟨rfl, h⟩
theorem getT {α : Type} {t : T α} {n : Nat} {k : α → Tr} {σ : St} {K : Fin} (h : run (T.getK t n .fail k) σ K = true) : ∃ a, t.get n = some a ∧ run (k a) σ K = true := by
  rw [T.getK_eq] at h
  split at h
  · exact (nofail h).elim
  · exact ⟨_, by assumption, h⟩
theorem fNT {n : Nat} {k : Nat → Tr} {σ : St} {K : Fin} (h : run (fN n k) σ K = true) : run (k n) σ K = true := by rw [fN_eq] at h; exact h
theorem fIT {n : Int} {k : Int → Tr} {σ : St} {K : Fin} (h : run (fI n k) σ K = true) : run (k n) σ K = true := by rw [fI_eq] at h; exact h
theorem bleT {a b : Nat} (h : Nat.ble a b = true) : a ≤ b := Nat.ble_eq.mp h
theorem bleF {a b : Nat} (h : Nat.ble a b = false) : b < a := by
  rcases Nat.lt_or_ge b a with e | e
  · exact e
  · rw [Nat.ble_eq.mpr e] at h; cases h
theorem beqT {a b : Nat} (h : Nat.beq a b = true) : a = b := Nat.eq_of_beq_eq_true h
theorem asBoolT {ρ : Rho} {v : AV} {u : Value} {k : Bool → Tr} {σ : St} {K : Fin} (hv : VR ρ v u) (h : run (asBoolK v k) σ K = true) : ∃ b, u = .bool b ∧ run (k b) σ K = true := by
  cases hv with
  | bool b => exact ⟨b, rfl, h⟩
  | sB p b hb =>
    rcases ask_ok h with ⟨hp, h⟩ | ⟨hp, h⟩
    · exact ⟨b, rfl, by rw [hb.2 hp]; exact h⟩
    · refine ⟨b, rfl, ?_⟩
      cases b with
      | true => exact absurd (hb.1 rfl) hp
      | false => exact h
  | _ => exact (nofail h).elim
theorem asIntT {v : AV} {k : IntKind → Int → Tr} {σ : St} {K : Fin} (h : run (asIntK v k) σ K = true) : ∃ j n, v = .int j n ∧ run (k j n) σ K = true := by
  cases v <;> first | exact ⟨_, _, rfl, h⟩ | exact (nofail h).elim
theorem asAggT {v : AV} {k : List AV → Tr} {σ : St} {K : Fin} (h : run (asAggK v k) σ K = true) : ∃ l, v = .agg l ∧ run (k l) σ K = true := by
  cases v <;> first | exact ⟨_, rfl, h⟩ | exact (nofail h).elim
theorem natT {n : Int} {k : Nat → Tr} {σ : St} {K : Fin} (h : run (natK n k) σ K = true) : ∃ a : Nat, n = (a : Int) ∧ run (k a) σ K = true := by
  cases n with
  | ofNat a => exact ⟨a, rfl, h⟩
  | negSucc a => exact (nofail h).elim
theorem cellsT {ρ : Rho} {a : AV} {v : Value} {k : List AV → Tr} {σ : St} {K : Fin} (hv : VR ρ a v) (h : run (cellsK a k) σ K = true) : ∃ l, LR ρ l v.cells.toList ∧ run (k l) σ K = true := by
  cases hv with
  | agg l cs h1 h2 => exact ⟨l, LR.of_arr h1 h2, h⟩
  | opq n => exact (nofail h).elim
  | opc n ho =>
    refine ⟨_, ?_, h⟩
    have e : (ρ.val n).cells.toList = [ρ.val n] := by
      cases hv : ρ.val n <;> first | rfl | (rw [hv] at ho; cases ho)
    rw [e]
    exact LR.cons (.opc n ho) (LR.nil ρ)
  | any1 _ ho =>
    refine ⟨_, ?_, h⟩
    have e : v.cells.toList = [v] := by
      cases v <;> first | rfl | cases ho
    rw [e]
    exact LR.cons (.any1 v ho) (LR.nil ρ)
  | sB p b hb => exact ⟨_, LR.cons (.sB p b hb) (LR.nil ρ), h⟩
  | _ => exact ⟨_, LR.cons (by constructor <;> assumption) (LR.nil ρ), h⟩
def Res (P : Program) (w0 : World) (ρ : Rho) (w : World) (k : AV → Tr) (K : Fin) (s : Sem Value) : Prop :=
  ∃ av σ' ρ' v w', run (k av) σ' K = true ∧ SI σ' ∧ Good w0 ρ' σ'.h w' ∧ ρ.le ρ' ∧ VR ρ' av v ∧ s.run P w = .ok v w'
def ResU (P : Program) (w0 : World) (ρ : Rho) (w : World) (k : Tr) (K : Fin) (s : Sem Unit) : Prop :=
  ∃ σ' w', run k σ' K = true ∧ SI σ' ∧ Good w0 ρ σ'.h w' ∧ s.run P w = .ok () w'
theorem Res.plain {P : Program} {w0 : World} {ρ : Rho} {w : World} {k : AV → Tr} {K : Fin} {s : Sem Value} {av : AV} {σ : St} {v : Value}
    (hr : run (k av) σ K = true) (hS : SI σ) (hG : Good w0 ρ σ.h w) (hv : VR ρ av v) (hs : s.run P w = .ok v w) : Res P w0 ρ w k K s :=
  ⟨av, σ, ρ, v, w, hr, hS, hG, Rho.le.refl ρ, hv, hs⟩
theorem Res.of_eq {P : Program} {w0 : World} {ρ : Rho} {w : World} {k : AV → Tr} {K : Fin} {s s' : Sem Value} (h : Res P w0 ρ w k K s) (e : s'.run P w = s.run P w) : Res P w0 ρ w k K s' := by
  obtain ⟨av, σ', ρ', v, w', h1, h2, h3, h4, h5, h6⟩ := h
  exact ⟨av, σ', ρ', v, w', h1, h2, h3, h4, h5, e.trans h6⟩
section
variable {w0 : World} {ρ : Rho} {w : World} {σ : St} {K : Fin} {nt : Nat} {env : T AV} {a : Act}
theorem ev_ok {x : Operand} {k : AV → Tr} (hS : SI σ) (hG : Good w0 ρ σ.h w) (hE : ER ρ nt env a.tmps) (h : run (evK env x k) σ K = true) :
    ∃ av σ', σ'.h = σ.h ∧ SI σ' ∧ run (k av) σ' K = true ∧ VR ρ av (a.eval x) := by
  cases x with
  | tmp t =>
    obtain ⟨av, h1, h2⟩ := getT (k := k) h
    obtain ⟨v, hv, hr⟩ := hE.val t av h1
    refine ⟨av, σ, rfl, hS, h2, ?_⟩
    show VR ρ av (a.tmps.getD t undef)
    rw [Array.getD_eq_getD_getElem?, hv]; exact hr
  | const v =>
    obtain ⟨av, h1, h2⟩ := oelT (k := k) h
    exact ⟨av, σ, rfl, hS, h2, cvF_ok ρ _ _ _ h1⟩
  | func f => exact ⟨_, σ, rfl, hS, h, .func _ _ _ _ _ rfl rfl (by simp) (by simp) rfl⟩
  | global g =>
    obtain ⟨hlt, h⟩ := bifT h
    have hlt := bleT hlt
    obtain ⟨x, σ', h1, h2, h3, h4⟩ := rd_ok hS h
    cases x with
    | cells c gen lo hi fl fh ro ty =>
      obtain ⟨h5, h6⟩ := bifT h4
      subst h5
      obtain ⟨hm, q1, _, q2, _⟩ := (hG.blk _ _ h1).2 0 (Nat.zero_le _)
      obtain ⟨e1, e2⟩ := q2 rfl hlt
      refine ⟨_, σ', h2, h3, h6, ?_⟩
      have := VR.ptr (ρ := ρ) g 0 0 hm q1 (by omega)
      rw [e1] at this
      show VR ρ _ (.pointer (some ⟨g, 0, none⟩))
      simpa using this
    | _ => exact (nofail h4).elim
theorem evs_ok : ∀ {l : List Operand} {k : List AV → Tr} {σ : St}, SI σ → Good w0 ρ σ.h w → ER ρ nt env a.tmps → run (evsK env l k) σ K = true →
    ∃ av σ', σ'.h = σ.h ∧ SI σ' ∧ run (k av) σ' K = true ∧ LR ρ av (l.map a.eval) := by
  intro l
  induction l with
  | nil => intro k σ hS hG hE h; exact ⟨[], σ, rfl, hS, h, LR.nil ρ⟩
  | cons x l ih =>
    intro k σ hS hG hE h
    obtain ⟨v, σ1, e1, hS1, h1, r1⟩ := ev_ok (k := fun a => evsK env l fun l => k (a :: l)) hS hG hE h
    obtain ⟨vs, σ2, e2, hS2, h2, r2⟩ := ih hS1 (by rw [e1]; exact hG) hE h1
    exact ⟨v :: vs, σ2, e2.trans e1, hS2, h2, LR.cons r1 r2⟩
def OR (ρ : Rho) : Option AV → Option Value → Prop
  | none, none => True
  | some a, some v => VR ρ a v
  | _, _ => False
theorem evo_ok {x : Option Operand} {k : Option AV → Tr} (hS : SI σ) (hG : Good w0 ρ σ.h w) (hE : ER ρ nt env a.tmps) (h : run (evoK env x k) σ K = true) :
    ∃ av σ', σ'.h = σ.h ∧ SI σ' ∧ run (k av) σ' K = true ∧ OR ρ av (x.map a.eval) := by
  cases x with
  | none => exact ⟨none, σ, rfl, hS, h, trivial⟩
  | some x =>
    obtain ⟨v, σ1, e1, hS1, h1, r1⟩ := ev_ok (k := fun a => k (some a)) hS hG hE h
    exact ⟨some v, σ1, e1, hS1, h1, r1⟩
theorem evParts_ok : ∀ {l : List (Nat × Operand)} {k : List (Nat × AV) → Tr} {σ : St}, SI σ → Good w0 ρ σ.h w → ER ρ nt env a.tmps → run (evPartsK env l k) σ K = true →
    ∃ av σ', σ'.h = σ.h ∧ SI σ' ∧ run (k av) σ' K = true ∧ av.map (·.1) = l.map (·.1) ∧ LR ρ (av.map (·.2)) (l.map fun x => a.eval x.2) := by
  intro l
  induction l with
  | nil => intro k σ hS hG hE h; exact ⟨[], σ, rfl, hS, h, rfl, LR.nil ρ⟩
  | cons x l ih =>
    intro k σ hS hG hE h
    obtain ⟨v, σ1, e1, hS1, h1, r1⟩ := ev_ok (k := fun a => evPartsK env l fun l => k ((x.1, a) :: l)) hS hG hE h
    obtain ⟨vs, σ2, e2, hS2, h2, r2, r3⟩ := ih hS1 (by rw [e1]; exact hG) hE h1
    exact ⟨(x.1, v) :: vs, σ2, e2.trans e1, hS2, h2, by simp [r2], LR.cons r1 r3⟩
end
end Go.Sym
namespace Go.Sym
set_option linter.unusedVariables false
theorem wrap_u64' (n : Int) : IntKind.wrap .u64 n = n % 18446744073709551616 := by
  unfold IntKind.wrap
  simp only [IntKind.signed, Bool.false_and, Bool.false_eq_true, if_false, IntKind.bits]
  rfl
theorem wrapT {j : IntKind} {n : Int} {f : Int → Tr} {σ : St} {K : Fin} (h : run (wrapA j n f) σ K = true) : run (f (j.wrap n)) σ K = true := by
  unfold wrapA at h
  split at h
  · rename_i a
    rcases bif2 h with ⟨hb, h⟩ | ⟨_, h⟩
    · have hb := bleT hb
      have h := fNT h
      have e : IntKind.wrap .i64 (Int.ofNat a) = Int.ofNat a := IntWalk.i64_in _ (by rw [Int.ofNat_eq_natCast]; omega)
      rw [e]; exact h
    · exact fIT h
  · rename_i a
    have h := fNT h
    have e : IntKind.wrap .u64 (Int.ofNat a) = Int.ofNat (a % 18446744073709551616) := by
      rw [wrap_u64', Int.ofNat_eq_natCast, Int.ofNat_eq_natCast]; omega
    rw [e]; exact h
  · rename_i a
    have h := fNT h
    have e : IntKind.wrap .u32 (Int.ofNat a) = Int.ofNat (a % 4294967296) := by
      rw [IntKind.wrap_u32, Int.ofNat_eq_natCast, Int.ofNat_eq_natCast]; omega
    rw [e]; exact h
  · rename_i a
    have h := fNT h
    have e : IntKind.wrap .u8 (Int.ofNat a) = Int.ofNat (a % 256) := by
      rw [IntKind.wrap_u8, Int.ofNat_eq_natCast, Int.ofNat_eq_natCast]; omega
    rw [e]; exact h
  · rename_i a
    have h := fNT h
    have e : IntKind.wrap .u64 (Int.negSucc a) = Int.ofNat (18446744073709551615 - a % 18446744073709551616) := by
      rw [wrap_u64', Int.negSucc_eq, Int.ofNat_eq_natCast]; omega
    rw [e]; exact h
  · rename_i a
    have h := fNT h
    have e : IntKind.wrap .u32 (Int.negSucc a) = Int.ofNat (4294967295 - a % 4294967296) := by
      rw [IntKind.wrap_u32, Int.negSucc_eq, Int.ofNat_eq_natCast]; omega
    rw [e]; exact h
  · rename_i a
    have h := fNT h
    have e : IntKind.wrap .u8 (Int.negSucc a) = Int.ofNat (255 - a % 256) := by
      rw [IntKind.wrap_u8, Int.negSucc_eq, Int.ofNat_eq_natCast]; omega
    rw [e]; exact h
  · rename_i a
    rcases bif2 h with ⟨hb, h⟩ | ⟨_, h⟩
    · have hb := bleT hb
      have h := fNT h
      have e : IntKind.wrap .i64 (Int.negSucc a) = Int.negSucc a := IntWalk.i64_in _ (by rw [Int.negSucc_eq]; omega)
      rw [e]; exact h
    · exact fIT h
  · exact fIT h
theorem wrap_u16' (n : Int) : IntKind.wrap .u16 n = n % 65536 := by
  unfold IntKind.wrap
  simp only [IntKind.signed, Bool.false_and, Bool.false_eq_true, if_false, IntKind.bits]
  rfl
theorem wrapST {j : IntKind} {n : Int} {f : Int → Tr} {σ : St} {K : Fin} (h : run (wrapS j n f) σ K = true) : run (f (j.wrap n)) σ K = true := by
  cases j with
  | u8 => rw [IntKind.wrap_u8]; exact h
  | u16 => rw [wrap_u16']; exact h
  | u32 => rw [IntKind.wrap_u32]; exact h
  | u64 => rw [wrap_u64']; exact h
  | i64 =>
    rcases ask_ok h with ⟨hp, h⟩ | ⟨hp, h⟩
    · rw [IntWalk.i64_in _ hp]; exact h
    · exact h
  | _ => exact h
theorem modulus_eq (k : IntKind) : modulus k = 2 ^ k.bits := by cases k <;> rfl
theorem bitsOf_eq (k : IntKind) : bitsOf k = k.bits := by cases k <;> rfl
theorem toU_eq (k : IntKind) (n : Int) : toU (modulus k) n = (BitVec.ofInt k.bits n).toNat := by
  rw [BitVec.toNat_ofInt, modulus_eq]
  cases n with
  | ofNat a =>
    show a % 2 ^ k.bits = ((a : Int) % ((2 ^ k.bits : Nat) : Int)).toNat
    rw [← Int.natCast_emod]; rfl
  | negSucc a =>
    show 2 ^ k.bits - 1 - a % 2 ^ k.bits = _
    have hp : 0 < 2 ^ k.bits := Nat.two_pow_pos _
    rw [Int.negSucc_emod _ (by exact_mod_cast hp), ← Int.natCast_emod]
    have : a % 2 ^ k.bits < 2 ^ k.bits := Nat.mod_lt _ hp
    generalize a % 2 ^ k.bits = r at *
    generalize 2 ^ k.bits = m at *
    omega
theorem intBits_run (P : Program) (w : World) (j : IntKind) (x y : Int) : 
    ((Op.intBits .and j x y).run P w = .ok (.int j (j.wrap (Int.ofNat (Nat.land (toU (modulus j) x) (toU (modulus j) y))))) w) ∧
    ((Op.intBits .or j x y).run P w = .ok (.int j (j.wrap (Int.ofNat (Nat.lor (toU (modulus j) x) (toU (modulus j) y))))) w) ∧
    ((Op.intBits .xor j x y).run P w = .ok (.int j (j.wrap (Int.ofNat (Nat.xor (toU (modulus j) x) (toU (modulus j) y))))) w) ∧
    ((Op.intBits .andNot j x y).run P w = .ok (.int j (j.wrap (Int.ofNat (Nat.land (toU (modulus j) x) (Nat.sub (Nat.sub (modulus j) 1) (toU (modulus j) y)))))) w) := by
  refine ⟨?_, ?_, ?_, ?_⟩
  · simp only [Op.intBits, Sem.run_pure, toU_eq, BitVec.toNat_and]; rfl
  · simp only [Op.intBits, Sem.run_pure, toU_eq, BitVec.toNat_or]; rfl
  · simp only [Op.intBits, Sem.run_pure, toU_eq, BitVec.toNat_xor]; rfl
  · have e : Nat.sub (Nat.sub (modulus j) 1) (toU (modulus j) y) = (~~~ (BitVec.ofInt j.bits y)).toNat := by
      rw [BitVec.toNat_not, toU_eq, modulus_eq]; rfl
    rw [e]
    simp only [Op.intBits, Sem.run_pure, toU_eq, BitVec.toNat_and]; rfl
section
variable {P : Program} {w0 : World} {ρ : Rho} {w : World} {σ : St} {K : Fin} {k : AV → Tr}
theorem boolT {b : Bool} (h : run (boolK b k) σ K = true) : run (k (.bool b)) σ K = true := by
  rcases bif2 h with ⟨e, h⟩ | ⟨e, h⟩ <;> subst e <;> exact h
theorem cmp_ok {op : BinOp} {j : IntKind} {x y : Int} (hS : SI σ) (hG : Good w0 ρ σ.h w) (h : run (cmpA op x y (fun b => boolK b k) .fail) σ K = true) :
    Res P w0 ρ w k K (Op.intCmp op x y) := by
  have key : ∀ b, (Op.intCmp op x y).run P w = .ok (.bool b) w → run (boolK b k) σ K = true → Res P w0 ρ w k K (Op.intCmp op x y) :=
    fun b hb hr => .plain (boolT hr) hS hG (.bool b) hb
  unfold cmpA at h
  split at h
  · rename_i a b
    cases op <;> first
      | exact (nofail h).elim
      | exact key _ (by simp only [Op.intCmp, Sem.run_pure]; congr 2; rw [Bool.eq_iff_iff]; simp [bif'_eq]; omega) h
      | exact key _ (by simp only [Op.intCmp, Sem.run_pure]; congr 2; rw [Bool.eq_iff_iff]; simp) h
      | exact key _ (by simp only [Op.intCmp, Sem.run_pure]; congr 2; rw [Bool.eq_iff_iff]; simp [bif'_eq]) h
  · cases op <;> first
      | exact (nofail h).elim
      | exact key _ (by simp only [Op.intCmp, Sem.run_pure]) h
theorem isZ_false {n : Int} (h : isZ n = false) : n ≠ 0 := by
  intro e; subst e; cases h
def intRes (op : BinOp) (j : IntKind) (x y : Int) : Sem Value := match op with | .add | .sub | .mul => Op.intArith op j x y | .quo | .rem => Op.intDiv op j x y | .and | .or | .xor | .andNot => Op.intBits op j x y | _ => Op.intCmp op x y
theorem intBin_ok {op : BinOp} {j : IntKind} {x y : Int} (hS : SI σ) (hG : Good w0 ρ σ.h w) (hop : op ≠ .shl ∧ op ≠ .shr) (h : run (intBinA op j x y k) σ K = true) :
    Res P w0 ρ w k K (intRes op j x y) := by
  obtain ⟨b1, b2, b3, b4⟩ := intBits_run P w j x y
  cases op
  case add => exact .plain (wrapT h) hS hG (.int _ _) rfl
  case sub => exact .plain (wrapT h) hS hG (.int _ _) rfl
  case mul => exact .plain (wrapT h) hS hG (.int _ _) rfl
  case quo =>
    obtain ⟨h1, h2⟩ := bifF h
    exact .plain (wrapT h2) hS hG (.int _ _) (by show (Op.intDiv .quo j x y).run P w = _; simp only [Op.intDiv, if_neg (isZ_false h1)]; rfl)
  case rem =>
    obtain ⟨h1, h2⟩ := bifF h
    exact .plain (fIT h2) hS hG (.int _ _) (by show (Op.intDiv .rem j x y).run P w = _; simp only [Op.intDiv, if_neg (isZ_false h1)]; rfl)
  case and => exact .plain (wrapT h) hS hG (.int _ _) b1
  case or => exact .plain (wrapT h) hS hG (.int _ _) b2
  case xor => exact .plain (wrapT h) hS hG (.int _ _) b3
  case andNot => exact .plain (wrapT h) hS hG (.int _ _) b4
  case shl => exact absurd rfl hop.1
  case shr => exact absurd rfl hop.2
  case eql => exact cmp_ok (op := .eql) (j := j) hS hG h
  case neq => exact cmp_ok (op := .neq) (j := j) hS hG h
  case lss => exact cmp_ok (op := .lss) (j := j) hS hG h
  case leq => exact cmp_ok (op := .leq) (j := j) hS hG h
  case gtr => exact cmp_ok (op := .gtr) (j := j) hS hG h
  case geq => exact cmp_ok (op := .geq) (j := j) hS hG h
theorem minN_eq (a b : Nat) : minN a b = min a b := by
  unfold minN
  rw [bif'_eq]
  by_cases h : a ≤ b
  · rw [if_pos (Nat.ble_eq.mpr h)]; omega
  · rw [if_neg (fun e => h (bleT e))]; omega
theorem shift_ok {op : BinOp} {j jj : IntKind} {x y : Int} (hS : SI σ) (hG : Good w0 ρ σ.h w) (h : run (shiftA op j x y k) σ K = true) :
    Res P w0 ρ w k K (Op.shift op j x jj y) := by
  obtain ⟨n, rfl, h⟩ := natT h
  have e : min ((n : Int).toNat) j.bits = minN n (bitsOf j) := by rw [minN_eq, bitsOf_eq]; rfl
  cases op
  case shl =>
    refine .plain (wrapT h) hS hG (.int _ _) ?_
    simp only [Op.shift, if_neg (show ¬ (n : Int) < 0 by omega), e, Sem.run_pure]
    congr 2
  case shr =>
    have e2 : (Op.shift .shr j x jj (n : Int)).run P w = .ok (.int j (x.fdiv (((2 ^ minN n (bitsOf j) : Nat) : Int)))) w := by
      simp only [Op.shift, if_neg (show ¬ (n : Int) < 0 by omega), e, Sem.run_pure]
      rw [Int.natCast_pow]
      rfl
    cases x with
    | ofNat a => 
      have h : run (fN (Nat.div a (Nat.pow 2 (minN n (bitsOf j)))) fun n => k (.int j (.ofNat n))) σ K = true := h
      refine .plain (fNT h) hS hG (.int _ _) ?_
      rw [e2]
      congr 2
      show (Int.ofNat a).fdiv (Int.ofNat (2 ^ minN n (bitsOf j))) = Int.ofNat (a / 2 ^ minN n (bitsOf j))
      cases a with
      | zero => rw [Nat.zero_div]; rfl
      | succ a => rfl
    | negSucc a =>
      have h : run (fI ((Int.negSucc a).fdiv (.ofNat (Nat.pow 2 (minN n (bitsOf j))))) fun n => k (.int j n)) σ K = true := h
      exact .plain (fIT h) hS hG (.int _ _) e2
  all_goals exact (nofail h).elim
theorem eqL_iff : ∀ (x y : List Nat), eqL x y = true ↔ x = y := by
  intro x
  induction x with
  | nil => intro y; cases y <;> simp [eqL]
  | cons a x ih =>
    intro y
    cases y with
    | nil => simp [eqL]
    | cons b y => simp only [eqL, bif'_eq]; by_cases e : a = b <;> simp [e, ih]
theorem bytesOf_inj {s t : ByteArray} (h : bytesOf s = bytesOf t) : s = t := by
  have : s.data.toList = t.data.toList := List.map_inj_right (fun a b e => UInt8.toNat_inj.mp e) |>.mp h
  cases s; cases t; simp at this; simp [this]
theorem eqL_bytes (s t : ByteArray) : eqL (bytesOf s) (bytesOf t) = (s.toList == t.toList) := by
  rw [Bool.eq_iff_iff, eqL_iff]
  constructor
  · intro h; rw [bytesOf_inj h]; simp
  · intro h
    have h : s.toList = t.toList := by simpa using h
    rw [ByteArray.toList_eq, ByteArray.toList_eq] at h
    unfold bytesOf; rw [h]
theorem forceT {l : List Nat} {k : List Nat → Tr} (h : run (forceL l k) σ K = true) : run (k l) σ K = true := by
  induction l generalizing k with
  | nil => exact h
  | cons a l ih =>
    have h : run (fN a fun a => forceL l fun l => k (a :: l)) σ K = true := h
    exact ih (fNT h)
theorem forceAT {l : List AV} {k : List AV → Tr} (h : run (forceA l k) σ K = true) : run (k l) σ K = true := by
  induction l generalizing k with
  | nil => exact h
  | cons a l ih => exact ih h
end
end Go.Sym
