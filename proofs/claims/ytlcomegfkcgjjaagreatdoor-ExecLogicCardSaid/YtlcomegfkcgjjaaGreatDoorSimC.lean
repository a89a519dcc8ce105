/-
  SIM, part C: what a computation asks of the heap, as a tree; its run; that a run hangs on what it touches alone.
-/
import Derived.Test.YtlcomegfkcgjjaaGreatDoorSimB
namespace Go.Sim
set_option linter.unusedVariables false
noncomputable section

/-- A computation over the heap of blocks: it reads a block, writes one, makes one; 'pick': whatever the tape says (less than n); 'sub': a part of it with a record of its own of what it touches. -/
inductive Tr where
  | fail
  | ret (a : AV)
  | rd (b : Nat) (k : ABlk → Tr)
  | wr (b : Nat) (x : ABlk) (k : Tr)
  | new (x : ABlk) (k : Nat → Tr)
  | pick (n : Nat) (k : Nat → Tr)
  | sub (t : Tr) (k : AV → Nat → Nat → T Unit → List Nat → Tr)

abbrev Fin := AV → St → Bool

def noteK (fs b : Nat) (t : T Unit) (k : T Unit → Bool) : Bool := bif' (Nat.ble fs b) (k t) (T.setK t b () k)
def note (fs b : Nat) (t : T Unit) : T Unit := if fs ≤ b then t else t.set b ()
theorem noteK_eq (fs b : Nat) (t : T Unit) (k : T Unit → Bool) : noteK fs b t k = k (note fs b t) := by
  unfold noteK note
  rw [bif'_eq, T.setK_eq]
  by_cases h : fs ≤ b
  · simp [Nat.ble_eq, h]
  · have : Nat.ble fs b = false := by
      cases hb : Nat.ble fs b with
      | false => rfl
      | true => exact absurd (Nat.ble_eq.mp hb) h
    simp [this, h]
def noteWK (fs b : Nat) (w : List Nat) (k : List Nat → Bool) : Bool := bif' (Nat.ble fs b) (k w) (k (b :: w))
def noteW (fs b : Nat) (w : List Nat) : List Nat := if fs ≤ b then w else b :: w
theorem noteWK_eq (fs b : Nat) (w : List Nat) (k : List Nat → Bool) : noteWK fs b w k = k (noteW fs b w) := by
  unfold noteWK noteW
  rw [bif'_eq]
  by_cases h : fs ≤ b
  · simp [Nat.ble_eq, h]
  · have : Nat.ble fs b = false := by
      cases hb : Nat.ble fs b with
      | false => rfl
      | true => exact absurd (Nat.ble_eq.mp hb) h
    simp [this, h]

/-- What a part has touched, told to the whole. The trie is gone through: each number below 'fs' is noted. -/
def T.keys {α : Type} : T α → (Nat → Nat) → List Nat → List Nat
  | .leaf, _, acc => acc
  | .node l v r, f, acc => T.keys l (fun n => f (2 * n + 1)) (T.keys r (fun n => f (2 * n + 2)) (match v with | some _ => f 0 :: acc | none => acc))

def noteAllK (fs : Nat) : List Nat → T Unit → (T Unit → Bool) → Bool := fun l =>
  List.rec (motive := fun _ => T Unit → (T Unit → Bool) → Bool) (fun t k => k t) (fun b _ ih t k => noteK fs b t fun t => ih t k) l
def noteAll (fs : Nat) : List Nat → T Unit → T Unit
  | [], t => t
  | b :: l, t => noteAll fs l (note fs b t)
theorem noteAllK_eq (fs : Nat) : ∀ (l : List Nat) (t : T Unit) (k : T Unit → Bool), noteAllK fs l t k = k (noteAll fs l t) := by
  intro l
  induction l with
  | nil => intro t k; rfl
  | cons b l ih => intro t k; show noteK fs b t (fun t => noteAllK fs l t k) = _; rw [noteK_eq, ih]; rfl
def noteWAllK (fs : Nat) : List Nat → List Nat → (List Nat → Bool) → Bool := fun l =>
  List.rec (motive := fun _ => List Nat → (List Nat → Bool) → Bool) (fun t k => k t) (fun b _ ih t k => noteWK fs b t fun t => ih t k) l
def noteWAll (fs : Nat) : List Nat → List Nat → List Nat
  | [], t => t
  | b :: l, t => noteWAll fs l (noteW fs b t)
theorem noteWAllK_eq (fs : Nat) : ∀ (l : List Nat) (t : List Nat) (k : List Nat → Bool), noteWAllK fs l t k = k (noteWAll fs l t) := by
  intro l
  induction l with
  | nil => intro t k; rfl
  | cons b l ih => intro t k; show noteWK fs b t (fun t => noteWAllK fs l t k) = _; rw [noteWK_eq, ih]; rfl

/-! The seven ways, each a constant of its own (the kernel then never lays their texts open but for the one that is taken). -/
def rFail (_ : St) (_ : Fin) : Bool := false
def rRet (a : AV) (σ : St) (K : Fin) : Bool := K a σ
def rRd (b : Nat) (_ : ABlk → Tr) (ih : ABlk → St → Fin → Bool) (σ : St) (K : Fin) : Bool :=
  St.rec (motive := fun _ => Bool) (fun h n fs t w => bif' (Nat.ble (Nat.succ b) n) (T.getK h b false fun x => noteK fs b t fun t => ih x (.mk h n fs t w) K) false) σ
def rWr (b : Nat) (x : ABlk) (_ : Tr) (ih : St → Fin → Bool) (σ : St) (K : Fin) : Bool :=
  St.rec (motive := fun _ => Bool) (fun h n fs t w => bif' (Nat.ble (Nat.succ b) n) (T.getK h b false fun _ => T.setK h b x fun h => noteK fs b t fun t => noteWK fs b w fun w => ih (.mk h n fs t w) K) false) σ
def rNew (x : ABlk) (_ : Nat → Tr) (ih : Nat → St → Fin → Bool) (σ : St) (K : Fin) : Bool :=
  St.rec (motive := fun _ => Bool) (fun h n fs t w => bif' (Nat.ble n 1000000000) (T.getK h n (T.setK h n x fun h => fN (Nat.succ n) fun m => ih n (.mk h m fs t w) K) fun _ => false) false) σ
def allBelow (f : Nat → Bool) (n : Nat) : Bool := Nat.rec (motive := fun _ => Bool) true (fun m ih => bif' (f m) ih false) n
def rPick (n : Nat) (_ : Nat → Tr) (ih : Nat → St → Fin → Bool) (σ : St) (K : Fin) : Bool :=
  bif' (Nat.ble n 1) (ih 0 σ K) (St.rec (motive := fun _ => Bool) (fun h m fs t w => bif' (Nat.beq fs 0) (allBelow (fun i => ih i (.mk h m fs t w) K) n) false) σ)
def rSub (_ : Tr) (_ : AV → Nat → Nat → T Unit → List Nat → Tr) (it : St → Fin → Bool) (ik : AV → Nat → Nat → T Unit → List Nat → St → Fin → Bool) (σ : St) (K : Fin) : Bool :=
  St.rec (motive := fun _ => Bool) (fun h n fs t w => it (.mk h n n .leaf []) fun a σ' =>
    St.rec (motive := fun _ => Bool) (fun h' n' _ t' w' => bif' (Nat.beq fs 0) (ik a n n' t' w' (.mk h' n' fs t w) K)
      (noteAllK fs (T.keys t' id []) t fun t2 => noteWAllK fs w' w fun w2 => ik a n n' t' w' (.mk h' n' fs t2 w2) K)) σ') σ
def run (t : Tr) : St → Fin → Bool := Tr.rec (motive := fun _ => St → Fin → Bool) rFail rRet rRd rWr rNew rPick rSub t

/-! ### The run, plainly -/
theorem run_fail (σ : St) (K : Fin) : run .fail σ K = false := rfl
theorem run_ret (a : AV) (σ : St) (K : Fin) : run (.ret a) σ K = K a σ := rfl
theorem run_rd (b : Nat) (k : ABlk → Tr) (h : T ABlk) (n fs : Nat) (t : T Unit) (w : List Nat) (K : Fin) :
    run (.rd b k) (.mk h n fs t w) K = if b < n then (match h.get b with | none => false | some x => run (k x) (.mk h n fs (note fs b t) w) K) else false := by
  show bif' (Nat.ble (Nat.succ b) n) (T.getK h b false (fun x => noteK fs b t fun t => run (k x) (.mk h n fs t w) K)) false = _
  rw [bif'_eq, T.getK_eq]
  by_cases hn : b < n
  · rw [if_pos (Nat.ble_eq.mpr hn), if_pos hn]
    split <;> simp_all [noteK_eq]
  · rw [if_neg (fun h => hn (Nat.ble_eq.mp h)), if_neg hn]
theorem run_wr (b : Nat) (x : ABlk) (k : Tr) (h : T ABlk) (n fs : Nat) (t : T Unit) (w : List Nat) (K : Fin) :
    run (.wr b x k) (.mk h n fs t w) K = if b < n then (match h.get b with | none => false | some _ => run k (.mk (h.set b x) n fs (note fs b t) (noteW fs b w)) K) else false := by
  show bif' (Nat.ble (Nat.succ b) n) (T.getK h b false (fun _ => T.setK h b x fun h => noteK fs b t fun t => noteWK fs b w fun w => run k (.mk h n fs t w) K)) false = _
  rw [bif'_eq, T.getK_eq]
  by_cases hn : b < n
  · rw [if_pos (Nat.ble_eq.mpr hn), if_pos hn]
    split <;> simp_all [noteK_eq, noteWK_eq, T.setK_eq]
  · rw [if_neg (fun h => hn (Nat.ble_eq.mp h)), if_neg hn]
theorem run_new (x : ABlk) (k : Nat → Tr) (h : T ABlk) (n fs : Nat) (t : T Unit) (w : List Nat) (K : Fin) :
    run (.new x k) (.mk h n fs t w) K = if n ≤ 1000000000 then (match h.get n with | some _ => false | none => run (k n) (.mk (h.set n x) (n + 1) fs t w) K) else false := by
  show bif' (Nat.ble n 1000000000) (T.getK h n (T.setK h n x fun h => fN (Nat.succ n) fun m => run (k n) (.mk h m fs t w) K) fun _ => false) false = _
  rw [bif'_eq]
  by_cases hn : n ≤ 1000000000
  · rw [if_pos (Nat.ble_eq.mpr hn), if_pos hn, T.getK_eq]
    split <;> simp_all [T.setK_eq, fN_eq]
  · rw [if_neg (fun h => hn (Nat.ble_eq.mp h)), if_neg hn]
theorem allBelow_iff {f : Nat → Bool} : ∀ {n : Nat}, allBelow f n = true ↔ ∀ i, i < n → f i = true := by
  intro n
  induction n with
  | zero => exact ⟨fun _ i hi => absurd hi (by omega), fun _ => rfl⟩
  | succ n ih =>
    show bif' (f n) (allBelow f n) false = true ↔ _
    constructor
    · intro h i hi
      obtain ⟨h1, h2⟩ := bif'_true h
      rcases Nat.lt_or_ge i n with h' | h'
      · exact ih.mp h2 i h'
      · have : i = n := by omega
        subst this; exact h1
    · intro h
      rw [h n (by omega), bif'_eq, if_pos rfl]
      exact ih.mpr fun i hi => h i (by omega)
theorem run_sub (t : Tr) (k : AV → Nat → Nat → T Unit → List Nat → Tr) (h : T ABlk) (n fs : Nat) (tc : T Unit) (w : List Nat) (K : Fin) :
    run (.sub t k) (.mk h n fs tc w) K = run t (.mk h n n .leaf []) fun a σ' => match σ' with
      | .mk h' n' _ t' w' => if fs = 0 then run (k a n n' t' w') (.mk h' n' fs tc w) K else run (k a n n' t' w') (.mk h' n' fs (noteAll fs (T.keys t' id []) tc) (noteWAll fs w' w)) K := by
  show run t (.mk h n n .leaf []) (fun a σ' => St.rec (motive := fun _ => Bool) (fun h' n' _ t' w' => bif' (Nat.beq fs 0) (run (k a n n' t' w') (.mk h' n' fs tc w) K)
      (noteAllK fs (T.keys t' id []) tc fun t2 => noteWAllK fs w' w fun w2 => run (k a n n' t' w') (.mk h' n' fs t2 w2) K)) σ') = _
  congr 1
  funext a σ'
  cases σ' with
  | mk h' n' f' t' w' =>
    show bif' (Nat.beq fs 0) _ _ = _
    rw [bif'_eq, noteAllK_eq, noteWAllK_eq]
    by_cases hf : fs = 0
    · subst hf; rfl
    · have : Nat.beq fs 0 = false := by
        cases hb : Nat.beq fs 0 with
        | false => rfl
        | true => exact absurd (Nat.eq_of_beq_eq_true hb) hf
      simp [this, hf]
end
end Go.Sim
