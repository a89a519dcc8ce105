/-
  SIM, part A: tries, numbers forced to numerals, abstract values. Nothing here speaks of a program.
  An abstract interpreter for closed runs: what is written here is run by the kernel, so the hot paths are spelt with recursors and in continuation-passing style.
-/
import Derived.CallsIn
import Derived.RangeFuncLeaves
import Derived.OrdersIn
import Derived.Below
import Derived.KernelRfl
namespace Go.Sim
set_option linter.unusedVariables false
noncomputable section

/-! ### Forcing -/
/-- The number, forced to a numeral. -/
def fN {β : Type} (n : Nat) (k : Nat → β) : β := Nat.rec (motive := fun _ => β) (k 0) (fun m _ => k (Nat.succ m)) n
theorem fN_eq {β : Type} (n : Nat) (k : Nat → β) : fN n k = k n := by cases n <;> rfl
def fI {β : Type} (n : Int) (k : Int → β) : β := Int.rec (motive := fun _ => β) (fun a => fN a fun a => k (Int.ofNat a)) (fun a => fN a fun a => k (Int.negSucc a)) n
theorem fI_eq {β : Type} (n : Int) (k : Int → β) : fI n k = k n := by cases n <;> simp [fI, fN_eq]
/-- A Bool's two ways. -/
def bif' {β : Type} (b : Bool) (t e : β) : β := Bool.rec (motive := fun _ => β) e t b
theorem bif'_eq {β : Type} (b : Bool) (t e : β) : bif' b t e = if b then t else e := by cases b <;> rfl
def oel {α β : Type} (o : Option α) (z : β) (k : α → β) : β := Option.rec (motive := fun _ => β) z k o
theorem oel_some {α β : Type} (a : α) (z : β) (k : α → β) : oel (some a) z k = k a := rfl
theorem oel_none {α β : Type} (z : β) (k : α → β) : oel none z k = z := rfl
theorem oel_true {α : Type} {o : Option α} {k : α → Bool} (h : oel o false k = true) : ∃ a, o = some a ∧ k a = true := by
  cases o with
  | none => cases h
  | some a => exact ⟨a, rfl, h⟩
theorem bif'_true {b : Bool} {t : Bool} (h : bif' b t false = true) : b = true ∧ t = true := by cases b <;> first | exact ⟨rfl, h⟩ | cases h
theorem bif'_false {b : Bool} {t : Bool} (h : bif' b false t = true) : b = false ∧ t = true := by cases b <;> first | exact ⟨rfl, h⟩ | cases h

/-! ### Tries -/
inductive T (α : Type) where
  | leaf
  | node (l : T α) (v : Option α) (r : T α)

namespace T
variable {α β : Type}
def get : T α → Nat → Option α
  | .leaf, _ => none
  | .node l v r, n => match n with
    | 0 => v
    | m + 1 => if m % 2 = 0 then get l (m / 2) else get r (m / 2)
def sing : Nat → Nat → α → T α
  | 0, _, _ => .leaf
  | f + 1, n, a => match n with
    | 0 => .node .leaf (some a) .leaf
    | m + 1 => if m % 2 = 0 then .node (sing f (m / 2) a) none .leaf else .node .leaf none (sing f (m / 2) a)
def set : T α → Nat → α → T α
  | .leaf, n, a => sing 64 n a
  | .node l v r, n, a => match n with
    | 0 => .node l (some a) r
    | m + 1 => if m % 2 = 0 then .node (set l (m / 2) a) v r else .node l v (set r (m / 2) a)
def getK (t : T α) (n : Nat) (z : β) (k : α → β) : β :=
  T.rec (motive := fun _ => Nat → β) (fun _ => z) (fun _ v _ gl gr n =>
    Nat.rec (motive := fun _ => β) (Option.rec (motive := fun _ => β) z k v) (fun m _ => Bool.rec (motive := fun _ => β) (gr (Nat.div m 2)) (gl (Nat.div m 2)) (Nat.beq (Nat.mod m 2) 0)) n) t n
def singK (f : Nat) (n : Nat) (a : α) (k : T α → β) : β :=
  Nat.rec (motive := fun _ => Nat → (T α → β) → β) (fun _ k => k .leaf) (fun _ ih n k =>
    Nat.rec (motive := fun _ => β) (k (.node .leaf (some a) .leaf)) (fun m _ => Bool.rec (motive := fun _ => β) (ih (Nat.div m 2) fun t => k (.node .leaf none t)) (ih (Nat.div m 2) fun t => k (.node t none .leaf)) (Nat.beq (Nat.mod m 2) 0)) n) f n k
def setK (t : T α) (n : Nat) (a : α) (k : T α → β) : β :=
  T.rec (motive := fun _ => Nat → (T α → β) → β) (fun n k => singK 64 n a k) (fun l v r sl sr n k =>
    Nat.rec (motive := fun _ => β) (k (.node l (some a) r)) (fun m _ => Bool.rec (motive := fun _ => β) (sr (Nat.div m 2) fun t => k (.node l v t)) (sl (Nat.div m 2) fun t => k (.node t v r)) (Nat.beq (Nat.mod m 2) 0)) n) t n k
theorem getK_eq (t : T α) : ∀ (n : Nat) (z : β) (k : α → β), getK t n z k = match get t n with | none => z | some a => k a := by
  induction t with
  | leaf => intro n z k; simp [getK, get]
  | node l v r ihl ihr =>
    intro n z k
    cases n with
    | zero => cases v <;> rfl
    | succ m =>
      show Bool.rec (motive := fun _ => β) (getK r (m / 2) z k) (getK l (m / 2) z k) (Nat.beq (m % 2) 0) = _
      rw [ihl, ihr]
      by_cases h : m % 2 = 0
      · have : Nat.beq (m % 2) 0 = true := by rw [h]; rfl
        simp [get, h]
      · have : Nat.beq (m % 2) 0 = false := by
          cases hb : Nat.beq (m % 2) 0 with
          | false => rfl
          | true => exact absurd (Nat.eq_of_beq_eq_true hb) h
        rw [this]; simp [get, h]
theorem singK_eq (a : α) : ∀ (f n : Nat) (k : T α → β), singK f n a k = k (sing f n a) := by
  intro f
  induction f with
  | zero => intro n k; rfl
  | succ f ih =>
    intro n k
    cases n with
    | zero => rfl
    | succ m =>
      show Bool.rec (motive := fun _ => β) (singK f (m / 2) a fun t => k (.node .leaf none t)) (singK f (m / 2) a fun t => k (.node t none .leaf)) (Nat.beq (m % 2) 0) = _
      rw [ih, ih]
      by_cases h : m % 2 = 0
      · have : Nat.beq (m % 2) 0 = true := by rw [h]; rfl
        rw [this]; simp [sing, h]
      · have : Nat.beq (m % 2) 0 = false := by
          cases hb : Nat.beq (m % 2) 0 with
          | false => rfl
          | true => exact absurd (Nat.eq_of_beq_eq_true hb) h
        rw [this]; simp [sing, h]
theorem setK_eq (t : T α) (a : α) : ∀ (n : Nat) (k : T α → β), setK t n a k = k (set t n a) := by
  induction t with
  | leaf => intro n k; exact singK_eq a 64 n k
  | node l v r ihl ihr =>
    intro n k
    cases n with
    | zero => rfl
    | succ m =>
      show Bool.rec (motive := fun _ => β) (setK r (m / 2) a fun t => k (.node l v t)) (setK l (m / 2) a fun t => k (.node t v r)) (Nat.beq (m % 2) 0) = _
      rw [ihl, ihr]
      by_cases h : m % 2 = 0
      · have : Nat.beq (m % 2) 0 = true := by rw [h]; rfl
        rw [this]; simp [set, h]
      · have : Nat.beq (m % 2) 0 = false := by
          cases hb : Nat.beq (m % 2) 0 with
          | false => rfl
          | true => exact absurd (Nat.eq_of_beq_eq_true hb) h
        rw [this]; simp [set, h]
theorem getK_true {t : T α} {n : Nat} {k : α → Bool} (h : getK t n false k = true) : ∃ a, get t n = some a ∧ k a = true := by
  rw [getK_eq] at h
  split at h
  · cases h
  · exact ⟨_, by assumption, h⟩
theorem get_sing (a : α) : ∀ (f n m : Nat), n + 1 < 2 ^ f → get (sing f n a) m = if m = n then some a else none := by
  intro f
  induction f with
  | zero => intro n m h; simp at h
  | succ f ih =>
    intro n m h
    cases n with
    | zero =>
      cases m with
      | zero => simp [sing, get]
      | succ m => simp [sing, get]
    | succ n =>
      have hn : n / 2 + 1 < 2 ^ f := by rw [Nat.pow_succ] at h; omega
      cases m with
      | zero => simp only [sing]; split <;> simp [get]
      | succ m =>
        simp only [sing]
        split
        · simp only [get]
          split
          · rw [ih _ _ hn]
            by_cases e : m / 2 = n / 2
            · rw [if_pos e, if_pos (by omega)]
            · rw [if_neg e, if_neg (by omega)]
          · rw [if_neg (by omega)]
        · simp only [get]
          split
          · rw [if_neg (by omega)]
          · rw [ih _ _ hn]
            by_cases e : m / 2 = n / 2
            · rw [if_pos e, if_pos (by omega)]
            · rw [if_neg e, if_neg (by omega)]
/-- What is read behind a store at another place, whatever the numbers: a place far off is dropped, never confused. -/
theorem get_set_ne (a : α) {n m : Nat} (hne : m ≠ n) : ∀ (t : T α), get (set t n a) m = get t m := by
  have hs : ∀ (f n m : Nat), m ≠ n → get (sing f n a) m = none := by
    intro f
    induction f with
    | zero => intro n m _; rfl
    | succ f ih =>
      intro n m h
      cases n with
      | zero => cases m with
        | zero => exact absurd rfl h
        | succ m => simp [sing, get]
      | succ n =>
        cases m with
        | zero => simp only [sing]; split <;> simp [get]
        | succ m =>
          simp only [sing]
          split
          · simp only [get]
            split
            · exact ih _ _ (by omega)
            · rfl
          · simp only [get]
            split
            · rfl
            · exact ih _ _ (by omega)
  intro t
  induction t generalizing n m with
  | leaf => exact hs 64 n m hne
  | node l v r ihl ihr =>
    cases n with
    | zero => cases m with
      | zero => exact absurd rfl hne
      | succ m => simp [set, get]
    | succ n =>
      cases m with
      | zero => simp only [set]; split <;> simp [get]
      | succ m =>
        simp only [set]
        split
        · simp only [get]
          split
          · exact ihl (by omega)
          · rfl
        · simp only [get]
          split
          · rfl
          · exact ihr (by omega)
theorem get_set_same (a : α) : ∀ (t : T α) (n : Nat), n + 1 < 2 ^ 64 → get (set t n a) n = some a := by
  intro t
  induction t with
  | leaf => intro n h; show get (sing 64 n a) n = _; rw [get_sing a 64 n n h]; simp
  | node l v r ihl ihr =>
    intro n h
    cases n with
    | zero => simp [set, get]
    | succ m =>
      simp only [set]
      split <;> simp only [get, *, if_true, if_false]
      · exact ihl _ (by omega)
      · exact ihr _ (by omega)
/-- A place that reads as stored, or as nothing at all. -/
theorem get_set_some {a b : α} : ∀ (t : T α) (n : Nat), get (set t n a) n = some b → b = a := by
  have hs : ∀ (f n : Nat), get (sing f n a) n = some b → b = a := by
    intro f
    induction f with
    | zero => intro n h; simp [sing, get] at h
    | succ f ih =>
      intro n h
      cases n with
      | zero => simp [sing, get] at h; exact h.symm
      | succ n =>
        simp only [sing] at h
        split at h
        · simp only [get, *, if_true] at h; exact ih _ h
        · simp only [get, *, if_false] at h; exact ih _ h
  intro t
  induction t with
  | leaf => intro n h; exact hs 64 n h
  | node l v r ihl ihr =>
    intro n h
    cases n with
    | zero => simp [set, get] at h; exact h.symm
    | succ m =>
      simp only [set] at h
      split at h
      · simp only [get, *, if_true] at h; exact ihl _ h
      · simp only [get, *, if_false] at h; exact ihr _ h
end T

end
end Go.Sim
