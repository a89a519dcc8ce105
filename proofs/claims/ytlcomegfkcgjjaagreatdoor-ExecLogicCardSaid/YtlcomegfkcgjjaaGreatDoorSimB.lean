/-
  SIM, part B: abstract values, blocks and states; what an abstract value says of a value of the model.
-/
import Derived.Test.YtlcomegfkcgjjaaGreatDoorSimA
import Derived.Laws.Cells
namespace Go.Sim
open Go.RowKit (Below)
set_option linter.unusedVariables false
noncomputable section

/-- A value as the interpreter has it. A pointer: block, generation, cell. A slice: block, generation, first cell, length, capacity if it is known, cells an element. 'opq': a value that came in, not looked into; 'anyB', 'anyI': some Bool, some integer; 'osl': a slice that came in; 'opc': a value of one cell. -/
inductive AV where
  | bool (b : Bool)
  | int (k : IntKind) (n : Int)
  | str (s : List Nat)
  | nilp
  | ptr (b g o : Nat)
  | nils
  | slc (b g o len : Nat) (cap : Option Nat) (es : Nat)
  | nilm
  | map (b : Nat)
  | func (fn : Fn) (first captured : List AV)
  | nilf
  | iface (t : Nat) (v : AV)
  | nili
  | agg (l : List AV)
  | tup (l : List AV)
  | opq (n : Nat)
  | anyB
  | anyI (k : IntKind)
  | osl (n : Nat)
  | opc (n : Nat)

/-- Where a block of the interpreter's lies in the world: the block, by how much the cells' numbers are greater, how many cells. -/
structure Home where
  blk : Nat
  shift : Nat
  size : Nat

structure Rho where
  at_ : Nat → Nat → Option Home
  val : Nat → Value

def bytesOf (s : ByteArray) : List Nat := s.data.toList.map UInt8.toNat

def SlOk (ρ : Rho) (b g o len : Nat) (cap : Option Nat) (es : Nat) (a : Addr) (c : Nat) : Prop :=
  len ≤ c ∧ match cap with
  | some k => c = k ∧ ∃ h, ρ.at_ b g = some h ∧ h.shift ≤ o ∧ a = ⟨h.blk, o - h.shift, none⟩
  | none => (len = 0 ∧ c = 0) ∨ ∃ h, ρ.at_ b g = some h ∧ h.shift ≤ o ∧ a = ⟨h.blk, o - h.shift, none⟩ ∧ (o - h.shift) + c * es ≤ h.size

def notYield : Fn → Bool
  | .yield _ => false
  | _ => true

inductive VR (ρ : Rho) : AV → Value → Prop where
  | bool (b : Bool) : VR ρ (.bool b) (.bool b)
  | int (k : IntKind) (n : Int) : VR ρ (.int k n) (.int k n)
  | str (s : ByteArray) : VR ρ (.str (bytesOf s)) (.string s)
  | nilp : VR ρ .nilp (.pointer none)
  | ptr (b g o : Nat) (h : Home) (hh : ρ.at_ b g = some h) (ho : h.shift ≤ o) : VR ρ (.ptr b g o) (.pointer (some ⟨h.blk, o - h.shift, none⟩))
  | nils : VR ρ .nils (.slice none 0 0)
  | slc (b g o len : Nat) (cap : Option Nat) (es : Nat) (a : Addr) (c : Nat) (h : SlOk ρ b g o len cap es a c) : VR ρ (.slc b g o len cap es) (.slice (some a) len c)
  | nilm : VR ρ .nilm (.map none)
  | map (b : Nat) (h : Home) (hh : ρ.at_ b 0 = some h) : VR ρ (.map b) (.map (some h.blk))
  | func (fn : Fn) (l m : List AV) (first captured : Array Value) (h1 : first.size = l.length) (h2 : captured.size = m.length)
      (r1 : ∀ (i : Nat) (a : AV) (v : Value), l[i]? = some a → first[i]? = some v → VR ρ a v) (r2 : ∀ (i : Nat) (a : AV) (v : Value), m[i]? = some a → captured[i]? = some v → VR ρ a v) (hf : notYield fn = true) :
      VR ρ (.func fn l m) (.func fn first captured)
  | yld (b : Nat) (h : Home) (hh : ρ.at_ b 0 = some h) : VR ρ (.func (.yield b) [] []) (.func (.yield h.blk) #[] #[])
  | nilf : VR ρ .nilf .nilFunc
  | iface (t : Nat) (x : AV) (v : Value) (h : VR ρ x v) : VR ρ (.iface t x) (.iface t v)
  | nili : VR ρ .nili .nilIface
  | agg (l : List AV) (cs : Array Value) (h : cs.size = l.length) (r : ∀ (i : Nat) (a : AV) (v : Value), l[i]? = some a → cs[i]? = some v → VR ρ a v) : VR ρ (.agg l) (.agg cs)
  | tup (l : List AV) (cs : Array Value) (h : cs.size = l.length) (r : ∀ (i : Nat) (a : AV) (v : Value), l[i]? = some a → cs[i]? = some v → VR ρ a v) : VR ρ (.tup l) (.tuple cs)
  | opq (n : Nat) : VR ρ (.opq n) (ρ.val n)
  | opc (n : Nat) (h : (ρ.val n).oneCell' = true) : VR ρ (.opc n) (ρ.val n)
  | anyB (b : Bool) : VR ρ .anyB (.bool b)
  | anyI (k : IntKind) (n : Int) : VR ρ (.anyI k) (.int k n)
  | osl (n : Nat) (base : Option Addr) (len cap : Nat) (h : ρ.val n = .slice base len cap) : VR ρ (.osl n) (.slice base len cap)

/-- Two lists, element by element. -/
def LR (ρ : Rho) (l : List AV) (vs : List Value) : Prop := vs.length = l.length ∧ ∀ (i : Nat) (a : AV) (v : Value), l[i]? = some a → vs[i]? = some v → VR ρ a v

theorem LR.nil (ρ : Rho) : LR ρ [] [] := ⟨rfl, by simp⟩
theorem LR.cons {ρ : Rho} {a : AV} {v : Value} {l : List AV} {vs : List Value} (h : VR ρ a v) (h' : LR ρ l vs) : LR ρ (a :: l) (v :: vs) := by
  refine ⟨by simp [h'.1], fun i b u hb hu => ?_⟩
  cases i with
  | zero => simp at hb hu; subst hb; subst hu; exact h
  | succ i => simp at hb hu; exact h'.2 i b u hb hu
theorem LR.cons_inv {ρ : Rho} {a : AV} {l : List AV} {vs : List Value} (h : LR ρ (a :: l) vs) : ∃ v vs', vs = v :: vs' ∧ VR ρ a v ∧ LR ρ l vs' := by
  cases vs with
  | nil => exact absurd h.1 (by simp)
  | cons v vs' =>
    refine ⟨v, vs', rfl, h.2 0 a v rfl rfl, by simpa using h.1, fun i b u hb hu => h.2 (i + 1) b u (by simpa using hb) (by simpa using hu)⟩
theorem LR.nil_inv {ρ : Rho} {vs : List Value} (h : LR ρ [] vs) : vs = [] := by
  cases vs with
  | nil => rfl
  | cons v vs => exact absurd h.1 (by simp)
theorem LR.append {ρ : Rho} {l m : List AV} {vs us : List Value} (h : LR ρ l vs) (h' : LR ρ m us) : LR ρ (l ++ m) (vs ++ us) := by
  refine ⟨by simp [h.1, h'.1], fun i a v ha hv => ?_⟩
  by_cases hi : i < l.length
  · rw [List.getElem?_append_left hi] at ha
    rw [List.getElem?_append_left (by rw [h.1]; exact hi)] at hv
    exact h.2 i a v ha hv
  · rw [List.getElem?_append_right (by omega)] at ha
    rw [List.getElem?_append_right (by rw [h.1]; omega), h.1] at hv
    exact h'.2 _ a v ha hv
theorem LR.get {ρ : Rho} {l : List AV} {vs : List Value} (h : LR ρ l vs) {i : Nat} {a : AV} (ha : l[i]? = some a) : ∃ v, vs[i]? = some v ∧ VR ρ a v := by
  have hi : i < l.length := by
    rcases Nat.lt_or_ge i l.length with h' | h'
    · exact h'
    · rw [List.getElem?_eq_none h'] at ha; cases ha
  have : i < vs.length := by rw [h.1]; exact hi
  exact ⟨vs[i], List.getElem?_eq_getElem this, h.2 i a _ ha (List.getElem?_eq_getElem this)⟩

/-- More is known. -/
structure Rho.le (ρ ρ' : Rho) : Prop where
  at_ : ∀ b g h, ρ.at_ b g = some h → ρ'.at_ b g = some h
  val : ρ'.val = ρ.val
theorem Rho.le.refl (ρ : Rho) : ρ.le ρ := ⟨fun _ _ _ h => h, rfl⟩
theorem Rho.le.trans {a b c : Rho} (h : a.le b) (h' : b.le c) : a.le c := ⟨fun x g y hy => h'.at_ _ _ _ (h.at_ _ _ _ hy), h'.val.trans h.val⟩

theorem SlOk.mono {ρ ρ' : Rho} (hle : ρ.le ρ') {b g o len : Nat} {cap : Option Nat} {es : Nat} {a : Addr} {c : Nat} (h : SlOk ρ b g o len cap es a c) : SlOk ρ' b g o len cap es a c := by
  refine ⟨h.1, ?_⟩
  have h2 := h.2
  cases cap with
  | some k => obtain ⟨e, x, hx, r⟩ := h2; exact ⟨e, x, hle.at_ _ _ _ hx, r⟩
  | none =>
    rcases h2 with h2 | ⟨x, hx, r⟩
    · exact .inl h2
    · exact .inr ⟨x, hle.at_ _ _ _ hx, r⟩

theorem VR.mono {ρ ρ' : Rho} (hle : ρ.le ρ') {a : AV} {v : Value} (h : VR ρ a v) : VR ρ' a v := by
  induction h with
  | bool b => exact .bool b
  | int k n => exact .int k n
  | str s => exact .str s
  | nilp => exact .nilp
  | ptr b g o h hh ho => exact .ptr b g o h (hle.at_ _ _ _ hh) ho
  | nils => exact .nils
  | slc b g o len cap es a c h => exact .slc b g o len cap es a c (h.mono hle)
  | nilm => exact .nilm
  | map b h hh => exact .map b h (hle.at_ _ _ _ hh)
  | func fn l m first captured h1 h2 r1 r2 hf i1 i2 => exact .func fn l m first captured h1 h2 i1 i2 hf
  | yld b h hh => exact .yld b h (hle.at_ _ _ _ hh)
  | nilf => exact .nilf
  | iface t x v h ih => exact .iface t x v ih
  | nili => exact .nili
  | agg l cs h r ih => exact .agg l cs h ih
  | tup l cs h r ih => exact .tup l cs h ih
  | opq n => rw [← hle.val]; exact .opq n
  | opc n h => rw [← hle.val]; exact .opc n (by rw [hle.val]; exact h)
  | anyB b => exact .anyB b
  | anyI k n => exact .anyI k n
  | osl n base len cap h => exact .osl n base len cap (by rw [hle.val]; exact h)
theorem LR.mono {ρ ρ' : Rho} (hle : ρ.le ρ') {l : List AV} {vs : List Value} (h : LR ρ l vs) : LR ρ' l vs := ⟨h.1, fun i a v ha hv => (h.2 i a v ha hv).mono hle⟩

theorem LR.arr {ρ : Rho} {l : List AV} {cs : Array Value} (h : LR ρ l cs.toList) : cs.size = l.length ∧ ∀ (i : Nat) (a : AV) (v : Value), l[i]? = some a → cs[i]? = some v → VR ρ a v :=
  ⟨by simpa using h.1, fun i a v ha hv => h.2 i a v ha (by simpa using hv)⟩
theorem LR.of_arr {ρ : Rho} {l : List AV} {cs : Array Value} (h : cs.size = l.length) (r : ∀ (i : Nat) (a : AV) (v : Value), l[i]? = some a → cs[i]? = some v → VR ρ a v) : LR ρ l cs.toList :=
  ⟨by simpa using h, fun i a v ha hv => r i a v ha (by simpa using hv)⟩

/-- What a literal of the program's is. -/
def cvF : Nat → Value → Option AV
  | 0, _ => none
  | f + 1, v => match v with
    | .bool b => some (.bool b)
    | .int k n => some (.int k n)
    | .string s => some (.str (bytesOf s))
    | .pointer none => some .nilp
    | .slice none 0 0 => some .nils
    | .map none => some .nilm
    | .nilFunc => some .nilf
    | .nilIface => some .nili
    | .agg cs => match cs.toList.mapM (cvF f) with
      | some l => some (.agg l)
      | none => none
    | .tuple cs => match cs.toList.mapM (cvF f) with
      | some l => some (.tup l)
      | none => none
    | _ => none
theorem mapM_LR {ρ : Rho} {f : Value → Option AV} (hf : ∀ v a, f v = some a → VR ρ a v) : ∀ (vs : List Value) (l : List AV), vs.mapM f = some l → LR ρ l vs := by
  intro vs
  induction vs with
  | nil => intro l h; simp at h; subst h; exact LR.nil ρ
  | cons v vs ih =>
    intro l h
    rw [List.mapM_cons] at h
    cases hv : f v with
    | none => simp [hv] at h
    | some a =>
      cases hvs : vs.mapM f with
      | none => simp [hv, hvs] at h
      | some l' =>
        simp [hv, hvs] at h
        subst h
        exact LR.cons (hf v a hv) (ih l' hvs)
theorem cvF_ok (ρ : Rho) : ∀ (f : Nat) (v : Value) (a : AV), cvF f v = some a → VR ρ a v := by
  intro f
  induction f with
  | zero => intro v a h; cases h
  | succ f ih =>
    intro v a h
    unfold cvF at h
    split at h
    · injection h with h; subst h; exact .bool _
    · injection h with h; subst h; exact .int _ _
    · injection h with h; subst h; exact .str _
    · injection h with h; subst h; exact .nilp
    · injection h with h; subst h; exact .nils
    · injection h with h; subst h; exact .nilm
    · injection h with h; subst h; exact .nilf
    · injection h with h; subst h; exact .nili
    · split at h
      · rename_i cs l hl
        injection h with h; subst h
        obtain ⟨h1, h2⟩ := (mapM_LR ih _ _ hl).arr
        exact .agg _ _ h1 h2
      · cases h
    · split at h
      · rename_i cs l hl
        injection h with h; subst h
        obtain ⟨h1, h2⟩ := (mapM_LR ih _ _ hl).arr
        exact .tup _ _ h1 h2
      · cases h
    · cases h

/-! ### Blocks and states -/
inductive Cell where
  | mk (tag : Nat) (v : AV)

def Cell.tag : Cell → Nat | .mk t _ => t

inductive ME where
  | mk (k v : AV) (born : Nat)

/-- Cells: of them those with a tag at most g are what generation g reads; 'fl', 'fh': cells that a string shares (fl > fh: none, but the block may be marked behind its end); 'ro': not ours; 'ty': the block's type. -/
inductive ABlk where
  | cells (c : T Cell) (gen lo hi fl fh : Nat) (ro : Bool) (ty : Nat)
  | mapo (es : List ME) (clock : Nat)
  | siter (s : List Nat) (pos : Nat)
  | miter (m : Option Nat) (since : Nat) (seen : List Nat) (stepped : Nat)
  | dfr (live : Bool)
  | loop (state : LoopState) (jump : Option Code) (fn : Nat) (nt : Nat) (tmps : T AV) (params : List Nat) (assign body : Code) (defers : Nat)

/-- The heap, the next number, from which number on nothing is noted, what was touched, what was written. -/
inductive St where
  | mk (h : T ABlk) (next fs : Nat) (tch : T Unit) (wr : List Nat)

def St.h : St → T ABlk | .mk h _ _ _ _ => h
def St.next : St → Nat | .mk _ n _ _ _ => n

/-- The model's environment of temporaries against the interpreter's. -/
structure ER (ρ : Rho) (nt : Nat) (env : T AV) (tmps : Array Value) : Prop where
  size : tmps.size = nt
  val : ∀ t a, env.get t = some a → ∃ v, tmps[t]? = some v ∧ VR ρ a v

def oneA : AV → Bool
  | .agg _ | .tup _ | .opq _ => false
  | _ => true
theorem oneA_ok {ρ : Rho} {a : AV} {v : Value} (h : VR ρ a v) (ho : oneA a = true) : v.oneCell' = true := by
  cases h <;> first | rfl | assumption | (simp [oneA] at ho)

/-- A block of the interpreter's against the world. -/
def BR (ρ : Rho) (B : Nat) (w : World) (b : Nat) : ABlk → Prop
  | .cells c gen lo hi fl fh ro ty =>
    (∀ o x, c.get o = some x → lo ≤ o ∧ o < hi ∧ x.tag ≤ gen) ∧
    (∀ g, g ≤ gen → ∃ h, ρ.at_ b g = some h ∧ (ro = false → B ≤ h.blk) ∧ (ro = true → b < 1048576 → h.blk = b ∧ h.shift = 0) ∧
      ∃ arr fr, w.heap[h.blk]? = some (.cells arr ty fr) ∧ arr.size = h.size ∧
        (ro = false → fr.1 ≤ fr.2 ∧ ∀ x, (x < h.size ∨ fl ≤ fh) → fr.1 ≤ x → x < fr.2 → fl ≤ x + h.shift ∧ x + h.shift < fh) ∧
        ∀ o tag a, c.get o = some (.mk tag a) → tag ≤ g → h.shift ≤ o ∧ ∃ v, arr[o - h.shift]? = some v ∧ VR ρ a v)
  | .mapo es clock => ∃ h, ρ.at_ b 0 = some h ∧ B ≤ h.blk ∧ ∃ es', w.heap[h.blk]? = some (.map es' clock) ∧ es'.size = es.length ∧
      ∀ (i : Nat) (k v : AV) (n : Nat) (e : MapEntry), es[i]? = some (.mk k v n) → es'[i]? = some e → VR ρ k e.key ∧ VR ρ v e.val ∧ e.born = n
  | .siter s pos => ∃ h, ρ.at_ b 0 = some h ∧ B ≤ h.blk ∧ ∃ s', bytesOf s' = s ∧ w.heap[h.blk]? = some (.stringIter s' pos)
  | .miter m since seen stepped => ∃ h, ρ.at_ b 0 = some h ∧ B ≤ h.blk ∧ ∃ m' seen', w.heap[h.blk]? = some (.mapIter m' since seen' stepped) ∧ seen'.toList = seen ∧
      (match m with | none => m' = none | some x => ∃ hx, ρ.at_ x 0 = some hx ∧ m' = some hx.blk)
  | .dfr live => ∃ h, ρ.at_ b 0 = some h ∧ B ≤ h.blk ∧ w.heap[h.blk]? = some (.deferred (if live then some [] else none))
  | .loop state jump fn nt tmps params assign body defers => ∃ h, ρ.at_ b 0 = some h ∧ B ≤ h.blk ∧ ∃ tmps' hd fn', ER ρ nt tmps tmps' ∧ ρ.at_ defers 0 = some hd ∧
      w.heap[h.blk]? = some (.loop { state, pending := jump, fn := fn', tmps := tmps', params := params.toArray, assign, body, defers := hd.blk })

/-- A generation that the block has. -/
def gOk (g : Nat) : ABlk → Prop
  | .cells _ gen _ _ _ _ _ _ => g ≤ gen
  | _ => True
/-- The whole: what was there is as it was; every block of the interpreter's stands; two of them never share. -/
structure Good (w0 : World) (ρ : Rho) (H : T ABlk) (w : World) : Prop where
  below : Below w0.heap.size w0 w
  blk : ∀ b x, H.get b = some x → BR ρ w0.heap.size w b x
  dom : ∀ b g h, ρ.at_ b g = some h → h.blk < w.heap.size ∧ ∃ x, H.get b = some x
  inj : ∀ b g h b' g' h', ρ.at_ b g = some h → ρ.at_ b' g' = some h' → h.blk = h'.blk → b = b' ∧ h = h'
  gens : ∀ b g h x, ρ.at_ b g = some h → H.get b = some x → gOk g x

end
end Go.Sim
