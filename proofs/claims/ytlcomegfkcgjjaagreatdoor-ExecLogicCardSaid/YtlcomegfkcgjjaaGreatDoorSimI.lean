/-
  SIM, part I: numbers and strings.
-/
import Derived.Test.YtlcomegfkcgjjaaGreatDoorSimH
import Derived.IntWalk
import Derived.Laws.Strings
namespace Go.Sim
set_option linter.unusedVariables false

theorem wrap_u64' (n : Int) : IntKind.wrap .u64 n = n % 18446744073709551616 := by
  unfold IntKind.wrap
  simp only [IntKind.signed, Bool.false_and, Bool.false_eq_true, if_false, IntKind.bits]
  rfl
theorem wrapT {j : IntKind} {n : Int} {f : Int → Tr} {σ : St} {K : Fin} (h : run (wrapA j n f) σ K = true) : run (f (j.wrap n)) σ K = true := by
  unfold wrapA at h
  split at h
  · rename_i a
    rcases bif2 h with ⟨hb, h⟩ | ⟨_, h⟩
    · have hb := bleT hb
      have h := fNT h
      have e : IntKind.wrap .i64 (Int.ofNat a) = Int.ofNat a := IntWalk.i64_in _ (by rw [Int.ofNat_eq_natCast]; omega)
      rw [e]; exact h
    · exact fIT h
  · rename_i a
    have h := fNT h
    have e : IntKind.wrap .u64 (Int.ofNat a) = Int.ofNat (a % 18446744073709551616) := by
      rw [wrap_u64', Int.ofNat_eq_natCast, Int.ofNat_eq_natCast]; omega
    rw [e]; exact h
  · rename_i a
    have h := fNT h
    have e : IntKind.wrap .u32 (Int.ofNat a) = Int.ofNat (a % 4294967296) := by
      rw [IntKind.wrap_u32, Int.ofNat_eq_natCast, Int.ofNat_eq_natCast]; omega
    rw [e]; exact h
  · rename_i a
    have h := fNT h
    have e : IntKind.wrap .u8 (Int.ofNat a) = Int.ofNat (a % 256) := by
      rw [IntKind.wrap_u8, Int.ofNat_eq_natCast, Int.ofNat_eq_natCast]; omega
    rw [e]; exact h
  · rename_i a
    have h := fNT h
    have e : IntKind.wrap .u64 (Int.negSucc a) = Int.ofNat (18446744073709551615 - a % 18446744073709551616) := by
      rw [wrap_u64', Int.negSucc_eq, Int.ofNat_eq_natCast]; omega
    rw [e]; exact h
  · rename_i a
    have h := fNT h
    have e : IntKind.wrap .u32 (Int.negSucc a) = Int.ofNat (4294967295 - a % 4294967296) := by
      rw [IntKind.wrap_u32, Int.negSucc_eq, Int.ofNat_eq_natCast]; omega
    rw [e]; exact h
  · rename_i a
    have h := fNT h
    have e : IntKind.wrap .u8 (Int.negSucc a) = Int.ofNat (255 - a % 256) := by
      rw [IntKind.wrap_u8, Int.negSucc_eq, Int.ofNat_eq_natCast]; omega
    rw [e]; exact h
  · rename_i a
    rcases bif2 h with ⟨hb, h⟩ | ⟨_, h⟩
    · have hb := bleT hb
      have h := fNT h
      have e : IntKind.wrap .i64 (Int.negSucc a) = Int.negSucc a := IntWalk.i64_in _ (by rw [Int.negSucc_eq]; omega)
      rw [e]; exact h
    · exact fIT h
  · exact fIT h

theorem modulus_eq (k : IntKind) : modulus k = 2 ^ k.bits := by cases k <;> rfl
theorem bitsOf_eq (k : IntKind) : bitsOf k = k.bits := by cases k <;> rfl
theorem toU_eq (k : IntKind) (n : Int) : toU (modulus k) n = (BitVec.ofInt k.bits n).toNat := by
  rw [BitVec.toNat_ofInt, modulus_eq]
  cases n with
  | ofNat a =>
    show a % 2 ^ k.bits = ((a : Int) % ((2 ^ k.bits : Nat) : Int)).toNat
    rw [← Int.natCast_emod]; rfl
  | negSucc a =>
    show 2 ^ k.bits - 1 - a % 2 ^ k.bits = _
    have hp : 0 < 2 ^ k.bits := Nat.two_pow_pos _
    rw [Int.negSucc_emod _ (by exact_mod_cast hp), ← Int.natCast_emod]
    have : a % 2 ^ k.bits < 2 ^ k.bits := Nat.mod_lt _ hp
    generalize a % 2 ^ k.bits = r at *
    generalize 2 ^ k.bits = m at *
    omega
theorem intBits_run (P : Program) (w : World) (j : IntKind) (x y : Int) : 
    ((Op.intBits .and j x y).run P w = .ok (.int j (j.wrap (Int.ofNat (Nat.land (toU (modulus j) x) (toU (modulus j) y))))) w) ∧
    ((Op.intBits .or j x y).run P w = .ok (.int j (j.wrap (Int.ofNat (Nat.lor (toU (modulus j) x) (toU (modulus j) y))))) w) ∧
    ((Op.intBits .xor j x y).run P w = .ok (.int j (j.wrap (Int.ofNat (Nat.xor (toU (modulus j) x) (toU (modulus j) y))))) w) ∧
    ((Op.intBits .andNot j x y).run P w = .ok (.int j (j.wrap (Int.ofNat (Nat.land (toU (modulus j) x) (Nat.sub (Nat.sub (modulus j) 1) (toU (modulus j) y)))))) w) := by
  refine ⟨?_, ?_, ?_, ?_⟩
  · simp only [Op.intBits, Sem.run_pure, toU_eq, BitVec.toNat_and]; rfl
  · simp only [Op.intBits, Sem.run_pure, toU_eq, BitVec.toNat_or]; rfl
  · simp only [Op.intBits, Sem.run_pure, toU_eq, BitVec.toNat_xor]; rfl
  · have e : Nat.sub (Nat.sub (modulus j) 1) (toU (modulus j) y) = (~~~ (BitVec.ofInt j.bits y)).toNat := by
      rw [BitVec.toNat_not, toU_eq, modulus_eq]; rfl
    rw [e]
    simp only [Op.intBits, Sem.run_pure, toU_eq, BitVec.toNat_and]; rfl

section
variable {P : Program} {w0 : World} {ρ : Rho} {w : World} {σ : St} {K : Fin} {k : AV → Tr}
theorem boolT {b : Bool} (h : run (boolK b k) σ K = true) : run (k (.bool b)) σ K = true := by
  rcases bif2 h with ⟨e, h⟩ | ⟨e, h⟩ <;> subst e <;> exact h
theorem cmp_ok {op : BinOp} {j : IntKind} {x y : Int} (hS : SI σ) (hG : Good w0 ρ σ.h w) (h : run (cmpA op x y (fun b => boolK b k) .fail) σ K = true) :
    Res P w0 ρ w k K (Op.intCmp op x y) := by
  have key : ∀ b, (Op.intCmp op x y).run P w = .ok (.bool b) w → run (boolK b k) σ K = true → Res P w0 ρ w k K (Op.intCmp op x y) :=
    fun b hb hr => .plain (boolT hr) hS hG (.bool b) hb
  unfold cmpA at h
  split at h
  · rename_i a b
    cases op <;> first
      | exact (nofail h).elim
      | exact key _ (by simp only [Op.intCmp, Sem.run_pure]; congr 2; rw [Bool.eq_iff_iff]; simp [bif'_eq]; omega) h
      | exact key _ (by simp only [Op.intCmp, Sem.run_pure]; congr 2; rw [Bool.eq_iff_iff]; simp) h
      | exact key _ (by simp only [Op.intCmp, Sem.run_pure]; congr 2; rw [Bool.eq_iff_iff]; simp [bif'_eq]) h
  · cases op <;> first
      | exact (nofail h).elim
      | exact key _ (by simp only [Op.intCmp, Sem.run_pure]) h
theorem isZ_false {n : Int} (h : isZ n = false) : n ≠ 0 := by
  intro e; subst e; cases h
def intRes (op : BinOp) (j : IntKind) (x y : Int) : Sem Value := match op with | .add | .sub | .mul => Op.intArith op j x y | .quo | .rem => Op.intDiv op j x y | .and | .or | .xor | .andNot => Op.intBits op j x y | _ => Op.intCmp op x y
theorem intBin_ok {op : BinOp} {j : IntKind} {x y : Int} (hS : SI σ) (hG : Good w0 ρ σ.h w) (hop : op ≠ .shl ∧ op ≠ .shr) (h : run (intBinA op j x y k) σ K = true) :
    Res P w0 ρ w k K (intRes op j x y) := by
  obtain ⟨b1, b2, b3, b4⟩ := intBits_run P w j x y
  cases op
  case add => exact .plain (wrapT h) hS hG (.int _ _) rfl
  case sub => exact .plain (wrapT h) hS hG (.int _ _) rfl
  case mul => exact .plain (wrapT h) hS hG (.int _ _) rfl
  case quo =>
    obtain ⟨h1, h2⟩ := bifF h
    exact .plain (wrapT h2) hS hG (.int _ _) (by show (Op.intDiv .quo j x y).run P w = _; simp only [Op.intDiv, if_neg (isZ_false h1)]; rfl)
  case rem =>
    obtain ⟨h1, h2⟩ := bifF h
    exact .plain (fIT h2) hS hG (.int _ _) (by show (Op.intDiv .rem j x y).run P w = _; simp only [Op.intDiv, if_neg (isZ_false h1)]; rfl)
  case and => exact .plain (wrapT h) hS hG (.int _ _) b1
  case or => exact .plain (wrapT h) hS hG (.int _ _) b2
  case xor => exact .plain (wrapT h) hS hG (.int _ _) b3
  case andNot => exact .plain (wrapT h) hS hG (.int _ _) b4
  case shl => exact absurd rfl hop.1
  case shr => exact absurd rfl hop.2
  case eql => exact cmp_ok (op := .eql) (j := j) hS hG h
  case neq => exact cmp_ok (op := .neq) (j := j) hS hG h
  case lss => exact cmp_ok (op := .lss) (j := j) hS hG h
  case leq => exact cmp_ok (op := .leq) (j := j) hS hG h
  case gtr => exact cmp_ok (op := .gtr) (j := j) hS hG h
  case geq => exact cmp_ok (op := .geq) (j := j) hS hG h
theorem minN_eq (a b : Nat) : minN a b = min a b := by
  unfold minN
  rw [bif'_eq]
  by_cases h : a ≤ b
  · rw [if_pos (Nat.ble_eq.mpr h)]; omega
  · rw [if_neg (fun e => h (bleT e))]; omega
theorem shift_ok {op : BinOp} {j jj : IntKind} {x y : Int} (hS : SI σ) (hG : Good w0 ρ σ.h w) (h : run (shiftA op j x y k) σ K = true) :
    Res P w0 ρ w k K (Op.shift op j x jj y) := by
  obtain ⟨n, rfl, h⟩ := natT h
  have e : min ((n : Int).toNat) j.bits = minN n (bitsOf j) := by rw [minN_eq, bitsOf_eq]; rfl
  cases op
  case shl =>
    refine .plain (wrapT h) hS hG (.int _ _) ?_
    simp only [Op.shift, if_neg (show ¬ (n : Int) < 0 by omega), e, Sem.run_pure]
    congr 2
  case shr =>
    have e2 : (Op.shift .shr j x jj (n : Int)).run P w = .ok (.int j (x.fdiv (((2 ^ minN n (bitsOf j) : Nat) : Int)))) w := by
      simp only [Op.shift, if_neg (show ¬ (n : Int) < 0 by omega), e, Sem.run_pure]
      rw [Int.natCast_pow]
      rfl
    cases x with
    | ofNat a => 
      have h : run (fN (Nat.div a (Nat.pow 2 (minN n (bitsOf j)))) fun n => k (.int j (.ofNat n))) σ K = true := h
      refine .plain (fNT h) hS hG (.int _ _) ?_
      rw [e2]
      congr 2
      show (Int.ofNat a).fdiv (Int.ofNat (2 ^ minN n (bitsOf j))) = Int.ofNat (a / 2 ^ minN n (bitsOf j))
      cases a with
      | zero => rw [Nat.zero_div]; rfl
      | succ a => rfl
    | negSucc a =>
      have h : run (fI ((Int.negSucc a).fdiv (.ofNat (Nat.pow 2 (minN n (bitsOf j))))) fun n => k (.int j n)) σ K = true := h
      exact .plain (fIT h) hS hG (.int _ _) e2
  all_goals exact (nofail h).elim

/-! ### Strings -/
theorem eqL_iff : ∀ (x y : List Nat), eqL x y = true ↔ x = y := by
  intro x
  induction x with
  | nil => intro y; cases y <;> simp [eqL]
  | cons a x ih =>
    intro y
    cases y with
    | nil => simp [eqL]
    | cons b y => simp only [eqL, bif'_eq]; by_cases e : a = b <;> simp [e, ih]
theorem bytesOf_inj {s t : ByteArray} (h : bytesOf s = bytesOf t) : s = t := by
  have : s.data.toList = t.data.toList := List.map_inj_right (fun a b e => UInt8.toNat_inj.mp e) |>.mp h
  cases s; cases t; simp at this; simp [this]
theorem eqL_bytes (s t : ByteArray) : eqL (bytesOf s) (bytesOf t) = (s.toList == t.toList) := by
  rw [Bool.eq_iff_iff, eqL_iff]
  constructor
  · intro h; rw [bytesOf_inj h]; simp
  · intro h
    have h : s.toList = t.toList := by simpa using h
    rw [ByteArray.toList_eq, ByteArray.toList_eq] at h
    unfold bytesOf; rw [h]
theorem forceT {l : List Nat} {k : List Nat → Tr} (h : run (forceL l k) σ K = true) : run (k l) σ K = true := by
  induction l generalizing k with
  | nil => exact h
  | cons a l ih =>
    have h : run (fN a fun a => forceL l fun l => k (a :: l)) σ K = true := h
    exact ih (fNT h)
theorem forceAT {l : List AV} {k : List AV → Tr} (h : run (forceA l k) σ K = true) : run (k l) σ K = true := by
  induction l generalizing k with
  | nil => exact h
  | cons a l ih => exact ih h
end
end Go.Sim
