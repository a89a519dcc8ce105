/-
  SIM, part E: the operations, as the interpreter does them. (Definitions alone.)
-/
import Derived.Test.YtlcomegfkcgjjaaGreatDoorSimC
namespace Go.Sim
set_option linter.unusedVariables false
noncomputable section

/-! ### Looking into values -/
def asBoolK (v : AV) (k : Bool → Tr) : Tr := match v with | .bool b => k b | _ => .fail
/-- Two ways, by a Bool; both where it isn't known. -/
def condK (v : AV) (t e : Tr) : Tr := match v with
  | .bool b => bif' b t e
  | .anyB => .pick 2 fun i => Nat.rec (motive := fun _ => Tr) t (fun _ _ => e) i
  | _ => .fail
def asIntK (v : AV) (k : IntKind → Int → Tr) : Tr := match v with | .int j n => k j n | _ => .fail
def asStrK (v : AV) (k : List Nat → Tr) : Tr := match v with | .str s => k s | _ => .fail
def asAggK (v : AV) (k : List AV → Tr) : Tr := match v with | .agg l => k l | _ => .fail
/-- A value's cells. -/
def cellsO (v : AV) : Option (List AV) := match v with | .agg l => some l | .opq _ => none | v => some [v]
def cellsK (v : AV) (k : List AV → Tr) : Tr := match v with | .agg l => k l | .opq _ => .fail | v => k [v]
def natK (n : Int) (k : Nat → Tr) : Tr := match n with | .ofNat a => k a | .negSucc _ => .fail

/-- An operand's value. -/
def evK (env : T AV) (x : Operand) (k : AV → Tr) : Tr := match x with
  | .tmp t => T.getK env t .fail k
  | .const v => oel (cvF 8 v) .fail k
  | .global g => bif' (Nat.ble (Nat.succ g) 1048576) (.rd g fun x => match x with | .cells _ _ _ _ _ _ ro _ => bif' ro (k (.ptr g 0 0)) .fail | _ => .fail) .fail
  | .func f => k (.func (.func f) [] [])
def evsK (env : T AV) (l : List Operand) (k : List AV → Tr) : Tr :=
  List.rec (motive := fun _ => (List AV → Tr) → Tr) (fun k => k []) (fun x _ ih k => evK env x fun a => ih fun l => k (a :: l)) l k
def evoK (env : T AV) (o : Option Operand) (k : Option AV → Tr) : Tr := match o with | none => k none | some x => evK env x fun a => k (some a)

/-! ### Numbers -/
def wrapA (k : IntKind) (n : Int) (f : Int → Tr) : Tr := match k, n with
  | .i64, .ofNat a => bif' (Nat.ble a 9223372036854775807) (fN a fun a => f (.ofNat a)) (fI (IntKind.wrap .i64 n) f)
  | .u64, .ofNat a => fN (Nat.mod a 18446744073709551616) fun a => f (.ofNat a)
  | .u32, .ofNat a => fN (Nat.mod a 4294967296) fun a => f (.ofNat a)
  | .u8, .ofNat a => fN (Nat.mod a 256) fun a => f (.ofNat a)
  | .u64, .negSucc a => fN (Nat.sub 18446744073709551615 (Nat.mod a 18446744073709551616)) fun a => f (.ofNat a)
  | .u32, .negSucc a => fN (Nat.sub 4294967295 (Nat.mod a 4294967296)) fun a => f (.ofNat a)
  | .u8, .negSucc a => fN (Nat.sub 255 (Nat.mod a 256)) fun a => f (.ofNat a)
  | .i64, .negSucc a => bif' (Nat.ble a 9223372036854775807) (fN a fun a => f (.negSucc a)) (fI (IntKind.wrap .i64 n) f)
  | _, _ => fI (k.wrap n) f
def modulus (k : IntKind) : Nat := match k with
  | .i8 | .u8 => 256
  | .i16 | .u16 => 65536
  | .i32 | .u32 => 4294967296
  | .i64 | .u64 => 18446744073709551616
/-- The bits, as a number. -/
def toU (m : Nat) (n : Int) : Nat := match n with
  | .ofNat a => Nat.mod a m
  | .negSucc a => Nat.sub (Nat.sub m 1) (Nat.mod a m)
def bitsOf (k : IntKind) : Nat := match k with | .i8 | .u8 => 8 | .i16 | .u16 => 16 | .i32 | .u32 => 32 | .i64 | .u64 => 64
def cmpA (op : BinOp) (x y : Int) (k : Bool → Tr) (z : Tr) : Tr := match x, y with
  | .ofNat a, .ofNat b => (match op with
    | .eql => k (Nat.beq a b) | .neq => k (bif' (Nat.beq a b) false true) | .lss => k (Nat.ble (Nat.succ a) b) | .leq => k (Nat.ble a b) | .gtr => k (Nat.ble (Nat.succ b) a) | .geq => k (Nat.ble b a) | _ => z)
  | _, _ => (match op with
    | .eql => k (x == y) | .neq => k (x != y) | .lss => k (x < y) | .leq => k (x ≤ y) | .gtr => k (x > y) | .geq => k (x ≥ y) | _ => z)
/-- A Bool, forced. -/
def boolK (b : Bool) (k : AV → Tr) : Tr := bif' b (k (.bool true)) (k (.bool false))
def isZ (n : Int) : Bool := match n with | .ofNat 0 => true | _ => false
def intBinA (op : BinOp) (j : IntKind) (x y : Int) (k : AV → Tr) : Tr := match op with
  | .add => wrapA j (Int.add x y) fun n => k (.int j n)
  | .sub => wrapA j (Int.sub x y) fun n => k (.int j n)
  | .mul => wrapA j (Int.mul x y) fun n => k (.int j n)
  | .quo => bif' (isZ y) .fail (wrapA j (x.tdiv y) fun n => k (.int j n))
  | .rem => bif' (isZ y) .fail (fI (x.tmod y) fun n => k (.int j n))
  | .and => wrapA j (.ofNat (Nat.land (toU (modulus j) x) (toU (modulus j) y))) fun n => k (.int j n)
  | .or => wrapA j (.ofNat (Nat.lor (toU (modulus j) x) (toU (modulus j) y))) fun n => k (.int j n)
  | .xor => wrapA j (.ofNat (Nat.xor (toU (modulus j) x) (toU (modulus j) y))) fun n => k (.int j n)
  | .andNot => wrapA j (.ofNat (Nat.land (toU (modulus j) x) (Nat.sub (Nat.sub (modulus j) 1) (toU (modulus j) y)))) fun n => k (.int j n)
  | op => cmpA op x y (fun b => boolK b k) .fail
def minN (a b : Nat) : Nat := bif' (Nat.ble a b) a b
def shiftA (op : BinOp) (j : IntKind) (x : Int) (y : Int) (k : AV → Tr) : Tr := natK y fun n => match op with
  | .shl => wrapA j (Int.mul x (.ofNat (Nat.pow 2 (minN n (bitsOf j))))) fun n => k (.int j n)
  | .shr => (match x with
    | .ofNat a => fN (Nat.div a (Nat.pow 2 (minN n (bitsOf j)))) fun n => k (.int j (.ofNat n))
    | .negSucc _ => fI (x.fdiv (.ofNat (Nat.pow 2 (minN n (bitsOf j))))) fun n => k (.int j n))
  | _ => .fail

/-! ### Strings -/
def eqL : List Nat → List Nat → Bool
  | [], [] => true
  | a :: x, b :: y => bif' (Nat.beq a b) (eqL x y) false
  | _, _ => false
def ltL : List Nat → List Nat → Bool
  | _, [] => false
  | [], _ :: _ => true
  | a :: x, b :: y => bif' (Nat.ble (Nat.succ a) b) true (bif' (Nat.beq a b) (ltL x y) false)
/-- A list of numbers, laid out. -/
def forceL (l : List Nat) (k : List Nat → Tr) : Tr := List.rec (motive := fun _ => (List Nat → Tr) → Tr) (fun k => k []) (fun a _ ih k => fN a fun a => ih fun l => k (a :: l)) l k
def strBinA (op : BinOp) (x y : List Nat) (k : AV → Tr) : Tr := match op with
  | .add => forceL (x ++ y) fun l => bif' (Nat.ble (List.length l) 1000000000) (k (.str l)) .fail
  | .eql => boolK (eqL x y) k
  | .neq => boolK (bif' (eqL x y) false true) k
  | .lss => boolK (ltL x y) k
  | .leq => boolK (bif' (ltL x y) true (eqL x y)) k
  | .gtr => boolK (bif' (bif' (ltL x y) true (eqL x y)) false true) k
  | .geq => boolK (bif' (ltL x y) false true) k
  | _ => .fail

variable (P : Program)
/-! ### Types -/
def undK (t : TypeId) (k : TypeDesc → Tr) : Tr := oel (P.underlying t) .fail k
def infoK (t : TypeId) (k : TypeInfo → Tr) : Tr := oel (P.info? t) .fail k
def sizeK (t : TypeId) (k : Nat → Tr) : Tr := oel (P.info? t) .fail fun i => fN i.size k
def isAggD (d : TypeDesc) : Bool := match d with | .struct _ | .array _ _ => true | _ => false
def zeroK (t : TypeId) (k : AV → Tr) : Tr := oel (P.info? t) .fail fun i => oel i.zero .fail fun v => oel (cvF 8 v) .fail k

/-! ### Equality -/
/-- Where the two are plain all through; none: not known here. -/
def eqA : Nat → TypeDesc → AV → AV → Option Bool
  | 0, _, _, _ => none
  | f + 1, d, x, y => match d, x, y with
    | .bool, .bool a, .bool b => some (a == b)
    | .int _, .int j a, .int j' b => if j = j' then some (a == b) else none
    | .string, .str a, .str b => some (eqL a b)
    | .pointer _, .nilp, .nilp => some true
    | .pointer _, .nilp, .ptr _ _ _ => some false
    | .pointer _, .ptr _ _ _, .nilp => some false
    | .pointer e, .ptr b g o, .ptr b' g' o' => if b = b' ∧ g = g' then (match P.info? e with | some i => if i.size = 0 then none else some (o == o') | none => none) else none
    | .interface _, .nili, .nili => some true
    | .interface _, .nili, .iface _ _ => some false
    | .interface _, .iface _ _, .nili => some false
    | .interface _, .iface t a, .iface u b => if t = u then (match P.info? t, P.underlying t with
      | some i, some d' => if i.comparable && !isAggD d' then eqA f d' a b else none
      | _, _ => none) else some false
    | .slice _, .nils, .nils => some true
    | .slice _, .nils, .slc .. => some false
    | .slice _, .slc .., .nils => some false
    | .map _ _, .nilm, .nilm => some true
    | .map _ _, .nilm, .map _ => some false
    | .map _ _, .map _, .nilm => some false
    | .func _ _ _, .nilf, .nilf => some true
    | .func _ _ _, .nilf, .func _ _ _ => some false
    | .func _ _ _, .func _ _ _, .nilf => some false
    | .array len e, .agg xs, .agg ys => match P.info? e, P.underlying e with
      | some i, some d' => if i.size = 1 && !isAggD d' && xs.length == len && ys.length == len then eqArr (eqA f d') xs ys else none
      | _, _ => none
    | .struct fs, .agg xs, .agg ys => eqFs (eqA f) fs.toList xs ys
    | _, _, _ => none
where
  eqArr (q : AV → AV → Option Bool) : List AV → List AV → Option Bool
    | [], [] => some true
    | a :: xs, b :: ys => match q a b with
      | some true => eqArr q xs ys
      | r => r
    | _, _ => none
  eqFs (q : TypeDesc → AV → AV → Option Bool) : List Field → List AV → List AV → Option Bool
    | [], _, _ => some true
    | fd :: fs, xs, ys => if fd.name = "_" then eqFs q fs xs ys else
      match P.info? fd.type, P.underlying fd.type with
      | some i, some d' =>
        (match (if isAggD d' then some (AV.agg ((xs.drop fd.offset).take i.size)) else xs[fd.offset]?), (if isAggD d' then some (AV.agg ((ys.drop fd.offset).take i.size)) else ys[fd.offset]?) with
        | some a, some b => (match q d' a b with
          | some true => eqFs q fs xs ys
          | r => r)
        | _, _ => none)
      | _, _ => none
/-- No guard speaks of an interface, and no struct is one that the model stands in for. -/
def calmD : Nat → TypeId → Bool
  | 0, _ => false
  | f + 1, t => match P.underlying t with
    | some (.interface _) => false
    | some (.struct fs) => !P.stoodInHeld t && fs.toList.all fun fd => calmD f fd.type
    | some (.array _ e) => calmD f e
    | some _ => true
    | none => false
/-- 'lit': one of the two stands there as a literal. -/
def plainEq (lit : Bool) (x y : AV) : Bool := match x, y with
  | .nili, .nili => lit
  | .opq _, _ => false
  | _, .opq _ => false
  | .anyB, _ => false
  | _, .anyB => false
  | .anyI _, _ => false
  | _, .anyI _ => false
  | .osl _, _ => false
  | _, .osl _ => false
  | .opc _, _ => false
  | _, .opc _ => false
  | _, _ => true
def relOp (op : BinOp) : Bool := match op with | .lss | .leq | .gtr | .geq => true | _ => false
def isLit (x : Operand) : Bool := match x with | .const _ => true | _ => false
def binOpA (lit : Bool) (op : BinOp) (t : TypeId) (x y : AV) (k : AV → Tr) : Tr := match op, x, y with
  | .shl, .int j a, .int _ b | .shr, .int j a, .int _ b => shiftA op j a b k
  | _, .int j a, .int j' b => bif' (decide (j = j')) (intBinA op j a b k) .fail
  | _, .str a, .str b => strBinA op a b k
  | .eql, .agg a, .agg b => bif' (bif' (P.eqGuardType P.depth t) false (calmD P 16 t)) (undK P t fun d => oel (eqA P 16 d (.agg a) (.agg b)) .fail fun r => boolK r k) .fail
  | .neq, .agg a, .agg b => bif' (bif' (P.eqGuardType P.depth t) false (calmD P 16 t)) (undK P t fun d => oel (eqA P 16 d (.agg a) (.agg b)) .fail fun r => boolK (bif' r false true) k) .fail
  | .eql, x, y => bif' (plainEq lit x y) (undK P t fun d => oel (eqA P 16 d x y) .fail fun r => boolK r k) .fail
  | .neq, x, y => bif' (plainEq lit x y) (undK P t fun d => oel (eqA P 16 d x y) .fail fun r => boolK (bif' r false true) k) .fail
  | .and, .anyI .i64, .int .i64 n => bif' (decide (n = 3)) (.pick 4 fun i => k (.int .i64 (.ofNat i))) .fail
  | op, .anyI j, .int j' _ => bif' (decide (j = j')) (bif' (relOp op) (k .anyB) .fail) .fail
  | _, _, _ => .fail
def unOpA (op : UnOp) (x : AV) (k : AV → Tr) : Tr := match op, x with
  | .neg, .int j n => wrapA j (Int.sub 0 n) fun n => k (.int j n)
  | .xor, .int j n => wrapA j (.ofNat (Nat.xor (toU (modulus j) (if j.signed then -1 else j.max)) (toU (modulus j) n))) fun n => k (.int j n)
  | .not, .bool b => boolK (bif' b false true) k
  | _, _ => .fail

/-! ### Memory -/
def rowT (l : List AV) (i : Nat) (t : T Cell) (k : T Cell → Tr) : Tr :=
  List.rec (motive := fun _ => Nat → T Cell → (T Cell → Tr) → Tr) (fun _ t k => k t) (fun a _ ih i t k => T.setK t i (.mk 0 a) fun t => fN (Nat.succ i) fun i => ih i t k) l i t k
/-- A new row of cells. -/
def newRowM (fl ty : Nat) (l : List AV) (k : Nat → Tr) : Tr := rowT l 0 .leaf fun t => fN (List.length l) fun n => .new (.cells t 0 0 n fl 0 false ty) k
def newRowK (ty : Nat) (l : List AV) (k : Nat → Tr) : Tr := newRowM 0 ty l k
def newVarK (ty : Nat) (v : AV) (k : AV → Tr) : Tr := cellsK v fun l => newRowK ty l fun b => k (.ptr b 0 0)

def ldsK (c : T Cell) (g : Nat) (n : Nat) (o : Nat) (k : List AV → Tr) : Tr :=
  Nat.rec (motive := fun _ => Nat → (List AV → Tr) → Tr) (fun _ k => k []) (fun _ ih o k => T.getK c o .fail fun x => match x with
    | .mk tag v => bif' (Nat.ble tag g) (fN (Nat.succ o) fun o => ih o fun l => k (v :: l)) .fail) n o k
def loadRowK (b g o n : Nat) (k : List AV → Tr) : Tr := .rd b fun x => match x with | .cells c gen _ _ _ _ _ _ => bif' (Nat.ble g gen) (ldsK c g n o k) .fail | _ => .fail
def loadOneK (b g o : Nat) (k : AV → Tr) : Tr := .rd b fun x => match x with
  | .cells c gen _ _ _ _ _ _ => bif' (Nat.ble g gen) (T.getK c o .fail fun x => (match x with | .mk tag v => bif' (Nat.ble tag g) (k v) .fail)) .fail
  | _ => .fail
def loadK (t : TypeId) (x : AV) (k : AV → Tr) : Tr := match x with
  | .ptr b g o => undK P t fun d => bif' (isAggD d) (sizeK P t fun n => loadRowK b g o n fun l => k (.agg l)) (loadOneK b g o k)
  | _ => .fail
/-- The cells from o on, stored: each is there, none is shared by a string. -/
def stsK (g fl fh : Nat) (l : List AV) (o : Nat) (c : T Cell) (k : T Cell → Tr) : Tr :=
  List.rec (motive := fun _ => Nat → T Cell → (T Cell → Tr) → Tr) (fun _ c k => k c) (fun v _ ih o c k =>
    bif' (oneA v) (bif' (bif' (Nat.ble fl o) (Nat.ble (Nat.succ o) fh) false) .fail (T.getK c o .fail fun x => match x with | .mk tag _ => bif' (Nat.ble tag g) (T.setK c o (.mk g v) fun c => fN (Nat.succ o) fun o => ih o c k) .fail)) .fail) l o c k
def storeRowK (b g o : Nat) (l : List AV) (k : Tr) : Tr := .rd b fun x => match x with
  | .cells c gen lo hi fl fh ro ty => bif' ro .fail (bif' (Nat.beq g gen) (stsK g fl fh l o c fun c => .wr b (.cells c gen lo hi fl fh false ty) k) .fail)
  | _ => .fail
def storeK (t : TypeId) (x v : AV) (k : Tr) : Tr := match x with
  | .ptr b g o => sizeK P t fun n => cellsK v fun l => bif' (Nat.beq (List.length l) n) (storeRowK b g o l k) .fail
  | _ => .fail

/-! ### Literals -/
def putL (l : List AV) (i : Nat) (v : AV) : List AV := l.set i v
def fillOne (cells : List AV) (off : Nat) (cs : List AV) : List AV := cells.take off ++ cs ++ cells.drop (off + cs.length)
def forceA (l : List AV) (k : List AV → Tr) : Tr := List.rec (motive := fun _ => (List AV → Tr) → Tr) (fun k => k []) (fun a _ ih k => ih fun l => k (a :: l)) l k
def fillA (place : Nat → Option (Nat × Nat)) (cells : List AV) (parts : List (Nat × AV)) (k : List AV → Tr) : Tr :=
  List.rec (motive := fun _ => List AV → (List AV → Tr) → Tr) (fun cells k => k cells) (fun p _ ih cells k =>
    oel (place p.1) .fail fun q => cellsK p.2 fun cs => bif' (Nat.beq cs.length q.2) (bif' (Nat.ble (q.1 + q.2) cells.length) (forceA (fillOne cells q.1 cs) fun cells => ih cells k) .fail) .fail) parts cells k
def evPartsK (env : T AV) (l : List (Nat × Operand)) (k : List (Nat × AV) → Tr) : Tr :=
  List.rec (motive := fun _ => (List (Nat × AV) → Tr) → Tr) (fun k => k []) (fun x _ ih k => evK env x.2 fun a => ih fun l => k ((x.1, a) :: l)) l k
def places (fs : Array Field) (i : Nat) : Option (Nat × Nat) := match fs[i]? with
  | some f => (match P.info? f.type with | some i => some (f.offset, i.size) | none => none)
  | none => none
def sizesOk (fs : Array Field) : Bool := fs.toList.all fun f => (P.info? f.type).isSome
def buildA (t : TypeId) (parts : List (Nat × AV)) (k : AV → Tr) : Tr := zeroK P t fun z => undK P t fun d => match d with
  | .struct fs => bif' (sizesOk P fs) (cellsK z fun z => fillA (places P fs) z parts fun l => k (.agg l)) .fail
  | .array _ e => sizeK P e fun n => cellsK z fun z => fillA (fun i => some (i * n, n)) z parts fun l => k (.agg l)
  | _ => .fail
def repeatL (z : List AV) : Nat → List AV
  | 0 => []
  | n + 1 => z ++ repeatL z n
def buildSliceA (t : TypeId) (len : Nat) (parts : List (Nat × AV)) (k : AV → Tr) : Tr := undK P t fun d => match d with
  | .slice e => sizeK P e fun n => bif' (Nat.ble (len * n) 1000000) (bif' (Nat.ble 1 n) (zeroK P e fun z => cellsK z fun z => bif' (Nat.beq z.length n)
      (fillA (fun i => some (i * n, n)) (repeatL z len) parts fun l => newRowK e l fun b => k (.slc b 0 0 len (some len) n)) .fail) .fail) .fail
  | _ => .fail

/-! ### Conversions, interfaces, functions, parts -/
def byteCells (l : List Nat) : List AV := l.map fun b => .int .u8 (.ofNat b)
def u8L : List AV → Option (List Nat)
  | [] => some []
  | .int .u8 (.ofNat n) :: r => if n < 256 then (match u8L r with | some l => some (n :: l) | none => none) else none
  | _ => none
/-- Variables of type u lie there, n of them, as far as the block's known cells tell. -/
def liesK (b g o : Nat) (u : TypeId) (n : Nat) (k : Tr) : Tr := .rd b fun q => match q with
  | .cells c gen lo hi _ _ _ ty => bif' (Nat.ble g gen) (bif' (Nat.beq lo 0) (T.getK c 0 .fail fun x => match x with
    | .mk t0 _ => bif' (Nat.ble t0 g) (fN (Nat.sub hi 1) fun h1 => T.getK c h1 .fail fun x => match x with
      | .mk t1 _ => bif' (Nat.ble t1 g) (bif' (liesAt P P.depth ty (hi / P.cellsOf ty) o u n) k .fail) .fail) .fail) .fail) .fail
  | _ => .fail
def convA (src dst : TypeId) (x : AV) (k : AV → Tr) : Tr := undK P src fun s => undK P dst fun d => match s, d, x with
  | _, .int j, .int _ n => wrapA j n fun n => k (.int j n)
  | _, .string, .str s => k (.str s)
  | .string, .slice e, .str s => undK P e fun de => (match de with
    | .int .u8 => fN (List.length s) fun n => bif' (Nat.ble n 1000000) (newRowM 1 e (byteCells s) fun b => k (.slc b 0 0 n none 1)) .fail
    | _ => .fail)
  | .slice _, .slice e, .slc b g o len cap es => bif' (Nat.beq src dst) (undK P e fun de => (match de with
    | .int .u8 => bif' (Nat.ble 1 len) (.rd b fun q => (match q with
      | .cells c gen lo hi fl fh ro ty => bif' ro .fail (bif' (Nat.beq fh 0) (bif' (Nat.ble g gen) (.wr b (.cells c gen lo hi 1 0 false ty) (k (.slc b g o len cap es))) .fail) .fail)
      | _ => .fail)) .fail
    | _ => .fail)) .fail
  | .pointer _, .unsafePointer, .nilp => k .nilp
  | .pointer t0, .unsafePointer, .ptr b g o => sizeK P t0 fun n => bif' (Nat.beq n 0) .fail (.rd b fun q => (match q with
    | .cells c gen _ _ _ _ _ _ => bif' (Nat.ble g gen) (T.getK c o .fail fun x => (match x with | .mk tag _ => bif' (Nat.ble tag g) (k (.ptr b g o)) .fail)) .fail
    | _ => .fail))
  | .unsafePointer, .pointer _, .nilp => k .nilp
  | .unsafePointer, .pointer u, .ptr b g o => sizeK P u fun _ => liesK P b g o u 1 (k (.ptr b g o))
  | .slice e, .string, x => undK P e fun de => (match de, x with
    | .int .u8, .nils => k (.str [])
    | .int .u8, .slc b g o len _ es => bif' (Nat.beq len 0) (k (.str [])) (loadRowK b g o len fun l => oel (u8L l) .fail fun l => k (.str l))
    | _, _ => .fail)
  | _, _, _ => .fail
def mkIfaceA (t : TypeId) (x : AV) (k : AV → Tr) : Tr := undK P t fun d => match d with | .interface _ => .fail | _ => k (.iface t x)
def partA (t : TypeId) (cs : List AV) (off : Nat) (k : AV → Tr) : Tr := undK P t fun d =>
  bif' (isAggD d) (sizeK P t fun n => forceA ((cs.drop off).take n) fun l => k (.agg l)) (oel cs[off]? .fail k)
def fieldA (t : TypeId) (x : AV) (i : Nat) (k : AV → Tr) : Tr := undK P t fun d => match d with
  | .struct fs => oel fs[i]? .fail fun f => asAggK x fun cs => partA P f.type cs f.offset k
  | _ => .fail
def fieldAddrA (t : TypeId) (x : AV) (i : Nat) (k : AV → Tr) : Tr := undK P t fun d => match d, x with
  | .struct fs, .ptr b g o => oel fs[i]? .fail fun f => sizeK P f.type fun n => bif' (Nat.beq n 0) .fail (fN (o + f.offset) fun o => k (.ptr b g o))
  | _, _ => .fail
def indexAddrA (t : TypeId) (x ix : AV) (k : AV → Tr) : Tr := asIntK ix fun _ i => natK i fun i => undK P t fun d => match d, x with
  | .array len e, .ptr b g o => bif' (Nat.ble (Nat.succ i) len) (sizeK P e fun n => fN (o + i * n) fun o => k (.ptr b g o)) .fail
  | .slice e, .slc b g o len _ _ => bif' (Nat.ble (Nat.succ i) len) (sizeK P e fun n => fN (o + i * n) fun o => k (.ptr b g o)) .fail
  | _, _ => .fail
def indexA (t : TypeId) (x ix : AV) (k : AV → Tr) : Tr := asIntK ix fun _ i => natK i fun i => undK P t fun d => match d, x with
  | .array len e, .agg cs => bif' (Nat.ble (Nat.succ i) len) (sizeK P e fun n => partA P e cs (i * n) k) .fail
  | .string, .str s => oel s[i]? .fail fun b => fN b fun b => k (.int .u8 (.ofNat b))
  | _, _ => .fail
def boundK (o : Option AV) (dflt top : Nat) (k : Nat → Tr) : Tr := match o with
  | none => k dflt
  | some v => asIntK v fun _ i => natK i fun i => bif' (Nat.ble i top) (k i) .fail
def boundsIn (len : Nat) (lo hi mx : Option AV) (k : Nat → Nat → Nat → Tr) (m : Nat) : Tr := match hi, mx with
  | none, some _ => .fail
  | _, _ => boundK hi len m fun h => boundK lo 0 h fun l => k l h m
/-- Bounds where the capacity is known. -/
def boundsK (len cap : Nat) (lo hi mx : Option AV) (k : Nat → Nat → Nat → Tr) : Tr := boundK mx cap cap (boundsIn len lo hi mx k)
/-- A part of a slice: where the capacity is known, and where it is not. -/
def slcKn (b g o s l h m : Nat) (k : AV → Tr) : Tr := fN (h - l) fun len => fN (m - l) fun cap =>
  bif' (Nat.beq m l) (k (.slc b g o len (some cap) s)) (fN (o + l * s) fun o => k (.slc b g o len (some cap) s))
def slcUn (b g o s l h : Nat) (k : AV → Tr) : Tr := fN (h - l) fun len => bif' (Nat.beq l 0) (k (.slc b g o len none s)) (fN (o + l * s) fun o => k (.slc b g o len none s))
def sliceUn (b g o len s : Nat) (lo hi mx : Option AV) (k : AV → Tr) : Tr := match mx with
  | none => boundK hi len len fun h => boundK lo 0 h fun l => slcUn b g o s l h k
  | some _ => bif' (Nat.beq len 0) .fail (boundsK len len lo hi mx fun l h m => slcKn b g o s l h m k)
def sliceS (s : List Nat) (lo hi mx : Option AV) (k : AV → Tr) : Tr := match mx with
  | some _ => .fail
  | none => fN s.length fun n => boundsK n n lo hi none fun l h _ => forceL ((s.take h).drop l) fun r => k (.str r)
def sliceA (t : TypeId) (x : AV) (lo hi mx : Option AV) (k : AV → Tr) : Tr := undK P t fun d => match d, x with
  | .array n e, .ptr b g o => boundsK n n lo hi mx fun l h m => sizeK P e fun s => slcKn b g o s l h m k
  | .string, .str s => sliceS s lo hi mx k
  | .slice e, .nils => sizeK P e fun _ => boundsK 0 0 lo hi mx fun _ _ _ => k .nils
  | .slice e, .slc b g o len (some c) s => sizeK P e fun s' => bif' (Nat.beq s s') (boundsK len c lo hi mx fun l h m => slcKn b g o s l h m k) .fail
  | .slice e, .slc b g o len none s => sizeK P e fun s' => bif' (Nat.beq s s') (sliceUn b g o len s lo hi mx k) .fail
  | _, _ => .fail
def extractA (x : AV) (i : Nat) (k : AV → Tr) : Tr := match x with | .tup l => oel l[i]? .fail k | _ => .fail
def makeSliceA (t : TypeId) (l c : AV) (k : AV → Tr) : Tr := asIntK l fun _ l => asIntK c fun _ c => natK l fun l => natK c fun c => undK P t fun d => match d with
  | .slice e => bif' (Nat.ble l c) (bif' (Nat.ble c 1000000) (infoK P e fun i => bif' (Nat.ble i.bytes 1000) (fN i.size fun n => bif' (Nat.ble 1 n) (zeroK P e fun z => cellsK z fun z => bif' (Nat.beq z.length n)
      (forceA (repeatL z c) fun r => newRowK e r fun b => k (.slc b 0 0 l (some c) n)) .fail) .fail) .fail) .fail) .fail
  | _ => .fail

/-! ### append, copy, len -/
def lenA (x : AV) (k : Nat → Tr) : Tr := match x with
  | .nils => k 0
  | .slc _ _ _ len _ _ => k len
  | .str s => fN s.length k
  | _ => .fail
/-- The cells of the first n elements of what is appended or copied. -/
def firstK (size n : Nat) (x : AV) (k : List AV → Tr) : Tr := match x with
  | .nils => k []
  | .slc b g o _ _ _ => bif' (Nat.beq (n * size) 0) (k []) (fN (n * size) fun m => loadRowK b g o m k)
  | .str s => bif' (Nat.beq size 1) (forceL (s.take n) fun s => forceA (byteCells s) k) .fail
  | _ => .fail
/-- New cells at the end, of generation g. -/
def tailT (g : Nat) (l : List AV) (i : Nat) (t : T Cell) (k : T Cell → Tr) : Tr :=
  List.rec (motive := fun _ => Nat → T Cell → (T Cell → Tr) → Tr) (fun _ t k => k t) (fun a _ ih i t k => bif' (oneA a) (T.setK t i (.mk g a) fun t => fN (Nat.succ i) fun i => ih i t k) .fail) l i t k
/-- The cells of the row l, read by generation g, are those that stand at o and on: all that the block has below 'hi'. -/
def appendGrow (e : TypeId) (size : Nat) (old new : List AV) (need : Nat) (k : AV → Tr) : Tr :=
  forceA (old ++ new) fun l => newRowK e l fun b => k (.slc b 0 0 need none size)
/-- An append where the capacity is not known: the block goes on under its next generation. -/
def forkK (e : Nat) (b g o len size n need : Nat) (new : List AV) (k : AV → Tr) : Tr := .rd b fun q => match q with
  | .cells c gen lo hi fl fh ro ty => bif' ro .fail (bif' (Nat.beq g gen) (bif' (Nat.beq o lo) (bif' (Nat.beq (o + len * size) hi) (bif' (Nat.ble fh hi) (bif' (Nat.beq ty e)
      (fN (Nat.succ gen) fun g' => tailT g' new hi c fun c => fN (hi + n * size) fun hi' => .wr b (.cells c g' lo hi' fl fh false e) (k (.slc b g' o need none size))) .fail) .fail) .fail) .fail) .fail)
  | _ => .fail
def appendTo (e : TypeId) (size n : Nat) (new : List AV) (s : AV) (k : AV → Tr) : Tr := match s with
  | .nils => bif' (Nat.beq n 0) (k .nils) (appendGrow e size [] new n k)
  | .slc b g o len cap es => bif' (Nat.beq es size) (bif' (Nat.ble len 1000000) (bif' (Nat.beq n 0) (k (.slc b g o len cap es))
      (fN (len + n) fun need => match cap with
        | some c => bif' (Nat.ble need c) (fN (o + len * size) fun p => storeRowK b g p new (k (.slc b g o need (some c) es)))
            (firstK size len s fun old => appendGrow e size old new need k)
        | none => forkK e b g o len size n need new k)) .fail) .fail
  | _ => .fail
def appendE (e : TypeId) (s x : AV) (k : AV → Tr) : Tr := infoK P e fun i => bif' (Nat.ble i.bytes 1000) (fN i.size fun size => bif' (Nat.ble 1 size)
  (zeroK P e fun z => cellsK z fun z => bif' (Nat.beq z.length size) (lenA x fun n => bif' (Nat.ble n 1000000) (firstK size n x fun new => appendTo e size n new s k) .fail) .fail) .fail) .fail
def appendA (tys : Array TypeId) (args : List AV) (k : AV → Tr) : Tr := match tys[0]?, tys[1]?, args with
  | some ts, some tx, [s, x] => undK P ts fun d => undK P tx fun dx => (match d, dx with
    | _, .int _ => .fail
    | .slice e, _ => appendE P e s x k
    | _, _ => .fail)
  | _, _, _ => .fail
def lenOfA (tys : Array TypeId) (args : List AV) (k : AV → Tr) : Tr := match tys[0]?, args with
  | some t, [x] => undK P t fun d => (match d, x with
    | .string, .str s => fN s.length fun n => k (.int .i64 (.ofNat n))
    | .array n _, _ => k (.int .i64 (.ofNat n))
    | .slice _, .nils => k (.int .i64 0)
    | .slice _, .slc _ _ _ len _ _ => k (.int .i64 (.ofNat len))
    | .slice _, .osl _ => k (.anyI .i64)
    | .map _ _, .nilm => k (.int .i64 0)
    | .map _ _, .map b => .rd b fun q => (match q with | .mapo es _ => fN es.length fun n => k (.int .i64 (.ofNat n)) | _ => .fail)
    | _, _ => .fail)
  | _, _ => .fail
def sliceDataA (args : List AV) (k : AV → Tr) : Tr := match args with
  | [.nils] => k .nilp
  | [.slc b g o len cap _] => bif' (match cap with | some c => Nat.ble 1 c | none => Nat.ble 1 len) (k (.ptr b g o)) .fail
  | _ => .fail
/-- A string over bytes that lie there: they are frozen. -/
def ustrA (tys : Array TypeId) (args : List AV) (k : AV → Tr) : Tr := match tys[0]?, args with
  | some pt, [x, .int _ n] => natK n fun n => undK P pt fun d => (match d, x with
    | .pointer e, .nilp => bif' (Nat.beq n 0) (k (.str [])) .fail
    | .pointer e, .ptr b g o => bif' (Nat.beq n 0) (k (.str [])) (bif' (Nat.ble n 1000000) (undK P e fun de => (match de with
      | .int .u8 => liesK P b g o e n (.rd b fun q => (match q with
        | .cells c gen lo hi fl fh ro ty => bif' ro .fail (bif' (Nat.ble fl fh) (ldsK c g n o fun l => oel (u8L l) .fail fun bs =>
          bif' (Nat.beq fl fh) (fN (o + n) fun e2 => .wr b (.cells c gen lo hi o e2 false ty) (k (.str bs)))
            (fN (bif' (Nat.ble fl o) fl o) fun l2 => fN (bif' (Nat.ble fh (o + n)) (o + n) fh) fun e2 => .wr b (.cells c gen lo hi l2 e2 false ty) (k (.str bs)))) .fail)
        | _ => .fail))
      | _ => .fail)) .fail)
    | _, _ => .fail)
  | _, _ => .fail
def copyA (tys : Array TypeId) (args : List AV) (k : AV → Tr) : Tr := match tys[0]?, args with
  | some t, [d, x] => undK P t fun dd => (match dd, d with
    | .slice e, .nils => sizeK P e fun size => bif' (Nat.ble 1 size) (lenA x fun n => firstK size 0 x fun _ => k (.int .i64 0)) .fail
    | .slice e, .slc b g o len _ _ => sizeK P e fun size => bif' (Nat.ble 1 size) (lenA x fun n => fN (minN n len) fun m => firstK size m x fun l =>
        bif' (Nat.beq m 0) (k (.int .i64 (.ofNat m))) (storeRowK b g o l (k (.int .i64 (.ofNat m))))) .fail
    | _, _ => .fail)
  | _, _ => .fail

end
end Go.Sim
