/- SYM, part E: the operations, as the interpreter does them. (Definitions alone.); SYM, part F: maps, iterators; an operation; a function's text. (Definitions alone.). -/
import Derived.Test.YtldnnonkobikdaaGreatDoorSymA
namespace Go.Sym
set_option linter.unusedVariables false
noncomputable section
def asBoolK (v : AV) (k : Bool → Tr) : Tr := match v with | .bool b => k b | .sB p => .ask p (k true) (k false) | _ => .fail
def condK (v : AV) (t e : Tr) : Tr := match v with
  | .bool b => bif' b t e
  | .anyB => .pick 2 fun i => Nat.rec (motive := fun _ => Tr) t (fun _ _ => e) i
  | .sB p => .ask p t e
  | _ => .fail
def asIntK (v : AV) (k : IntKind → Int → Tr) : Tr := match v with | .int j n => k j n | _ => .fail
def asAggK (v : AV) (k : List AV → Tr) : Tr := match v with | .agg l => k l | _ => .fail
def cellsK (v : AV) (k : List AV → Tr) : Tr := match v with | .agg l => k l | .opq _ => .fail | v => k [v]
def natK (n : Int) (k : Nat → Tr) : Tr := match n with | .ofNat a => k a | .negSucc _ => .fail
def evK (env : T AV) (x : Operand) (k : AV → Tr) : Tr := match x with
  | .tmp t => T.getK env t .fail k
  | .const v => oel (cvF 8 v) .fail k
  | .global g => bif' (Nat.ble (Nat.succ g) 1048576) (.rd g fun x => match x with | .cells _ _ _ _ _ _ ro _ => bif' ro (k (.ptr g 0 0)) .fail | _ => .fail) .fail
  | .func f => k (.func (.func f) [] [])
def evsK (env : T AV) (l : List Operand) (k : List AV → Tr) : Tr :=
  List.rec (motive := fun _ => (List AV → Tr) → Tr) (fun k => k []) (fun x _ ih k => evK env x fun a => ih fun l => k (a :: l)) l k
def evoK (env : T AV) (o : Option Operand) (k : Option AV → Tr) : Tr := match o with | none => k none | some x => evK env x fun a => k (some a)
def wrapA (k : IntKind) (n : Int) (f : Int → Tr) : Tr := match k, n with
  | .i64, .ofNat a => bif' (Nat.ble a 9223372036854775807) (fN a fun a => f (.ofNat a)) (fI (IntKind.wrap .i64 n) f)
  | .u64, .ofNat a => fN (Nat.mod a 18446744073709551616) fun a => f (.ofNat a)
  | .u32, .ofNat a => fN (Nat.mod a 4294967296) fun a => f (.ofNat a)
  | .u8, .ofNat a => fN (Nat.mod a 256) fun a => f (.ofNat a)
  | .u64, .negSucc a => fN (Nat.sub 18446744073709551615 (Nat.mod a 18446744073709551616)) fun a => f (.ofNat a)
  | .u32, .negSucc a => fN (Nat.sub 4294967295 (Nat.mod a 4294967296)) fun a => f (.ofNat a)
  | .u8, .negSucc a => fN (Nat.sub 255 (Nat.mod a 256)) fun a => f (.ofNat a)
  | .i64, .negSucc a => bif' (Nat.ble a 9223372036854775807) (fN a fun a => f (.negSucc a)) (fI (IntKind.wrap .i64 n) f)
  | _, _ => fI (k.wrap n) f
def modulus (k : IntKind) : Nat := match k with
  | .i8 | .u8 => 256
  | .i16 | .u16 => 65536
  | .i32 | .u32 => 4294967296
  | .i64 | .u64 => 18446744073709551616
def toU (m : Nat) (n : Int) : Nat := match n with
  | .ofNat a => Nat.mod a m
  | .negSucc a => Nat.sub (Nat.sub m 1) (Nat.mod a m)
def bitsOf (k : IntKind) : Nat := match k with | .i8 | .u8 => 8 | .i16 | .u16 => 16 | .i32 | .u32 => 32 | .i64 | .u64 => 64
def cmpA (op : BinOp) (x y : Int) (k : Bool → Tr) (z : Tr) : Tr := match x, y with
  | .ofNat a, .ofNat b => (match op with
    | .eql => k (Nat.beq a b) | .neq => k (bif' (Nat.beq a b) false true) | .lss => k (Nat.ble (Nat.succ a) b) | .leq => k (Nat.ble a b) | .gtr => k (Nat.ble (Nat.succ b) a) | .geq => k (Nat.ble b a) | _ => z)
  | _, _ => (match op with
    | .eql => k (x == y) | .neq => k (x != y) | .lss => k (x < y) | .leq => k (x ≤ y) | .gtr => k (x > y) | .geq => k (x ≥ y) | _ => z)
def boolK (b : Bool) (k : AV → Tr) : Tr := bif' b (k (.bool true)) (k (.bool false))
def isZ (n : Int) : Bool := match n with | .ofNat 0 => true | _ => false
def intBinA (op : BinOp) (j : IntKind) (x y : Int) (k : AV → Tr) : Tr := match op with
  | .add => wrapA j (Int.add x y) fun n => k (.int j n)
  | .sub => wrapA j (Int.sub x y) fun n => k (.int j n)
  | .mul => wrapA j (Int.mul x y) fun n => k (.int j n)
  | .quo => bif' (isZ y) .fail (wrapA j (x.tdiv y) fun n => k (.int j n))
  | .rem => bif' (isZ y) .fail (fI (x.tmod y) fun n => k (.int j n))
  | .and => wrapA j (.ofNat (Nat.land (toU (modulus j) x) (toU (modulus j) y))) fun n => k (.int j n)
  | .or => wrapA j (.ofNat (Nat.lor (toU (modulus j) x) (toU (modulus j) y))) fun n => k (.int j n)
  | .xor => wrapA j (.ofNat (Nat.xor (toU (modulus j) x) (toU (modulus j) y))) fun n => k (.int j n)
  | .andNot => wrapA j (.ofNat (Nat.land (toU (modulus j) x) (Nat.sub (Nat.sub (modulus j) 1) (toU (modulus j) y)))) fun n => k (.int j n)
  | op => cmpA op x y (fun b => boolK b k) .fail
def minN (a b : Nat) : Nat := bif' (Nat.ble a b) a b
def shiftA (op : BinOp) (j : IntKind) (x : Int) (y : Int) (k : AV → Tr) : Tr := natK y fun n => match op with
  | .shl => wrapA j (Int.mul x (.ofNat (Nat.pow 2 (minN n (bitsOf j))))) fun n => k (.int j n)
  | .shr => (match x with
    | .ofNat a => fN (Nat.div a (Nat.pow 2 (minN n (bitsOf j)))) fun n => k (.int j (.ofNat n))
    | .negSucc _ => fI (x.fdiv (.ofNat (Nat.pow 2 (minN n (bitsOf j))))) fun n => k (.int j n))
  | _ => .fail
def eqL : List Nat → List Nat → Bool
  | [], [] => true
  | a :: x, b :: y => bif' (Nat.beq a b) (eqL x y) false
  | _, _ => false
def ltL : List Nat → List Nat → Bool
  | _, [] => false
  | [], _ :: _ => true
  | a :: x, b :: y => bif' (Nat.ble (Nat.succ a) b) true (bif' (Nat.beq a b) (ltL x y) false)
def forceL (l : List Nat) (k : List Nat → Tr) : Tr := List.rec (motive := fun _ => (List Nat → Tr) → Tr) (fun k => k []) (fun a _ ih k => fN a fun a => ih fun l => k (a :: l)) l k
def strBinA (op : BinOp) (x y : List Nat) (k : AV → Tr) : Tr := match op with
  | .add => forceL (x ++ y) fun l => bif' (Nat.ble (List.length l) 1000000000) (k (.str l)) .fail
  | .eql => boolK (eqL x y) k
  | .neq => boolK (bif' (eqL x y) false true) k
  | .lss => boolK (ltL x y) k
  | .leq => boolK (bif' (ltL x y) true (eqL x y)) k
  | .gtr => boolK (bif' (bif' (ltL x y) true (eqL x y)) false true) k
  | .geq => boolK (bif' (ltL x y) false true) k
  | _ => .fail
def forceA (l : List AV) (k : List AV → Tr) : Tr := List.rec (motive := fun _ => (List AV → Tr) → Tr) (fun k => k []) (fun a _ ih k => ih fun l => k (a :: l)) l k
def numS (v : AV) : Option (IntKind × Int) := match v with | .int k n => some (k, n) | .sI k n => some (k, n) | _ => none
def strS (v : AV) : Option (List Nat) := match v with | .str s => some s | .sS s => some s | _ => none
def propS (v : AV) : Option Prop := match v with | .bool b => some (b = true) | .sB p => some p | _ => none
def isSy (v : AV) : Bool := match v with | .sI _ _ => true | .sB _ => true | .sS _ => true | _ => false
def wrapS (j : IntKind) (n : Int) (f : Int → Tr) : Tr := match j with
  | .u8 => f (n % 256)
  | .u16 => f (n % 65536)
  | .u32 => f (n % 4294967296)
  | .u64 => f (n % 18446744073709551616)
  | .i64 => .ask (-9223372036854775808 ≤ n ∧ n ≤ 9223372036854775807) (f n) (f (IntKind.wrap .i64 n))
  | j => f (j.wrap n)
def symInt (op : BinOp) (j : IntKind) (x y : Int) (k : AV → Tr) : Tr := match op with
  | .add => wrapS j (x + y) fun n => k (.sI j n)
  | .sub => wrapS j (x - y) fun n => k (.sI j n)
  | .mul => wrapS j (x * y) fun n => k (.sI j n)
  | .quo => .req (y ≠ 0) (.ask (0 ≤ x ∧ 0 < y) (wrapS j (x / y) fun n => k (.sI j n)) (wrapS j (x.tdiv y) fun n => k (.sI j n)))
  | .rem => .req (y ≠ 0) (.ask (0 ≤ x ∧ 0 < y) (k (.sI j (x % y))) (k (.sI j (x.tmod y))))
  | .and => k (.sI j (j.wrap (.ofNat (Nat.land (toU (modulus j) x) (toU (modulus j) y)))))
  | .or => k (.sI j (j.wrap (.ofNat (Nat.lor (toU (modulus j) x) (toU (modulus j) y)))))
  | .xor => k (.sI j (j.wrap (.ofNat (Nat.xor (toU (modulus j) x) (toU (modulus j) y)))))
  | .andNot => k (.sI j (j.wrap (.ofNat (Nat.land (toU (modulus j) x) (Nat.sub (Nat.sub (modulus j) 1) (toU (modulus j) y))))))
  | .eql => k (.sB (x = y))
  | .neq => k (.sB (x ≠ y))
  | .lss => k (.sB (x < y))
  | .leq => k (.sB (x ≤ y))
  | .gtr => k (.sB (y < x))
  | .geq => k (.sB (y ≤ x))
  | _ => .fail
def symShift (op : BinOp) (j : IntKind) (x y : Int) (k : AV → Tr) : Tr := natK y fun n => fN (Nat.pow 2 (minN n (bitsOf j))) fun m => match op with
  | .shl => wrapS j (x * (m : Int)) fun n => k (.sI j n)
  | .shr => k (.sI j (x / (m : Int)))
  | _ => .fail
def symStr (op : BinOp) (x y : List Nat) (k : AV → Tr) : Tr := match op with
  | .add => .req ((x ++ y).length ≤ 1000000000) (k (.sS (x ++ y)))
  | .eql => k (.sB (x = y))
  | .neq => k (.sB (x ≠ y))
  | .lss => k (.sB (ltL x y = true))
  | .leq => k (.sB (ltL y x = false))
  | .gtr => k (.sB (ltL y x = true))
  | .geq => k (.sB (ltL x y = false))
  | _ => .fail
def isShift (op : BinOp) : Bool := match op with | .shl => true | .shr => true | _ => false
def symBinA (op : BinOp) (x y : AV) (k : AV → Tr) : Tr := match numS x, numS y with
  | some (j, a), some (j', b) => bif' (isShift op) (symShift op j a b k) (bif' (decide (j = j')) (symInt op j a b k) .fail)
  | _, _ => (match strS x, strS y with
    | some a, some b => symStr op a b k
    | _, _ => .fail)
def symUnA (op : UnOp) (x : AV) (k : AV → Tr) : Tr := match op, x with
  | .neg, .sI j n => wrapS j (0 - n) fun n => k (.sI j n)
  | .xor, .sI j n => k (.sI j (j.wrap (.ofNat (Nat.xor (toU (modulus j) (if j.signed then -1 else j.max)) (toU (modulus j) n)))))
  | .not, .sB p => k (.sB (¬ p))
  | _, _ => .fail
def pI (p : Prop) : Int := @ite Int p (Classical.propDecidable p) 1 0
def bstr (s : List Nat) : List Nat := s.map (· % 256)
def pullC (x : Sc) (cs : List AV) (z : Option (List G × List AV)) (k : G → List AV → Option (List G × List AV)) : Option (List G × List AV) := match cs with
  | [] => z
  | a :: r => (match x with
    | .i j => (match numS a with | some (j', n) => bif' (decide (j = j')) (k (.int n) r) z | none => z)
    | .b => (match propS a with | some p => k (.int (pI p)) r | none => z)
    | .s => (match strS a with | some l => k (.str l) r | none => z)
    | .o => bif' (oneA a) (k (.int 0) r) z
    | .sl m => (match a with | .nils => k (.node []) r | .cv (.rows m' l) => bif' (Nat.beq m m') (k (.node l) r) z | _ => z)
    | .bs => (match a with | .nils => k (.str []) r | .cv (.bytes l) => k (.str l) r | _ => z)
    | .h _ => z)
def pullRow : List Sc → List AV → Option (List G × List AV)
  | [], cs => some ([], cs)
  | x :: xs, cs => pullC x cs none fun g r => match pullRow xs r with | some (gs, r) => some (g :: gs, r) | none => none
def pullMany (xs : List Sc) : Nat → List AV → Option (List G × List AV)
  | 0, cs => some ([], cs)
  | n + 1, cs => match pullRow xs cs with
    | some (g, r) => (match pullMany xs n r with | some (gs, r) => some (.node g :: gs, r) | none => none)
    | none => none
def pullB : List AV → Option (List Int)
  | [] => some []
  | a :: r => match numS a with
    | some (.u8, n) => (match pullB r with | some l => some (n :: l) | none => none)
    | _ => none
def nonneg : List Int → Prop
  | [] => True
  | x :: l => 0 ≤ x ∧ nonneg l
def toNats : List Int → List Nat
  | [] => []
  | x :: l => x.toNat :: toNats l
def Ct.app (c : Ct) (new : List AV) (n : Nat) : Option (Ct × Prop) := match c with
  | .rows m l => (match pullMany (sch m) n new with | some (gs, []) => some (.rows m (l ++ gs), True) | _ => none)
  | .bytes s => (match pullB new with | some ns => bif' (Nat.beq ns.length n) (some (.bytes (s ++ toNats ns), nonneg ns)) none | none => none)
def Ct.upd (c : Ct) (i o : Nat) (new : List AV) : Option (Ct × Prop) := match c with
  | .rows m l => (match pullRow (sch m) ((c.row i).take o ++ new ++ (c.row i).drop (o + new.length)) with | some (gs, []) => some (.rows m (l.set i (.node gs)), True) | _ => none)
  | .bytes s => (match new with
    | [a] => (match o, numS a with | 0, some (.u8, n) => some (.bytes (s.set i n.toNat), 0 ≤ n) | _, _ => none)
    | _ => none)
variable (P : Program)
def undK (t : TypeId) (k : TypeDesc → Tr) : Tr := oel (P.underlying t) .fail k
def infoK (t : TypeId) (k : TypeInfo → Tr) : Tr := oel (P.info? t) .fail k
def sizeK (t : TypeId) (k : Nat → Tr) : Tr := oel (P.info? t) .fail fun i => fN i.size k
def isAggD (d : TypeDesc) : Bool := match d with | .struct _ | .array _ _ => true | _ => false
def zeroK (t : TypeId) (k : AV → Tr) : Tr := oel (P.info? t) .fail fun i => oel i.zero .fail fun v => oel (cvF 8 v) .fail k
def eqA : Nat → TypeDesc → AV → AV → Option Bool
  | 0, _, _, _ => none
  | f + 1, d, x, y => match d, x, y with
    | .bool, .bool a, .bool b => some (a == b)
    | .int _, .int j a, .int j' b => if j = j' then some (a == b) else none
    | .string, .str a, .str b => some (eqL a b)
    | .pointer _, .nilp, .nilp => some true
    | .pointer _, .nilp, .ptr _ _ _ => some false
    | .pointer _, .ptr _ _ _, .nilp => some false
    | .pointer e, .ptr b g o, .ptr b' g' o' => if b = b' ∧ g = g' then (match P.info? e with | some i => if i.size = 0 then none else some (o == o') | none => none) else none
    | .interface _, .nili, .nili => some true
    | .interface _, .nili, .iface _ _ => some false
    | .interface _, .iface _ _, .nili => some false
    | .interface _, .iface t a, .iface u b => if t = u then (match P.info? t, P.underlying t with
      | some i, some d' => if i.comparable && !isAggD d' then eqA f d' a b else none
      | _, _ => none) else some false
    | .slice _, .nils, .nils => some true
    | .slice _, .nils, .slc .. => some false
    | .slice _, .slc .., .nils => some false
    | .map _ _, .nilm, .nilm => some true
    | .map _ _, .nilm, .map _ => some false
    | .map _ _, .map _, .nilm => some false
    | .func _ _ _, .nilf, .nilf => some true
    | .func _ _ _, .nilf, .func _ _ _ => some false
    | .func _ _ _, .func _ _ _, .nilf => some false
    | .array len e, .agg xs, .agg ys => match P.info? e, P.underlying e with
      | some i, some d' => if i.size = 1 && !isAggD d' && xs.length == len && ys.length == len then eqArr (eqA f d') xs ys else none
      | _, _ => none
    | .struct fs, .agg xs, .agg ys => eqFs (eqA f) fs.toList xs ys
    | _, _, _ => none
where
  eqArr (q : AV → AV → Option Bool) : List AV → List AV → Option Bool
    | [], [] => some true
    | a :: xs, b :: ys => match q a b with
      | some true => eqArr q xs ys
      | r => r
    | _, _ => none
  eqFs (q : TypeDesc → AV → AV → Option Bool) : List Field → List AV → List AV → Option Bool
    | [], _, _ => some true
    | fd :: fs, xs, ys => if fd.name = "_" then eqFs q fs xs ys else
      match P.info? fd.type, P.underlying fd.type with
      | some i, some d' =>
        (match (if isAggD d' then some (AV.agg ((xs.drop fd.offset).take i.size)) else xs[fd.offset]?), (if isAggD d' then some (AV.agg ((ys.drop fd.offset).take i.size)) else ys[fd.offset]?) with
        | some a, some b => (match q d' a b with
          | some true => eqFs q fs xs ys
          | r => r)
        | _, _ => none)
      | _, _ => none
def calmD : Nat → TypeId → Bool
  | 0, _ => false
  | f + 1, t => match P.underlying t with
    | some (.interface _) => false
    | some (.struct fs) => !P.stoodInHeld t && fs.toList.all fun fd => calmD f fd.type
    | some (.array _ e) => calmD f e
    | some _ => true
    | none => false
def plainEq (lit : Bool) (x y : AV) : Bool := match x, y with
  | .nili, .nili => lit
  | .opq _, _ => false
  | _, .opq _ => false
  | .anyB, _ => false
  | _, .anyB => false
  | .anyI _, _ => false
  | _, .anyI _ => false
  | .osl _, _ => false
  | _, .osl _ => false
  | .opc _, _ => false
  | _, .opc _ => false
  | .sI _ _, _ => false
  | _, .sI _ _ => false
  | .sB _, _ => false
  | _, .sB _ => false
  | .sS _, _ => false
  | _, .sS _ => false
  | .any1, _ => false
  | _, .any1 => false
  | .cptr _, _ => false
  | _, .cptr _ => false
  | .cv _, _ => false
  | _, .cv _ => false
  | .gsl .., _ => false
  | _, .gsl .. => false
  | .gptr .., _ => false
  | _, .gptr .. => false
  | _, _ => true
def relOp (op : BinOp) : Bool := match op with | .lss | .leq | .gtr | .geq => true | _ => false
def isLit (x : Operand) : Bool := match x with | .const _ => true | _ => false
def binOpA0 (lit : Bool) (op : BinOp) (t : TypeId) (x y : AV) (k : AV → Tr) : Tr := match op, x, y with
  | .shl, .int j a, .int _ b | .shr, .int j a, .int _ b => shiftA op j a b k
  | _, .int j a, .int j' b => bif' (decide (j = j')) (intBinA op j a b k) .fail
  | _, .str a, .str b => strBinA op a b k
  | .eql, .agg a, .agg b => bif' (bif' (P.eqGuardType P.depth t) false (calmD P 16 t)) (undK P t fun d => oel (eqA P 16 d (.agg a) (.agg b)) .fail fun r => boolK r k) .fail
  | .neq, .agg a, .agg b => bif' (bif' (P.eqGuardType P.depth t) false (calmD P 16 t)) (undK P t fun d => oel (eqA P 16 d (.agg a) (.agg b)) .fail fun r => boolK (bif' r false true) k) .fail
  | .eql, x, y => bif' (plainEq lit x y) (undK P t fun d => oel (eqA P 16 d x y) .fail fun r => boolK r k) .fail
  | .neq, x, y => bif' (plainEq lit x y) (undK P t fun d => oel (eqA P 16 d x y) .fail fun r => boolK (bif' r false true) k) .fail
  | .and, .anyI .i64, .int .i64 n => bif' (decide (n = 3)) (.pick 4 fun i => k (.int .i64 (.ofNat i))) .fail
  | op, .anyI j, .int j' _ => bif' (decide (j = j')) (bif' (relOp op) (k .anyB) .fail) .fail
  | _, _, _ => .fail
def concB (x : AV) (k : AV → Tr) : Tr := match x with | .sB p => .ask p (k (.bool true)) (k (.bool false)) | x => k x
def bothB (x y : AV) : Bool := match propS x, propS y with | some _, some _ => true | _, _ => false
def binOpA (lit : Bool) (op : BinOp) (t : TypeId) (x y : AV) (k : AV → Tr) : Tr := bif' (bif' (isSy x) true (isSy y)) (bif' (bothB x y) (concB x fun x => concB y fun y => binOpA0 P lit op t x y k) (symBinA op x y k)) (binOpA0 P lit op t x y k)
def unOpA0 (op : UnOp) (x : AV) (k : AV → Tr) : Tr := match op, x with
  | .neg, .int j n => wrapA j (Int.sub 0 n) fun n => k (.int j n)
  | .xor, .int j n => wrapA j (.ofNat (Nat.xor (toU (modulus j) (if j.signed then -1 else j.max)) (toU (modulus j) n))) fun n => k (.int j n)
  | .not, .bool b => boolK (bif' b false true) k
  | _, _ => .fail
def unOpA (op : UnOp) (x : AV) (k : AV → Tr) : Tr := bif' (isSy x) (symUnA op x k) (unOpA0 op x k)
def rowT (l : List AV) (i : Nat) (t : T Cell) (k : T Cell → Tr) : Tr :=
  List.rec (motive := fun _ => Nat → T Cell → (T Cell → Tr) → Tr) (fun _ t k => k t) (fun a _ ih i t k => T.setK t i (.mk 0 a) fun t => fN (Nat.succ i) fun i => ih i t k) l i t k
def newRowM (fl ty : Nat) (l : List AV) (k : Nat → Tr) : Tr := rowT l 0 .leaf fun t => fN (List.length l) fun n => .new (.cells t 0 0 n fl 0 false ty) k
def newRowK (ty : Nat) (l : List AV) (k : Nat → Tr) : Tr := newRowM 0 ty l k
def newVarK (ty : Nat) (v : AV) (k : AV → Tr) : Tr := cellsK v fun l => newRowK ty l fun b => k (.ptr b 0 0)
def ldsK (c : T Cell) (g : Nat) (n : Nat) (o : Nat) (k : List AV → Tr) : Tr :=
  Nat.rec (motive := fun _ => Nat → (List AV → Tr) → Tr) (fun _ k => k []) (fun _ ih o k => T.getK c o .fail fun x => match x with
    | .mk tag v => bif' (Nat.ble tag g) (fN (Nat.succ o) fun o => ih o fun l => k (v :: l)) .fail) n o k
def loadRowK (b g o n : Nat) (k : List AV → Tr) : Tr := .rd b fun x => match x with | .cells c gen _ _ _ _ _ _ => bif' (Nat.ble g gen) (ldsK c g n o k) .fail | _ => .fail
def loadOneK (b g o : Nat) (k : AV → Tr) : Tr := .rd b fun x => match x with
  | .cells c gen _ _ _ _ _ _ => bif' (Nat.ble g gen) (T.getK c o .fail fun x => (match x with | .mk tag v => bif' (Nat.ble tag g) (k v) .fail)) .fail
  | _ => .fail
def loadK (t : TypeId) (x : AV) (k : AV → Tr) : Tr := match x with
  | .ptr b g o => undK P t fun d => bif' (isAggD d) (sizeK P t fun n => loadRowK b g o n fun l => k (.agg l)) (loadOneK b g o k)
  | .cptr l => undK P t fun d => bif' (isAggD d) (sizeK P t fun n => forceA (l.take n) fun r => bif' (Nat.beq r.length n) (k (.agg r)) .fail) (oel l[0]? .fail k)
  | .gptr b g i o es => .rd b fun q => (match q with
    | .grow c gen _ => bif' (Nat.beq g gen) (bif' (Nat.beq es c.es) (.req (i < c.len) (undK P t fun d => bif' (isAggD d) (sizeK P t fun m => forceA (((c.row i).drop o).take m) fun r => bif' (Nat.beq r.length m) (k (.agg r)) .fail) (oel (c.row i)[o]? .fail k))) .fail) .fail
    | _ => .fail)
  | _ => .fail
def stsK (g fl fh : Nat) (l : List AV) (o : Nat) (c : T Cell) (k : T Cell → Tr) : Tr :=
  List.rec (motive := fun _ => Nat → T Cell → (T Cell → Tr) → Tr) (fun _ c k => k c) (fun v _ ih o c k =>
    bif' (oneA v) (bif' (bif' (Nat.ble fl o) (Nat.ble (Nat.succ o) fh) false) .fail (T.getK c o .fail fun x => match x with | .mk tag _ => bif' (Nat.ble tag g) (T.setK c o (.mk g v) fun c => fN (Nat.succ o) fun o => ih o c k) .fail)) .fail) l o c k
def storeRowK (b g o : Nat) (l : List AV) (k : Tr) : Tr := .rd b fun x => match x with
  | .cells c gen lo hi fl fh ro ty => bif' ro .fail (bif' (Nat.beq g gen) (stsK g fl fh l o c fun c => .wr b (.cells c gen lo hi fl fh false ty) k) .fail)
  | _ => .fail
def storeK (t : TypeId) (x v : AV) (k : Tr) : Tr := match x with
  | .ptr b g o => sizeK P t fun n => cellsK v fun l => bif' (Nat.beq (List.length l) n) (storeRowK b g o l k) .fail
  | .gptr b g i o es => sizeK P t fun n => cellsK v fun l => bif' (Nat.beq (List.length l) n) (bif' (Nat.ble 1 n) (.rd b fun q => (match q with
    | .grow c gen ty => bif' (Nat.beq g gen) (bif' (Nat.beq es c.es) (bif' (Nat.ble (o + n) es) (bif' (l.all oneA) (match c.upd i o l with
      | some (c', p) => .req (i < c.len ∧ p) (.wr b (.grow c' gen ty) k)
      | none => .fail) .fail) .fail) .fail) .fail
    | _ => .fail)) .fail) .fail
  | _ => .fail
def fillOne (cells : List AV) (off : Nat) (cs : List AV) : List AV := cells.take off ++ cs ++ cells.drop (off + cs.length)
def fillA (place : Nat → Option (Nat × Nat)) (cells : List AV) (parts : List (Nat × AV)) (k : List AV → Tr) : Tr :=
  List.rec (motive := fun _ => List AV → (List AV → Tr) → Tr) (fun cells k => k cells) (fun p _ ih cells k =>
    oel (place p.1) .fail fun q => cellsK p.2 fun cs => bif' (Nat.beq cs.length q.2) (bif' (Nat.ble (q.1 + q.2) cells.length) (forceA (fillOne cells q.1 cs) fun cells => ih cells k) .fail) .fail) parts cells k
def evPartsK (env : T AV) (l : List (Nat × Operand)) (k : List (Nat × AV) → Tr) : Tr :=
  List.rec (motive := fun _ => (List (Nat × AV) → Tr) → Tr) (fun k => k []) (fun x _ ih k => evK env x.2 fun a => ih fun l => k ((x.1, a) :: l)) l k
def places (fs : Array Field) (i : Nat) : Option (Nat × Nat) := match fs[i]? with
  | some f => (match P.info? f.type with | some i => some (f.offset, i.size) | none => none)
  | none => none
def sizesOk (fs : Array Field) : Bool := fs.toList.all fun f => (P.info? f.type).isSome
def buildA (t : TypeId) (parts : List (Nat × AV)) (k : AV → Tr) : Tr := zeroK P t fun z => undK P t fun d => match d with
  | .struct fs => bif' (sizesOk P fs) (cellsK z fun z => fillA (places P fs) z parts fun l => k (.agg l)) .fail
  | .array _ e => sizeK P e fun n => cellsK z fun z => fillA (fun i => some (i * n, n)) z parts fun l => k (.agg l)
  | _ => .fail
def repeatL (z : List AV) : Nat → List AV
  | 0 => []
  | n + 1 => z ++ repeatL z n
def buildSliceA (t : TypeId) (len : Nat) (parts : List (Nat × AV)) (k : AV → Tr) : Tr := undK P t fun d => match d with
  | .slice e => sizeK P e fun n => bif' (Nat.ble (len * n) 1000000) (bif' (Nat.ble 1 n) (zeroK P e fun z => cellsK z fun z => bif' (Nat.beq z.length n)
      (fillA (fun i => some (i * n, n)) (repeatL z len) parts fun l => newRowK e l fun b => k (.slc b 0 0 len (some len) n)) .fail) .fail) .fail
  | _ => .fail
def byteCells (l : List Nat) : List AV := l.map fun b => .int .u8 (.ofNat b)
def u8L : List AV → Option (List Nat)
  | [] => some []
  | .int .u8 (.ofNat n) :: r => if n < 256 then (match u8L r with | some l => some (n :: l) | none => none) else none
  | _ => none
def liesK (b g o : Nat) (u : TypeId) (n : Nat) (k : Tr) : Tr := .rd b fun q => match q with
  | .cells c gen lo hi _ _ _ ty => bif' (Nat.ble g gen) (bif' (Nat.beq lo 0) (T.getK c 0 .fail fun x => match x with
    | .mk t0 _ => bif' (Nat.ble t0 g) (fN (Nat.sub hi 1) fun h1 => T.getK c h1 .fail fun x => match x with
      | .mk t1 _ => bif' (Nat.ble t1 g) (bif' (liesAt P P.depth ty (hi / P.cellsOf ty) o u n) k .fail) .fail) .fail) .fail) .fail
  | _ => .fail
def symConvA (src dst : TypeId) (x : AV) (k : AV → Tr) : Tr := undK P src fun s => undK P dst fun d => match s, d, x with
  | _, .int j, .sI _ n => wrapS j n fun n => k (.sI j n)
  | _, .string, .sS s => k (.sS s)
  | .string, .slice e, .sS s => undK P e fun de => (match de with
    | .int .u8 => .ask (0 < s.length) (.new (.grow (.bytes s) 0 e) fun b => k (.gsl b 0 s.length 1)) (newRowM 1 e [] fun b => k (.slc b 0 0 0 none 1))
    | _ => .fail)
  | .slice e, .string, .cv (.bytes s) => undK P e fun de => (match de with | .int .u8 => k (.sS (bstr s)) | _ => .fail)
  | .slice e, .string, .gsl b g n es => undK P e fun de => (match de with
    | .int .u8 => .rd b fun q => (match q with
      | .grow (.bytes s) gen _ => bif' (Nat.beq g gen) (bif' (Nat.beq es 1) (.req (s.length = n) (k (.sS (bstr s)))) .fail) .fail
      | _ => .fail)
    | _ => .fail)
  | _, _, _ => .fail
def inB : List Int → Prop
  | [] => True
  | x :: l => (0 ≤ x ∧ x < 256) ∧ inB l
def bytesStr (l : List AV) (k : AV → Tr) : Tr := match u8L l with
  | some l => k (.str l)
  | none => oel (pullB l) .fail fun ns => .req (inB ns) (k (.sS (toNats ns)))
def convA0 (src dst : TypeId) (x : AV) (k : AV → Tr) : Tr := undK P src fun s => undK P dst fun d => match s, d, x with
  | _, .int j, .int _ n => wrapA j n fun n => k (.int j n)
  | _, .string, .str s => k (.str s)
  | .string, .slice e, .str s => undK P e fun de => (match de with
    | .int .u8 => fN (List.length s) fun n => bif' (Nat.ble n 1000000) (newRowM 1 e (byteCells s) fun b => k (.slc b 0 0 n none 1)) .fail
    | _ => .fail)
  | .slice _, .slice e, .slc b g o len cap es => bif' (Nat.beq src dst) (undK P e fun de => (match de with
    | .int .u8 => bif' (Nat.ble 1 len) (.rd b fun q => (match q with
      | .cells c gen lo hi fl fh ro ty => bif' ro .fail (bif' (Nat.beq fh 0) (bif' (Nat.ble g gen) (.wr b (.cells c gen lo hi 1 0 false ty) (k (.slc b g o len cap es))) .fail) .fail)
      | _ => .fail)) .fail
    | _ => .fail)) .fail
  | .pointer _, .unsafePointer, .nilp => k .nilp
  | .pointer t0, .unsafePointer, .ptr b g o => sizeK P t0 fun n => bif' (Nat.beq n 0) .fail (.rd b fun q => (match q with
    | .cells c gen _ _ _ _ _ _ => bif' (Nat.ble g gen) (T.getK c o .fail fun x => (match x with | .mk tag _ => bif' (Nat.ble tag g) (k (.ptr b g o)) .fail)) .fail
    | _ => .fail))
  | .unsafePointer, .pointer _, .nilp => k .nilp
  | .unsafePointer, .pointer u, .ptr b g o => sizeK P u fun _ => liesK P b g o u 1 (k (.ptr b g o))
  | .slice e, .string, x => undK P e fun de => (match de, x with
    | .int .u8, .nils => k (.str [])
    | .int .u8, .slc b g o len _ es => bif' (Nat.beq len 0) (k (.str [])) (loadRowK b g o len fun l => bytesStr l k)
    | _, _ => .fail)
  | _, _, _ => .fail
def isBy (v : AV) : Bool := match v with | .sI _ _ => true | .sB _ => true | .sS _ => true | .cv _ => true | .gsl .. => true | _ => false
def convA (src dst : TypeId) (x : AV) (k : AV → Tr) : Tr := bif' (isBy x) (symConvA P src dst x k) (convA0 P src dst x k)
def mkIfaceA (t : TypeId) (x : AV) (k : AV → Tr) : Tr := undK P t fun d => match d with | .interface _ => .fail | _ => k (.iface t x)
def partA (t : TypeId) (cs : List AV) (off : Nat) (k : AV → Tr) : Tr := undK P t fun d =>
  bif' (isAggD d) (sizeK P t fun n => forceA ((cs.drop off).take n) fun l => k (.agg l)) (oel cs[off]? .fail k)
def fieldA (t : TypeId) (x : AV) (i : Nat) (k : AV → Tr) : Tr := undK P t fun d => match d with
  | .struct fs => oel fs[i]? .fail fun f => asAggK x fun cs => partA P f.type cs f.offset k
  | _ => .fail
def fieldAddrA (t : TypeId) (x : AV) (i : Nat) (k : AV → Tr) : Tr := undK P t fun d => match d, x with
  | .struct fs, .ptr b g o => oel fs[i]? .fail fun f => sizeK P f.type fun n => bif' (Nat.beq n 0) .fail (fN (o + f.offset) fun o => k (.ptr b g o))
  | .struct fs, .gptr b g m o es => oel fs[i]? .fail fun f => sizeK P f.type fun n => bif' (Nat.beq n 0) .fail (k (.gptr b g m (o + f.offset) es))
  | .struct fs, .cptr l => oel fs[i]? .fail fun f => sizeK P f.type fun n => bif' (Nat.beq n 0) .fail (bif' (Nat.ble f.offset l.length) (forceA (l.drop f.offset) fun l => k (.cptr l)) .fail)
  | _, _ => .fail
def viewAtA (t : TypeId) (c : Ct) (ix : AV) (k : AV → Tr) : Tr := undK P t fun d => match d, numS ix with
  | .slice e, some (_, i) => sizeK P e fun s => bif' (Nat.beq s c.es) (.req (0 ≤ i ∧ i < (c.len : Int)) (forceA (c.row i.toNat) fun l => k (.cptr l))) .fail
  | _, _ => .fail
def indexAddrA0 (t : TypeId) (x ix : AV) (k : AV → Tr) : Tr := asIntK ix fun _ i => natK i fun i => undK P t fun d => match d, x with
  | .array len e, .ptr b g o => bif' (Nat.ble (Nat.succ i) len) (sizeK P e fun n => fN (o + i * n) fun o => k (.ptr b g o)) .fail
  | .slice e, .slc b g o len _ _ => bif' (Nat.ble (Nat.succ i) len) (sizeK P e fun n => fN (o + i * n) fun o => k (.ptr b g o)) .fail
  | _, _ => .fail
def growAtA (t : TypeId) (b g n es : Nat) (ix : AV) (k : AV → Tr) : Tr := undK P t fun d => match d, numS ix with
  | .slice e, some (_, i) => sizeK P e fun s => bif' (Nat.beq s es) (.req (0 ≤ i ∧ i < (n : Int)) (k (.gptr b g i.toNat 0 es))) .fail
  | _, _ => .fail
def indexAddrA (t : TypeId) (x ix : AV) (k : AV → Tr) : Tr := match x with
  | .cv c => viewAtA P t c ix k
  | .gsl b g n es => growAtA P t b g n es ix k
  | x => indexAddrA0 P t x ix k
def strAtA (t : TypeId) (s : List Nat) (i : Int) (k : AV → Tr) : Tr := undK P t fun d => match d with
  | .string => .req (0 ≤ i ∧ i < (s.length : Int)) (k (.sI .u8 ((byteAt s i.toNat : Nat) : Int)))
  | _ => .fail
def indexA0 (t : TypeId) (x ix : AV) (k : AV → Tr) : Tr := asIntK ix fun _ i => natK i fun i => undK P t fun d => match d, x with
  | .array len e, .agg cs => bif' (Nat.ble (Nat.succ i) len) (sizeK P e fun n => partA P e cs (i * n) k) .fail
  | .string, .str s => oel s[i]? .fail fun b => fN b fun b => k (.int .u8 (.ofNat b))
  | _, _ => .fail
def indexA (t : TypeId) (x ix : AV) (k : AV → Tr) : Tr := bif' (bif' (isSy x) true (isSy ix)) (match strS x, numS ix with | some s, some (_, i) => strAtA P t s i k | _, _ => .fail) (indexA0 P t x ix k)
def boundK (o : Option AV) (dflt top : Nat) (k : Nat → Tr) : Tr := match o with
  | none => k dflt
  | some v => asIntK v fun _ i => natK i fun i => bif' (Nat.ble i top) (k i) .fail
def boundsIn (len : Nat) (lo hi mx : Option AV) (k : Nat → Nat → Nat → Tr) (m : Nat) : Tr := match hi, mx with
  | none, some _ => .fail
  | _, _ => boundK hi len m fun h => boundK lo 0 h fun l => k l h m
def boundsK (len cap : Nat) (lo hi mx : Option AV) (k : Nat → Nat → Nat → Tr) : Tr := boundK mx cap cap (boundsIn len lo hi mx k)
def slcKn (b g o s l h m : Nat) (k : AV → Tr) : Tr := fN (h - l) fun len => fN (m - l) fun cap =>
  bif' (Nat.beq m l) (k (.slc b g o len (some cap) s)) (fN (o + l * s) fun o => k (.slc b g o len (some cap) s))
def slcUn (b g o s l h : Nat) (k : AV → Tr) : Tr := fN (h - l) fun len => bif' (Nat.beq l 0) (k (.slc b g o len none s)) (fN (o + l * s) fun o => k (.slc b g o len none s))
def sliceUn (b g o len s : Nat) (lo hi mx : Option AV) (k : AV → Tr) : Tr := match mx with
  | none => boundK hi len len fun h => boundK lo 0 h fun l => slcUn b g o s l h k
  | some _ => bif' (Nat.beq len 0) .fail (boundsK len len lo hi mx fun l h m => slcKn b g o s l h m k)
def sliceS (s : List Nat) (lo hi mx : Option AV) (k : AV → Tr) : Tr := match mx with
  | some _ => .fail
  | none => fN s.length fun n => boundsK n n lo hi none fun l h _ => forceL ((s.take h).drop l) fun r => k (.str r)
def symBoundK (o : Option AV) (dflt : Int) (k : Int → Tr) : Tr := match o with
  | none => k dflt
  | some v => (match numS v with | some (_, i) => k i | none => .fail)
def anySy (o : Option AV) : Bool := match o with | some v => isSy v | none => false
def symSliceA (t : TypeId) (x : AV) (lo hi mx : Option AV) (k : AV → Tr) : Tr := undK P t fun d => match mx, d, x with
  | none, .slice e, .cv c => sizeK P e fun s => bif' (Nat.beq s c.es) (symBoundK hi (c.len : Int) fun h => symBoundK lo 0 fun l => .req (0 ≤ l ∧ l ≤ h ∧ h ≤ (c.len : Int)) (k (.cv (c.cut l.toNat h.toNat)))) .fail
  | none, .string, x => (match strS x with
    | some s => symBoundK hi (s.length : Int) fun h => symBoundK lo 0 fun l => .req (0 ≤ l ∧ l ≤ h ∧ h ≤ (s.length : Int)) (k (.sS ((s.take h.toNat).drop l.toNat)))
    | none => .fail)
  | _, _, _ => .fail
def isView (v : AV) : Bool := match v with | .cv _ => true | _ => false
def sliceA0 (t : TypeId) (x : AV) (lo hi mx : Option AV) (k : AV → Tr) : Tr := undK P t fun d => match d, x with
  | .array n e, .ptr b g o => boundsK n n lo hi mx fun l h m => sizeK P e fun s => slcKn b g o s l h m k
  | .string, .str s => sliceS s lo hi mx k
  | .slice e, .nils => sizeK P e fun _ => boundsK 0 0 lo hi mx fun _ _ _ => k .nils
  | .slice e, .slc b g o len (some c) s => sizeK P e fun s' => bif' (Nat.beq s s') (boundsK len c lo hi mx fun l h m => slcKn b g o s l h m k) .fail
  | .slice e, .slc b g o len none s => sizeK P e fun s' => bif' (Nat.beq s s') (sliceUn b g o len s lo hi mx k) .fail
  | _, _ => .fail
def sliceA (t : TypeId) (x : AV) (lo hi mx : Option AV) (k : AV → Tr) : Tr := bif' (bif' (isSy x) true (bif' (isView x) true (bif' (anySy lo) true (anySy hi)))) (symSliceA P t x lo hi mx k) (sliceA0 P t x lo hi mx k)
def extractA (x : AV) (i : Nat) (k : AV → Tr) : Tr := match x with | .tup l => oel l[i]? .fail k | _ => .fail
def makeSliceA (t : TypeId) (l c : AV) (k : AV → Tr) : Tr := asIntK l fun _ l => asIntK c fun _ c => natK l fun l => natK c fun c => undK P t fun d => match d with
  | .slice e => bif' (Nat.ble l c) (bif' (Nat.ble c 1000000) (infoK P e fun i => bif' (Nat.ble i.bytes 1000) (fN i.size fun n => bif' (Nat.ble 1 n) (zeroK P e fun z => cellsK z fun z => bif' (Nat.beq z.length n)
      (forceA (repeatL z c) fun r => newRowK e r fun b => k (.slc b 0 0 l (some c) n)) .fail) .fail) .fail) .fail) .fail
  | _ => .fail
def lenA (x : AV) (k : Nat → Tr) : Tr := match x with
  | .nils => k 0
  | .slc _ _ _ len _ _ => k len
  | .str s => fN s.length k
  | _ => .fail
def firstK (size n : Nat) (x : AV) (k : List AV → Tr) : Tr := match x with
  | .nils => k []
  | .slc b g o _ _ _ => bif' (Nat.beq (n * size) 0) (k []) (fN (n * size) fun m => loadRowK b g o m k)
  | .str s => bif' (Nat.beq size 1) (forceL (s.take n) fun s => forceA (byteCells s) k) .fail
  | _ => .fail
def tailT (g : Nat) (l : List AV) (i : Nat) (t : T Cell) (k : T Cell → Tr) : Tr :=
  List.rec (motive := fun _ => Nat → T Cell → (T Cell → Tr) → Tr) (fun _ t k => k t) (fun a _ ih i t k => bif' (oneA a) (T.setK t i (.mk g a) fun t => fN (Nat.succ i) fun i => ih i t k) .fail) l i t k
def appendGrow (e : TypeId) (size : Nat) (old new : List AV) (need : Nat) (k : AV → Tr) : Tr :=
  forceA (old ++ new) fun l => newRowK e l fun b => k (.slc b 0 0 need none size)
def forkK (e : Nat) (b g o len size n need : Nat) (new : List AV) (k : AV → Tr) : Tr := .rd b fun q => match q with
  | .cells c gen lo hi fl fh ro ty => bif' ro .fail (bif' (Nat.beq g gen) (bif' (Nat.beq o lo) (bif' (Nat.beq (o + len * size) hi) (bif' (Nat.ble fh hi) (bif' (Nat.beq ty e)
      (fN (Nat.succ gen) fun g' => tailT g' new hi c fun c => fN (hi + n * size) fun hi' => .wr b (.cells c g' lo hi' fl fh false e) (k (.slc b g' o need none size))) .fail) .fail) .fail) .fail) .fail)
  | _ => .fail
def growK (e : TypeId) (b g len size n : Nat) (new : List AV) (k : AV → Tr) : Tr := .rd b fun q => match q with
  | .grow c gen ty => bif' (Nat.beq g gen) (bif' (Nat.beq c.es size) (bif' (Nat.beq ty e) (bif' (Nat.beq new.length (n * size)) (bif' (new.all oneA) (match c.app new n with
      | some (c', p) => .req (c.len = len ∧ len ≤ 1000000000 ∧ p) (.wr b (.grow c' (gen + 1) ty) (k (.gsl b (gen + 1) (len + n) size)))
      | none => .fail) .fail) .fail) .fail) .fail) .fail
  | _ => .fail
def appendTo (e : TypeId) (size n : Nat) (new : List AV) (s : AV) (k : AV → Tr) : Tr := match s with
  | .gsl b g len es => bif' (Nat.beq es size) (bif' (Nat.beq n 0) (k (.gsl b g len es)) (growK e b g len size n new k)) .fail
  | .nils => bif' (Nat.beq n 0) (k .nils) (appendGrow e size [] new n k)
  | .slc b g o len cap es => bif' (Nat.beq es size) (bif' (Nat.ble len 1000000) (bif' (Nat.beq n 0) (k (.slc b g o len cap es))
      (fN (len + n) fun need => match cap with
        | some c => bif' (Nat.ble need c) (fN (o + len * size) fun p => storeRowK b g p new (k (.slc b g o need (some c) es)))
            (firstK size len s fun old => appendGrow e size old new need k)
        | none => forkK e b g o len size n need new k)) .fail) .fail
  | _ => .fail
def symB (x : AV) : Option (List Nat) := match x with
  | .sS t => some t
  | .cv (.bytes t) => some t
  | _ => none
def growS (e : TypeId) (b g len : Nat) (t : List Nat) (k : AV → Tr) : Tr := .ask (0 < t.length) (.rd b fun q => match q with
  | .grow (.bytes l0) gen ty => bif' (Nat.beq g gen) (bif' (Nat.beq ty e) (.req (l0.length = len ∧ len ≤ 1000000000 ∧ t.length ≤ 1000000) (.wr b (.grow (.bytes (l0 ++ t)) (gen + 1) ty) (k (.gsl b (gen + 1) (len + t.length) 1)))) .fail) .fail
  | _ => .fail) (k (.gsl b g len 1))
def appendS (e : TypeId) (size : Nat) (t : List Nat) (s : AV) (k : AV → Tr) : Tr := bif' (Nat.beq size 1) (match s with
  | .gsl b g len es => bif' (Nat.beq es 1) (growS e b g len t k) .fail
  | _ => .fail) .fail
def appendE (e : TypeId) (s x : AV) (k : AV → Tr) : Tr := infoK P e fun i => bif' (Nat.ble i.bytes 1000) (fN i.size fun size => bif' (Nat.ble 1 size)
  (zeroK P e fun z => cellsK z fun z => bif' (Nat.beq z.length size) (match symB x with
    | some t => appendS e size t s k
    | none => lenA x fun n => bif' (Nat.ble n 1000000) (firstK size n x fun new => appendTo e size n new s k) .fail) .fail) .fail) .fail
def appendA (tys : Array TypeId) (args : List AV) (k : AV → Tr) : Tr := match tys[0]?, tys[1]?, args with
  | some ts, some tx, [s, x] => undK P ts fun d => undK P tx fun dx => (match d, dx with
    | _, .int _ => .fail
    | .slice e, _ => appendE P e s x k
    | _, _ => .fail)
  | _, _, _ => .fail
def lenOfA (tys : Array TypeId) (args : List AV) (k : AV → Tr) : Tr := match tys[0]?, args with
  | some t, [x] => undK P t fun d => (match d, x with
    | .string, .str s => fN s.length fun n => k (.int .i64 (.ofNat n))
    | .array n _, _ => k (.int .i64 (.ofNat n))
    | .slice _, .nils => k (.int .i64 0)
    | .slice _, .slc _ _ _ len _ _ => k (.int .i64 (.ofNat len))
    | .slice _, .osl _ => k (.anyI .i64)
    | .slice _, .cv c => k (.sI .i64 (c.len : Int))
    | .slice _, .gsl _ _ n _ => k (.sI .i64 (n : Int))
    | .string, .sS s => k (.sI .i64 (s.length : Int))
    | .map _ _, .nilm => k (.int .i64 0)
    | .map _ _, .map b => .rd b fun q => (match q with | .mapo es _ => fN es.length fun n => k (.int .i64 (.ofNat n)) | _ => .fail)
    | _, _ => .fail)
  | _, _ => .fail
def sliceDataA (args : List AV) (k : AV → Tr) : Tr := match args with
  | [.nils] => k .nilp
  | [.slc b g o len cap _] => bif' (match cap with | some c => Nat.ble 1 c | none => Nat.ble 1 len) (k (.ptr b g o)) .fail
  | _ => .fail
def ustrA (tys : Array TypeId) (args : List AV) (k : AV → Tr) : Tr := match tys[0]?, args with
  | some pt, [x, .int _ n] => natK n fun n => undK P pt fun d => (match d, x with
    | .pointer e, .nilp => bif' (Nat.beq n 0) (k (.str [])) .fail
    | .pointer e, .ptr b g o => bif' (Nat.beq n 0) (k (.str [])) (bif' (Nat.ble n 1000000) (undK P e fun de => (match de with
      | .int .u8 => liesK P b g o e n (.rd b fun q => (match q with
        | .cells c gen lo hi fl fh ro ty => bif' ro .fail (bif' (Nat.ble fl fh) (ldsK c g n o fun l => oel (u8L l) .fail fun bs =>
          bif' (Nat.beq fl fh) (fN (o + n) fun e2 => .wr b (.cells c gen lo hi o e2 false ty) (k (.str bs)))
            (fN (bif' (Nat.ble fl o) fl o) fun l2 => fN (bif' (Nat.ble fh (o + n)) (o + n) fh) fun e2 => .wr b (.cells c gen lo hi l2 e2 false ty) (k (.str bs)))) .fail)
        | _ => .fail))
      | _ => .fail)) .fail)
    | _, _ => .fail)
  | _, _ => .fail
def copyA (tys : Array TypeId) (args : List AV) (k : AV → Tr) : Tr := match tys[0]?, args with
  | some t, [d, x] => undK P t fun dd => (match dd, d with
    | .slice e, .nils => sizeK P e fun size => bif' (Nat.ble 1 size) (lenA x fun n => firstK size 0 x fun _ => k (.int .i64 0)) .fail
    | .slice e, .slc b g o len _ _ => sizeK P e fun size => bif' (Nat.ble 1 size) (lenA x fun n => fN (minN n len) fun m => firstK size m x fun l =>
        bif' (Nat.beq m 0) (k (.int .i64 (.ofNat m))) (storeRowK b g o l (k (.int .i64 (.ofNat m))))) .fail
    | _, _ => .fail)
  | _, _ => .fail
end
end Go.Sym
namespace Go.Sym
set_option linter.unusedVariables false
noncomputable section
variable (P : Program)
def sameA : Nat → AV → AV → Bool
  | 0, _, _ => false
  | f + 1, x, y => match x, y with
    | .bool a, .bool b => a == b
    | .int j a, .int j' b => bif' (decide (j = j')) (a == b) false
    | .str a, .str b => eqL a b
    | .agg a, .agg b => sameAll (sameA f) a b
    | _, _ => false
where
  sameAll (q : AV → AV → Bool) : List AV → List AV → Bool
    | [], [] => true
    | a :: x, b :: y => bif' (q a b) (sameAll q x y) false
    | _, _ => false
def findA (q : AV → AV → Option Bool) (key : AV) : List ME → Nat → Option (Option (Nat × AV))
  | [], _ => some none
  | .mk k v _ :: es, i => match q key k with
    | some true => some (some (i, v))
    | some false => findA q key es (i + 1)
    | none => none
def keyD : Nat → TypeId → Bool
  | 0, _ => false
  | f + 1, t => match P.underlying t with
    | some .bool | some (.int _) | some .string => true
    | some (.struct fs) => !P.stoodInHeld t && fs.toList.all fun fd => fd.name != "_" && keyD f fd.type
    | some (.array _ e) => keyD f e
    | _ => false
def keyA : Nat → TypeId → AV → Bool
  | 0, _, _ => false
  | f + 1, t, v => match P.underlying t with
    | some .bool | some (.int _) | some .string => true
    | some (.struct fs) => (match v with
      | .agg l => fs.toList.all fun fd => match P.info? fd.type, P.underlying fd.type with
        | some i, some d => (match (if isAggD d then some (AV.agg ((l.drop fd.offset).take i.size)) else l[fd.offset]?) with
          | some a => keyA f fd.type a
          | none => false)
        | _, _ => false
      | _ => false)
    | some (.array n e) => (match v, P.info? e, P.underlying e with
      | .agg l, some i, some d => Nat.beq i.size 1 && !isAggD d && Nat.beq l.length n && l.all (keyA f e)
      | _, _, _ => false)
    | _ => false
def mapAtK (x : AV) (k : Nat → List ME → Nat → Tr) : Tr := match x with
  | .map b => .rd b fun q => (match q with | .mapo es clock => k b es clock | _ => .fail)
  | _ => .fail
def entriesK (x : AV) (k : List ME → Tr) : Tr := match x with
  | .nilm => k []
  | .map b => .rd b fun q => (match q with | .mapo es _ => k es | _ => .fail)
  | _ => .fail
def findK (kt : TypeId) (key : AV) (es : List ME) (k : Option (Nat × AV) → Tr) : Tr :=
  bif' (keyD P 8 kt) (bif' (keyA P 8 kt key) (undK P kt fun d => oel (findA (eqA P 16 d) key es 0) .fail k) .fail) .fail
def lookupA (t : TypeId) (x ix : AV) (ok : Bool) (k : AV → Tr) : Tr := undK P t fun d => match d with
  | .map kt e => entriesK x fun es => findK P kt ix es fun r => (match r with
        | some (_, v) => bif' ok (k (.tup [v, .bool true])) (k v)
        | none => zeroK P e fun z => bif' ok (k (.tup [z, .bool false])) (k z))
  | _ => .fail
def setME (es : List ME) (i : Nat) (key v : AV) : List ME := match es[i]? with
  | some (.mk _ _ n) => es.set i (.mk key v n)
  | none => es
def forceM (l : List ME) (k : List ME → Tr) : Tr := List.rec (motive := fun _ => (List ME → Tr) → Tr) (fun k => k []) (fun a _ ih k => ih fun l => k (a :: l)) l k
def mapUpdateA (t : TypeId) (x key v : AV) (k : Tr) : Tr := undK P t fun d => match d with
  | .map kt e => mapAtK x fun b es clock => findK P kt key es fun r => (match r with
      | some (i, _) => (match es[i]? with
        | some (.mk old _ _) => bif' (sameA 8 old key) (forceM (setME es i key v) fun es => .wr b (.mapo es clock) k) .fail
        | none => .fail)
      | none => forceM (es ++ [.mk key v clock]) fun es => fN (Nat.succ clock) fun c => .wr b (.mapo es c) k)
  | _ => .fail
def mapEntryA (t : TypeId) (x key : AV) (k : AV → Tr) : Tr := undK P t fun d => match d with
  | .map kt e => mapAtK x fun b es clock => findK P kt key es fun r => (match r with
      | some (i, v) => (match es[i]? with
        | some (.mk old _ n) => bif' (sameA 8 old key) (forceM (setME es i key v) fun es => .wr b (.mapo es clock) (k (.tup [v, .int .i64 (.ofNat n)]))) .fail
        | none => .fail)
      | none => zeroK P e fun z => forceM (es ++ [.mk key z clock]) fun es => fN (Nat.succ clock) fun c => .wr b (.mapo es c) (k (.tup [z, .int .i64 (.ofNat clock)])))
  | _ => .fail
def setBorn (n : Nat) (v : AV) : List ME → Option (List ME)
  | [] => none
  | .mk a b m :: es => if m = n then some (.mk a v m :: es) else (match setBorn n v es with | some l => some (.mk a b m :: l) | none => none)
def entryStoreA (x stamp v : AV) (k : Tr) : Tr := asIntK stamp fun _ s => natK s fun n => mapAtK x fun b es clock =>
  oel (setBorn n v es) .fail fun es => .wr b (.mapo es clock) k
def eraseAt : List ME → Nat → List ME
  | [], _ => []
  | _ :: es, 0 => es
  | e :: es, i + 1 => e :: eraseAt es i
def deleteA (tys : Array TypeId) (args : List AV) (k : AV → Tr) : Tr := match tys[0]?, args with
  | some t, [x, key] => undK P t fun d => (match d with
    | .map kt e => mapAtK x fun b es clock => findK P kt key es fun r => (match r with
        | some (i, _) => forceM (eraseAt es i) fun es => .wr b (.mapo es clock) (k (.tup []))
        | none => .wr b (.mapo es clock) (k (.tup [])))
    | _ => .fail)
  | _, _ => .fail
def rangeA (t : TypeId) (x : AV) (k : AV → Tr) : Tr := undK P t fun d => match d, x with
  | .string, .str s => .new (.siter s 0) fun b => k (.ptr b 0 0)
  | .map _ _, .nilm => .new (.miter none 0 [] 0) fun b => k (.ptr b 0 0)
  | .map _ _, .map m => .rd m fun q => (match q with | .mapo _ clock => .new (.miter (some m) clock [] clock) fun b => k (.ptr b 0 0) | _ => .fail)
  | _, _ => .fail
def bornIn (l : List Nat) (n : Nat) : Bool := List.rec (motive := fun _ => Bool) false (fun a _ ih => bif' (Nat.beq a n) true ih) l
def leftA (seen : List Nat) (since : Nat) : List ME → Option (List ME)
  | [] => some []
  | .mk a v n :: es => if n < since then (match leftA seen since es with | some l => some (bif' (bornIn seen n) l (.mk a v n :: l)) | none => none) else none
def nextA (it : AV) (isStr : Bool) (k : AV → Tr) : Tr := match it with
  | .ptr b 0 0 => .rd b fun q => (match q, isStr with
    | .siter s pos, true => bif' (Nat.ble (Nat.succ pos) s.length)
        (match s[pos]? with
          | some c => bif' (Nat.ble c 127) (fN (Nat.succ pos) fun p => .wr b (.siter s p) (k (.tup [.bool true, .int .i64 (.ofNat pos), .int .i32 (.ofNat c)]))) .fail
          | none => .fail) (k (.tup [.bool false]))
    | .miter none _ _ _, false => k (.tup [.bool false])
    | .miter (some m) since seen stepped, false => .rd m fun q => (match q with
      | .mapo es clock => bif' (Nat.ble since stepped) (oel (leftA seen since es) .fail fun left => (match left with
        | [] => k (.tup [.bool false])
        | _ => .pick left.length fun i => oel left[i]? .fail fun e => (match e with
          | .mk key v n => .wr b (.miter (some m) since (seen ++ [n]) clock) (k (.tup [.bool true, key, v]))))) .fail
      | _ => .fail)
    | _, _ => .fail)
  | _ => .fail
def lastN : List Nat → Option Nat
  | [] => none
  | [a] => some a
  | _ :: l => lastN l
def findBorn (n : Nat) : List ME → Option (AV × AV)
  | [] => none
  | .mk a v m :: es => if m = n then some (a, v) else findBorn n es
def entryA (it : AV) (k : AV → Tr) : Tr := match it with
  | .ptr b 0 0 => .rd b fun q => (match q with
    | .miter (some m) _ seen stepped => oel (lastN seen) .fail fun n => .rd m fun q => (match q with
      | .mapo es clock => bif' (Nat.beq clock stepped) (oel (findBorn n es) .fail fun p => k (.tup [p.1, p.2])) .fail
      | _ => .fail)
    | _ => .fail)
  | _ => .fail
def typeAssertA (x : AV) (t : TypeId) (ok : Bool) (k : AV → Tr) : Tr := undK P t fun d => match d, x with
  | .interface _, _ => .fail
  | _, .iface u v => bif' (Nat.beq u t) (bif' ok (k (.tup [v, .bool true])) (k v)) (bif' ok (zeroK P t fun z => k (.tup [z, .bool false])) .fail)
  | _, .nili => bif' ok (zeroK P t fun z => k (.tup [z, .bool false])) .fail
  | _, _ => .fail
def nilCheckA (x : AV) (k : AV → Tr) : Tr := match x with
  | .ptr b g o => k (.ptr b g o)
  | .func (.func f) l m => k (.func (.func f) l m)
  | .func (.yield f) l m => k (.func (.yield f) l m)
  | _ => .fail
def ltI (a b : Int) : Bool := match a, b with
  | .ofNat a, .ofNat b => Nat.ble (Nat.succ a) b
  | a, b => decide (a < b)
def minMaxGo (mx : Bool) : List AV → AV → (AV → Tr) → Tr
  | [], x, k => k x
  | y :: rest, x, k => (match x, y with
    | .int j a, .int j' b => bif' (decide (j = j')) (bif' (bif' mx (ltI a b) (ltI b a)) (minMaxGo mx rest (.int j b) k) (minMaxGo mx rest (.int j a) k)) .fail
    | _, _ => .fail)
def minMaxA (mx : Bool) (l : List AV) (k : AV → Tr) : Tr := match l with
  | [] => .fail
  | x :: rest => minMaxGo mx rest x k
abbrev Enter := Nat → List AV → (AV → Tr) → Tr
def builtinA (b : Builtin) (tys : Array TypeId) (args : List AV) (k : AV → Tr) : Tr := match b with
  | .append => appendA P tys args k
  | .len => lenOfA P tys args k
  | .unsafeString => ustrA P tys args k
  | .unsafeSliceData => sliceDataA args k
  | .copy => copyA P tys args k
  | .delete => deleteA P tys args k
  | .max => minMaxA true args k
  | .min => minMaxA false args k
  | _ => .fail
def isExt (f : Nat) : Bool := match P.funcs[f]? with
  | some fn => (match fn.body with
    | none => decide (fn.origin = "")
    | some _ => false)
  | none => false
def add64S (a b c : AV) (k : AV → Tr) : Tr := match numS a, numS b, numS c with
  | some (_, x), some (_, y), some (_, z) => .req (0 ≤ x ∧ 0 ≤ y ∧ 0 ≤ z ∧ z ≤ 1) (k (.tup [.sI .u64 ((x + y + z) % 18446744073709551616), .sI .u64 ((x + y + z) / 18446744073709551616)]))
  | _, _, _ => .fail
def sub64S (a b c : AV) (k : AV → Tr) : Tr := match numS a, numS b, numS c with
  | some (_, x), some (_, y), some (_, z) => .req (0 ≤ x ∧ 0 ≤ y ∧ y < 18446744073709551616 ∧ 0 ≤ z ∧ z ≤ 1) (.ask (x < y + z) (k (.tup [.sI .u64 ((x + 18446744073709551616 - y - z) % 18446744073709551616), .sI .u64 1])) (k (.tup [.sI .u64 ((x + 18446744073709551616 - y - z) % 18446744073709551616), .sI .u64 0])))
  | _, _, _ => .fail
def add64A (args : List AV) (k : AV → Tr) : Tr := match args with
  | [.int _ x, .int _ y, .int _ c] => bif' (Nat.ble c.toNat 1) (fN (Nat.add (Nat.add x.toNat y.toNat) c.toNat) fun s => fN (Nat.mod s 18446744073709551616) fun a => fN (Nat.div s 18446744073709551616) fun b => k (.tup [.int .u64 (.ofNat a), .int .u64 (.ofNat b)])) .fail
  | [a, b, c] => add64S a b c k
  | _ => .fail
def sub64A (args : List AV) (k : AV → Tr) : Tr := match args with
  | [.int _ x, .int _ y, .int _ c] => bif' (Nat.ble c.toNat 1) (fN (Nat.mod (Nat.sub (Nat.sub (Nat.add x.toNat 18446744073709551616) y.toNat) c.toNat) 18446744073709551616) fun a => fN (bif' (Nat.ble (Nat.succ x.toNat) (Nat.add y.toNat c.toNat)) 1 0) fun b => k (.tup [.int .u64 (.ofNat a), .int .u64 (.ofNat b)])) .fail
  | [a, b, c] => sub64S a b c k
  | _ => .fail
def extA (i : Nat) (args : List AV) (k : AV → Tr) : Tr := match P.funcs[i]? with
  | some fn => bif' (decide (fn.name = "internal/abi.NoEscape")) (match args with | [x] => k x | _ => .fail)
    (bif' (decide (fn.name = "math/bits.Add64")) (add64A args k)
    (bif' (decide (fn.name = "math/bits.Sub64")) (sub64A args k) .fail))
  | none => .fail
def callA (en : Enter) (rn : Enter) (f : AV) (args : List AV) (k : AV → Tr) : Tr := match f with
  | .func (.func i) first cap => bif' (isExt P i) (extA P i (first ++ args ++ cap) k) (en i (first ++ args ++ cap) k)
  | .func (.yield l) first cap => rn l (first ++ args) k
  | _ => .fail
def skipK (k : AV → Tr) : Tr := k (.tup [])
def opA (en rn : Enter) (env : T AV) (op : Op) (k : AV → Tr) : Tr := match op with
  | .move x => evK env x k
  | .assign x => evK env x k
  | .pick c a b => evK env c fun c => asBoolK c fun c => bif' c (evK env a k) (evK env b k)
  | .alloc t => zeroK P t fun z => newVarK t z k
  | .box t x => evK env x fun v => newVarK t v k
  | .build t ps => evPartsK env ps.toList fun l => buildA P t l k
  | .buildSlice t n ps => evPartsK env ps.toList fun l => buildSliceA P t n l k
  | .load t a => evK env a fun a => loadK P t a k
  | .store t a v => evK env a fun a => evK env v fun v => storeK P t a v (skipK k)
  | .nilCheck x => evK env x fun x => nilCheckA x k
  | .binOp op t x y _ => evK env x fun a => evK env y fun b => binOpA P (bif' (isLit x) true (isLit y)) op t a b k
  | .unOp op _ x => evK env x fun x => unOpA op x k
  | .convert s d x => evK env x fun x => convA P s d x k
  | .makeInterface t x => evK env x fun x => mkIfaceA P t x k
  | .makeFunc fn first cap => bif' (notYield fn) (evsK env first.toList fun a => evsK env cap.toList fun b => k (.func fn a b)) .fail
  | .makeMap t r => (match r with
    | none => .new (.mapo [] 0) fun b => k (.map b)
    | some x => undK P t fun d => (match d with | .map _ _ => evK env x fun v => asIntK v fun _ _ => .new (.mapo [] 0) fun b => k (.map b) | _ => .fail))
  | .makeSlice t l c => evK env l fun l => evK env c fun c => makeSliceA P t l c k
  | .slice t x lo hi mx => evK env x fun x => evoK env lo fun lo => evoK env hi fun hi => evoK env mx fun mx => sliceA P t x lo hi mx k
  | .fieldAddr t x f => evK env x fun x => fieldAddrA P t x f k
  | .field t x f => evK env x fun x => fieldA P t x f k
  | .indexAddr t x i => evK env x fun x => evK env i fun i => indexAddrA P t x i k
  | .index t x i => evK env x fun x => evK env i fun i => indexA P t x i k
  | .lookup t x i ok => evK env x fun x => evK env i fun i => lookupA P t x i ok k
  | .mapUpdate t m i v => evK env m fun m => evK env i fun i => evK env v fun v => mapUpdateA P t m i v (skipK k)
  | .insert t m i v => evK env m fun m => evK env i fun i => evK env v fun v => mapUpdateA P t m i v (skipK k)
  | .mapEntry t m i => evK env m fun m => evK env i fun i => mapEntryA P t m i k
  | .entryStore _ m s v => evK env m fun m => evK env s fun s => evK env v fun v => entryStoreA m s v (skipK k)
  | .range t x => evK env x fun x => rangeA P t x k
  | .next it s => evK env it fun it => nextA it s k
  | .entry it => evK env it fun it => entryA it k
  | .typeAssert x _ t ok => evK env x fun x => typeAssertA P x t ok k
  | .extract t i => evK env t fun t => extractA t i k
  | .call c => (match c.callee with
    | .builtin b => evsK env c.args.toList fun l => builtinA P b c.argTypes l k
    | .value f => evK env f fun f => evsK env c.args.toList fun l => callA P en rn f l k
    | .invoke _ _ => .fail)
  | _ => .fail
inductive AEx where
  | normal
  | exit (id : Nat)
  | goto (l : Nat)
  | ret
abbrev XK := AEx → T AV → List Nat → Tr
abbrev X := Code → T AV → Nat → Nat → Option Nat → List Nat → XK → Tr
def putK (nt : Nat) (dst : Option Nat) (v : AV) (env : T AV) (k : T AV → Tr) : Tr := match dst with
  | none => k env
  | some d => bif' (Nat.ble (Nat.succ d) nt) (T.setK env d v k) .fail
def wanted0K (ops : Array Oper) (env : T AV) (o : Oper) (yes no : Tr) : Tr := match o.guard with
  | none => yes
  | some (j, want) => (match ops[j]? with
    | some oj => (match oj.dst with
      | some d => T.getK env d .fail fun v => (match v with | .bool b => bif' (b == want) yes no | .sB p => bif' want (.ask p yes no) (.ask p no yes) | .tup _ => no | _ => .fail)
      | none => .fail)
    | none => .fail)
def wantedK (ops : Array Oper) (env : T AV) (o : Oper) (yes no : T AV → Tr) : Tr := match o.guard with
  | none => yes env
  | some (j, want) => (match ops[j]? with
    | some oj => (match oj.dst with
      | some d => T.getK env d .fail fun v => (match v with
        | .bool b => bif' (b == want) (yes env) (no env)
        | .sB p => .ask p (T.setK env d (.bool true) fun env => bif' want (yes env) (no env)) (T.setK env d (.bool false) fun env => bif' want (no env) (yes env))
        | .tup _ => no env
        | _ => .fail)
      | none => .fail)
    | none => .fail)
def opsK (en rn : Enter) (nt : Nat) (ops : Array Oper) (l : List Oper) (env : T AV) (k : T AV → Tr) : Tr :=
  List.rec (motive := fun _ => T AV → (T AV → Tr) → Tr) (fun env k => k env) (fun o _ ih env k =>
    wantedK ops env o (fun env => opA P en rn env o.op fun v => putK nt o.dst v env fun env => ih env k) (fun env => putK nt o.dst (.tup []) env fun env => ih env k)) l env k
inductive Note where
  | mk (c c' : Nat) (t : T Unit) (w : List Nat)
def noneIn (t : T Unit) (l : List Nat) : Bool := List.rec (motive := fun _ => Bool) true (fun b _ ih => T.getK t b ih fun _ => false) l
def noneBetween (c c' : Nat) (l : List Nat) : Bool := List.rec (motive := fun _ => Bool) true (fun b _ ih => bif' (Nat.ble c b) (bif' (Nat.ble (Nat.succ b) c') false ih) ih) l
def noConf (a b : Note) : Bool := match a, b with
  | .mk c c' t w, .mk d d' u v => bif' (noneIn u w) (bif' (noneIn t v) (bif' (noneBetween c c' (T.keys u id [])) (bif' (noneBetween c c' v) true false) false) false) false
def befL : List Oper → List Nat → List Nat
  | [], acc => acc
  | o :: l, acc => befL l (acc ++ [o.after.toList.foldl (fun s e => if Region.binds .any e then s ||| 2 ^ e.on ||| acc.getD e.on 0 else s) 0])
def looks (ops : Array Oper) (o : Oper) : List Nat :=
  o.op.operands.toList.filterMap (fun | .tmp t => some t | _ => none) ++ (match o.guard with | some (j, _) => (match ops[j]? with | some oj => oj.dst.toList | none => []) | none => [])
def apartB (ops : Array Oper) (a b : Oper) : Bool :=
  (match a.dst with | some d => !(looks ops b).contains d | none => true) && (match b.dst with | some d => !(looks ops a).contains d | none => true) && (match a.dst, b.dst with | some d, some e => d != e | _, _ => true)
def tmpsOk (ops : Array Oper) : Bool :=
  let bs := befL ops.toList []
  ops.toList.zipIdx.all fun (o, j) => o.after.toList.all (fun e => !Region.binds .any e || decide (e.on < j)) && (ops.toList.zipIdx.all fun (p, i) => !(decide (i < j)) || (bs.getD j 0).testBit i || apartB ops p o)
def confOk (bs : List Nat) : List (Nat × Note) → Bool
  | [] => true
  | (j, b) :: l => bif' (l.all fun (i, a) => bif' ((bs.getD j 0).testBit i) true (noConf a b)) (confOk bs l) false
def drawK (en rn : Enter) (nt : Nat) (ops : Array Oper) (l : List Oper) (i : Nat) (env : T AV) (ns : List (Nat × Note)) (k : T AV → Tr) : Tr :=
  List.rec (motive := fun _ => Nat → T AV → List (Nat × Note) → (T AV → Tr) → Tr) (fun _ env ns k => bif' (confOk (befL ops.toList []) ns) (k env) .fail) (fun o _ ih i env ns k =>
    .sub (wanted0K ops env o (opA P en rn env o.op .ret) (.ret (.tup []))) fun v c c' t w => putK nt o.dst v env fun env => fN (Nat.succ i) fun i' => ih i' env ((i, .mk c c' t w) :: ns) k) l i env ns k
def argsT (l : List AV) (i : Nat) (t : T AV) (k : T AV → Tr) : Tr :=
  List.rec (motive := fun _ => Nat → T AV → (T AV → Tr) → Tr) (fun _ t k => k t) (fun a _ ih i t k => T.setK t i a fun t => fN (Nat.succ i) fun i => ih i t k) l i t k
def resK (env : T AV) (l : List ResultVar) (k : List AV → Tr) : Tr :=
  List.rec (motive := fun _ => (List AV → Tr) → Tr) (fun k => k []) (fun r _ ih k => (match r with
    | .tmp t => T.getK env t .fail fun v => ih fun l => k (v :: l)
    | .cell a t => T.getK env a .fail fun p => loadK P t p fun v => ih fun l => k (v :: l))) l k
def leaveK (df : List Nat) (k : Tr) : Tr :=
  List.rec (motive := fun _ => Tr → Tr) (fun k => k) (fun b _ ih k => .rd b fun q => (match q with | .dfr true => .wr b (.dfr false) (ih k) | _ => .fail)) df k
def callF (x : X) : Enter := fun f args k => oel P.funcs[f]? .fail fun fn => oel fn.body .fail fun c =>
  bif' (decide (fn.name = "runtime.NumGoroutine")) .fail (bif' (Nat.ble args.length fn.ntmps) (argsT args 0 .leaf fun env => x c env fn.ntmps f none [] fun ex env df =>
    (match ex with
    | .normal | .ret => leaveK df (resK P env fn.results.toList fun l => (match l with | [v] => k v | l => k (.tup l)))
    | _ => .fail)) .fail)
def setPs (l : List Nat) (vs : List AV) (nt : Nat) (t : T AV) (k : T AV → Tr) : Tr := match l, vs with
  | [], [] => k t
  | p :: l, v :: vs => bif' (Nat.ble (Nat.succ p) nt) (T.setK t p v fun t => setPs l vs nt t k) .fail
  | _, _ => .fail
def endRoundK (l : Nat) (jump : Option Code) (k : AV → Tr) : Tr := .rd l fun q => match q with
  | .loop _ _ fn nt tmps ps as bd d => .wr l (.loop (match jump with | none => .ready | some _ => .done) jump fn nt tmps ps as bd d) (k (.bool (match jump with | none => true | some _ => false)))
  | _ => .fail
def roundF (x : X) : Enter := fun l args k => .rd l fun q => match q with
  | .loop _ _ fn nt tmps ps as bd d => setPs ps args nt tmps fun env => x as env nt fn (some l) [] fun ex env df => (match ex, df with
    | .normal, [] => .rd l fun q => (match q with
      | .loop .ready jump fn nt' tmps ps as' bd' d => .wr l (.loop .busy jump fn nt' tmps ps as' bd' d) (x bd env nt fn (some l) [] fun ex env df => (match df with
        | [] => (match ex with
          | .normal => endRoundK l none k
          | .ret => endRoundK l (some .ret) k
          | .exit id => endRoundK l (some (.exit id)) k
          | .goto t => endRoundK l (some (.goto t)) k)
        | _ => .fail))
      | _ => .fail)
    | _, _ => .fail)
  | _ => .fail
def enterLoopK (fn nt : Nat) (tmps : T AV) (ps : List Nat) (as bd : Code) (rnd : Option Nat) (df : List Nat) (k : Nat → List Nat → Tr) : Tr := match rnd with
  | none => .new (.dfr true) fun d => .new (.loop .ready none fn nt tmps ps as bd d) fun l => k l (d :: df)
  | some _ => .fail
def rangeF (x : X) (g : AV) (l : Nat) (k : Tr → Tr) (go : Code → Tr) (z : Tr) : Tr :=
  match g with
  | .func (.func i) first cap => callF P x i (first ++ [.func (.yield l) [] []] ++ cap) fun _ => .rd l fun q => (match q with
    | .loop st jump fn nt tmps ps as bd d => (match st with
      | .busy => .fail
      | _ => .wr l (.loop .exhausted jump fn nt tmps ps as bd d) (match jump with | none => z | some c => go c))
    | _ => .fail)
  | _ => .fail
inductive Memo where
  | mk (f : Nat) (ty : Option Nat) (arg : List Nat) (res : AV)
def memF (f : Nat) (l : List Memo) : Bool := List.rec (motive := fun _ => Bool) false (fun m _ ih => match m with | .mk g _ _ _ => bif' (Nat.beq f g) true ih) l
def sameTy (a b : Option Nat) : Bool := match a, b with
  | none, none => true
  | some a, some b => Nat.beq a b
  | _, _ => false
def memGet (f : Nat) (ty : Option Nat) (arg : List Nat) (l : List Memo) : Option AV := List.rec (motive := fun _ => Option AV) none (fun m _ ih => match m with
  | .mk g u a r => bif' (Nat.beq f g) (bif' (sameTy ty u) (bif' (eqL arg a) (some r) ih) ih) ih) l
def textF (f : Nat) : Bool := match P.funcs[f]? with
  | some fn => (match fn.body with | some _ => !decide (fn.name = "runtime.NumGoroutine") | none => false)
  | none => false
def memA (M : List Memo) (f : Nat) (a : AV) (k : AV → Tr) (z : Tr) : Tr := match a with
  | .slc b g o n none es => bif' (Nat.beq o 0) (bif' (Nat.beq es 1) (.rd b fun q => (match q with
    | .cells c gen lo _ _ _ _ ty => bif' (Nat.beq lo 0) (bif' (Nat.ble g gen) (bif' (Nat.ble 1 n) (ldsK c g n 0 fun l => oel (u8L l) .fail fun bs => oel (memGet f (some ty) bs M) z fun r => bif' (textF P f) (k r) .fail) .fail) .fail) .fail
    | _ => .fail)) z) z
  | .str s => oel (memGet f none s M) z fun r => bif' (textF P f) (k r) .fail
  | _ => z
def callM (M : List Memo) (en : Enter) : Enter := fun f args k => bif' (memF f M) (match args with | [a] => memA P M f a k (en f args k) | [] => oel (memGet f (some 0) [] M) (en f args k) fun r => bif' (textF P f) (k r) .fail | _ => en f args k) (en f args k)
structure Tab where
  memos : List Memo
  con : Nat → List AV → Option ((AV → Tr) → Tr)
  blk : Nat → Nat → Option (Nat → T AV → (AEx → T AV → Tr) → Tr)
def Tab.of (l : List Memo) : Tab := ⟨l, fun _ _ => none, fun _ _ => none⟩
def callT (M : Tab) (en : Enter) : Enter := fun f args k => oel (M.con f args) (callM P M.memos en f args k) fun t => t k
def jumpC (c : Code) : Bool := match c with | .ret => true | .exit _ => true | .goto _ => true | _ => false
variable (M : Tab)
def FX (x : X) : X := fun c env nt fn rnd df k => match c with
  | .skip => k .normal env df
  | .label _ => k .normal env df
  | .ret => k .ret env df
  | .exit id => k (.exit id) env df
  | .goto l => k (.goto l) env df
  | .region _ ops draw => bif' draw (bif' (P.follows .mixedOrders) (bif' (Nat.ble nt 1000000000) (bif' (tmpsOk ops) (drawK P (callT P M (callF P x)) (roundF x) nt ops ops.toList 0 env [] fun env => k .normal env df) .fail) .fail) .fail)
      (opsK P (callT P M (callF P x)) (roundF x) nt ops ops.toList env fun env => k .normal env df)
  | .seq a b => x a env nt fn rnd df fun ex env df => (match ex with
    | .normal => x b env nt fn rnd df k
    | ex => k ex env df)
  | .cond c a b => evK env c fun v => condK v (x a env nt fn rnd df k) (x b env nt fn rnd df k)
  | .block id c => oel (match rnd, df with | none, [] => M.blk fn id | _, _ => none) (x c env nt fn rnd df fun ex env df => (match ex with
    | .exit id' => bif' (Nat.beq id' id) (k .normal env df) (k (.exit id') env df)
    | ex => k ex env df)) fun t => t nt env fun ex env => k ex env df
  | .loop c => x c env nt fn rnd df fun ex env df => (match ex with
    | .normal => x (.loop c) env nt fn rnd df k
    | ex => k ex env df)
  | .rangeFunc g ps as bd => enterLoopK fn nt env ps.toList as bd rnd df fun l df => evK env g fun g =>
      rangeF P x g l id (fun c => bif' (jumpC c) (x c env nt fn rnd df k) .fail) (k .normal env df)
  | _ => .fail
def exec (n : Nat) : X := Nat.rec (motive := fun _ => X) (fun _ _ _ _ _ _ _ => .fail) (fun _ x => FX P M x) n
def start (H : T ABlk) (next : Nat) : St := .mk H next 0 .leaf []
def runsMemo0 (fuel f : Nat) (res : AV) : Bool :=
  run (callF P (exec P M fuel) f [] .ret) (start .leaf 1) fun v _ => sameA 8 v res
end
end Go.Sym
