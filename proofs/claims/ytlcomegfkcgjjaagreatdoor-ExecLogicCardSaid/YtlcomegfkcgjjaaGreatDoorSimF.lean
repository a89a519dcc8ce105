/-
  SIM, part F: maps, iterators; an operation; a function's text. (Definitions alone.)
-/
import Derived.Test.YtlcomegfkcgjjaaGreatDoorSimE
namespace Go.Sim
set_option linter.unusedVariables false
noncomputable section

variable (P : Program)
/-! ### Maps -/
/-- Keys that are plain, and one to the bit where they are equal. -/
def sameA : Nat → AV → AV → Bool
  | 0, _, _ => false
  | f + 1, x, y => match x, y with
    | .bool a, .bool b => a == b
    | .int j a, .int j' b => bif' (decide (j = j')) (a == b) false
    | .str a, .str b => eqL a b
    | .agg a, .agg b => sameAll (sameA f) a b
    | _, _ => false
where
  sameAll (q : AV → AV → Bool) : List AV → List AV → Bool
    | [], [] => true
    | a :: x, b :: y => bif' (q a b) (sameAll q x y) false
    | _, _ => false
def findA (q : AV → AV → Option Bool) (key : AV) : List ME → Nat → Option (Option (Nat × AV))
  | [], _ => some none
  | .mk k v _ :: es, i => match q key k with
    | some true => some (some (i, v))
    | some false => findA q key es (i + 1)
    | none => none
/-- Types whose values may be keys here. -/
def keyD : Nat → TypeId → Bool
  | 0, _ => false
  | f + 1, t => match P.underlying t with
    | some .bool | some (.int _) | some .string => true
    | some (.struct fs) => !P.stoodInHeld t && fs.toList.all fun fd => fd.name != "_" && keyD f fd.type
    | some (.array _ e) => keyD f e
    | _ => false
/-- A key that is of its type's shape. -/
def keyA : Nat → TypeId → AV → Bool
  | 0, _, _ => false
  | f + 1, t, v => match P.underlying t with
    | some .bool | some (.int _) | some .string => true
    | some (.struct fs) => (match v with
      | .agg l => fs.toList.all fun fd => match P.info? fd.type, P.underlying fd.type with
        | some i, some d => (match (if isAggD d then some (AV.agg ((l.drop fd.offset).take i.size)) else l[fd.offset]?) with
          | some a => keyA f fd.type a
          | none => false)
        | _, _ => false
      | _ => false)
    | some (.array n e) => (match v, P.info? e, P.underlying e with
      | .agg l, some i, some d => Nat.beq i.size 1 && !isAggD d && Nat.beq l.length n && l.all (keyA f e)
      | _, _, _ => false)
    | _ => false
def mapAtK (x : AV) (k : Nat → List ME → Nat → Tr) : Tr := match x with
  | .map b => .rd b fun q => (match q with | .mapo es clock => k b es clock | _ => .fail)
  | _ => .fail
/-- A map's entries. -/
def entriesK (x : AV) (k : List ME → Tr) : Tr := match x with
  | .nilm => k []
  | .map b => .rd b fun q => (match q with | .mapo es _ => k es | _ => .fail)
  | _ => .fail
def findK (kt : TypeId) (key : AV) (es : List ME) (k : Option (Nat × AV) → Tr) : Tr :=
  bif' (keyD P 8 kt) (bif' (keyA P 8 kt key) (undK P kt fun d => oel (findA (eqA P 16 d) key es 0) .fail k) .fail) .fail
def lookupA (t : TypeId) (x ix : AV) (ok : Bool) (k : AV → Tr) : Tr := undK P t fun d => match d with
  | .map kt e => entriesK x fun es => findK P kt ix es fun r => (match r with
        | some (_, v) => bif' ok (k (.tup [v, .bool true])) (k v)
        | none => zeroK P e fun z => bif' ok (k (.tup [z, .bool false])) (k z))
  | _ => .fail
def setME (es : List ME) (i : Nat) (key v : AV) : List ME := match es[i]? with
  | some (.mk _ _ n) => es.set i (.mk key v n)
  | none => es
def forceM (l : List ME) (k : List ME → Tr) : Tr := List.rec (motive := fun _ => (List ME → Tr) → Tr) (fun k => k []) (fun a _ ih k => ih fun l => k (a :: l)) l k
def mapUpdateA (t : TypeId) (x key v : AV) (k : Tr) : Tr := undK P t fun d => match d with
  | .map kt e => mapAtK x fun b es clock => findK P kt key es fun r => (match r with
      | some (i, _) => (match es[i]? with
        | some (.mk old _ _) => bif' (sameA 8 old key) (forceM (setME es i key v) fun es => .wr b (.mapo es clock) k) .fail
        | none => .fail)
      | none => forceM (es ++ [.mk key v clock]) fun es => fN (Nat.succ clock) fun c => .wr b (.mapo es c) k)
  | _ => .fail
def mapEntryA (t : TypeId) (x key : AV) (k : AV → Tr) : Tr := undK P t fun d => match d with
  | .map kt e => mapAtK x fun b es clock => findK P kt key es fun r => (match r with
      | some (i, v) => (match es[i]? with
        | some (.mk old _ n) => bif' (sameA 8 old key) (forceM (setME es i key v) fun es => .wr b (.mapo es clock) (k (.tup [v, .int .i64 (.ofNat n)]))) .fail
        | none => .fail)
      | none => zeroK P e fun z => forceM (es ++ [.mk key z clock]) fun es => fN (Nat.succ clock) fun c => .wr b (.mapo es c) (k (.tup [z, .int .i64 (.ofNat clock)])))
  | _ => .fail
def setBorn (n : Nat) (v : AV) : List ME → Option (List ME)
  | [] => none
  | .mk a b m :: es => if m = n then some (.mk a v m :: es) else (match setBorn n v es with | some l => some (.mk a b m :: l) | none => none)
def entryStoreA (x stamp v : AV) (k : Tr) : Tr := asIntK stamp fun _ s => natK s fun n => mapAtK x fun b es clock =>
  oel (setBorn n v es) .fail fun es => .wr b (.mapo es clock) k
def eraseAt : List ME → Nat → List ME
  | [], _ => []
  | _ :: es, 0 => es
  | e :: es, i + 1 => e :: eraseAt es i
def deleteA (tys : Array TypeId) (args : List AV) (k : AV → Tr) : Tr := match tys[0]?, args with
  | some t, [x, key] => undK P t fun d => (match d with
    | .map kt e => mapAtK x fun b es clock => findK P kt key es fun r => (match r with
        | some (i, _) => forceM (eraseAt es i) fun es => .wr b (.mapo es clock) (k (.tup []))
        | none => .wr b (.mapo es clock) (k (.tup [])))
    | _ => .fail)
  | _, _ => .fail

/-! ### Going through -/
def rangeA (t : TypeId) (x : AV) (k : AV → Tr) : Tr := undK P t fun d => match d, x with
  | .string, .str s => .new (.siter s 0) fun b => k (.ptr b 0 0)
  | .map _ _, .nilm => .new (.miter none 0 [] 0) fun b => k (.ptr b 0 0)
  | .map _ _, .map m => .rd m fun q => (match q with | .mapo _ clock => .new (.miter (some m) clock [] clock) fun b => k (.ptr b 0 0) | _ => .fail)
  | _, _ => .fail
def bornIn (l : List Nat) (n : Nat) : Bool := List.rec (motive := fun _ => Bool) false (fun a _ ih => bif' (Nat.beq a n) true ih) l
/-- What is still to come; only where no entry is younger than the iterator. -/
def leftA (seen : List Nat) (since : Nat) : List ME → Option (List ME)
  | [] => some []
  | .mk a v n :: es => if n < since then (match leftA seen since es with | some l => some (bif' (bornIn seen n) l (.mk a v n :: l)) | none => none) else none
def nextA (it : AV) (isStr : Bool) (k : AV → Tr) : Tr := match it with
  | .ptr b 0 0 => .rd b fun q => (match q, isStr with
    | .siter s pos, true => bif' (Nat.ble (Nat.succ pos) s.length)
        (match s[pos]? with
          | some c => bif' (Nat.ble c 127) (fN (Nat.succ pos) fun p => .wr b (.siter s p) (k (.tup [.bool true, .int .i64 (.ofNat pos), .int .i32 (.ofNat c)]))) .fail
          | none => .fail) (k (.tup [.bool false]))
    | .miter none _ _ _, false => k (.tup [.bool false])
    | .miter (some m) since seen stepped, false => .rd m fun q => (match q with
      | .mapo es clock => bif' (Nat.ble since stepped) (oel (leftA seen since es) .fail fun left => (match left with
        | [] => k (.tup [.bool false])
        | _ => .pick left.length fun i => oel left[i]? .fail fun e => (match e with
          | .mk key v n => .wr b (.miter (some m) since (seen ++ [n]) clock) (k (.tup [.bool true, key, v]))))) .fail
      | _ => .fail)
    | _, _ => .fail)
  | _ => .fail
def lastN : List Nat → Option Nat
  | [] => none
  | [a] => some a
  | _ :: l => lastN l
def findBorn (n : Nat) : List ME → Option (AV × AV)
  | [] => none
  | .mk a v m :: es => if m = n then some (a, v) else findBorn n es
def entryA (it : AV) (k : AV → Tr) : Tr := match it with
  | .ptr b 0 0 => .rd b fun q => (match q with
    | .miter (some m) _ seen stepped => oel (lastN seen) .fail fun n => .rd m fun q => (match q with
      | .mapo es clock => bif' (Nat.beq clock stepped) (oel (findBorn n es) .fail fun p => k (.tup [p.1, p.2])) .fail
      | _ => .fail)
    | _ => .fail)
  | _ => .fail

/-! ### Interfaces -/
def typeAssertA (x : AV) (t : TypeId) (ok : Bool) (k : AV → Tr) : Tr := undK P t fun d => match d, x with
  | .interface _, _ => .fail
  | _, .iface u v => bif' (Nat.beq u t) (bif' ok (k (.tup [v, .bool true])) (k v)) (bif' ok (zeroK P t fun z => k (.tup [z, .bool false])) .fail)
  | _, .nili => bif' ok (zeroK P t fun z => k (.tup [z, .bool false])) .fail
  | _, _ => .fail
def nilCheckA (x : AV) (k : AV → Tr) : Tr := match x with
  | .ptr b g o => k (.ptr b g o)
  | .func (.func f) l m => k (.func (.func f) l m)
  | .func (.yield f) l m => k (.func (.yield f) l m)
  | _ => .fail
def ltI (a b : Int) : Bool := match a, b with
  | .ofNat a, .ofNat b => Nat.ble (Nat.succ a) b
  | a, b => decide (a < b)
def minMaxGo (mx : Bool) : List AV → AV → (AV → Tr) → Tr
  | [], x, k => k x
  | y :: rest, x, k => (match x, y with
    | .int j a, .int j' b => bif' (decide (j = j')) (bif' (bif' mx (ltI a b) (ltI b a)) (minMaxGo mx rest (.int j b) k) (minMaxGo mx rest (.int j a) k)) .fail
    | _, _ => .fail)
def minMaxA (mx : Bool) (l : List AV) (k : AV → Tr) : Tr := match l with
  | [] => .fail
  | x :: rest => minMaxGo mx rest x k

/-! ### An operation -/
/-- What a call of a function does, where it is said elsewhere. -/
abbrev Enter := Nat → List AV → (AV → Tr) → Tr

def builtinA (b : Builtin) (tys : Array TypeId) (args : List AV) (k : AV → Tr) : Tr := match b with
  | .append => appendA P tys args k
  | .len => lenOfA P tys args k
  | .unsafeString => ustrA P tys args k
  | .unsafeSliceData => sliceDataA args k
  | .copy => copyA P tys args k
  | .delete => deleteA P tys args k
  | .max => minMaxA true args k
  | .min => minMaxA false args k
  | _ => .fail
/-- The functions without a text that are taken here. -/
def isExt (f : Nat) : Bool := match P.funcs[f]? with
  | some fn => (match fn.body with
    | none => decide (fn.origin = "")
    | some _ => false)
  | none => false
def add64A (args : List AV) (k : AV → Tr) : Tr := match args with
  | [.int _ x, .int _ y, .int _ c] => bif' (Nat.ble c.toNat 1) (fN (Nat.add (Nat.add x.toNat y.toNat) c.toNat) fun s => fN (Nat.mod s 18446744073709551616) fun a => fN (Nat.div s 18446744073709551616) fun b => k (.tup [.int .u64 (.ofNat a), .int .u64 (.ofNat b)])) .fail
  | _ => .fail
def sub64A (args : List AV) (k : AV → Tr) : Tr := match args with
  | [.int _ x, .int _ y, .int _ c] => bif' (Nat.ble c.toNat 1) (fN (Nat.mod (Nat.sub (Nat.sub (Nat.add x.toNat 18446744073709551616) y.toNat) c.toNat) 18446744073709551616) fun a => fN (bif' (Nat.ble (Nat.succ x.toNat) (Nat.add y.toNat c.toNat)) 1 0) fun b => k (.tup [.int .u64 (.ofNat a), .int .u64 (.ofNat b)])) .fail
  | _ => .fail
def extA (i : Nat) (args : List AV) (k : AV → Tr) : Tr := match P.funcs[i]? with
  | some fn => bif' (decide (fn.name = "internal/abi.NoEscape")) (match args with | [x] => k x | _ => .fail)
    (bif' (decide (fn.name = "math/bits.Add64")) (add64A args k)
    (bif' (decide (fn.name = "math/bits.Sub64")) (sub64A args k) .fail))
  | none => .fail
def callA (en : Enter) (rn : Enter) (f : AV) (args : List AV) (k : AV → Tr) : Tr := match f with
  | .func (.func i) first cap => bif' (isExt P i) (extA P i (first ++ args ++ cap) k) (en i (first ++ args ++ cap) k)
  | .func (.yield l) first cap => rn l (first ++ args) k
  | _ => .fail
def skipK (k : AV → Tr) : Tr := k (.tup [])
def opA (en rn : Enter) (env : T AV) (op : Op) (k : AV → Tr) : Tr := match op with
  | .move x => evK env x k
  | .assign x => evK env x k
  | .pick c a b => evK env c fun c => asBoolK c fun c => bif' c (evK env a k) (evK env b k)
  | .alloc t => zeroK P t fun z => newVarK t z k
  | .box t x => evK env x fun v => newVarK t v k
  | .build t ps => evPartsK env ps.toList fun l => buildA P t l k
  | .buildSlice t n ps => evPartsK env ps.toList fun l => buildSliceA P t n l k
  | .load t a => evK env a fun a => loadK P t a k
  | .store t a v => evK env a fun a => evK env v fun v => storeK P t a v (skipK k)
  | .nilCheck x => evK env x fun x => nilCheckA x k
  | .binOp op t x y _ => evK env x fun a => evK env y fun b => binOpA P (bif' (isLit x) true (isLit y)) op t a b k
  | .unOp op _ x => evK env x fun x => unOpA op x k
  | .convert s d x => evK env x fun x => convA P s d x k
  | .makeInterface t x => evK env x fun x => mkIfaceA P t x k
  | .makeFunc fn first cap => bif' (notYield fn) (evsK env first.toList fun a => evsK env cap.toList fun b => k (.func fn a b)) .fail
  | .makeMap t r => (match r with
    | none => .new (.mapo [] 0) fun b => k (.map b)
    | some x => undK P t fun d => (match d with | .map _ _ => evK env x fun v => asIntK v fun _ _ => .new (.mapo [] 0) fun b => k (.map b) | _ => .fail))
  | .makeSlice t l c => evK env l fun l => evK env c fun c => makeSliceA P t l c k
  | .slice t x lo hi mx => evK env x fun x => evoK env lo fun lo => evoK env hi fun hi => evoK env mx fun mx => sliceA P t x lo hi mx k
  | .fieldAddr t x f => evK env x fun x => fieldAddrA P t x f k
  | .field t x f => evK env x fun x => fieldA P t x f k
  | .indexAddr t x i => evK env x fun x => evK env i fun i => indexAddrA P t x i k
  | .index t x i => evK env x fun x => evK env i fun i => indexA P t x i k
  | .lookup t x i ok => evK env x fun x => evK env i fun i => lookupA P t x i ok k
  | .mapUpdate t m i v => evK env m fun m => evK env i fun i => evK env v fun v => mapUpdateA P t m i v (skipK k)
  | .insert t m i v => evK env m fun m => evK env i fun i => evK env v fun v => mapUpdateA P t m i v (skipK k)
  | .mapEntry t m i => evK env m fun m => evK env i fun i => mapEntryA P t m i k
  | .entryStore _ m s v => evK env m fun m => evK env s fun s => evK env v fun v => entryStoreA m s v (skipK k)
  | .range t x => evK env x fun x => rangeA P t x k
  | .next it s => evK env it fun it => nextA it s k
  | .entry it => evK env it fun it => entryA it k
  | .typeAssert x _ t ok => evK env x fun x => typeAssertA P x t ok k
  | .extract t i => evK env t fun t => extractA t i k
  | .call c => (match c.callee with
    | .builtin b => evsK env c.args.toList fun l => builtinA P b c.argTypes l k
    | .value f => evK env f fun f => evsK env c.args.toList fun l => callA P en rn f l k
    | .invoke _ _ => .fail)
  | _ => .fail

/-! ### A function's text -/
inductive AEx where
  | normal
  | exit (id : Nat)
  | goto (l : Nat)
  | ret

abbrev XK := AEx → T AV → List Nat → Tr
/-- Code, the temporaries, how many there are, the function's number, the round's record, the marks; what comes behind. -/
abbrev X := Code → T AV → Nat → Nat → Option Nat → List Nat → XK → Tr

def putK (nt : Nat) (dst : Option Nat) (v : AV) (env : T AV) (k : T AV → Tr) : Tr := match dst with
  | none => k env
  | some d => bif' (Nat.ble (Nat.succ d) nt) (T.setK env d v k) .fail
def wantedK (ops : Array Oper) (env : T AV) (o : Oper) (yes no : Tr) : Tr := match o.guard with
  | none => yes
  | some (j, want) => (match ops[j]? with
    | some oj => (match oj.dst with
      | some d => T.getK env d .fail fun v => (match v with | .bool b => bif' (b == want) yes no | .tup _ => no | _ => .fail)
      | none => .fail)
    | none => .fail)
def opsK (en rn : Enter) (nt : Nat) (ops : Array Oper) (l : List Oper) (env : T AV) (k : T AV → Tr) : Tr :=
  List.rec (motive := fun _ => T AV → (T AV → Tr) → Tr) (fun env k => k env) (fun o _ ih env k =>
    wantedK ops env o (opA P en rn env o.op fun v => putK nt o.dst v env fun env => ih env k) (putK nt o.dst (.tup []) env fun env => ih env k)) l env k

/-! A region that draws its order. -/
inductive Note where
  | mk (c c' : Nat) (t : T Unit) (w : List Nat)
def noneIn (t : T Unit) (l : List Nat) : Bool := List.rec (motive := fun _ => Bool) true (fun b _ ih => T.getK t b ih fun _ => false) l
def noneBetween (c c' : Nat) (l : List Nat) : Bool := List.rec (motive := fun _ => Bool) true (fun b _ ih => bif' (Nat.ble c b) (bif' (Nat.ble (Nat.succ b) c') false ih) ih) l
def noConf (a b : Note) : Bool := match a, b with
  | .mk c c' t w, .mk d d' u v => bif' (noneIn u w) (bif' (noneIn t v) (bif' (noneBetween c c' (T.keys u id [])) (bif' (noneBetween c c' v) true false) false) false) false
/-- Of each operation which must come ahead of it. -/
def befL : List Oper → List Nat → List Nat
  | [], acc => acc
  | o :: l, acc => befL l (acc ++ [o.after.toList.foldl (fun s e => if Region.binds .any e then s ||| 2 ^ e.on ||| acc.getD e.on 0 else s) 0])
def looks (ops : Array Oper) (o : Oper) : List Nat :=
  o.op.operands.toList.filterMap (fun | .tmp t => some t | _ => none) ++ (match o.guard with | some (j, _) => (match ops[j]? with | some oj => oj.dst.toList | none => []) | none => [])
def apartB (ops : Array Oper) (a b : Oper) : Bool :=
  (match a.dst with | some d => !(looks ops b).contains d | none => true) && (match b.dst with | some d => !(looks ops a).contains d | none => true) && (match a.dst, b.dst with | some d, some e => d != e | _, _ => true)
/-- Each two operations that neither waits for the other are apart in their temporaries; none waits for a later one. -/
def tmpsOk (ops : Array Oper) : Bool :=
  let bs := befL ops.toList []
  ops.toList.zipIdx.all fun (o, j) => o.after.toList.all (fun e => !Region.binds .any e || decide (e.on < j)) && (ops.toList.zipIdx.all fun (p, i) => !(decide (i < j)) || (bs.getD j 0).testBit i || apartB ops p o)
def confOk (bs : List Nat) : List (Nat × Note) → Bool
  | [] => true
  | (j, b) :: l => bif' (l.all fun (i, a) => bif' ((bs.getD j 0).testBit i) true (noConf a b)) (confOk bs l) false
def drawK (en rn : Enter) (nt : Nat) (ops : Array Oper) (l : List Oper) (i : Nat) (env : T AV) (ns : List (Nat × Note)) (k : T AV → Tr) : Tr :=
  List.rec (motive := fun _ => Nat → T AV → List (Nat × Note) → (T AV → Tr) → Tr) (fun _ env ns k => bif' (confOk (befL ops.toList []) ns) (k env) .fail) (fun o _ ih i env ns k =>
    .sub (wantedK ops env o (opA P en rn env o.op .ret) (.ret (.tup []))) fun v c c' t w => putK nt o.dst v env fun env => fN (Nat.succ i) fun i' => ih i' env ((i, .mk c c' t w) :: ns) k) l i env ns k

def argsT (l : List AV) (i : Nat) (t : T AV) (k : T AV → Tr) : Tr :=
  List.rec (motive := fun _ => Nat → T AV → (T AV → Tr) → Tr) (fun _ t k => k t) (fun a _ ih i t k => T.setK t i a fun t => fN (Nat.succ i) fun i => ih i t k) l i t k
def resK (env : T AV) (l : List ResultVar) (k : List AV → Tr) : Tr :=
  List.rec (motive := fun _ => (List AV → Tr) → Tr) (fun k => k []) (fun r _ ih k => (match r with
    | .tmp t => T.getK env t .fail fun v => ih fun l => k (v :: l)
    | .cell a t => T.getK env a .fail fun p => loadK P t p fun v => ih fun l => k (v :: l))) l k
/-- The marks of the ranges over functions are taken. -/
def leaveK (df : List Nat) (k : Tr) : Tr :=
  List.rec (motive := fun _ => Tr → Tr) (fun k => k) (fun b _ ih k => .rd b fun q => (match q with | .dfr true => .wr b (.dfr false) (ih k) | _ => .fail)) df k
def callF (x : X) : Enter := fun f args k => oel P.funcs[f]? .fail fun fn => oel fn.body .fail fun c =>
  bif' (decide (fn.name = "runtime.NumGoroutine")) .fail (bif' (Nat.ble args.length fn.ntmps) (argsT args 0 .leaf fun env => x c env fn.ntmps f none [] fun ex env df =>
    (match ex with
    | .normal | .ret => leaveK df (resK P env fn.results.toList fun l => (match l with | [v] => k v | l => k (.tup l)))
    | _ => .fail)) .fail)
def setPs (l : List Nat) (vs : List AV) (nt : Nat) (t : T AV) (k : T AV → Tr) : Tr := match l, vs with
  | [], [] => k t
  | p :: l, v :: vs => bif' (Nat.ble (Nat.succ p) nt) (T.setK t p v fun t => setPs l vs nt t k) .fail
  | _, _ => .fail
/-- A round of a range over a function. -/
def endRoundK (l : Nat) (jump : Option Code) (k : AV → Tr) : Tr := .rd l fun q => match q with
  | .loop _ _ fn nt tmps ps as bd d => .wr l (.loop (match jump with | none => .ready | some _ => .done) jump fn nt tmps ps as bd d) (k (.bool (match jump with | none => true | some _ => false)))
  | _ => .fail
def roundF (x : X) : Enter := fun l args k => .rd l fun q => match q with
  | .loop _ _ fn nt tmps ps as bd d => setPs ps args nt tmps fun env => x as env nt fn (some l) [] fun ex env df => (match ex, df with
    | .normal, [] => .rd l fun q => (match q with
      | .loop .ready jump fn nt' tmps ps as' bd' d => .wr l (.loop .busy jump fn nt' tmps ps as' bd' d) (x bd env nt fn (some l) [] fun ex env df => (match df with
        | [] => (match ex with
          | .normal => endRoundK l none k
          | .ret => endRoundK l (some .ret) k
          | .exit id => endRoundK l (some (.exit id)) k
          | .goto t => endRoundK l (some (.goto t)) k)
        | _ => .fail))
      | _ => .fail)
    | _, _ => .fail)
  | _ => .fail
def enterLoopK (fn nt : Nat) (tmps : T AV) (ps : List Nat) (as bd : Code) (rnd : Option Nat) (df : List Nat) (k : Nat → List Nat → Tr) : Tr := match rnd with
  | none => .new (.dfr true) fun d => .new (.loop .ready none fn nt tmps ps as bd d) fun l => k l (d :: df)
  | some _ => .fail
def rangeF (x : X) (g : AV) (l : Nat) (k : Tr → Tr) (go : Code → Tr) (z : Tr) : Tr :=
  match g with
  | .func (.func i) first cap => callF P x i (first ++ [.func (.yield l) [] []] ++ cap) fun _ => .rd l fun q => (match q with
    | .loop st jump fn nt tmps ps as bd d => (match st with
      | .busy => .fail
      | _ => .wr l (.loop .exhausted jump fn nt tmps ps as bd d) (match jump with | none => z | some c => go c))
    | _ => .fail)
  | _ => .fail

/-! What calls come to, told ahead: function, the elements' type where the argument is a slice of bytes (none: it is a string), the argument, the result. -/
inductive Memo where
  | mk (f : Nat) (ty : Option Nat) (arg : List Nat) (res : AV)
def memF (f : Nat) (l : List Memo) : Bool := List.rec (motive := fun _ => Bool) false (fun m _ ih => match m with | .mk g _ _ _ => bif' (Nat.beq f g) true ih) l
def sameTy (a b : Option Nat) : Bool := match a, b with
  | none, none => true
  | some a, some b => Nat.beq a b
  | _, _ => false
def memGet (f : Nat) (ty : Option Nat) (arg : List Nat) (l : List Memo) : Option AV := List.rec (motive := fun _ => Option AV) none (fun m _ ih => match m with
  | .mk g u a r => bif' (Nat.beq f g) (bif' (sameTy ty u) (bif' (eqL arg a) (some r) ih) ih) ih) l
def textF (f : Nat) : Bool := match P.funcs[f]? with
  | some fn => (match fn.body with | some _ => !decide (fn.name = "runtime.NumGoroutine") | none => false)
  | none => false
def memA (M : List Memo) (f : Nat) (a : AV) (k : AV → Tr) (z : Tr) : Tr := match a with
  | .slc b g o n none es => bif' (Nat.beq o 0) (bif' (Nat.beq es 1) (.rd b fun q => (match q with
    | .cells c gen lo _ _ _ _ ty => bif' (Nat.beq lo 0) (bif' (Nat.ble g gen) (bif' (Nat.ble 1 n) (ldsK c g n 0 fun l => oel (u8L l) .fail fun bs => oel (memGet f (some ty) bs M) z fun r => bif' (textF P f) (k r) .fail) .fail) .fail) .fail
    | _ => .fail)) z) z
  | .str s => oel (memGet f none s M) z fun r => bif' (textF P f) (k r) .fail
  | _ => z
def callM (M : List Memo) (en : Enter) : Enter := fun f args k => bif' (memF f M) (match args with | [a] => memA P M f a k (en f args k) | [] => oel (memGet f (some 0) [] M) (en f args k) fun r => bif' (textF P f) (k r) .fail | _ => en f args k) (en f args k)

variable (M : List Memo)
def FX (x : X) : X := fun c env nt fn rnd df k => match c with
  | .skip => k .normal env df
  | .label _ => k .normal env df
  | .ret => k .ret env df
  | .exit id => k (.exit id) env df
  | .goto l => k (.goto l) env df
  | .region _ ops draw => bif' draw (bif' (P.follows .mixedOrders) (bif' (Nat.ble nt 1000000000) (bif' (tmpsOk ops) (drawK P (callM P M (callF P x)) (roundF x) nt ops ops.toList 0 env [] fun env => k .normal env df) .fail) .fail) .fail)
      (opsK P (callM P M (callF P x)) (roundF x) nt ops ops.toList env fun env => k .normal env df)
  | .seq a b => x a env nt fn rnd df fun ex env df => (match ex with
    | .normal => x b env nt fn rnd df k
    | ex => k ex env df)
  | .cond c a b => evK env c fun v => condK v (x a env nt fn rnd df k) (x b env nt fn rnd df k)
  | .block id c => x c env nt fn rnd df fun ex env df => (match ex with
    | .exit id' => bif' (Nat.beq id' id) (k .normal env df) (k (.exit id') env df)
    | ex => k ex env df)
  | .loop c => x c env nt fn rnd df fun ex env df => (match ex with
    | .normal => x (.loop c) env nt fn rnd df k
    | ex => k ex env df)
  | .rangeFunc g ps as bd => enterLoopK fn nt env ps.toList as bd rnd df fun l df => evK env g fun g =>
      rangeF P x g l id (fun c => x c env nt fn rnd df k) (k .normal env df)
  | _ => .fail
def exec (n : Nat) : X := Nat.rec (motive := fun _ => X) (fun _ _ _ _ _ _ _ => .fail) (fun _ x => FX P M x) n

/-- The whole: a function's call, from a heap with nothing of ours. -/
def start (H : T ABlk) (next : Nat) : St := .mk H next 0 .leaf []
def runsTrue (fuel f : Nat) (args : List AV) (H : T ABlk) (next : Nat) : Bool :=
  run (callF P (exec P M fuel) f args .ret) (start H next) fun v _ => match v with | .bool true => true | _ => false


/-! Calls told ahead: run by themselves. -/
def byteRow (l : List Nat) (i : Nat) (t : T Cell) (k : T Cell → Bool) : Bool :=
  List.rec (motive := fun _ => Nat → T Cell → (T Cell → Bool) → Bool) (fun _ t k => k t) (fun a _ ih i t k => T.setK t i (.mk 0 (.int .u8 (.ofNat a))) fun t => fN (Nat.succ i) fun i => ih i t k) l i t k
def runsMemoS (fuel f : Nat) (arg : List Nat) (res : AV) : Bool :=
  run (callF P (exec P M fuel) f [.str arg] .ret) (start .leaf 1) fun v _ => sameA 8 v res
def runsMemo0 (fuel f : Nat) (res : AV) : Bool :=
  run (callF P (exec P M fuel) f [] .ret) (start .leaf 1) fun v _ => sameA 8 v res
def runsMemoB (fuel f ty : Nat) (arg : List Nat) (res : AV) : Bool :=
  byteRow arg 0 .leaf fun t => fN (List.length arg) fun n => T.singK 64 1048576 (.cells t 0 0 n 0 0 true ty) fun H =>
    run (callF P (exec P M fuel) f [.slc 1048576 0 0 n none 1] .ret) (start H 1048577) fun v _ => sameA 8 v res

end
end Go.Sim
