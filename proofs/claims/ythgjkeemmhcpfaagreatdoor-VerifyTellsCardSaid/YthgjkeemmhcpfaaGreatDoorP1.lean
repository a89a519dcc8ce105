/- Part 1. -/
import Derived.Laws.Cells
import Derived.IntWalk
import Derived.Laws.Strings
import Derived.Test.YthgjkeemmhcpfaaGreatDoorP0
set_option linter.all false
namespace Go.Sym
noncomputable section
def EP(v:AV)(k:Bool->Tr):Tr:=match v with | .bool b=>k b | .sB p=>.ask p (k true) (k false)|_=>.fail
def Uo(v:AV)(t e:Tr):Tr:=match v with
 | .bool b=>ac b t e
 | .anyB=>.pick 2 λi=>Nat.rec (motive:=λ_=>Tr) t (λ_ _=>e) i
 | .sB p=>.ask p t e
 |_=>.fail
def rF(v:AV)(k:IntKind->Int->Tr):Tr:=match v with | .int j n=>k j n|_=>.fail
def iv(v:AV)(k:List AV->Tr):Tr:=match v with | .agg l=>k l | .opq _=>.fail|v=>k [v]
def Ii(n:Int)(k:Nat->Tr):Tr:=match n with | .ofNat a=>k a | .negSucc _=>.fail
def nj(l:List Nat):List AV:=l.map λn=>.int .u8 (Int.ofNat n)
def fF(env:T AV)(x:Operand)(k:AV->Tr):Tr:=match x with
 | .tmp t=>T.getK env t .fail k
 | .const v=>cU (V6 8 v) .fail k
 | .global g=>ac (Nat.ble (Nat.succ g) 1048576) (.rd g λx=>match x with | .cells _ _ _ _ _ _ ro _=>ac ro (k (.ptr g 0 0)) .fail | .tab _ l=>k (.cptr (nj l))|_=>.fail) .fail
 | .func f=>k (.func (.func f) [] [])
def nk(env:T AV)(l:List Operand)(k:List AV->Tr):Tr:=
 List.rec (motive:=λ_=>(List AV->Tr)->Tr) (λk=>k []) (λx _ ih k=>fF env x λa=>ih λl=>k (a::l)) l k
def Ij(env:T AV)(o:Option Operand)(k:Option AV->Tr):Tr:=match o with|none=>k none|some x=>fF env x λa=>k (some a)
def gW(k:IntKind)(n:Int)(f:Int->Tr):Tr:=match k,n with
 | .i64,.ofNat a=>ac (Nat.ble a 9223372036854775807) (fN a λa=>f (.ofNat a)) (fI (IntKind.wrap .i64 n) f)
 | .u64,.ofNat a=>fN (Nat.mod a 18446744073709551616) λa=>f (.ofNat a)
 | .u32,.ofNat a=>fN (Nat.mod a 4294967296) λa=>f (.ofNat a)
 | .u8,.ofNat a=>fN (Nat.mod a 256) λa=>f (.ofNat a)
 | .u64,.negSucc a=>fN (Nat.sub 18446744073709551615 (Nat.mod a 18446744073709551616)) λa=>f (.ofNat a)
 | .u32,.negSucc a=>fN (Nat.sub 4294967295 (Nat.mod a 4294967296)) λa=>f (.ofNat a)
 | .u8,.negSucc a=>fN (Nat.sub 255 (Nat.mod a 256)) λa=>f (.ofNat a)
 | .i64,.negSucc a=>ac (Nat.ble a 9223372036854775807) (fN a λa=>f (.negSucc a)) (fI (IntKind.wrap .i64 n) f)
 |_,_=>fI (k.wrap n) f
def aj(k:IntKind):Nat:=match k with
 | .i8 | .u8=>256
 | .i16 | .u16=>65536
 | .i32 | .u32=>4294967296
 | .i64 | .u64=>18446744073709551616
def aC(m:Nat)(n:Int):Nat:=match n with
 | .ofNat a=>Nat.mod a m
 | .negSucc a=>Nat.sub (Nat.sub m 1) (Nat.mod a m)
def bo(k:IntKind):Nat:=match k with | .i8 | .u8=>8 | .i16 | .u16=>16 | .i32 | .u32=>32 | .i64 | .u64=>64
def V_(op:BinOp)(x y:Int)(k:Bool->Tr)(z:Tr):Tr:=match x,y with
 | .ofNat a,.ofNat b=>(match op with
  | .eql=>k (Nat.beq a b) | .neq=>k (ac (Nat.beq a b) false true) | .lss=>k (Nat.ble (Nat.succ a) b) | .leq=>k (Nat.ble a b) | .gtr=>k (Nat.ble (Nat.succ b) a) | .geq=>k (Nat.ble b a)|_=>z)
 |_,_=>(match op with
  | .eql=>k (x==y) | .neq=>k (x !=y) | .lss=>k (x<y) | .leq=>k (x<=y) | .gtr=>k (x > y) | .geq=>k (x≥y)|_=>z)
def lX(b:Bool)(k:AV->Tr):Tr:=ac b (k (.bool true)) (k (.bool false))
def isZ(n:Int):Bool:=match n with | .ofNat 0=>true|_=>false
def EQ(op:BinOp)(j:IntKind)(x y:Int)(k:AV->Tr):Tr:=match op with
 | .add=>gW j (Int.add x y) λn=>k (.int j n)
 | .sub=>gW j (Int.sub x y) λn=>k (.int j n)
 | .mul=>gW j (Int.mul x y) λn=>k (.int j n)
 | .quo=>ac (isZ y) .fail (gW j (x.tdiv y) λn=>k (.int j n))
 | .rem=>ac (isZ y) .fail (fI (x.tmod y) λn=>k (.int j n))
 | .and=>gW j (.ofNat (Nat.land (aC (aj j) x) (aC (aj j) y))) λn=>k (.int j n)
 | .or=>gW j (.ofNat (Nat.lor (aC (aj j) x) (aC (aj j) y))) λn=>k (.int j n)
 | .xor=>gW j (.ofNat (Nat.xor (aC (aj j) x) (aC (aj j) y))) λn=>k (.int j n)
 | .andNot=>gW j (.ofNat (Nat.land (aC (aj j) x) (Nat.sub (Nat.sub (aj j) 1) (aC (aj j) y)))) λn=>k (.int j n)
 |op=>V_ op x y (λb=>lX b k) .fail
def mr(a b:Nat):Nat:=ac (Nat.ble a b) a b
def Kx(op:BinOp)(j:IntKind)(x:Int)(y:Int)(k:AV->Tr):Tr:=Ii y λn=>match op with
 | .shl=>gW j (Int.mul x (.ofNat (Nat.pow 2 (mr n (bo j))))) λn=>k (.int j n)
 | .shr=>(match x with
  | .ofNat a=>fN (Nat.div a (Nat.pow 2 (mr n (bo j)))) λn=>k (.int j (.ofNat n))
  | .negSucc _=>fI (x.fdiv (.ofNat (Nat.pow 2 (mr n (bo j))))) λn=>k (.int j n))
 |_=>.fail
def ES:List Nat->List Nat->Bool
 | [],[]=>true
 |a::x,b::y=>ac (Nat.beq a b) (ES x y) false
 |_,_=>false
def mV:List Nat->List Nat->Bool
 |_,[]=>false
 | [],_::_=>true
 |a::x,b::y=>ac (Nat.ble (Nat.succ a) b) true (ac (Nat.beq a b) (mV x y) false)
def wX(l:List Nat)(k:List Nat->Tr):Tr:=List.rec (motive:=λ_=>(List Nat->Tr)->Tr) (λk=>k []) (λa _ ih k=>fN a λa=>ih λl=>k (a::l)) l k
def ET(op:BinOp)(x y:List Nat)(k:AV->Tr):Tr:=match op with
 | .eql=>lX (ES x y) k
 |_=>.fail
def iw(l:List AV)(k:List AV->Tr):Tr:=List.rec (motive:=λ_=>(List AV->Tr)->Tr) (λk=>k []) (λa _ ih k=>ih λl=>k (a::l)) l k
def ce(v:AV):Option (IntKind×Int):=match v with | .int k n=>some (k,n) | .sI k n=>some (k,n)|_=>none
def gj(v:AV):Option (List Nat):=match v with | .str s=>some s | .sS s=>some s|_=>none
def dO(v:AV):Option Prop:=match v with | .bool b=>some (b=true) | .sB p=>some p|_=>none
def CT(v:AV):Bool:=match v with | .sI _ _=>true | .sB _=>true | .sS _=>true|_=>false
def lY(j:IntKind)(n:Int)(f:Int->Tr):Tr:=match j with
 | .u8=>f (n%256)
 | .u16=>f (n%65536)
 | .u32=>f (n%4294967296)
 | .u64=>f (n%18446744073709551616)
 | .i64=>.ask (-9223372036854775808<=n/\n<=9223372036854775807) (f n) (f (IntKind.wrap .i64 n))
 |j=>f (j.wrap n)
def Ky(op:BinOp)(j:IntKind)(x y:Int)(k:AV->Tr):Tr:=match op with
 | .add=>lY j (x+y) λn=>k (.sI j n)
 | .sub=>lY j (x-y) λn=>k (.sI j n)
 | .mul=>lY j (x * y) λn=>k (.sI j n)
 | .quo=>.req (y≠0) (.ask (0<=x/\0<y) (lY j (x/y) λn=>k (.sI j n)) (lY j (x.tdiv y) λn=>k (.sI j n)))
 | .rem=>.req (y≠0) (.ask (0<=x/\0<y) (k (.sI j (x%y))) (k (.sI j (x.tmod y))))
 | .and=>k (.sI j (j.wrap (.ofNat (Nat.land (aC (aj j) x) (aC (aj j) y)))))
 | .or=>k (.sI j (j.wrap (.ofNat (Nat.lor (aC (aj j) x) (aC (aj j) y)))))
 | .xor=>k (.sI j (j.wrap (.ofNat (Nat.xor (aC (aj j) x) (aC (aj j) y)))))
 | .andNot=>k (.sI j (j.wrap (.ofNat (Nat.land (aC (aj j) x) (Nat.sub (Nat.sub (aj j) 1) (aC (aj j) y))))))
 | .eql=>k (.sB (x=y))
 | .neq=>k (.sB (x≠y))
 | .lss=>k (.sB (x<y))
 | .leq=>k (.sB (x<=y))
 | .gtr=>k (.sB (y<x))
 | .geq=>k (.sB (y<=x))
 |_=>.fail
def zM(op:BinOp)(j:IntKind)(x y:Int)(k:AV->Tr):Tr:=Ii y λn=>fN (Nat.pow 2 (mr n (bo j))) λm=>match op with
 | .shl=>lY j (x * (m:Int)) λn=>k (.sI j n)
 | .shr=>k (.sI j (x/(m:Int)))
 |_=>.fail
def uL(op:BinOp)(j:IntKind)(x y:Int)(k:AV->Tr):Tr:=.req (0<=y) (match op with
 | .shl=>lY j (x * ((2 ^ min y.toNat (bo j):Nat):Int)) λn=>k (.sI j n)
 | .shr=>k (.sI j (x/((2 ^ min y.toNat (bo j):Nat):Int)))
 |_=>.fail)
def Zm(v:AV):Bool:=match v with | .sI _ _=>true|_=>false
def Kz(op:BinOp)(x y:List Nat)(k:AV->Tr):Tr:=match op with
 | .add=>.req ((x++y).length<=1000000000) (k (.sS (x++y)))
 | .eql=>k (.sB (x=y))
 | .neq=>k (.sB (x≠y))
 | .lss=>k (.sB (mV x y=true))
 | .leq=>k (.sB (mV y x=false))
 | .gtr=>k (.sB (mV y x=true))
 | .geq=>k (.sB (mV x y=false))
 |_=>.fail
def QV(op:BinOp):Bool:=match op with | .shl=>true | .shr=>true|_=>false
def wY(op:BinOp)(x y:AV)(k:AV->Tr):Tr:=match ce x,ce y with
 |some (j,a),some (j',b)=>ac (QV op) (ac (Zm y) (uL op j a b k) (zM op j a b k)) (ac (decide (j=j')) (Ky op j a b k) .fail)
 |_,_=>(match gj x,gj y with
  |some a,some b=>Kz op a b k
  |_,_=>.fail)
def CU(op:UnOp)(x:AV)(k:AV->Tr):Tr:=match op,x with
 | .neg,.sI j n=>lY j (0-n) λn=>k (.sI j n)
 | .xor,.sI j n=>k (.sI j (j.wrap (.ofNat (Nat.xor (aC (aj j) (if j.signed then -1 else j.max)) (aC (aj j) n)))))
 | .not,.sB p=>k (.sB (¬p))
 |_,_=>.fail
def pI(p:Prop):Int:=@ite Int p (Classical.propDecidable p) 1 0
def KA(s:List Nat):List Nat:=s.map (· % 256)
def EU:Nat->List AV->Option (List G×List AV)
 |0,cs=>some ([],cs)
 |n+1,a::r=>match ce a with
  |some (.u8,v)=>(match EU n r with|some (l,q)=>some (.int v::l,q)|none=>none)
  |_=>none
 |_+1,[]=>none
def KB(x:Sc)(cs:List AV)(z:Option (List G×List AV))(k:G->List AV->Option (List G×List AV)):Option (List G×List AV):=match cs with
 | []=>z
 |a::r=>(match x with
  | .i j=>(match ce a with|some (j',n)=>ac (decide (j=j')) (k (.int n) r) z|none=>z)
  | .b=>(match dO a with|some p=>k (.int (pI p)) r|none=>z)
  | .s=>(match gj a with|some l=>k (.str l) r|none=>z)
  | .o=>ac (fQ a) (k (.int 0) r) z
  | .sl m=>(match a with | .nils=>k (.node []) r | .cv (.rows m' l)=>ac (Nat.beq m m') (k (.node l) r) z|_=>z)
  | .bs=>(match a with | .nils=>k (.str []) r | .cv (.bytes l)=>k (.str l) r|_=>z)
  | .h n=>(match EU n (a::r) with|some (l,q)=>k (.node l) q|none=>z))
def fT:List Sc->List AV->Option (List G×List AV)
 | [],cs=>some ([],cs)
 |x::xs,cs=>KB x cs none λg r=>match fT xs r with|some (gs,r)=>some (g::gs,r)|none=>none
def dW(xs:List Sc):Nat->List AV->Option (List G×List AV)
 |0,cs=>some ([],cs)
 |n+1,cs=>match fT xs cs with
  |some (g,r)=>(match dW xs n r with|some (gs,r)=>some (.node g::gs,r)|none=>none)
  |none=>none
def gk:List AV->Option (List Int)
 | []=>some []
 |a::r=>match ce a with
  |some (.u8,n)=>(match gk r with|some l=>some (n::l)|none=>none)
  |_=>none
def bu:List Int->Prop
 | []=>True
 |x::l=>0<=x/\bu l
def aG:List Int->List Nat
 | []=>[]
 |x::l=>x.toNat::aG l
def Ct.app(c:Ct)(new:List AV)(n:Nat):Option (Ct×Prop):=match c with
 | .rows m l=>(match dW (cK m) n new with|some (gs,[])=>some (.rows m (l++gs),True)|_=>none)
 | .bytes s=>(match gk new with|some ns=>ac (Nat.beq ns.length n) (some (.bytes (s++aG ns),bu ns)) none|none=>none)
def Ct.upd(c:Ct)(i o:Nat)(new:List AV):Option (Ct×Prop):=match c with
 | .rows m l=>(match fT (cK m) ((c.row i).take o++new++(c.row i).drop (o+new.length)) with|some (gs,[])=>some (.rows m (l.set i (.node gs)),True)|_=>none)
 | .bytes s=>(match new with
  | [a]=>(match o,ce a with|0,some (.u8,n)=>some (.bytes (s.set i n.toNat),0<=n)|_,_=>none)
  |_=>none)
variable(P:Program)
def co(t:TypeId)(k:TypeDesc->Tr):Tr:=cU (P.underlying t) .fail k
def Up(t:TypeId)(k:TypeInfo->Tr):Tr:=cU (P.info? t) .fail k
def cx(t:TypeId)(k:Nat->Tr):Tr:=cU (P.info? t) .fail λi=>fN i.size k
def cw(d:TypeDesc):Bool:=match d with | .struct _ | .array _ _=>true|_=>false
def rG(t:TypeId)(k:AV->Tr):Tr:=cU (P.info? t) .fail λi=>cU i.zero .fail λv=>cU (V6 8 v) .fail k
def fK:Nat->TypeDesc->AV->AV->Option Bool
 |0,_,_,_=>none
 |f+1,d,x,y=>match d,x,y with
  | .bool,.bool a,.bool b=>some (a==b)
  | .int _,.int j a,.int j' b=>if j=j' then some (a==b) else none
  | .string,.str a,.str b=>some (ES a b)
  | .pointer _,.nilp,.nilp=>some true
  | .pointer _,.nilp,.ptr _ _ _=>some false
  | .pointer _,.ptr _ _ _,.nilp=>some false
  | .interface _,.nili,.nili=>some true
  | .interface _,.nili,.iface _ _=>some false
  | .interface _,.iface _ _,.nili=>some false
  | .slice _,.nils,.nils=>some true
  | .slice _,.nils,.slc .. =>some false
  | .slice _,.slc ..,.nils=>some false
  | .map _ _,.nilm,.nilm=>some true
  | .map _ _,.nilm,.map _=>some false
  | .map _ _,.map _,.nilm=>some false
  | .func _ _ _,.nilf,.nilf=>some true
  | .func _ _ _,.nilf,.func _ _ _=>some false
  | .func _ _ _,.func _ _ _,.nilf=>some false
  | .array len e,.agg xs,.agg ys=>match P.info? e,P.underlying e with
   |some i,some d'=>if i.size=1 && !cw d' && xs.length==len && ys.length==len then eqArr (fK f d') xs ys else none
   |_,_=>none
  | .struct fs,.agg xs,.agg ys=>eqFs (fK f) fs.toList xs ys
  |_,_,_=>none
where
 eqArr (q:AV->AV->Option Bool):List AV->List AV->Option Bool
  | [],[]=>some true
  |a::xs,b::ys=>match q a b with
   |some true=>eqArr q xs ys
   |r=>r
  |_,_=>none
 eqFs (q:TypeDesc->AV->AV->Option Bool):List Field->List AV->List AV->Option Bool
  | [],_,_=>some true
  |fd::fs,xs,ys=>if fd.name= "_" then eqFs q fs xs ys else
   match P.info? fd.type,P.underlying fd.type with
   |some i,some d'=>
    (match(if cw d' then some (AV.agg ((xs.drop fd.offset).take i.size)) else xs[fd.offset]?),(if cw d' then some (AV.agg ((ys.drop fd.offset).take i.size)) else ys[fd.offset]?) with
    |some a,some b=>(match q d' a b with
     |some true=>eqFs q fs xs ys
     |r=>r)
    |_,_=>none)
   |_,_=>none
def qG(i:Nat):List Field->Option (List IntKind)
 | []=>some []
 |fd::fs=>if fd.name= "_" then none else if fd.offset=i then(match P.info? fd.type,P.underlying fd.type with
  |some _,some (.int j)=>(match qG (i+1) fs with|some l=>some (j::l)|none=>none)
  |_,_=>none) else none
def wZ(d:TypeDesc):Option (List IntKind):=match d with
 | .array n e=>(match P.info? e,P.underlying e with
  |some i,some (.int j)=>ac (Nat.beq i.size 1) (some (List.replicate n j)) none
  |_,_=>none)
 | .struct fs=>qG P 0 fs.toList
 |_=>none
def cD:List IntKind->List AV->Option (List Int)
 | [],[]=>some []
 |j::ks,a::as=>(match ce a with
  |some (j',n)=>ac (decide (j=j')) (match cD ks as with|some l=>some (n::l)|none=>none) none
  |none=>none)
 |_,_=>none
def eqS(d:TypeDesc)(xs ys:List AV):Option Prop:=match wZ P d with
 |some ks=>(match cD ks xs,cD ks ys with|some l,some m=>some (l=m)|_,_=>none)
 |none=>none
def EV(d:TypeDesc)(a b:List AV)(k:Bool->Tr)(ks:Prop->Tr):Tr:=match fK P 16 d (.agg a) (.agg b) with
 |some r=>k r
 |none=>cU (eqS P d a b) .fail ks
def gm:Nat->TypeId->Bool
 |0,_=>false
 |f+1,t=>match P.underlying t with
  |some (.interface _)=>false
  |some (.struct fs)=>!P.stoodInHeld t && fs.toList.all λfd=>gm f fd.type
  |some (.array _ e)=>gm f e
  |some _=>true
  |none=>false
def w_(lit:Bool)(x y:AV):Bool:=match x,y with
 | .nili,.nili=>lit
 | .opq _,_=>false
 |_,.opq _=>false
 | .anyB,_=>false
 |_,.anyB=>false
 | .anyI _,_=>false
 |_,.anyI _=>false
 | .osl _,_=>false
 |_,.osl _=>false
 | .opc _,_=>false
 |_,.opc _=>false
 | .sI _ _,_=>false
 |_,.sI _ _=>false
 | .sB _,_=>false
 |_,.sB _=>false
 | .sS _,_=>false
 |_,.sS _=>false
 | .any1,_=>false
 |_,.any1=>false
 | .cptr _,_=>false
 |_,.cptr _=>false
 | .cv _,_=>false
 |_,.cv _=>false
 | .gsl ..,_=>false
 |_,.gsl .. =>false
 | .gptr ..,_=>false
 |_,.gptr .. =>false
 | .aptr ..,_=>false
 |_,.aptr .. =>false
 |_,_=>true
def EW(op:BinOp):Bool:=match op with | .lss | .leq | .gtr | .geq=>true|_=>false
def pW(x:Operand):Bool:=match x with | .const _=>true|_=>false
def qH(lit:Bool)(op:BinOp)(t:TypeId)(x y:AV)(k:AV->Tr):Tr:=match op,x,y with
 | .shl,.int j a,.int _ b | .shr,.int j a,.int _ b=>Kx op j a b k
 |_,.int j a,.int j' b=>ac (decide (j=j')) (EQ op j a b k) .fail
 |_,.str a,.str b=>ET op a b k
 | .eql,.agg a,.agg b=>ac (ac (P.eqGuardType P.depth t) false (gm P 16 t)) (co P t λd=>EV P d a b (λr=>lX r k) λp=>k (.sB p)) .fail
 | .neq,.agg a,.agg b=>ac (ac (P.eqGuardType P.depth t) false (gm P 16 t)) (co P t λd=>EV P d a b (λr=>lX (ac r false true) k) λp=>k (.sB (¬p))) .fail
 | .eql,x,y=>ac (w_ lit x y) (co P t λd=>cU (fK P 16 d x y) .fail λr=>lX r k) .fail
 | .neq,x,y=>ac (w_ lit x y) (co P t λd=>cU (fK P 16 d x y) .fail λr=>lX (ac r false true) k) .fail
 | .and,.anyI .i64,.int .i64 n=>ac (decide (n=3)) (.pick 4 λi=>k (.int .i64 (.ofNat i))) .fail
 |op,.anyI j,.int j' _=>ac (decide (j=j')) (ac (EW op) (k .anyB) .fail) .fail
 |_,_,_=>.fail
def EX(x:AV)(k:AV->Tr):Tr:=match x with | .sB p=>.ask p (k (.bool true)) (k (.bool false))|x=>k x
def Zn(x y:AV):Bool:=match dO x,dO y with|some _,some _=>true|_,_=>false
def QW(x y:AV):Bool:=match x,y with | .cv _,.nils=>true | .gsl ..,.nils=>true|_,_=>false
def xa(x:AV):Nat:=match x with | .cv c=>c.len | .gsl _ _ n _=>n|_=>0
def KC(op:BinOp)(t:TypeId)(x:AV)(k:AV->Tr):Tr:=co P t λd=>match d,op with | .slice _,.eql=>.ask (xa x=0) (k .anyB) (k (.bool false)) | .slice _,.neq=>.ask (xa x=0) (k .anyB) (k (.bool true))|_,_=>.fail
def Zo(op:BinOp)(t:TypeId)(x y:AV)(k:AV->Tr)(z:Tr):Tr:=match op,x,y with
 | .eql,.sB p,.sB q=>co P t λd=>(match d with | .bool=>.ask (p↔q) (k (.bool true)) (k (.bool false))|_=>.fail)
 |_,_,_=>z
def KD(lit:Bool)(op:BinOp)(t:TypeId)(x y:AV)(k:AV->Tr):Tr:=ac (QW x y) (KC P op t x k) (ac (ac (CT x) true (CT y)) (ac (Zn x y) (Zo P op t x y k (EX x λx=>EX y λy=>qH P lit op t x y k)) (wY op x y k)) (qH P lit op t x y k))
def CV(op:UnOp)(x:AV)(k:AV->Tr):Tr:=match op,x with
 | .neg,.int j n=>gW j (Int.sub 0 n) λn=>k (.int j n)
 | .xor,.int j n=>gW j (.ofNat (Nat.xor (aC (aj j) (if j.signed then -1 else j.max)) (aC (aj j) n))) λn=>k (.int j n)
 | .not,.bool b=>lX (ac b false true) k
 |_,_=>.fail
def Uq(op:UnOp)(x:AV)(k:AV->Tr):Tr:=ac (CT x) (CU op x k) (CV op x k)
def QX(l:List AV)(i:Nat)(t:T Cell)(k:T Cell->Tr):Tr:=
 List.rec (motive:=λ_=>Nat->T Cell->(T Cell->Tr)->Tr) (λ_ t k=>k t) (λa _ ih i t k=>T.setK t i (.mk 0 a) λt=>fN (Nat.succ i) λi=>ih i t k) l i t k
def EY(fl ty:Nat)(l:List AV)(k:Nat->Tr):Tr:=QX l 0 .leaf λt=>fN (List.length l) λn=>.new (.cells t 0 0 n fl 0 false ty) k
def qI(ty:Nat)(l:List AV)(k:Nat->Tr):Tr:=EY 0 ty l k
def nl(ty:Nat)(v:AV)(k:AV->Tr):Tr:=iv v λl=>qI ty l λb=>k (.ptr b 0 0)
def QY(c:T Cell)(g:Nat)(n:Nat)(o:Nat)(k:List AV->Tr):Tr:=
 Nat.rec (motive:=λ_=>Nat->(List AV->Tr)->Tr) (λ_ k=>k []) (λ_ ih o k=>T.getK c o .fail λx=>match x with
  | .mk tag v=>ac (Nat.ble tag g) (fN (Nat.succ o) λo=>ih o λl=>k (v::l)) .fail) n o k
def gp(b g o n:Nat)(k:List AV->Tr):Tr:=.rd b λx=>match x with | .cells c gen _ _ _ _ _ _=>ac (Nat.ble g gen) (QY c g n o k) .fail|_=>.fail
def KE(b g o:Nat)(k:AV->Tr):Tr:=.rd b λx=>match x with
 | .cells c gen _ _ _ _ _ _=>ac (Nat.ble g gen) (T.getK c o .fail λx=>(match x with | .mk tag v=>ac (Nat.ble tag g) (k v) .fail)) .fail
 |_=>.fail
def EZ(l:List AV):Option (IntKind×List Int):=match l with
 | []=>none
 |a::r=>(match ce a with|some (j,_)=>(match cD (List.replicate (List.length (a::r)) j) (a::r) with|some ns=>some (j,ns)|none=>none)|none=>none)
def Ur(p:Prop)(x y:Int):Int:=@ite Int p (Classical.propDecidable p) x y
def uk(j:IntKind)(i x:Int):Nat->List Int->List AV
 |_,[]=>[]
 |m,n::ns=>.sI j (Ur (i=(m:Int)) x n)::uk j i x (m+1) ns
def zN(t:TypeId)(x:AV)(k:AV->Tr):Tr:=match x with
 | .ptr b g o=>co P t λd=>ac (cw d) (cx P t λn=>gp b g o n λl=>k (.agg l)) (KE b g o k)
 | .cptr l=>co P t λd=>ac (cw d) (cx P t λn=>iw (l.take n) λr=>ac (Nat.beq r.length n) (k (.agg r)) .fail) (cU l[0]? .fail k)
 | .gptr b g i o es=>.rd b λq=>(match q with
  | .grow c gen _=>ac (Nat.beq g gen) (ac (Nat.beq es c.es) (.req (i<c.len) (co P t λd=>ac (cw d) (cx P t λm=>iw (((c.row i).drop o).take m) λr=>ac (Nat.beq r.length m) (k (.agg r)) .fail) (cU (c.row i)[o]? .fail k))) .fail) .fail
  |_=>.fail)
 | .aptr b g o n i=>co P t λd=>ac (cw d) .fail (gp b g o n λl=>cU (EZ l) .fail λq=>k (.sI q.1 (q.2.getD i.toNat 0)))
 |_=>.fail
def Wa(g fl fh:Nat)(l:List AV)(o:Nat)(c:T Cell)(k:T Cell->Tr):Tr:=
 List.rec (motive:=λ_=>Nat->T Cell->(T Cell->Tr)->Tr) (λ_ c k=>k c) (λv _ ih o c k=>
  ac (fQ v) (ac (ac (Nat.ble fl o) (Nat.ble (Nat.succ o) fh) false) .fail (T.getK c o .fail λx=>match x with | .mk tag _=>ac (Nat.ble tag g) (T.setK c o (.mk g v) λc=>fN (Nat.succ o) λo=>ih o c k) .fail)) .fail) l o c k
def lD(b g o:Nat)(l:List AV)(k:Tr):Tr:=.rd b λx=>match x with
 | .cells c gen lo hi fl fh ro ty=>ac ro .fail (ac (Nat.beq g gen) (Wa g fl fh l o c λc=>.wr b (.cells c gen lo hi fl fh false ty) k) .fail)
 |_=>.fail
def KF(t:TypeId)(x v:AV)(k:Tr):Tr:=match x with
 | .ptr b g o=>cx P t λn=>iv v λl=>ac (Nat.beq (List.length l) n) (lD b g o l k) .fail
 | .gptr b g i o es=>cx P t λn=>iv v λl=>ac (Nat.beq (List.length l) n) (ac (Nat.ble 1 n) (.rd b λq=>(match q with
  | .grow c gen ty=>ac (Nat.beq g gen) (ac (Nat.beq es c.es) (ac (Nat.ble (o+n) es) (ac (l.all fQ) (match c.upd i o l with
   |some (c',p)=>.req (i<c.len/\p) (.wr b (.grow c' gen ty) k)
   |none=>.fail) .fail) .fail) .fail) .fail
  |_=>.fail)) .fail) .fail
 | .aptr b g o n i=>cx P t λm=>ac (Nat.beq m 1) (gp b g o n λl=>cU (EZ l) .fail λq=>cU (ce v) .fail λr=>ac (decide (q.1=r.1)) (lD b g o (uk q.1 i r.2 0 q.2) k) .fail) .fail
 |_=>.fail
def dX(cells:List AV)(off:Nat)(cs:List AV):List AV:=cells.take off++cs++cells.drop (off+cs.length)
def zO(place:Nat->Option (Nat×Nat))(cells:List AV)(parts:List (Nat×AV))(k:List AV->Tr):Tr:=
 List.rec (motive:=λ_=>List AV->(List AV->Tr)->Tr) (λcells k=>k cells) (λp _ ih cells k=>
  cU (place p.1) .fail λq=>iv p.2 λcs=>ac (Nat.beq cs.length q.2) (ac (Nat.ble (q.1+q.2) cells.length) (iw (dX cells q.1 cs) λcells=>ih cells k) .fail) .fail) parts cells k
def iL(env:T AV)(l:List (Nat×Operand))(k:List (Nat×AV)->Tr):Tr:=
 List.rec (motive:=λ_=>(List (Nat×AV)->Tr)->Tr) (λk=>k []) (λx _ ih k=>fF env x.2 λa=>ih λl=>k ((x.1,a)::l)) l k
def xb(fs:Array Field)(i:Nat):Option (Nat×Nat):=match fs[i]? with
 |some f=>(match P.info? f.type with|some i=>some (f.offset,i.size)|none=>none)
 |none=>none
def qJ(fs:Array Field):Bool:=fs.toList.all λf=>(P.info? f.type).isSome
def KH(t:TypeId)(parts:List (Nat×AV))(k:AV->Tr):Tr:=rG P t λz=>co P t λd=>match d with
 | .struct fs=>ac (qJ P fs) (iv z λz=>zO (xb P fs) z parts λl=>k (.agg l)) .fail
 | .array _ e=>cx P e λn=>iv z λz=>zO (λi=>some (i * n,n)) z parts λl=>k (.agg l)
 |_=>.fail
def dY(z:List AV):Nat->List AV
 |0=>[]
 |n+1=>z++dY z n
def pX(t:TypeId)(len:Nat)(parts:List (Nat×AV))(k:AV->Tr):Tr:=co P t λd=>match d with
 | .slice e=>cx P e λn=>ac (Nat.ble (len * n) 1000000) (ac (Nat.ble 1 n) (rG P e λz=>iv z λz=>ac (Nat.beq z.length n)
  (zO (λi=>some (i * n,n)) (dY z len) parts λl=>qI e l λb=>k (.slc b 0 0 len (some len) n)) .fail) .fail) .fail
 |_=>.fail
def eO(l:List Nat):List AV:=l.map λb=>.int .u8 (.ofNat b)
def zP(src dst:TypeId)(x:AV)(k:AV->Tr):Tr:=co P src λs=>co P dst λd=>match s,d,x with
 |_,.int j,.sI _ n=>lY j n λn=>k (.sI j n)
 |_,.string,.sS s=>k (.sS s)
 | .slice e,.string,.cv (.bytes s)=>co P e λde=>(match de with | .int .u8=>k (.sS (KA s))|_=>.fail)
 | .slice e,.string,.gsl b g n es=>co P e λde=>(match de with
  | .int .u8=>.rd b λq=>(match q with
   | .grow (.bytes s) gen _=>ac (Nat.beq g gen) (ac (Nat.beq es 1) (.req (s.length=n) (k (.sS (KA s)))) .fail) .fail
   |_=>.fail)
  |_=>.fail)
 |_,_,_=>.fail
def KI:List AV->Option (List Nat)
 | []=>some []
 | .int .u8 (.ofNat n)::r=>if n<256 then(match KI r with|some l=>some (n::l)|none=>none) else none
 |_=>none
def inB:List Int->Prop
 | []=>True
 |x::l=>(0<=x/\x<256)/\inB l
def nq(l:List AV)(k:AV->Tr):Tr:=match KI l with
 |some l=>k (.str l)
 |none=>cU (gk l) .fail λns=>.req (inB ns) (k (.sS (aG ns)))
def KJ(src dst:TypeId)(x:AV)(k:AV->Tr):Tr:=co P src λs=>co P dst λd=>match s,d,x with
 |_,.int j,.int _ n=>gW j n λn=>k (.int j n)
 |_,.string,.str s=>k (.str s)
 | .slice e,.string,x=>co P e λde=>(match de,x with
  | .int .u8,.nils=>k (.str [])
  | .int .u8,.slc b g o len _ es=>ac (Nat.beq len 0) (k (.str [])) (gp b g o len λl=>nq l k)
  |_,_=>.fail)
 |_,_,_=>.fail
def isBy(v:AV):Bool:=match v with | .sI _ _=>true | .sB _=>true | .sS _=>true | .cv _=>true | .gsl .. =>true|_=>false
def Us(src dst:TypeId)(x:AV)(k:AV->Tr):Tr:=ac (isBy x) (zP P src dst x k) (KJ P src dst x k)
def Ut(t:TypeId)(cs:List AV)(off:Nat)(k:AV->Tr):Tr:=co P t λd=>
 ac (cw d) (cx P t λn=>iw ((cs.drop off).take n) λl=>k (.agg l)) (cU cs[off]? .fail k)
def rH(t:TypeId)(x:AV)(i:Nat)(k:AV->Tr):Tr:=co P t λd=>match d,x with
 | .struct fs,.ptr b g o=>cU fs[i]? .fail λf=>cx P f.type λn=>ac (Nat.beq n 0) .fail (fN (o+f.offset) λo=>k (.ptr b g o))
 | .struct fs,.gptr b g m o es=>cU fs[i]? .fail λf=>cx P f.type λn=>ac (Nat.beq n 0) .fail (k (.gptr b g m (o+f.offset) es))
 | .struct fs,.cptr l=>cU fs[i]? .fail λf=>cx P f.type λn=>ac (Nat.beq n 0) .fail (ac (Nat.ble f.offset l.length) (iw (l.drop f.offset) λl=>k (.cptr l)) .fail)
 |_,_=>.fail
def E0(t:TypeId)(c:Ct)(ix:AV)(k:AV->Tr):Tr:=co P t λd=>match d,ce ix with
 | .slice e,some (_,i)=>cx P e λs=>ac (Nat.beq s c.es) (.req (0<=i/\i<(c.len:Int)) (iw (c.row i.toNat) λl=>k (.cptr l))) .fail
 |_,_=>.fail
def kF(t:TypeId)(x ix:AV)(k:AV->Tr):Tr:=rF ix λ_ i=>Ii i λi=>co P t λd=>match d,x with
 | .array len e,.ptr b g o=>ac (Nat.ble (Nat.succ i) len) (cx P e λn=>fN (o+i * n) λo=>k (.ptr b g o)) .fail
 | .slice e,.slc b g o len _ _=>ac (Nat.ble (Nat.succ i) len) (cx P e λn=>fN (o+i * n) λo=>k (.ptr b g o)) .fail
 |_,_=>.fail
def E1(t:TypeId)(b g n es:Nat)(ix:AV)(k:AV->Tr):Tr:=co P t λd=>match d,ce ix with
 | .slice e,some (_,i)=>cx P e λs=>ac (Nat.beq s es) (.req (0<=i/\i<(n:Int)) (k (.gptr b g i.toNat 0 es))) .fail
 |_,_=>.fail
def kG(b:Nat)(l:List (Nat×Nat×Nat)):Bool:=List.rec (motive:=λ_=>Bool) true (λx _ ih=>ac (Nat.beq x.2.1 b) false ih) l
def bC{α β:Type}(o:Option α)(k:α->Option β):Option β:=Option.rec (motive:=λ_=>Option β) none k o
def QM(c:T Cell)(g:Nat)(n o:Nat):Option (List AV):=
 Nat.rec (motive:=λ_=>Nat->Option (List AV)) (λ_=>some []) (λ_ ih o=>T.getK c o none λx=>match x with
  | .mk tag v=>ac (Nat.ble tag g) (fN (Nat.succ o) λo=>bC (ih o) λl=>some (v::l)) none) n o
def lZ(cap:Option Nat)(len:Nat):Nat:=match cap with|some k=>k|none=>len
def QZ(loc:List (Nat×Nat×Nat))(b g o len:Nat)(cap:Option Nat)(es:Nat)(rows:Nat->List AV->(Ct->Nat->Tr)->Tr)(k:Ct->Nat->Tr):Tr:=.rd b λq=>match q with
 | .cells c gen lo hi fl fh ro ty=>ac ro .fail (ac (Nat.beq gen g) (ac (Nat.beq lo 0) (ac (Nat.beq fl 0) (ac (Nat.beq fh 0) (ac (Nat.beq g g) (ac (Nat.beq o 0) (ac (Nat.ble 1 len) (ac (ac (kG b loc) (ac (Nat.ble 1 es) (Nat.ble len (lZ cap len)) false) false)
  (cU (QM c g (lZ cap len * es) 0) .fail λas=>rows ty (as.take (len * es)) λct ty'=>ac (Nat.beq ty ty') (ac (Nat.beq ct.es es) (.req (ct.len=len) (k ct ty)) .fail) .fail)
  .fail) .fail) .fail) .fail) .fail) .fail) .fail) .fail)
 |_=>.fail
def oV(loc:List (Nat×Nat×Nat))(b g o len:Nat)(cap:Option Nat)(es:Nat)(rows:Nat->List AV->(Ct->Nat->Tr)->Tr)(k:AV->Tr):Tr:=QZ loc b g o len cap es rows λct ty=>.wr b (.grow ct g ty) (k (.gsl b g len es))
def rI(m len:Nat)(ty:Nat)(as:List AV)(k:Ct->Nat->Tr):Tr:=cU (dW (cK m) len as) .fail λq=>match q with|(gs,[])=>k (.rows m gs) ty|_=>.fail
def rJ(ty:Nat)(as:List AV)(k:Ct->Nat->Tr):Tr:=cU (gk as) .fail λns=>.req (bu ns) (k (.bytes (aG ns)) ty)
def qK(e:TypeId)(len:Nat):Option (Nat->List AV->(Ct->Nat->Tr)->Tr):=match P.underlying e with
 |some (.int .u8)=>some rJ
 |some (.int .u32)=>some (rI 9 len)
 |some (.int .i64)=>some (rI 8 len)
 |some (.int .u64)=>some (rI 10 len)
 |_=>none
def KK(t:TypeId)(b g o:Nat)(ix:AV)(k:AV->Tr):Tr:=co P t λd=>match d,ce ix with
 | .array len e,some (_,i)=>cx P e λs=>ac (Nat.beq o 0) (ac (Nat.beq s 1) (.req (0<=i/\i<(len:Int)) (.rd b λq=>(match q with
  | .grow c gen _=>ac (Nat.beq g gen) (ac (Nat.beq c.es 1) (.req (0<c.len) (k (.gptr b g i.toNat 0 1))) .fail) .fail
  |_=>ac (Nat.beq g 0) (cU (qK P e len) .fail λrows=>oV [] b g 0 len (some len) 1 rows λ_=>k (.gptr b 0 i.toNat 0 1)) .fail))) .fail) (ac (Nat.beq s 1) (.req (0<=i/\i<(len:Int)) (k (.aptr b g o len i))) .fail)
 |_,_=>.fail
def KL(t:TypeId)(l:List AV)(ix:AV)(k:AV->Tr):Tr:=co P t λd=>match d,ce ix with
 | .array len e,some (_,i)=>cx P e λs=>ac (Nat.beq s 1) (cU (KI l) .fail λbs=>ac (Nat.ble len bs.length) (.req (0<=i/\i<(len:Int)) (k (.cptr [.sI .u8 ((bs.getD i.toNat 0:Nat):Int)]))) .fail) .fail
 |_,_=>.fail
def ms(t:TypeId)(x ix:AV)(k:AV->Tr):Tr:=match x with
 | .cptr l=>KL P t l ix k
 | .cv c=>E0 P t c ix k
 | .gsl b g n es=>E1 P t b g n es ix k
 | .ptr b g o=>ac (Zm ix) (KK P t b g o ix k) (kF P t (.ptr b g o) ix k)
 |x=>kF P t x ix k
def KM(t:TypeId)(s:List Nat)(i:Int)(k:AV->Tr):Tr:=co P t λd=>match d with
 | .string=>.req (0<=i/\i<(s.length:Int)) (k (.sI .u8 ((kA s i.toNat:Nat):Int)))
 |_=>.fail
def E2(t:TypeId)(x ix:AV)(k:AV->Tr):Tr:=rF ix λ_ i=>Ii i λi=>co P t λd=>match d,x with
 | .array len e,.agg cs=>ac (Nat.ble (Nat.succ i) len) (cx P e λn=>Ut P e cs (i * n) k) .fail
 | .string,.str s=>cU s[i]? .fail λb=>fN b λb=>k (.int .u8 (.ofNat b))
 |_,_=>.fail
def KN(t:TypeId)(x ix:AV)(k:AV->Tr):Tr:=ac (ac (CT x) true (CT ix)) (match gj x,ce ix with|some s,some (_,i)=>KM P t s i k|_,_=>.fail) (E2 P t x ix k)
def kH(o:Option AV)(dflt top:Nat)(k:Nat->Tr):Tr:=match o with
 |none=>k dflt
 |some v=>rF v λ_ i=>Ii i λi=>ac (Nat.ble i top) (k i) .fail
def KO(len:Nat)(lo hi mx:Option AV)(k:Nat->Nat->Nat->Tr)(m:Nat):Tr:=match hi,mx with
 |none,some _=>.fail
 |_,_=>kH hi len m λh=>kH lo 0 h λl=>k l h m
def jq(len cap:Nat)(lo hi mx:Option AV)(k:Nat->Nat->Nat->Tr):Tr:=kH mx cap cap (KO len lo hi mx k)
def zQ(b g o s l h m:Nat)(k:AV->Tr):Tr:=fN (h-l) λlen=>fN (m-l) λcap=>
 ac (Nat.beq m l) (k (.slc b g o len (some cap) s)) (fN (o+l * s) λo=>k (.slc b g o len (some cap) s))
def KP(b g o s l h:Nat)(k:AV->Tr):Tr:=fN (h-l) λlen=>ac (Nat.beq l 0) (k (.slc b g o len none s)) (fN (o+l * s) λo=>k (.slc b g o len none s))
def E3(b g o len s:Nat)(lo hi mx:Option AV)(k:AV->Tr):Tr:=match mx with
 |none=>kH hi len len λh=>kH lo 0 h λl=>KP b g o s l h k
 |some _=>ac (Nat.beq len 0) .fail (jq len len lo hi mx λl h m=>zQ b g o s l h m k)
def CW(s:List Nat)(lo hi mx:Option AV)(k:AV->Tr):Tr:=match mx with
 |some _=>.fail
 |none=>fN s.length λn=>jq n n lo hi none λl h _=>wX ((s.take h).drop l) λr=>k (.str r)
def cM(o:Option AV)(dflt:Int)(k:Int->Tr):Tr:=match o with
 |none=>k dflt
 |some v=>(match ce v with|some (_,i)=>k i|none=>.fail)
def Uu(o:Option AV):Bool:=match o with|some v=>CT v|none=>false
def uM(t:TypeId)(x:AV)(lo hi mx:Option AV)(k:AV->Tr):Tr:=co P t λd=>match mx,d,x with
 |none,.slice e,.cv c=>cx P e λs=>ac (Nat.beq s c.es) (cM hi (c.len:Int) λh=>cM lo 0 λl=>.req (0<=l/\l<=h/\h<=(c.len:Int)) (k (.cv (c.cut l.toNat h.toNat)))) .fail
 |none,.string,x=>(match gj x with
  |some s=>cM hi (s.length:Int) λh=>cM lo 0 λl=>.req (0<=l/\l<=h/\h<=(s.length:Int)) (k (.sS ((s.take h.toNat).drop l.toNat)))
  |none=>.fail)
 |_,_,_=>.fail
def Wb(v:AV):Bool:=match v with | .cv _=>true|_=>false
def E4(t:TypeId)(x:AV)(lo hi mx:Option AV)(k:AV->Tr):Tr:=co P t λd=>match d,x with
 | .array n e,.ptr b g o=>jq n n lo hi mx λl h m=>cx P e λs=>zQ b g o s l h m k
 | .string,.str s=>CW s lo hi mx k
 | .slice e,.nils=>cx P e λ_=>jq 0 0 lo hi mx λ_ _ _=>k .nils
 | .slice e,.slc b g o len (some c) s=>cx P e λs'=>ac (Nat.beq s s') (jq len c lo hi mx λl h m=>zQ b g o s l h m k) .fail
 | .slice e,.slc b g o len none s=>cx P e λs'=>ac (Nat.beq s s') (E3 b g o len s lo hi mx k) .fail
 |_,_=>.fail
def xc(t:TypeId)(x:AV)(lo hi mx:Option AV)(k:AV->Tr):Tr:=ac (ac (CT x) true (ac (Wb x) true (ac (Uu lo) true (Uu hi)))) (uM P t x lo hi mx k) (E4 P t x lo hi mx k)
def isNone(o:Option AV):Bool:=match o with|none=>true|_=>false
def xd(n:Nat)(c:Ct)(lo hi:Option AV)(k:AV->Tr):Tr:=cM hi (n:Int) λh=>cM lo 0 λl=>.req (0<=l/\l<=h/\h<=(n:Int)) (k (.cv (c.cut l.toNat h.toNat)))
def KQ(t:TypeId)(b g o:Nat)(q:ABlk)(lo hi mx:Option AV)(k:AV->Tr):Tr:=co P t λd=>match mx,d with
 |none,.array n e=>cx P e λs=>ac (Nat.beq o 0) (match q with
  | .grow c gen _=>ac (Nat.beq g gen) (ac (Nat.beq c.es s) (ac (Nat.ble 1 n) (.req (c.len=n) (ac (ac (isNone lo) (isNone hi) false) (k (.gsl b g n s))
   (ac (Nat.ble (base+64) b) (.wr b (.froz c gen) (xd n c lo hi k)) .fail))) .fail) .fail) .fail
  | .froz c gen=>ac (Nat.beq g gen) (ac (Nat.beq c.es s) (ac (Nat.ble 1 n) (.req (c.len=n) (xd n c lo hi k)) .fail) .fail) .fail
  |_=>.fail) .fail
 |_,_=>.fail
def isGF(q:ABlk):Bool:=match q with | .grow _ _ _=>true | .froz _ _=>true|_=>false
def Uv(t:TypeId)(b g n es:Nat)(lo hi mx:Option AV)(k:AV->Tr):Tr:=co P t λd=>match mx,d with
 |none,.slice e=>cx P e λs=>ac (Nat.beq s es) (cM hi (n:Int) λh=>cM lo 0 λl=>.ask (n=0) (.req (l=0/\h=0) (k (.gsl b g 0 es))) (.req (0<=l/\l<=h/\h<=(n:Int)) (k (.slc b g (l.toNat * es) (h-l).toNat none es)))) .fail
 |_,_=>.fail
def CX(t:TypeId)(x:AV)(lo hi mx:Option AV)(k:AV->Tr):Tr:=match x with
 | .gsl b g n es=>Uv P t b g n es lo hi mx k
 | .ptr b g o=>.rd b λq=>ac (isGF q) (KQ P t b g o q lo hi mx k) (xc P t (.ptr b g o) lo hi mx k)
 |x=>xc P t x lo hi mx k
def zR(x:AV)(i:Nat)(k:AV->Tr):Tr:=match x with | .tup l=>cU l[i]? .fail k|_=>.fail
def KR(x:AV)(k:Nat->Tr):Tr:=match x with
 | .nils=>k 0
 | .slc _ _ _ len _ _=>k len
 | .str s=>fN s.length k
 |_=>.fail
def oW(size n:Nat)(x:AV)(k:List AV->Tr):Tr:=match x with
 | .nils=>k []
 | .slc b g o _ _ _=>ac (Nat.beq (n * size) 0) (k []) (fN (n * size) λm=>gp b g o m k)
 | .str s=>ac (Nat.beq size 1) (wX (s.take n) λs=>iw (eO s) k) .fail
 |_=>.fail
def KS(g:Nat)(l:List AV)(i:Nat)(t:T Cell)(k:T Cell->Tr):Tr:=
 List.rec (motive:=λ_=>Nat->T Cell->(T Cell->Tr)->Tr) (λ_ t k=>k t) (λa _ ih i t k=>ac (fQ a) (T.setK t i (.mk g a) λt=>fN (Nat.succ i) λi=>ih i t k) .fail) l i t k
def mt(e:TypeId)(size:Nat)(old new:List AV)(need:Nat)(k:AV->Tr):Tr:=
 iw (old++new) λl=>qI e l λb=>k (.slc b 0 0 need none size)
def Zp(e:Nat)(b g o len size n need:Nat)(new:List AV)(k:AV->Tr):Tr:=.rd b λq=>match q with
 | .cells c gen lo hi fl fh ro ty=>ac ro .fail (ac (Nat.beq g gen) (ac (Nat.beq o lo) (ac (Nat.beq (o+len * size) hi) (ac (Nat.ble fh hi) (ac (Nat.beq ty e)
  (fN (Nat.succ gen) λg'=>KS g' new hi c λc=>fN (hi+n * size) λhi'=>.wr b (.cells c g' lo hi' fl fh false e) (k (.slc b g' o need none size))) .fail) .fail) .fail) .fail) .fail)
 |_=>.fail
def KT(e:TypeId)(b g len size n:Nat)(new:List AV)(k:AV->Tr):Tr:=.rd b λq=>match q with
 | .grow c gen ty=>ac (Nat.beq g gen) (ac (Nat.beq c.es size) (ac (Nat.beq ty e) (ac (Nat.beq new.length (n * size)) (ac (new.all fQ) (match c.app new n with
  |some (c',p)=>.req (c.len=len/\len<=1000000000/\p) (.wr b (.grow c' (gen+1) ty) (k (.gsl b (gen+1) (len+n) size)))
  |none=>.fail) .fail) .fail) .fail) .fail) .fail
 |_=>.fail
def kI(e:TypeId)(size n:Nat)(new:List AV)(s:AV)(k:AV->Tr):Tr:=match s with
 | .gsl b g len es=>ac (Nat.beq es size) (ac (Nat.beq n 0) (k (.gsl b g len es)) (KT e b g len size n new k)) .fail
 | .nils=>ac (Nat.beq n 0) (k .nils) (mt e size [] new n k)
 | .slc b g o len cap es=>ac (Nat.beq es size) (ac (Nat.ble len 1000000) (ac (Nat.beq n 0) (k (.slc b g o len cap es))
  (fN (len+n) λneed=>match cap with
   |some c=>ac (Nat.ble need c) (fN (o+len * size) λp=>lD b g p new (k (.slc b g o need (some c) es)))
    (oW size len s λold=>mt e size old new need k)
   |none=>Zp e b g o len size n need new k)) .fail) .fail
 |_=>.fail
def CY(x:AV):Option (List Nat):=match x with
 | .sS t=>some t
 | .cv (.bytes t)=>some t
 |_=>none
def Uw(e:TypeId)(b g len:Nat)(t:List Nat)(k:AV->Tr):Tr:=.rd b λq=>match q with
 | .grow (.bytes l0) gen ty=>ac (Nat.beq g gen) (ac (Nat.beq ty e) (.req (l0.length=len/\len<=1000000000/\t.length<=1000000) (.wr b (.grow (.bytes (l0++t)) (gen+1) ty) (k (.gsl b (gen+1) (len+t.length) 1)))) .fail) .fail
 |_=>.fail
def zS(e:TypeId)(t:List Nat)(k:AV->Tr)(a:AV):Tr:=match a with
 | .gsl b g len es=>ac (Nat.beq es 1) (Uw e b g len t k) .fail
 |_=>.fail
def xe(cap:Option Nat):Bool:=match cap with|some 0=>true|_=>false
def qL(e:TypeId)(size:Nat)(t:List Nat)(s:AV)(k:AV->Tr):Tr:=ac (Nat.beq size 1) (match s with
 | .gsl b g len es=>zS e t k (.gsl b g len es)
 | .nils=>.new (.grow (.bytes []) 0 e) λb=>zS e t k (.gsl b 0 0 1)
 | .slc b g o len cap es=>ac (Nat.beq es 1) (ac (Nat.beq len 0) (ac (xe cap) (.new (.grow (.bytes []) 0 e) λb=>zS e t k (.gsl b 0 0 1)) .fail) (oV [] b g o len cap 1 rJ (zS e t k))) .fail
 |_=>.fail) .fail
def uN(e:TypeId)(size m:Nat)(l:List G)(k:AV->Tr)(a:AV):Tr:=match a with
 | .gsl b g len es=>ac (Nat.beq es size) (.rd b λq=>match q with
  | .grow (.rows m0 l0) gen ty=>ac (Nat.beq g gen) (ac (Nat.beq ty e) (ac (Nat.beq m0 m) (ac (Nat.beq (bq (cK m)) size) (.req (l0.length=len/\len<=1000000000/\l.length<=1000000) (.wr b (.grow (.rows m (l0++l)) (gen+1) ty) (k (.gsl b (gen+1) (len+l.length) es)))) .fail) .fail) .fail) .fail
  |_=>.fail) .fail
 |_=>.fail
def lE(e:TypeId)(size m:Nat)(l:List G)(s:AV)(k:AV->Tr):Tr:=match s with
 | .gsl b g len es=>uN e size m l k (.gsl b g len es)
 | .nils=>.new (.grow (.rows m []) 0 e) λb=>uN e size m l k (.gsl b 0 0 size)
 | .slc b g o len cap es=>ac (Nat.beq es size) (ac (Nat.beq len 0) (ac (xe cap) (.new (.grow (.rows m []) 0 e) λb=>uN e size m l k (.gsl b 0 0 size)) .fail) (oV [] b g o len cap es (rI m len) (uN e size m l k))) .fail
 |_=>.fail
def E5(x:AV):Option (Nat×List G):=match x with | .cv (.rows m l)=>some (m,l)|_=>none
def E6(e:TypeId)(size:Nat)(s x:AV)(k:AV->Tr):Tr:=match x with
 | .gsl b g n es=>.rd b λq=>match q with
  | .grow (.bytes t) gen _=>ac (Nat.beq g gen) (ac (Nat.beq es 1) (.req (t.length=n) (qL e size t s k)) .fail) .fail
  | .grow (.rows m l) gen _=>ac (Nat.beq g gen) (ac (Nat.beq es (bq (cK m))) (.ask (l.length=n) (lE e size m l s k) (.req (n<=l.length) (lE e size m (l.take n) s k))) .fail) .fail
  |_=>.fail
 | .slc b g o n none es=>.rd b λq=>match q with
  | .grow (.rows m l) gen _=>ac (Nat.beq g gen) (ac (Nat.beq es (bq (cK m))) (.req (o=o/es * es/\o/es+n<=l.length) (lE e size m ((l.drop (o/es)).take n) s k)) .fail) .fail
  |_=>KR (.slc b g o n none es) λn'=>ac (Nat.ble n' 1000000) (oW size n' (.slc b g o n none es) λnew=>kI e size n' new s k) .fail
 |x=>match E5 x with
  |some (m,l)=>lE e size m l s k
  |none=>match CY x with
   |some t=>qL e size t s k
   |none=>KR x λn=>ac (Nat.ble n 1000000) (oW size n x λnew=>kI e size n new s k) .fail
def E7(e:TypeId)(s x:AV)(k:AV->Tr):Tr:=Up P e λi=>ac (Nat.ble i.bytes 1000) (fN i.size λsize=>ac (Nat.ble 1 size)
 (rG P e λz=>iv z λz=>ac (Nat.beq z.length size) (E6 e size s x k) .fail) .fail) .fail
def xf(tys:Array TypeId)(args:List AV)(k:AV->Tr):Tr:=match tys[0]?,tys[1]?,args with
 |some ts,some tx,[s,x]=>co P ts λd=>co P tx λdx=>(match d,dx with
  |_,.int _=>.fail
  | .slice e,_=>E7 P e s x k
  |_,_=>.fail)
 |_,_,_=>.fail
def CZ(tys:Array TypeId)(args:List AV)(k:AV->Tr):Tr:=match tys[0]?,args with
 |some t,[x]=>co P t λd=>(match d,x with
  | .string,.str s=>fN s.length λn=>k (.int .i64 (.ofNat n))
  | .array n _,_=>k (.int .i64 (.ofNat n))
  | .slice _,.nils=>k (.int .i64 0)
  | .slice _,.slc _ _ _ len _ _=>k (.int .i64 (.ofNat len))
  | .slice _,.osl _=>k (.anyI .i64)
  | .slice _,.cv c=>k (.sI .i64 (c.len:Int))
  | .slice _,.gsl _ _ n _=>k (.sI .i64 (n:Int))
  | .string,.sS s=>k (.sI .i64 (s.length:Int))
  | .map _ _,.nilm=>k (.int .i64 0)
  | .map _ _,.map b=>.rd b λq=>(match q with | .mapo es _=>fN es.length λn=>k (.int .i64 (.ofNat n)) | .smap _ l=>k (.sI .i64 (l.length:Int))|_=>.fail)
  |_,_=>.fail)
 |_,_=>.fail
def Ux(b g len:Nat)(t:List Nat)(k:AV->Tr):Tr:=.rd b λq=>match q with
 | .grow (.bytes l0) gen ty=>ac (Nat.beq g gen) (.req (l0.length=len) (.wr b (.grow (.bytes (t.take len++l0.drop t.length)) gen ty) (k (.sI .i64 ((min t.length len:Nat):Int))))) .fail
 |_=>.fail
def KU(t:List Nat)(k:AV->Tr)(a:AV):Tr:=match a with
 | .gsl b g len es=>ac (Nat.beq es 1) (Ux b g len t k) .fail
 |_=>.fail
def Zq(t:List Nat)(d:AV)(k:AV->Tr):Tr:=match d with
 | .gsl b g len es=>KU t k (.gsl b g len es)
 | .slc b g o len cap es=>ac (Nat.beq es 1) (oV [] b g o len cap 1 rJ (KU t k)) .fail
 |_=>.fail
def KV(tys:Array TypeId)(args:List AV)(k:AV->Tr):Tr:=(λ_=>.fail) P
def KW(tys:Array TypeId)(args:List AV)(k:AV->Tr):Tr:=match args with
 | [d,x]=>(match CY x with
  |some t=>(match tys[0]? with
   |some ty=>co P ty λdd=>(match dd with
    | .slice e=>cx P e λsize=>ac (Nat.beq size 1) (Zq t d k) .fail
    |_=>.fail)
   |none=>.fail)
  |none=>KV P tys [d,x] k)
 |_=>.fail
end
end Go.Sym
namespace Go.Sym
noncomputable section
variable(P:Program)
def dt:Nat->AV->AV->Bool
 |0,_,_=>false
 |f+1,x,y=>match x,y with
  | .bool a,.bool b=>a==b
  | .int j a,.int j' b=>ac (decide (j=j')) (a==b) false
  | .str a,.str b=>ES a b
  | .agg a,.agg b=>sameAll (dt f) a b
  |_,_=>false
where
 sameAll (q:AV->AV->Bool):List AV->List AV->Bool
  | [],[]=>true
  |a::x,b::y=>ac (q a b) (sameAll q x y) false
  |_,_=>false
def gX(q:AV->AV->Option Bool)(key:AV):List ME->Nat->Option (Option (Nat×AV))
 | [],_=>some none
 | .mk k v _::es,i=>match q key k with
  |some true=>some (some (i,v))
  |some false=>gX q key es (i+1)
  |none=>none
def C0:Nat->TypeId->Bool
 |0,_=>false
 |f+1,t=>match P.underlying t with
  |some .bool|some (.int _)|some .string=>true
  |some (.struct fs)=>!P.stoodInHeld t && fs.toList.all λfd=>fd.name != "_" && C0 f fd.type
  |some (.array _ e)=>C0 f e
  |_=>false
def C1:Nat->TypeId->AV->Bool
 |0,_,_=>false
 |f+1,t,v=>match P.underlying t with
  |some .bool|some (.int _)|some .string=>true
  |some (.struct fs)=>(match v with
   | .agg l=>fs.toList.all λfd=>match P.info? fd.type,P.underlying fd.type with
    |some i,some d=>(match(if cw d then some (AV.agg ((l.drop fd.offset).take i.size)) else l[fd.offset]?) with
     |some a=>C1 f fd.type a
     |none=>false)
    |_,_=>false
   |_=>false)
  |some (.array n e)=>(match v,P.info? e,P.underlying e with
   | .agg l,some i,some d=>Nat.beq i.size 1 && !cw d && Nat.beq l.length n && l.all (C1 f e)
   |_,_,_=>false)
  |_=>false
def KX(x:AV)(k1:Nat->Nat->List G->Tr)(k0:Tr):Tr:=match x with
 | .map b=>.rd b λq=>(match q with | .smap m l=>k1 b m l|_=>k0)
 |_=>k0
def Ik(m:Nat)(d:TypeDesc):Bool:=match(bJ m).ka with
 |true=>(match wZ P d with|some ks=>decide (ks=(bJ m).ks)|none=>false)
 |false=>(match d with | .int j=>decide ((bJ m).ks= [j])|_=>false)
def Wc(m:Nat)(ix:AV):Option (List Int):=match(bJ m).ka,ix with
 |true,.agg xs=>cD (bJ m).ks xs
 |true,_=>none
 |false,a=>cD (bJ m).ks [a]
def KY(m:Nat)(kt:TypeId)(ix:AV)(k:List Int->Tr):Tr:=
 ac (C0 P 8 kt) (ac (C1 P 8 kt ix) (co P kt λd=>ac (Ik P m d) (cU (Wc m ix) .fail k) .fail) .fail) .fail
def Wd(m:Nat)(v:AV):Option (List G):=match(bJ m).va,v with
 |true,.agg l=>(match fT (bJ m).vs l with|some (gs,[])=>some gs|_=>none)
 |true,_=>none
 |false,a=>(match fT (bJ m).vs [a] with|some ([g],[])=>some [g]|_=>none)
def We(kt e:TypeId)(m:Nat)(l:List G)(ix:AV)(ok:Bool)(k:AV->Tr):Tr:=KY P m kt ix λns=>
 .ask (kg m l ns) (ac ok (k (.tup [jU m (eM m l ns),.bool true])) (k (jU m (eM m l ns)))) (rG P e λz=>ac ok (k (.tup [z,.bool false])) (k z))
def zU(t:TypeId)(x ix:AV)(ok:Bool)(k:AV->Tr):Tr:=(λ_=>.fail) P
def E8(t:TypeId)(x ix:AV)(ok:Bool)(k:AV->Tr):Tr:=KX x (λ_ m l=>co P t λd=>match d with
 | .map kt e=>We P kt e m l ix ok k
 |_=>.fail) (zU P t x ix ok k)
def pY(t:TypeId)(x key v:AV)(k:Tr):Tr:=(λ_=>.fail) P
def rK(t:TypeId)(x key v:AV)(k:Tr):Tr:=KX x (λb m l=>co P t λd=>match d with
 | .map kt e=>KY P m kt key λns=>cU (Wd m v) .fail λvs=>.wr b (.smap m (dk m l ns vs)) k
 |_=>.fail) (pY P t x key v k)
def KZ(t:TypeId)(x:AV)(k:AV->Tr):Tr:=co P t λd=>match d,x with
 | .map _ _,.map m=>.rd m λq=>(match q with | .mapo _ clock=>.new (.miter (some m) clock [] clock) λb=>k (.ptr b 0 0)|_=>.fail)
 |_,_=>.fail
def xg(l:List Nat)(n:Nat):Bool:=List.rec (motive:=λ_=>Bool) false (λa _ ih=>ac (Nat.beq a n) true ih) l
def zV(seen:List Nat)(since:Nat):List ME->Option (List ME)
 | []=>some []
 | .mk a v n::es=>if n<since then(match zV seen since es with|some l=>some (ac (xg seen n) l (.mk a v n::l))|none=>none) else none
def Uy(it:AV)(isStr:Bool)(k:AV->Tr):Tr:=match it with
 | .ptr b 0 0=>.rd b λq=>(match q,isStr with
  | .miter none _ _ _,false=>k (.tup [.bool false])
  | .miter (some m) since seen stepped,false=>.rd m λq=>(match q with
   | .mapo es clock=>ac (Nat.ble since stepped) (cU (zV seen since es) .fail λleft=>(match left with
    | []=>k (.tup [.bool false])
    |_=>.fail)) .fail
   |_=>.fail)
  |_,_=>.fail)
 |_=>.fail
def uO(x:AV)(k:AV->Tr):Tr:=match x with
 | .ptr b g o=>k (.ptr b g o)
 | .cptr l=>k (.cptr l)
 | .func (.func f) l m=>k (.func (.func f) l m)
 | .func (.yield f) l m=>k (.func (.yield f) l m)
 |_=>.fail
def ltI(a b:Int):Bool:=match a,b with
 | .ofNat a,.ofNat b=>Nat.ble (Nat.succ a) b
 |a,b=>decide (a<b)
def gq(mx:Bool):List AV->AV->(AV->Tr)->Tr
 | [],x,k=>k x
 |y::rest,x,k=>(match x,y with
  | .int j a,.int j' b=>ac (decide (j=j')) (ac (ac mx (ltI a b) (ltI b a)) (gq mx rest (.int j b) k) (gq mx rest (.int j a) k)) .fail
  |x,y=>(match ce x,ce y with
   |some (j,a),some (j',b)=>ac (decide (j=j')) (gq mx rest (.sI j (match mx with|true=>max a b|false=>min a b)) k) .fail
   |_,_=>.fail))
def E9(mx:Bool)(l:List AV)(k:AV->Tr):Tr:=match l with
 | []=>.fail
 |x::rest=>gq mx rest x k
def rL(x:AV)(k:AV->Tr):Tr:=match x with
 | .gsl b g n es=>.rd b λq=>(match q with
  | .froz c gen=>ac (Nat.beq g gen) (ac (Nat.beq c.es es) (.req (c.len=n) (k (.cv c))) .fail) .fail
  |_=>k (.gsl b g n es))
 |x=>k x
def Q0(x:AV)(k:AV->Tr):Tr:=match x with
 | .ptr b g o=>.rd b λq=>(match q with
  | .grow c gen _=>ac (Nat.beq g gen) (ac (Nat.beq c.es 1) (.req (0<c.len) (k (.gptr b g o 0 1))) .fail) .fail
  |_=>k (.ptr b g o))
 |x=>k x
def oX(l:List AV)(k:List AV->Tr):Tr:=List.rec (motive:=λ_=>(List AV->Tr)->Tr) (λk=>k []) (λx _ ih k=>rL x λx=>ih λl=>k (x::l)) l k
def frz0(x:AV)(k:AV->Tr):Tr:=match x with
 | .gsl b g n es=>.rd b λq=>(match q with
  | .grow c gen _=>ac (ac (ac (Nat.beq g gen) (Nat.beq c.es es) false) (Nat.ble (base+64) b) false) (.req (c.len=n) (.wr b (.froz c gen) (k (.cv c)))) (k (.gsl b g n es))
  | .froz c gen=>ac (Nat.beq g gen) (ac (Nat.beq c.es es) (.req (c.len=n) (k (.cv c))) .fail) .fail
  |_=>k (.gsl b g n es))
 |x=>k x
def K0(x:AV)(k:AV->Tr):Tr:=match x with
 | .slc b g o len cap es=>ac (ac (Nat.beq es 6) (Nat.ble 1 len) false) (oV [] b g o len cap es (rI 2 len) λa=>frz0 a k) (k (.slc b g o len cap es))
 |x=>frz0 x k
def K1(l:List AV)(k:List AV->Tr):Tr:=List.rec (motive:=λ_=>(List AV->Tr)->Tr) (λk=>k []) (λx _ ih k=>K0 x λx=>ih λl=>k (x::l)) l k
def zW(x:AV)(k:AV->Tr):Tr:=match x with
 | .agg l=>K1 l λl=>k (.agg l)
 |x=>K0 x k
def K2(l:List (Nat×AV))(k:List (Nat×AV)->Tr):Tr:=List.rec (motive:=λ_=>(List (Nat×AV)->Tr)->Tr) (λk=>k []) (λx _ ih k=>zW x.2 λa=>ih λl=>k ((x.1,a)::l)) l k
def K3(a v:AV)(k:AV->Tr):Tr:=match a with
 | .gptr _ _ _ _ _=>zW v k
 |_=>k v
abbrev cQ:=Nat->List AV->(AV->Tr)->Tr
def nr(b:Builtin)(tys:Array TypeId)(args:List AV)(k:AV->Tr):Tr:=match b with
 | .append=>xf P tys args k
 | .len=>CZ P tys args k
 | .copy=>KW P tys args k
 | .max=>E9 true args k
 |_=>.fail
def E_(f:Nat):Bool:=match P.funcs[f]? with
 |some fn=>(match fn.body with
  |none=>decide (fn.origin= "")
  |some _=>false)
 |none=>false
def Q1(i:Nat)(args:List AV)(k:AV->Tr):Tr:=match P.funcs[i]? with
 |some fn=>ac (decide (fn.name= "internal/abi.NoEscape")) (match args with | [x]=>k x|_=>.fail)
  .fail
 |none=>.fail
def Fa(en:cQ)(rn:cQ)(f:AV)(args:List AV)(k:AV->Tr):Tr:=match f with
 | .func (.func i) first cap=>ac (E_ P i) (Q1 P i (first++args++cap) k) (en i (first++args++cap) k)
 | .func (.yield l) first cap=>rn l (first++args) k
 |_=>.fail
def K4(k:AV->Tr):Tr:=k (.tup [])
def Q2(en rn:cQ)(env:T AV)(op:Op)(k:AV->Tr):Tr:=match op with
 | .move x=>fF env x k
 | .assign x=>fF env x k
 | .pick c a b=>fF env c λc=>EP c λc=>ac c (fF env a k) (fF env b k)
 | .alloc t=>rG P t λz=>nl t z k
 | .box t x=>fF env x λv=>nl t v k
 | .build t ps=>iL env ps.toList λl=>KH P t l k
 | .buildSlice t n ps=>iL env ps.toList λl=>K2 l λl=>pX P t n l k
 | .load t a=>fF env a λa=>Q0 a λa=>zN P t a k
 | .store t a v=>fF env a λa=>fF env v λv=>Q0 a λa=>K3 a v λv=>KF P t a v (K4 k)
 | .nilCheck x=>fF env x λx=>uO x k
 | .binOp op t x y _=>fF env x λa=>fF env y λb=>KD P (ac (pW x) true (pW y)) op t a b k
 | .unOp op _ x=>fF env x λx=>Uq op x k
 | .convert s d x=>fF env x λx=>rL x λx=>Us P s d x k
 | .makeFunc fn first cap=>ac (zJ fn) (nk env first.toList λa=>nk env cap.toList λb=>k (.func fn a b)) .fail
 | .makeMap t r=>(match r with
  |none=>.new (.mapo [] 0) λb=>k (.map b)
  |some x=>co P t λd=>(match d with | .map _ _=>fF env x λv=>rF v λ_ _=>.new (.mapo [] 0) λb=>k (.map b)|_=>.fail))
 | .slice t x lo hi mx=>fF env x λx=>Ij env lo λlo=>Ij env hi λhi=>Ij env mx λmx=>rL x λx=>CX P t x lo hi mx k
 | .fieldAddr t x f=>fF env x λx=>rH P t x f k
 | .indexAddr t x i=>fF env x λx=>fF env i λi=>rL x λx=>ms P t x i k
 | .index t x i=>fF env x λx=>fF env i λi=>KN P t x i k
 | .lookup t x i ok=>fF env x λx=>fF env i λi=>E8 P t x i ok k
 | .mapUpdate t m i v=>fF env m λm=>fF env i λi=>fF env v λv=>rK P t m i v (K4 k)
 | .range t x=>fF env x λx=>KZ P t x k
 | .next it s=>fF env it λit=>Uy it s k
 | .extract t i=>fF env t λt=>zR t i k
 | .call c=>(match c.callee with
  | .builtin b=>nk env c.args.toList λl=>oX l λl=>nr P b c.argTypes l k
  | .value f=>fF env f λf=>nk env c.args.toList λl=>Fa P en rn f l k
  | .invoke _ _=>.fail)
 |_=>.fail
inductive AEx where
 |normal
 |exit (id:Nat)
 |goto (l:Nat)
 |ret
abbrev XK:=AEx->T AV->List Nat->Tr
abbrev X:=Code->T AV->Nat->Nat->Option Nat->List Nat->XK->Tr
def zX(nt:Nat)(dst:Option Nat)(v:AV)(env:T AV)(k:T AV->Tr):Tr:=match dst with
 |none=>k env
 |some d=>ac (Nat.ble (Nat.succ d) nt) (T.setK env d v k) .fail
def kJ(ops:Array Oper)(env:T AV)(o:Oper)(yes no:Tr):Tr:=match o.guard with
 |none=>yes
 |some (j,want)=>(match ops[j]? with
  |some oj=>(match oj.dst with
   |some d=>T.getK env d .fail λv=>(match v with | .bool b=>ac (b==want) yes no | .sB p=>ac want (.ask p yes no) (.ask p no yes) | .tup _=>no|_=>.fail)
   |none=>.fail)
  |none=>.fail)
def qM(ops:Array Oper)(env:T AV)(o:Oper)(yes no:T AV->Tr):Tr:=match o.guard with
 |none=>yes env
 |some (j,want)=>(match ops[j]? with
  |some oj=>(match oj.dst with
   |some d=>T.getK env d .fail λv=>(match v with
    | .bool b=>ac (b==want) (yes env) (no env)
    | .sB p=>.ask p (T.setK env d (.bool true) λenv=>ac want (yes env) (no env)) (T.setK env d (.bool false) λenv=>ac want (no env) (yes env))
    | .tup _=>no env
    |_=>.fail)
   |none=>.fail)
  |none=>.fail)
def Q3(en rn:cQ)(nt:Nat)(ops:Array Oper)(l:List Oper)(env:T AV)(k:T AV->Tr):Tr:=
 List.rec (motive:=λ_=>T AV->(T AV->Tr)->Tr) (λenv k=>k env) (λo _ ih env k=>
  qM ops env o (λenv=>Q2 P en rn env o.op λv=>zX nt o.dst v env λenv=>ih env k) (λenv=>zX nt o.dst (.tup []) env λenv=>ih env k)) l env k
inductive Note where
 |mk (c c':Nat) (t:T Unit) (w:List Nat)
def oY(t:T Unit)(l:List Nat):Bool:=List.rec (motive:=λ_=>Bool) true (λb _ ih=>T.getK t b ih λ_=>false) l
def cV(c c':Nat)(l:List Nat):Bool:=List.rec (motive:=λ_=>Bool) true (λb _ ih=>ac (Nat.ble c b) (ac (Nat.ble (Nat.succ b) c') false ih) ih) l
def C2(a b:Note):Bool:=match a,b with
 | .mk c c' t w,.mk d d' u v=>ac (oY u w) (ac (oY t v) (ac (cV c c' (T.keys u id [])) (ac (cV c c' v) true false) false) false) false
def jr:List Oper->List Nat->List Nat
 | [],acc=>acc
 |o::l,acc=>jr l (acc++ [o.after.toList.foldl (λs e=>if Region.binds .any e then s ||| 2 ^ e.on ||| acc.getD e.on 0 else s) 0])
def looks(ops:Array Oper)(o:Oper):List Nat:=
 o.op.operands.toList.filterMap (λ| .tmp t=>some t|_=>none)++(match o.guard with|some (j,_)=>(match ops[j]? with|some oj=>oj.dst.toList|none=>[])|none=>[])
def xh(ops:Array Oper)(a b:Oper):Bool:=
 (match a.dst with|some d=>!(looks ops b).contains d|none=>true) && (match b.dst with|some d=>!(looks ops a).contains d|none=>true) && (match a.dst,b.dst with|some d,some e=>d !=e|_,_=>true)
def oZ(ops:Array Oper):Bool:=
 let bs:=jr ops.toList []
 ops.toList.zipIdx.all λ(o,j)=>o.after.toList.all (λe=>!Region.binds .any e || decide (e.on<j)) && (ops.toList.zipIdx.all λ(p,i)=>!(decide (i<j)) || (bs.getD j 0).testBit i || xh ops p o)
def o_(bs:List Nat):List (Nat×Note)->Bool
 | []=>true
 |(j,b)::l=>ac (l.all λ(i,a)=>ac ((bs.getD j 0).testBit i) true (C2 a b)) (o_ bs l) false
def Fb(en rn:cQ)(nt:Nat)(ops:Array Oper)(l:List Oper)(i:Nat)(env:T AV)(ns:List (Nat×Note))(k:T AV->Tr):Tr:=
 List.rec (motive:=λ_=>Nat->T AV->List (Nat×Note)->(T AV->Tr)->Tr) (λ_ env ns k=>ac (o_ (jr ops.toList []) ns) (k env) .fail) (λo _ ih i env ns k=>
  .sub (kJ ops env o (Q2 P en rn env o.op .ret) (.ret (.tup []))) λv c c' t w=>zX nt o.dst v env λenv=>fN (Nat.succ i) λi'=>ih i' env ((i,.mk c c' t w)::ns) k) l i env ns k
def K5(l:List AV)(i:Nat)(t:T AV)(k:T AV->Tr):Tr:=
 List.rec (motive:=λ_=>Nat->T AV->(T AV->Tr)->Tr) (λ_ t k=>k t) (λa _ ih i t k=>T.setK t i a λt=>fN (Nat.succ i) λi=>ih i t k) l i t k
def K6(env:T AV)(l:List ResultVar)(k:List AV->Tr):Tr:=
 List.rec (motive:=λ_=>(List AV->Tr)->Tr) (λk=>k []) (λr _ ih k=>(match r with
  | .tmp t=>T.getK env t .fail λv=>ih λl=>k (v::l)
  | .cell a t=>T.getK env a .fail λp=>zN P t p λv=>ih λl=>k (v::l))) l k
def xi(df:List Nat)(k:Tr):Tr:=
 List.rec (motive:=λ_=>Tr->Tr) (λk=>k) (λb _ ih k=>.rd b λq=>(match q with | .dfr true=>.wr b (.dfr false) (ih k)|_=>.fail)) df k
def nu(x:X):cQ:=λf args k=>cU P.funcs[f]? .fail λfn=>cU fn.body .fail λc=>
 ac (decide (fn.name= "runtime.NumGoroutine")) .fail (ac (Nat.ble args.length fn.ntmps) (K5 args 0 .leaf λenv=>x c env fn.ntmps f none [] λex env df=>
  (match ex with
  | .normal | .ret=>xi df (K6 P env fn.results.toList λl=>(match l with | [v]=>k v|l=>k (.tup l)))
  |_=>.fail)) .fail)
def Fc(l:List Nat)(vs:List AV)(nt:Nat)(t:T AV)(k:T AV->Tr):Tr:=match l,vs with
 | [],[]=>k t
 |p::l,v::vs=>ac (Nat.ble (Nat.succ p) nt) (T.setK t p v λt=>Fc l vs nt t k) .fail
 |_,_=>.fail
def iM(l:Nat)(jump:Option Code)(k:AV->Tr):Tr:=.rd l λq=>match q with
 | .loop _ _ fn nt tmps ps as bd d=>.wr l (.loop (match jump with|none=>.ready|some _=>.done) jump fn nt tmps ps as bd d) (k (.bool (match jump with|none=>true|some _=>false)))
 |_=>.fail
def C3(x:X):cQ:=λl args k=>.rd l λq=>match q with
 | .loop _ _ fn nt tmps ps as bd d=>Fc ps args nt tmps λenv=>x as env nt fn (some l) [] λex env df=>(match ex,df with
  | .normal,[]=>.rd l λq=>(match q with
   | .loop .ready jump fn nt' tmps ps s9 bd' d=>.wr l (.loop .busy jump fn nt' tmps ps s9 bd' d) (x bd env nt fn (some l) [] λex env df=>(match df with
    | []=>(match ex with
     | .normal=>iM l none k
     | .ret=>iM l (some .ret) k
     | .exit id=>iM l (some (.exit id)) k
     | .goto t=>iM l (some (.goto t)) k)
    |_=>.fail))
   |_=>.fail)
  |_,_=>.fail)
 |_=>.fail
def C4(fn nt:Nat)(tmps:T AV)(ps:List Nat)(as bd:Code)(eK:Option Nat)(df:List Nat)(k:Nat->List Nat->Tr):Tr:=match eK with
 |none=>.new (.dfr true) λd=>.new (.loop .ready none fn nt tmps ps as bd d) λl=>k l (d::df)
 |some _=>.fail
def C5(x:X)(g:AV)(l:Nat)(k:Tr->Tr)(go:Code->Tr)(z:Tr):Tr:=
 match g with
 | .func (.func i) first cap=>nu P x i (first++ [.func (.yield l) [] []]++cap) λ_=>.rd l λq=>(match q with
  | .loop st jump fn nt tmps ps as bd d=>(match st with
   | .busy=>.fail
   |_=>.wr l (.loop .exhausted jump fn nt tmps ps as bd d) (match jump with|none=>z|some c=>go c))
  |_=>.fail)
 |_=>.fail
inductive Memo where
 |mk (f:Nat) (ty:Option Nat) (arg:List Nat) (res:AV)
def memF(f:Nat)(l:List Memo):Bool:=List.rec (motive:=λ_=>Bool) false (λm _ ih=>match m with | .mk g _ _ _=>ac (Nat.beq f g) true ih) l
def C6(a b:Option Nat):Bool:=match a,b with
 |none,none=>true
 |some a,some b=>Nat.beq a b
 |_,_=>false
def d_(f:Nat)(ty:Option Nat)(arg:List Nat)(l:List Memo):Option AV:=List.rec (motive:=λ_=>Option AV) none (λm _ ih=>match m with
 | .mk g u a r=>ac (Nat.beq f g) (ac (C6 ty u) (ac (ES arg a) (some r) ih) ih) ih) l
def l_(f:Nat):Bool:=match P.funcs[f]? with
 |some fn=>(match fn.body with|some _=>!decide (fn.name= "runtime.NumGoroutine")|none=>false)
 |none=>false
def Zr(M:List Memo)(f:Nat)(a:AV)(k:AV->Tr)(z:Tr):Tr:=match a with
 | .slc b g o n none es=>ac (Nat.beq o 0) (ac (Nat.beq es 1) (.rd b λq=>(match q with
  | .cells c gen lo _ _ _ _ ty=>ac (Nat.beq lo 0) (ac (Nat.ble g gen) (ac (Nat.ble 1 n) (QY c g n 0 λl=>cU (KI l) .fail λbs=>cU (d_ f (some ty) bs M) z λr=>ac (l_ P f) (k r) .fail) .fail) .fail) .fail
  |_=>.fail)) z) z
 | .str s=>cU (d_ f none s M) z λr=>ac (l_ P f) (k r) .fail
 |_=>z
def K7(M:List Memo)(en:cQ):cQ:=λf args k=>ac (memF f M) (match args with | [a]=>Zr P M f a k (en f args k) | []=>cU (d_ f (some 0) [] M) (en f args k) λr=>ac (l_ P f) (k r) .fail|_=>en f args k) (en f args k)
structure Tab where
 memos:List Memo
 con:Nat->List AV->Option ((AV->Tr)->Tr)
 blk:Nat->Nat->Option (Nat->T AV->(AEx->T AV->Tr)->Tr)
def K8(M:Tab)(en:cQ):cQ:=λf args k=>cU (M.con f args) (K7 P M.memos en f args k) λt=>t k
def zY(c:Code):Bool:=match c with | .ret=>true | .exit _=>true | .goto _=>true|_=>false
variable(M:Tab)
def FX(x:X):X:=λc env nt fn eK df k=>match c with
 | .skip=>k .normal env df
 | .label _=>k .normal env df
 | .ret=>k .ret env df
 | .exit id=>k (.exit id) env df
 | .goto l=>k (.goto l) env df
 | .region _ ops draw=>ac draw (ac (P.follows .mixedOrders) (ac (Nat.ble nt 1000000000) (ac (oZ ops) (Fb P (K8 P M (nu P x)) (C3 x) nt ops ops.toList 0 env [] λenv=>k .normal env df) .fail) .fail) .fail)
  (Q3 P (K8 P M (nu P x)) (C3 x) nt ops ops.toList env λenv=>k .normal env df)
 | .seq a b=>x a env nt fn eK df λex env df=>(match ex with
  | .normal=>x b env nt fn eK df k
  |ex=>k ex env df)
 | .cond c a b=>fF env c λv=>Uo v (x a env nt fn eK df k) (x b env nt fn eK df k)
 | .block id c=>cU (match eK,df with|none,[]=>M.blk fn id|_,_=>none) (x c env nt fn eK df λex env df=>(match ex with
  | .exit id'=>ac (Nat.beq id' id) (k .normal env df) (k (.exit id') env df)
  |ex=>k ex env df)) λt=>t nt env λex env=>k ex env df
 | .loop c=>x c env nt fn eK df λex env df=>(match ex with
  | .normal=>x (.loop c) env nt fn eK df k
  |ex=>k ex env df)
 | .rangeFunc g ps as bd=>C4 fn nt env ps.toList as bd eK df λl df=>fF env g λg=>
  C5 P x g l id (λc=>ac (zY c) (x c env nt fn eK df k) .fail) (k .normal env df)
 |_=>.fail
def xj(n:Nat):X:=Nat.rec (motive:=λ_=>X) (λ_ _ _ _ _ _ _=>.fail) (λ_ x=>FX P M x) n
def start(H:T ABlk)(next:Nat):St:=.mk H next 0 .leaf []
end
end Go.Sym
namespace Go.Sym
open Go.RowKit (Below)
def SI:St->Prop
 | .mk h n fs tc w=>1<=n/\n<=1000000001/\fs<=n/\(∀b∈w,tc.get b=some ())/\∀b,tc.get b=some ()->b<fs
def cW{b:Nat}{k:ABlk->Tr}{σ:St}{K:Fin}(hS:SI σ)(h:run (.rd b k) σ K=true):b+1<2 ^ 64:=by
 cases σ with
 |mk H n fs tc w=>
  rw[iu] at h;split at h;case isFalse=>cases h
  obtain⟨h1,h2,_⟩:=hS;omega
def bG{b:Nat}{k:ABlk->Tr}{σ:St}{K:Fin}(hS:SI σ)(h:run (.rd b k) σ K=true):
 ∃x a9,σ.h.get b=some x/\a9.h=σ.h/\SI a9/\run (k x) a9 K=true:=by
 cases σ with
 |mk H n fs tc w=>
  rw[iu] at h
  split at h
  case isFalse=>cases h
  rename_i hbn
  split at h
  ·cases h
  ·rename_i x hb;refine⟨x,_,hb, ?_, ?_,h⟩
   ·rfl
   ·obtain⟨h1,h2,h3,h5,h6⟩:=hS;have f9:b+1<2 ^ 64:=by omega
    show 1<=n/\n<=1000000001/\fs<=n/\(∀y∈w,(note fs b tc).get y=some ())/\∀y,(note fs b tc).get y=some ()->y<fs;refine⟨h1,h2,h3,λy hy=>dI f9 (h5 y hy),λy hy=>?_⟩;by_cases e:fs<=b
    ·rw[note,if_pos e] at hy;exact h6 y hy
    ·by_cases ey:y=b
     ·omega
     ·rw[note,if_neg e,T.get_set_ne _ ey] at hy;exact h6 y hy
def ft{b:Nat}{x:ABlk}{k:Tr}{σ:St}{K:Fin}(hS:SI σ)(h:run (.wr b x k) σ K=true):
 ∃x0 a9,σ.h.get b=some x0/\a9.h=σ.h.set b x/\SI a9/\b+1<2 ^ 64/\run k a9 K=true:=by
 cases σ with
 |mk H n fs tc w=>
  rw[kB] at h
  split at h
  case isFalse=>cases h
  rename_i hbn
  split at h
  ·cases h
  ·rename_i x0 hb;obtain⟨h1,h2,h3,h5,h6⟩:=hS;have f9:b+1<2 ^ 64:=by omega
   refine⟨x0,_,hb,rfl, ?_,f9,h⟩;show 1<=n/\n<=1000000001/\fs<=n/\(∀y∈gT fs b w,(note fs b tc).get y=some ())/\∀y,(note fs b tc).get y=some ()->y<fs;refine⟨h1,h2,h3,λy hy=>?_,λy hy=>?_⟩
   ·rcases oU hy with hy|⟨e,hy⟩
    ·exact dI f9 (h5 y hy)
    ·subst e;exact kC f9 hy
   ·by_cases e:fs<=b
    ·rw[note,if_pos e] at hy;exact h6 y hy
    ·by_cases ey:y=b
     ·omega
     ·rw[note,if_neg e,T.get_set_ne _ ey] at hy;exact h6 y hy
def gt{x:ABlk}{k:Nat->Tr}{σ:St}{K:Fin}(hS:SI σ)(h:run (.new x k) σ K=true):
 ∃n a9,σ.h.get n=none/\n+1<2 ^ 64/\a9.h=σ.h.set n x/\SI a9/\run (k n) a9 K=true:=by
 cases σ with
 |mk H n fs tc w=>
  rw[gU] at h
  split at h
  ·split at h
   ·cases h
   ·rename_i hn s8;obtain⟨h1,h2,h3,h5,h6⟩:=hS;refine⟨n,_,s8,by omega,rfl, ?_,h⟩;show 1<=n+1/\n+1<=1000000001/\fs<=n+1/\(∀y∈w,tc.get y=some ())/\∀y,tc.get y=some ()->y<fs;exact⟨by omega,by omega,by omega,h5,h6⟩
  ·cases h
def Fd{n:Nat}{k:Nat->Tr}{σ:St}{K:Fin}(h:run (.pick n k) σ K=true):∀i,(i=0∨i<n)->(n<=1->i=0)->run (k i) σ K=true:=by
 intro i hi h1;by_cases hn:n<=1
 ·rw[h1 hn];have:run (.pick n k) σ K=run (k 0) σ K:=by show ac (Nat.ble n 1) (run (k 0) σ K) _=_;rw[ar,if_pos (Nat.ble_eq.mpr hn)]
  rw[←this];exact h
 ·cases σ with
  |mk H m fs tc w=>
   have hb:Nat.ble n 1=false:=by
    cases hb:Nat.ble n 1 with
    |false=>rfl
    |true=>exact absurd (Nat.ble_eq.mp hb) hn
   have h':ac (Nat.ble n 1) (run (k 0) (.mk H m fs tc w) K) (ac (Nat.beq fs 0) (iK (λi=>run (k i) (.mk H m fs tc w) K) n) false)=true:=h;rw[hb] at h';have h2:=(aD (b:=Nat.beq fs 0) h').2;exact nh.mp h2 i (by omega)
def cX{p:Prop}{t e:Tr}{σ:St}{K:Fin}(h:run (.ask p t e) σ K=true):(p/\run t σ K=true)∨(¬p/\run e σ K=true):=by
 by_cases hp:p
 ·exact .inl ⟨hp,by rw[←fm t e σ K hp];exact h⟩
 ·exact .inr ⟨hp,by rw[←fo t e σ K hp];exact h⟩
def aN{p:Prop}{t:Tr}{σ:St}{K:Fin}(h:run (.req p t) σ K=true):p/\run t σ K=true:=by
 by_cases hp:p
 ·exact⟨hp,by rw[←fq t σ K hp];exact h⟩
 ·rw[pU t σ K hp] at h;cases h
def Ext(w w':World):Prop:=∀k,k<w.heap.size->w'.heap[k]? =w.heap[k]?
def ER.mono{ρ ρ':Rho}(hle:ρ.le ρ'){nt:Nat}{env:T AV}{tmps:Array Value}(h:ER ρ nt env tmps):ER ρ' nt env tmps:=
 ⟨h.size,λt a ha=>let⟨v,hv,r⟩:=h.val t a ha;⟨v,hv,r.mono hle⟩⟩
def BR.keep{ρ ρ':Rho}{B:Nat}{w w':World}{b:Nat}{x:ABlk}(hle:ρ.le ρ')(hg:∀g h,ρ.at_ b g=some h->w'.heap[h.blk]? =w.heap[h.blk]?)(h:BR ρ B w b x):BR ρ' B w' b x:=by
 cases x with
 |cells c gen lo hi fl fh ro ty=>
  refine⟨h.1,λg hgg=>?_⟩
  obtain⟨hm,h1,h2,h2',arr,fr,h3,h4,h5,h6⟩:=h.2 g hgg
  refine⟨hm,hle.at_ _ _ _ h1,λhr=>(h2 hr).mono hle,h2',arr,fr,by rw[hg g hm h1];exact h3,h4,h5,λo tag a ho ht=>?_⟩
  obtain⟨q1,v,q2,q3⟩:=h6 o tag a ho ht
  exact⟨q1,v,q2,q3.mono hle⟩
 |grow c gen ty=>
  rcases h with h1|⟨hm,h1,hs,h2,arr,fr,h3,h4,h5,h6,h7⟩
  ·exact .inl h1
  ·refine .inr ⟨hm,hle.at_ _ _ _ h1,hs,h2.mono hle,arr,fr,by rw[hg gen hm h1];exact h3,h4,h5,h6,λi hi j a ha=>?_⟩;obtain⟨u,q1,q2⟩:=h7 i hi j a ha;exact⟨u,q1,q2.mono hle⟩
 |tab ty l=>exact⟨h.1,hle.frz _ _ h.2⟩
 |froz c gen=>
  rcases h with h1|⟨hm,arr,ty,h1,hs,h2,h3,h4⟩
  ·exact .inl h1
  ·refine .inr ⟨hm,arr,ty,hle.at_ _ _ _ h1,hs,hle.frz _ _ h2,h3,λi hi j a ha=>?_⟩;obtain⟨u,q1,q2⟩:=h4 i hi j a ha;exact⟨u,q1,q2.mono hle⟩
 |mapo es clock=>
  obtain⟨hm,h1,h2,R',h3,h4,h5⟩:=h
  refine⟨hm,hle.at_ _ _ _ h1,h2.mono hle,R',by rw[hg 0 hm h1];exact h3,h4,λi k v n e hi he=>?_⟩
  obtain⟨q1,q2,q3⟩:=h5 i k v n e hi he
  exact⟨q1.mono hle,q2.mono hle,q3⟩
 |smap m l=>
  obtain⟨hm,h1,h2,es,clock,h3,h4,h5⟩:=h
  refine⟨hm,hle.at_ _ _ _ h1,h2.mono hle,es,clock,by rw[hg 0 hm h1];exact h3,h4,λi g e hi he=>?_⟩
  obtain⟨q1,q2⟩:=h5 i g e hi he
  exact⟨q1.mono hle,q2.mono hle⟩
 |obj k I l=>
  obtain⟨hl,hm,fp,h1,h2,h3,h4⟩:=h
  refine⟨hl,hm,fp,hle.at_ _ _ _ h1,h2,λx hx=>?_,hl _ _ _ _ (λx hx=>?_) h4⟩
  ·obtain⟨q1,g,hh,q2,q3⟩:=h3 x hx;exact⟨q1.mono hle,g,hh,hle.at_ _ _ _ q2,q3⟩
  ·obtain⟨_,g,hh,q2,q3⟩:=h3 x hx;rw[←q3];exact hg g hh q2
 |siter s pos=>
  obtain⟨hm,h1,h2,s',h3,h4⟩:=h
  exact⟨hm,hle.at_ _ _ _ h1,h2.mono hle,s',h3,by rw[hg 0 hm h1];exact h4⟩
 |miter m since seen stepped=>
  obtain⟨hm,h1,h2,m',ad8,h3,h4,h5⟩:=h
  refine⟨hm,hle.at_ _ _ _ h1,h2.mono hle,m',ad8,by rw[hg 0 hm h1];exact h3,h4, ?_⟩
  cases m with
  |none=>exact h5
  |some x=>obtain⟨hx,q1,q2⟩:=h5;exact⟨hx,hle.at_ _ _ _ q1,q2⟩
 |dfr live=>
  obtain⟨hm,h1,h2,h3⟩:=h
  exact⟨hm,hle.at_ _ _ _ h1,h2.mono hle,by rw[hg 0 hm h1];exact h3⟩
 |loop state jump fn nt tmps params assign body defers=>
  obtain⟨hm,h1,h2,ac6,hd,fn',h3,h4,h5⟩:=h
  exact⟨hm,hle.at_ _ _ _ h1,h2.mono hle,ac6,hd,fn',h3.mono hle,hle.at_ _ _ _ h4,by rw[hg 0 hm h1];exact h5⟩
def Rho.put(ρ:Rho)(b g:Nat)(h:Home):Rho:={at_:=λx y=>if x=b/\y=g then some h else ρ.at_ x y,val:=ρ.val,own:=ρ.own,frz:=ρ.frz,frz0:=ρ.frz0}
def Rho.put_at(ρ:Rho)(b g:Nat)(h:Home):(ρ.put b g h).at_ b g=some h:=by simp [Rho.put]
def Rho.le_put{ρ:Rho}{b g:Nat}{h:Home}(s8:ρ.at_ b g=none):ρ.le (ρ.put b g h):=
 ⟨λx y z hz=>by
  show(if x=b/\y=g then some h else ρ.at_ x y)=some z;by_cases e:x=b/\y=g
  ·rw[e.1,e.2,s8] at hz;cases hz
  ·rw[if_neg e];exact hz,rfl,rfl,λ_ _ h=>h,rfl⟩
def Good.none_at{w0:World}{ρ:Rho}{H:T ABlk}{w:World}(hG:Good w0 ρ H w){n:Nat}(hn:H.get n=none)(g:Nat):ρ.at_ n g=none:=by
 cases h:ρ.at_ n g with
 |none=>rfl
 |some x=>obtain⟨_,y,hy⟩:=hG.dom _ _ _ h;rw[hn] at hy;cases hy
def Good.alloc{w0:World}{ρ:Rho}{H:T ABlk}{w:World}(hG:Good w0 ρ H w){n:Nat}(hn:H.get n=none)(f9:n+1<2 ^ 64)(x:ABlk)(o:Obj)(shift size:Nat)(hB:∀ρ':Rho,ρ.le ρ'->ρ'.at_ n 0=some ⟨w.heap.size,shift,size⟩->ρ'=ρ.put n 0 ⟨w.heap.size,shift,size⟩->BR ρ' w0.heap.size {w with heap:=w.heap.push o} n x):
 ρ.le (ρ.put n 0 ⟨w.heap.size,shift,size⟩)/\Good w0 (ρ.put n 0 ⟨w.heap.size,shift,size⟩) (H.set n x) {w with heap:=w.heap.push o}:=by
 have s8:=hG.none_at hn 0
 have hle:ρ.le (ρ.put n 0 ⟨w.heap.size,shift,size⟩):=Rho.le_put s8
 refine⟨hle,⟨⟨?_,λb y hy=>?_,λb g h hh=>?_,λb g h b' g' h' hh j9 e=>?_,λb g h y hh hy=>?_,λb arr ty hf=>?_,hG.frzB,λb k I l hb g h hh=>?_⟩,λx hx=>by obtain⟨b,g,h,q1,q2,q3⟩:=hG.ownB x hx;exact⟨b,g,h,q1,hle.at_ _ _ _ q2,q3⟩⟩⟩
 ·exact hG.below.alloc hG.below.size o
 ·by_cases e:b=n
  ·subst e;rw[T.get_set_same _ _ _ f9] at hy;injection hy with hy;subst hy;exact hB _ hle (Rho.put_at _ _ _ _) rfl
  ·rw[T.get_set_ne _ e] at hy;refine(hG.blk b y hy).keep hle λg h hh=>?_;have:=(hG.dom _ _ _ hh).1;show(w.heap.push o)[h.blk]? =_;rw[Array.getElem?_push,if_neg (by omega)]
 ·simp only [Rho.put] at hh;split at hh
  ·rename_i e;injection hh with hh;subst hh;obtain⟨e1,e2⟩:=e;subst e1;exact⟨by simp,x,T.get_set_same _ _ _ f9⟩
  ·obtain⟨q1,y,q2⟩:=hG.dom _ _ _ hh;refine⟨by show h.blk<(w.heap.push o).size;simp;omega,y, ?_⟩;rw[T.get_set_ne]
   ·exact q2
   ·intro e;subst e;rw[hn] at q2;cases q2
 ·simp only [Rho.put] at hh j9;split at hh
  ·rename_i c;split at j9
   ·rename_i c';injection hh with hh;injection j9 with j9;exact⟨c.1.trans c'.1.symm,hh.symm.trans j9⟩
   ·injection hh with hh;subst hh;have:=(hG.dom _ _ _ j9).1;simp only at e;omega
  ·split at j9
   ·injection j9 with j9;subst j9;have:=(hG.dom _ _ _ hh).1;simp only at e;omega
   ·exact hG.inj _ _ _ _ _ _ hh j9 e
 ·simp only [Rho.put] at hh;split at hh
  ·rename_i c;rw[c.2];cases y <;> first|exact aap _|trivial
  ·have hbn:b≠n:=λe=>by subst e;rw[hG.none_at hn g] at hh;cases hh
   rw[T.get_set_ne _ hbn] at hy;exact hG.gens b g h y hh hy
 ·have hf:ρ.frz b=some (arr,ty):=hf;obtain⟨⟨fr,q1⟩,q2⟩:=hG.frz b arr ty hf;have c8:b<w.heap.size:=by
   rcases aaf b w.heap.size with h'|h'
   ·exact h'
   ·rw[aaT h'] at q1;cases q1
  refine⟨⟨fr, ?_⟩,λb' g h hh e=>?_⟩
  ·show(w.heap.push o)[b]? =_;rw[Array.getElem?_push,if_neg (by omega)];exact q1
  ·simp only [Rho.put] at hh;split at hh
   ·injection hh with hh;subst hh;have e:w.heap.size=b:=e;omega
   ·obtain⟨y,r1,r2⟩:=q2 _ _ _ hh e;exact⟨y,by rw[T.get_set_ne _ (λe=>by subst e;rw[hn] at r1;cases r1)];exact r1,r2⟩
 ·simp only [Rho.put] at hh;split at hh
  ·rename_i hc;injection hh with hh;subst hh;exact⟨.new hG.below.size,.inl hc.2⟩
  ·have hbn:b≠n:=λe=>by subst e;rw[hG.none_at hn g] at hh;cases hh
   rw[T.get_set_ne _ hbn] at hb;exact hG.objO b k I l hb g h hh
def Good.drawn{w0:World}{ρ:Rho}{H:T ABlk}{w:World}(hG:Good w0 ρ H w)(n:Nat):Good w0 ρ H {w with drawn:=n}:=
 ⟨⟨⟨hG.below.os,hG.below.tape,hG.below.output,hG.below.size,hG.below.block⟩,λb x hx=>BR.keep (w:=w) (w':={w with drawn:=n}) (Rho.le.refl ρ) (λ_ _ _=>rfl) (hG.blk b x hx),hG.dom,hG.inj,hG.gens,hG.frz,hG.frzB,hG.objO⟩,hG.ownB⟩
def Good.turn{w0:World}{ρ:Rho}{H:T ABlk}{w w':World}(hG:Good w0 ρ H w){b:Nat}{x0 x:ABlk}(hb:H.get b=some x0)(f9:b+1<2 ^ 64)(r:Nat)(hr:Own ρ w0.heap.size r)(hbe:Kept ρ.own w0.heap.size w w')(T':w.heap.size<=w'.heap.size)(ac1:∀k,k≠r->k<w.heap.size->w'.heap[k]? =w.heap[k]?)(i5:∀b' g h,ρ.at_ b' g=some h->h.blk=r->b'=b)(hB:BR ρ w0.heap.size w' b x)(ac2:∀g,Kw g x0->Kw g x:=by intro g h;exact h)(hrs:∃b' g h,ρ.at_ b' g=some h/\h.blk=r)(hnf:¬zK x0:=by exact λh=>h)(hxo:∀k I l,x≠ .obj k I l:=by intro _ _ _ h;cases h):Good w0 ρ (H.set b x) w':=by
 refine⟨⟨hG.below.trans hbe,λb' y hy=>?_,λb' g h hh=>?_,hG.inj,λb' g h y hh hy=>?_,λb' arr ty hf=>?_,hG.frzB,λb' k I l hb' g h hh=>?_⟩,hG.ownB⟩
 ·by_cases e:b'=b
  ·subst e;rw[T.get_set_same _ _ _ f9] at hy;injection hy with hy;subst hy;exact hB
  ·rw[T.get_set_ne _ e] at hy;refine(hG.blk b' y hy).keep (Rho.le.refl ρ) λg h hh=>?_;exact ac1 _ (λer=>e (i5 _ _ _ hh er)) (hG.dom _ _ _ hh).1
 ·obtain⟨q1,y,q2⟩:=hG.dom _ _ _ hh;refine⟨by omega, ?_⟩;by_cases e:b'=b
  ·subst e;exact⟨x,T.get_set_same _ _ _ f9⟩
  ·exact⟨y,by rw[T.get_set_ne _ e];exact q2⟩
 ·by_cases e:b'=b
  ·subst e;rw[T.get_set_same _ _ _ f9] at hy;injection hy with hy;subst hy;exact ac2 g (hG.gens b' g h x0 hh hb)
  ·rw[T.get_set_ne _ e] at hy;exact hG.gens b' g h y hh hy
 ·obtain⟨⟨fr,q1⟩,q2⟩:=hG.frz b' arr ty hf;have c8:b'<w.heap.size:=by
   rcases aaf b' w.heap.size with h'|h'
   ·exact h'
   ·rw[aaT h'] at q1;cases q1
  refine⟨⟨fr, ?_⟩,λb1 g h hh e=>?_⟩
  ·obtain⟨x1,x2,x3,x4,x5⟩:=hrs;have:=i5 _ _ _ x4 x5;subst this;rw[ac1 b' (λe=>hG.frzE hf x4 hb hnf (x5.trans e.symm)) c8];exact q1
  ·obtain⟨y,r1,r2⟩:=q2 _ _ _ hh e;exact⟨y,by rw[T.get_set_ne _ (λe=>by subst e;rw[hb] at r1;injection r1 with r1;subst r1;exact hnf r2)];exact r1,r2⟩
 ·by_cases e:b'=b
  ·subst e;rw[T.get_set_same _ _ _ f9] at hb';injection hb' with hb';exact absurd hb' (hxo _ _ _)
  ·rw[T.get_set_ne _ e] at hb';exact hG.objO b' k I l hb' g h hh
def nf{H H':T ABlk}{b:Nat}{x x0:ABlk}(e:H'=H)(h:H.get b=some x)(hx:H'.get b=some x0)(hn:¬zK x):¬zK x0:=by subst e;rw[h] at hx;injection hx with hx;subst hx;exact hn
end Go.Sym
namespace Go.Sym
open Go.RowKit (Below)
def ah{σ:St}{K:Fin}(h:run .fail σ K=true):False:=by cases h
def bT{α:Type}{o:Option α}{k:α->Tr}{σ:St}{K:Fin}(h:run (cU o .fail k) σ K=true):∃a,o=some a/\run (k a) σ K=true:=by
 cases o with
 |none=>exact(ah h).elim
 |some a=>exact⟨a,rfl,h⟩
def ay{b:Bool}{t:Tr}{σ:St}{K:Fin}(h:run (ac b t .fail) σ K=true):b=true/\run t σ K=true:=by
 cases b with
 |true=>exact⟨rfl,h⟩
 |false=>exact(ah h).elim
def qw{b:Bool}{t:Tr}{σ:St}{K:Fin}(h:run (ac b .fail t) σ K=true):b=false/\run t σ K=true:=by
 cases b with
 |false=>exact⟨rfl,h⟩
 |true=>exact(ah h).elim
def bU{b:Bool}{t e:Tr}{σ:St}{K:Fin}(h:run (ac b t e) σ K=true):(b=true/\run t σ K=true)∨(b=false/\run e σ K=true):=by
 cases b with
 |false=>exact .inr ⟨rfl,h⟩
 |true=>exact .inl ⟨rfl,h⟩
def ul{α:Type}{t:T α}{n:Nat}{k:α->Tr}{σ:St}{K:Fin}(h:run (T.getK t n .fail k) σ K=true):∃a,t.get n=some a/\run (k a) σ K=true:=by
 rw[T.getK_eq] at h;split at h
 ·exact(ah h).elim
 ·exact⟨_,by assumption,h⟩
def jV{n:Nat}{k:Nat->Tr}{σ:St}{K:Fin}(h:run (fN n k) σ K=true):run (k n) σ K=true:=by rw[rB] at h;exact h
def Zs{n:Int}{k:Int->Tr}{σ:St}{K:Fin}(h:run (fI n k) σ K=true):run (k n) σ K=true:=by rw[Zj] at h;exact h
def bY{a b:Nat}(h:Nat.ble a b=true):a<=b:=Nat.ble_eq.mp h
def Zt{a b:Nat}(h:Nat.ble a b=false):b<a:=by
 rcases aaf b a with e|e
 ·exact e
 ·rw[Nat.ble_eq.mpr e] at h;cases h
def aL{a b:Nat}(h:Nat.beq a b=true):a=b:=aac h
def Q4{ρ:Rho}{v:AV}{u:Value}{k:Bool->Tr}{σ:St}{K:Fin}(hv:VR ρ v u)(h:run (EP v k) σ K=true):∃b,u= .bool b/\run (k b) σ K=true:=by
 cases hv with
 |bool b=>exact⟨b,rfl,h⟩
 |sB p b hb=>
  rcases cX h with⟨hp,h⟩|⟨hp,h⟩
  ·exact⟨b,rfl,by rw[hb.2 hp];exact h⟩
  ·refine⟨b,rfl, ?_⟩
   cases b with
   |true=>exact absurd (hb.1 rfl) hp
   |false=>exact h
 |_=>exact(ah h).elim
def xk{v:AV}{k:IntKind->Int->Tr}{σ:St}{K:Fin}(h:run (rF v k) σ K=true):∃j n,v= .int j n/\run (k j n) σ K=true:=by cases v <;> first|exact⟨_,_,rfl,h⟩|exact(ah h).elim
def K9{n:Int}{k:Nat->Tr}{σ:St}{K:Fin}(h:run (Ii n k) σ K=true):∃a:Nat,n=(a:Int)/\run (k a) σ K=true:=by
 cases n with
 |ofNat a=>exact⟨a,rfl,h⟩
 |negSucc a=>exact(ah h).elim
def iy{ρ:Rho}{a:AV}{v:Value}{k:List AV->Tr}{σ:St}{K:Fin}(hv:VR ρ a v)(h:run (iv a k) σ K=true):∃l,LR ρ l v.cells.toList/\run (k l) σ K=true:=by
 cases hv with
 |agg l cs h1 h2=>exact⟨l,LR.of_arr h1 h2,h⟩
 |opq n=>exact(ah h).elim
 |opc n ho=>
  refine⟨_, ?_,h⟩;have e:(ρ.val n).cells.toList= [ρ.val n]:=by cases hv:ρ.val n <;> first|rfl|(rw[hv] at ho;cases ho)
  rw[e];exact LR.cons (.opc n ho) (LR.nil ρ)
 |any1 _ ho=>
  refine⟨_, ?_,h⟩;have e:v.cells.toList= [v]:=by cases v <;> first|rfl|cases ho
  rw[e];exact LR.cons (.any1 v ho) (LR.nil ρ)
 |sB p b hb=>exact⟨_,LR.cons (.sB p b hb) (LR.nil ρ),h⟩
 |_=>exact⟨_,LR.cons (by constructor <;> assumption) (LR.nil ρ),h⟩
def Res(P:Program)(w0:World)(ρ:Rho)(w:World)(k:AV->Tr)(K:Fin)(s:Sem Value):Prop:=
 ∃av a9 ρ' v w',run (k av) a9 K=true/\SI a9/\Good w0 ρ' a9.h w'/\ρ.le ρ'/\VR ρ' av v/\s.run P w= .ok v w'
def Il(P:Program)(w0:World)(ρ:Rho)(w:World)(k:Tr)(K:Fin)(s:Sem Unit):Prop:=
 ∃a9 w',run k a9 K=true/\SI a9/\Good w0 ρ a9.h w'/\s.run P w= .ok () w'
def Res.plain{P:Program}{w0:World}{ρ:Rho}{w:World}{k:AV->Tr}{K:Fin}{s:Sem Value}{av:AV}{σ:St}{v:Value}(hr:run (k av) σ K=true)(hS:SI σ)(hG:Good w0 ρ σ.h w)(hv:VR ρ av v)(hs:s.run P w= .ok v w):Res P w0 ρ w k K s:=
 ⟨av,σ,ρ,v,w,hr,hS,hG,Rho.le.refl ρ,hv,hs⟩
def Res.of_eq{P:Program}{w0:World}{ρ:Rho}{w:World}{k:AV->Tr}{K:Fin}{s s':Sem Value}(h:Res P w0 ρ w k K s)(e:s'.run P w=s.run P w):Res P w0 ρ w k K s':=by obtain⟨av,a9,ρ',v,w',h1,h2,h3,h4,h5,h6⟩:=h;exact⟨av,a9,ρ',v,w',h1,h2,h3,h4,h5,e.trans h6⟩
section
variable{w0:World}{ρ:Rho}{w:World}{σ:St}{K:Fin}{nt:Nat}{env:T AV}{a:Act}
def uP{x:Operand}{k:AV->Tr}(hS:SI σ)(hG:Good w0 ρ σ.h w)(hE:ER ρ nt env a.tmps)(h:run (fF env x k) σ K=true):
 ∃av a9,a9.h=σ.h/\SI a9/\run (k av) a9 K=true/\VR ρ av (a.eval x):=by
 cases x with
 |tmp t=>
  obtain⟨av,h1,h2⟩:=ul (k:=k) h
  obtain⟨v,hv,hr⟩:=hE.val t av h1
  refine⟨av,σ,rfl,hS,h2, ?_⟩
  show VR ρ av (a.tmps.getD t undef)
  rw[aaU,hv];exact hr
 |const v=>
  obtain⟨av,h1,h2⟩:=bT (k:=k) h
  exact⟨av,σ,rfl,hS,h2,Kv ρ _ _ _ h1⟩
 |func f=>exact⟨_,σ,rfl,hS,h,.func _ _ _ _ _ rfl rfl (by simp) (by simp) rfl⟩
 |global g=>
  obtain⟨c8,h⟩:=ay h
  have c8:=bY c8
  obtain⟨x,a9,h1,h2,h3,h4⟩:=bG hS h
  cases x with
  |cells c gen lo hi fl fh ro ty=>
   obtain⟨h5,h6⟩:=ay h4
   subst h5
   obtain⟨hm,q1,_,q2,_⟩:=(hG.blk _ _ h1).2 0 (aap _)
   obtain⟨e1,e2⟩:=q2 rfl c8
   refine⟨_,a9,h2,h3,h6, ?_⟩
   have:=VR.ptr (ρ:=ρ) g 0 0 hm q1 (by omega)
   rw[e1] at this
   show VR ρ _ (.pointer (some ⟨g,0,none⟩))
   simpa using this
  |tab ty l=>
   refine⟨_,a9,h2,h3,h4, ?_⟩
   obtain⟨_,hf⟩:=hG.blk _ _ h1
   show VR ρ _ (.pointer (some ⟨g,0,none⟩))
   refine .cptr (nj l) g 0 _ _ hf (by simp [nj]) λj a v ha hv=>?_
   unfold nj at ha
   rw[aaI] at ha
   cases e:l[j]? with
   |none=>rw[e] at ha;cases ha
   |some n=>
    rw[e] at ha
    injection ha with ha
    subst ha
    simp [e] at hv
    subst hv
    exact .int _ _
  |_=>exact(ah h4).elim
def xl:∀{l:List Operand} {k:List AV->Tr} {σ:St},SI σ->Good w0 ρ σ.h w->ER ρ nt env a.tmps->run (nk env l k) σ K=true->
 ∃av a9,a9.h=σ.h/\SI a9/\run (k av) a9 K=true/\LR ρ av (l.map a.eval):=by
 intro l
 induction l with
 |nil=>intro k σ hS hG hE h;exact⟨[],σ,rfl,hS,h,LR.nil ρ⟩
 |cons x l ih=>
  intro k σ hS hG hE h
  obtain⟨v,b7,e1,b6,h1,r1⟩:=uP (k:=λa=>nk env l λl=>k (a::l)) hS hG hE h
  obtain⟨vs,i3,e2,i9,h2,r2⟩:=ih b6 (by rw[e1];exact hG) hE h1
  exact⟨v::vs,i3,e2.trans e1,i9,h2,LR.cons r1 r2⟩
def OR(ρ:Rho):Option AV->Option Value->Prop
 |none,none=>True
 |some a,some v=>VR ρ a v
 |_,_=>False
def C7{x:Option Operand}{k:Option AV->Tr}(hS:SI σ)(hG:Good w0 ρ σ.h w)(hE:ER ρ nt env a.tmps)(h:run (Ij env x k) σ K=true):
 ∃av a9,a9.h=σ.h/\SI a9/\run (k av) a9 K=true/\OR ρ av (x.map a.eval):=by
 cases x with
 |none=>exact⟨none,σ,rfl,hS,h,trivial⟩
 |some x=>
  obtain⟨v,b7,e1,b6,h1,r1⟩:=uP (k:=λa=>k (some a)) hS hG hE h
  exact⟨some v,b7,e1,b6,h1,r1⟩
def rM:∀{l:List (Nat×Operand)} {k:List (Nat×AV)->Tr} {σ:St},SI σ->Good w0 ρ σ.h w->ER ρ nt env a.tmps->run (iL env l k) σ K=true->
 ∃av a9,a9.h=σ.h/\SI a9/\run (k av) a9 K=true/\av.map (·.1)=l.map (·.1)/\LR ρ (av.map (·.2)) (l.map λx=>a.eval x.2):=by
 intro l
 induction l with
 |nil=>intro k σ hS hG hE h;exact⟨[],σ,rfl,hS,h,rfl,LR.nil ρ⟩
 |cons x l ih=>
  intro k σ hS hG hE h
  obtain⟨v,b7,e1,b6,h1,r1⟩:=uP (k:=λa=>iL env l λl=>k ((x.1,a)::l)) hS hG hE h
  obtain⟨vs,i3,e2,i9,h2,r2,r3⟩:=ih b6 (by rw[e1];exact hG) hE h1
  exact⟨(x.1,v)::vs,i3,e2.trans e1,i9,h2,by simp [r2],LR.cons r1 r3⟩
end
end Go.Sym
namespace Go.Sym
def pc(n:Int):IntKind.wrap .u64 n=n%18446744073709551616:=by unfold IntKind.wrap;simp only [IntKind.signed,Bool.false_and,Bool.false_eq_true,if_false,IntKind.bits];rfl
def jW{j:IntKind}{n:Int}{f:Int->Tr}{σ:St}{K:Fin}(h:run (gW j n f) σ K=true):run (f (j.wrap n)) σ K=true:=by
 unfold gW at h;split at h
 ·rename_i a;rcases bU h with⟨hb,h⟩|⟨_,h⟩
  ·have hb:=bY hb;have h:=jV h;have e:IntKind.wrap .i64 (Int.ofNat a)=Int.ofNat a:=IntWalk.i64_in _ (by rw[aaZ];omega);rw[e];exact h
  ·exact Zs h
 ·rename_i a;have h:=jV h;have e:IntKind.wrap .u64 (Int.ofNat a)=Int.ofNat (a%18446744073709551616):=by rw[pc,aaZ,aaZ];omega
  rw[e];exact h
 ·rename_i a;have h:=jV h;have e:IntKind.wrap .u32 (Int.ofNat a)=Int.ofNat (a%4294967296):=by rw[IntKind.wrap_u32,aaZ,aaZ];omega
  rw[e];exact h
 ·rename_i a;have h:=jV h;have e:IntKind.wrap .u8 (Int.ofNat a)=Int.ofNat (a%256):=by rw[IntKind.wrap_u8,aaZ,aaZ];omega
  rw[e];exact h
 ·rename_i a;have h:=jV h;have e:IntKind.wrap .u64 (Int.negSucc a)=Int.ofNat (18446744073709551615-a%18446744073709551616):=by rw[pc,Int.negSucc_eq,aaZ];omega
  rw[e];exact h
 ·rename_i a;have h:=jV h;have e:IntKind.wrap .u32 (Int.negSucc a)=Int.ofNat (4294967295-a%4294967296):=by rw[IntKind.wrap_u32,Int.negSucc_eq,aaZ];omega
  rw[e];exact h
 ·rename_i a;have h:=jV h;have e:IntKind.wrap .u8 (Int.negSucc a)=Int.ofNat (255-a%256):=by rw[IntKind.wrap_u8,Int.negSucc_eq,aaZ];omega
  rw[e];exact h
 ·rename_i a;rcases bU h with⟨hb,h⟩|⟨_,h⟩
  ·have hb:=bY hb;have h:=jV h;have e:IntKind.wrap .i64 (Int.negSucc a)=Int.negSucc a:=IntWalk.i64_in _ (by rw[Int.negSucc_eq];omega);rw[e];exact h
  ·exact Zs h
 ·exact Zs h
def Im(n:Int):IntKind.wrap .u16 n=n%65536:=by unfold IntKind.wrap;simp only [IntKind.signed,Bool.false_and,Bool.false_eq_true,if_false,IntKind.bits];rfl
def js{j:IntKind}{n:Int}{f:Int->Tr}{σ:St}{K:Fin}(h:run (lY j n f) σ K=true):run (f (j.wrap n)) σ K=true:=by
 cases j with
 |u8=>rw[IntKind.wrap_u8];exact h
 |u16=>rw[Im];exact h
 |u32=>rw[IntKind.wrap_u32];exact h
 |u64=>rw[pc];exact h
 |i64=>
  rcases cX h with⟨hp,h⟩|⟨hp,h⟩
  ·rw[IntWalk.i64_in _ hp];exact h
  ·exact h
 |_=>exact h
def rN(k:IntKind):aj k=2 ^ k.bits:=by cases k <;> rfl
def pd(k:IntKind):bo k=k.bits:=by cases k <;> rfl
def rO(k:IntKind)(n:Int):aC (aj k) n=(BitVec.ofInt k.bits n).toNat:=by
 rw[BitVec.toNat_ofInt,rN]
 cases n with
 |ofNat a=>show a%2 ^ k.bits=((a:Int)%((2 ^ k.bits:Nat):Int)).toNat;rw[←Int.natCast_emod];rfl
 |negSucc a=>show 2 ^ k.bits-1-a%2 ^ k.bits=_;have hp:0<2 ^ k.bits:=aaQ _;rw[Int.negSucc_emod _ (by exact_mod_cast hp), ←Int.natCast_emod];have:a%2 ^ k.bits<2 ^ k.bits:=Nat.mod_lt _ hp;generalize a%2 ^ k.bits=r at *;generalize 2 ^ k.bits=m at *;omega
def fu(P:Program)(w:World)(j:IntKind)(x y:Int):
 ((Op.intBits .and j x y).run P w= .ok (.int j (j.wrap (Int.ofNat (Nat.land (aC (aj j) x) (aC (aj j) y))))) w)/\
 ((Op.intBits .or j x y).run P w= .ok (.int j (j.wrap (Int.ofNat (Nat.lor (aC (aj j) x) (aC (aj j) y))))) w)/\
 ((Op.intBits .xor j x y).run P w= .ok (.int j (j.wrap (Int.ofNat (Nat.xor (aC (aj j) x) (aC (aj j) y))))) w)/\
 ((Op.intBits .andNot j x y).run P w= .ok (.int j (j.wrap (Int.ofNat (Nat.land (aC (aj j) x) (Nat.sub (Nat.sub (aj j) 1) (aC (aj j) y)))))) w):=by
 refine⟨?_, ?_, ?_, ?_⟩
 ·simp only [Op.intBits,aad,rO,BitVec.toNat_and];rfl
 ·simp only [Op.intBits,aad,rO,BitVec.toNat_or];rfl
 ·simp only [Op.intBits,aad,rO,BitVec.toNat_xor];rfl
 ·have e:Nat.sub (Nat.sub (aj j) 1) (aC (aj j) y)=(~~~ (BitVec.ofInt j.bits y)).toNat:=by rw[BitVec.toNat_not,rO,rN];rfl
  rw[e];simp only [Op.intBits,aad,rO,BitVec.toNat_and];rfl
section
variable{P:Program}{w0:World}{ρ:Rho}{w:World}{σ:St}{K:Fin}{k:AV->Tr}
def rP{b:Bool}(h:run (lX b k) σ K=true):run (k (.bool b)) σ K=true:=by rcases bU h with⟨e,h⟩|⟨e,h⟩ <;> subst e <;> exact h
def pe{op:BinOp}{j:IntKind}{x y:Int}(hS:SI σ)(hG:Good w0 ρ σ.h w)(h:run (V_ op x y (λb=>lX b k) .fail) σ K=true):
 Res P w0 ρ w k K (Op.intCmp op x y):=by
 have key:∀b,(Op.intCmp op x y).run P w= .ok (.bool b) w->run (lX b k) σ K=true->Res P w0 ρ w k K (Op.intCmp op x y):=
  λb hb hr=>.plain (rP hr) hS hG (.bool b) hb
 unfold V_ at h
 split at h
 ·rename_i a b;cases op <;> first
   |exact(ah h).elim
   |exact key _ (by simp only [Op.intCmp,aad];congr 2;rw[Bool.eq_iff_iff];simp [ar];omega) h
   |exact key _ (by simp only [Op.intCmp,aad];congr 2;rw[Bool.eq_iff_iff];simp) h
   |exact key _ (by simp only [Op.intCmp,aad];congr 2;rw[Bool.eq_iff_iff];simp [ar]) h
 ·cases op <;> first
   |exact(ah h).elim
   |exact key _ (by simp only [Op.intCmp,aad]) h
def uQ{n:Int}(h:isZ n=false):n≠0:=by intro e;subst e;cases h
def mw(op:BinOp)(j:IntKind)(x y:Int):Sem Value:=match op with | .add | .sub | .mul=>Op.intArith op j x y | .quo | .rem=>Op.intDiv op j x y | .and | .or | .xor | .andNot=>Op.intBits op j x y|_=>Op.intCmp op x y
def In{op:BinOp}{j:IntKind}{x y:Int}(hS:SI σ)(hG:Good w0 ρ σ.h w)(hop:op≠ .shl/\op≠ .shr)(h:run (EQ op j x y k) σ K=true):
 Res P w0 ρ w k K (mw op j x y):=by
 obtain⟨b1,b2,b3,b4⟩:=fu P w j x y
 cases op
 case add=>exact .plain (jW h) hS hG (.int _ _) rfl
 case sub=>exact .plain (jW h) hS hG (.int _ _) rfl
 case mul=>exact .plain (jW h) hS hG (.int _ _) rfl
 case quo=>
  obtain⟨h1,h2⟩:=qw h
  exact .plain (jW h2) hS hG (.int _ _) (by show(Op.intDiv .quo j x y).run P w=_;simp only [Op.intDiv,if_neg (uQ h1)];rfl)
 case rem=>
  obtain⟨h1,h2⟩:=qw h
  exact .plain (Zs h2) hS hG (.int _ _) (by show(Op.intDiv .rem j x y).run P w=_;simp only [Op.intDiv,if_neg (uQ h1)];rfl)
 case and=>exact .plain (jW h) hS hG (.int _ _) b1
 case or=>exact .plain (jW h) hS hG (.int _ _) b2
 case xor=>exact .plain (jW h) hS hG (.int _ _) b3
 case andNot=>exact .plain (jW h) hS hG (.int _ _) b4
 case shl=>exact absurd rfl hop.1
 case shr=>exact absurd rfl hop.2
 case eql=>exact pe (op:=.eql) (j:=j) hS hG h
 case neq=>exact pe (op:=.neq) (j:=j) hS hG h
 case lss=>exact pe (op:=.lss) (j:=j) hS hG h
 case leq=>exact pe (op:=.leq) (j:=j) hS hG h
 case gtr=>exact pe (op:=.gtr) (j:=j) hS hG h
 case geq=>exact pe (op:=.geq) (j:=j) hS hG h
def Fe(a b:Nat):mr a b=min a b:=by
 unfold mr;rw[ar];by_cases h:a<=b
 ·rw[if_pos (Nat.ble_eq.mpr h)];omega
 ·rw[if_neg (λe=>h (bY e))];omega
def zZ{op:BinOp}{j jj:IntKind}{x y:Int}(hS:SI σ)(hG:Good w0 ρ σ.h w)(h:run (Kx op j x y k) σ K=true):
 Res P w0 ρ w k K (Op.shift op j x jj y):=by
 obtain⟨n,rfl,h⟩:=K9 h
 have e:min ((n:Int).toNat) j.bits=mr n (bo j):=by rw[Fe,pd];rfl
 cases op
 case shl=>
  refine .plain (jW h) hS hG (.int _ _) ?_
  simp only [Op.shift,if_neg (show ¬(n:Int)<0 by omega),e,aad]
  congr 2
 case shr=>
  have e2:(Op.shift .shr j x jj (n:Int)).run P w= .ok (.int j (x.fdiv (((2 ^ mr n (bo j):Nat):Int)))) w:=by simp only [Op.shift,if_neg (show ¬(n:Int)<0 by omega),e,aad];rw[Int.natCast_pow];rfl
  cases x with
  |ofNat a=>
   have h:run (fN (Nat.div a (Nat.pow 2 (mr n (bo j)))) λn=>k (.int j (.ofNat n))) σ K=true:=h
   refine .plain (jV h) hS hG (.int _ _) ?_
   rw[e2]
   congr 2
   show(Int.ofNat a).fdiv (Int.ofNat (2 ^ mr n (bo j)))=Int.ofNat (a/2 ^ mr n (bo j))
   cases a with
   |zero=>rw[Nat.zero_div];rfl
   |succ a=>rfl
  |negSucc a=>
   have h:run (fI ((Int.negSucc a).fdiv (.ofNat (Nat.pow 2 (mr n (bo j))))) λn=>k (.int j n)) σ K=true:=h
   exact .plain (Zs h) hS hG (.int _ _) e2
 all_goals exact(ah h).elim
def xm:∀(x y:List Nat),ES x y=true↔x=y:=by
 intro x
 induction x with
 |nil=>intro y;cases y <;> simp [ES]
 |cons a x ih=>
  intro y
  cases y with
  |nil=>simp [ES]
  |cons b y=>simp only [ES,ar];by_cases e:a=b <;> simp [e,ih]
def gY{s t:ByteArray}(h:bytesOf s=bytesOf t):s=t:=by have:s.data.toList=t.data.toList:=List.map_inj_right (λa b e=>UInt8.toNat_inj.mp e) |>.mp h;cases s;cases t;simp at this;simp [this]
def iN(s t:ByteArray):ES (bytesOf s) (bytesOf t)=(s.toList==t.toList):=by
 rw[Bool.eq_iff_iff,xm];constructor
 ·intro h;rw[gY h];simp
 ·intro h;have h:s.toList=t.toList:=by simpa using h
  rw[ByteArray.toList_eq,ByteArray.toList_eq] at h;unfold bytesOf;rw[h]
def K_{l:List Nat}{k:List Nat->Tr}(h:run (wX l k) σ K=true):run (k l) σ K=true:=by
 induction l generalizing k with
 |nil=>exact h
 |cons a l ih=>have h:run (fN a λa=>wX l λl=>k (a::l)) σ K=true:=h;exact ih (jV h)
def gZ{l:List AV}{k:List AV->Tr}(h:run (iw l k) σ K=true):run (k l) σ K=true:=by
 induction l generalizing k with
 |nil=>exact h
 |cons a l ih=>exact ih h
end
end Go.Sym
