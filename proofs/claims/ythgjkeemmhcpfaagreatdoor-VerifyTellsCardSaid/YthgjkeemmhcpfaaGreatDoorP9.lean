/- Part 9. -/
import Derived.Test.YthgjkeemmhcpfaaGreatDoorP8
set_option linter.all false
namespace Go.Sym
noncomputable section
inductive Tm where
 |i (n:Int)
 |s (l:List Nat)
 |p (q:Prop)
 |g (l:List G)
inductive Sh where
 |i (k:IntKind) (t:Nat)
 |b (t:Nat)
 |s (t:Nat)
 |o
 |v (m t:Nat)
 |vb (t:Nat)
 |pi (k:IntKind) (n:Int)
 |pb (q:Prop)
 |ps (l:List Nat)
 |pv (m:Nat) (l:List G)
 |pvb (l:List Nat)
 |np
 |p (j:Nat)
 |m (j:Nat)
 |g (j es t:Nat)
 |gb (j t:Nat)
 |fn (f j:Nat)
 |li (k:IntKind) (n:Int)
 |nz
inductive Sa where
 |c (x:Sh)
 |ag (l:List Sh)
 |cp (l:List Sh)
inductive Sr where
 |one (a:Sa)
 |tu (l:List Sa)
inductive BSh where
 |cells (ty:Nat) (l:List Sh)
 |grow (m ty t:Nat)
 |growb (ty t:Nat)
 |sm (m t:Nat)
 |arr (m ty t:Nat)
 |arb (ty t:Nat)
 |obj (k:Nat) (C:List G->Nat->List Nat->World->Prop) (t:Nat)
abbrev lS:=Nat->Nat×Nat
def put(γ:lS)(y:Sy)(x:Sh):AV:=match x with
 | .i k t=>.sI k (y.i t)
 | .b t=>.sB (y.p t)
 | .s t=>.sS (y.s t)
 | .o=>.any1
 | .v m t=>.cv (.rows m (y.g t))
 | .vb t=>.cv (.bytes (y.s t))
 | .pi k n=>.sI k n
 | .pb q=>.sB q
 | .ps l=>.sS l
 | .pv m l=>.cv (.rows m l)
 | .pvb l=>.cv (.bytes l)
 | .np=>.nilp
 | .p j=>.ptr (γ j).1 0 0
 | .m j=>.map (γ j).1
 | .g j es t=>.gsl (γ j).1 (γ j).2 (y.g t).length es
 | .gb j t=>.gsl (γ j).1 (γ j).2 (y.s t).length 1
 | .fn f j=>.func (.func f) [] [.ptr (γ j).1 0 0]
 | .li k n=>.int k n
 | .nz=>.nils
def ki(γ:lS)(y:Sy)(l:List Sh):List AV:=List.rec (motive:=λ_=>List AV) [] (λx _ ih=>put γ y x::ih) l
def kR(γ:lS)(y:Sy)(a:Sa):AV:=match a with
 | .c x=>put γ y x
 | .ag l=>.agg (ki γ y l)
 | .cp l=>.cptr (ki γ y l)
def nJ(γ:lS)(y:Sy)(l:List Sa):List AV:=List.rec (motive:=λ_=>List AV) [] (λx _ ih=>kR γ y x::ih) l
def Dr(γ:lS)(y:Sy)(r:Sr):AV:=match r with
 | .one a=>kR γ y a
 | .tu l=>.tup (nJ γ y l)
def sq:List AV->Nat->T Cell->T Cell
 | [],_,t=>t
 |a::l,i,t=>sq l (i+1) (t.set i (.mk 0 a))
def mF(γ:lS)(y:Sy)(j:Nat)(b:BSh):ABlk:=match b with
 | .cells ty l=>.cells (sq (ki γ y l) 0 .leaf) 0 0 (List.length l) 0 0 false ty
 | .grow m ty t=>.grow (.rows m (y.g t)) (γ j).2 ty
 | .growb ty t=>.grow (.bytes (y.s t)) (γ j).2 ty
 | .sm m t=>.smap m (y.g t)
 | .arr m ty t=>.grow (.rows m (y.g t)) 0 ty
 | .arb ty t=>.grow (.bytes (y.s t)) 0 ty
 | .obj k C t=>.obj k (C (y.g t)) (y.g t)
def eS(γ:lS)(y:Sy):List BSh->Nat->T ABlk->T ABlk
 | [],_,H=>H
 |b::l,j,H=>eS γ y l (j+1) (H.set (γ j).1 (mF γ y j b))
def bH:lS:=λj=>(base+j,0)
structure PS where
 tm:List (Nat×Tm)
 loc:List (Nat×Nat×Nat)
 ln:List (Nat×Nat×Nat)
 pr:Prop
 fz:List Nat
def kj:PS:=⟨[],[],[],True,[]⟩
def bE{α:Type}(n:Nat)(l:List (Nat×α)):Option α:=List.rec (motive:=λ_=>Option α) none (λx _ ih=>ac (Nat.beq x.1 n) (some x.2) ih) l
def tmI(l:List (Nat×Tm))(n:Nat):Int:=match bE n l with|some (.i x)=>x|_=>0
def I1(l:List (Nat×Tm))(n:Nat):List Nat:=match bE n l with|some (.s x)=>x|_=>[]
def tmP(l:List (Nat×Tm))(n:Nat):Prop:=match bE n l with|some (.p x)=>x|_=>False
def Ds(l:List (Nat×Tm))(n:Nat):List G:=match bE n l with|some (.g x)=>x|_=>[]
def aM(l:List (Nat×Tm)):Sy:=⟨tmI l,I1 l,tmP l,Ds l⟩
def PS.and(s:PS)(p:Prop):PS:=match s with|⟨tm,loc,ln,pr,fz⟩=>⟨tm,loc,ln,p/\pr,fz⟩
def PS.fzn(s:PS)(b:Nat):PS:=match s with|⟨tm,loc,ln,pr,fz⟩=>⟨tm,loc,ln,pr,b::fz⟩
def PS.name(s:PS)(x:Nat×Nat×Nat):PS:=match s with|⟨tm,loc,ln,pr,fz⟩=>⟨tm,x::loc,ln,pr,fz⟩
def PS.add(s:PS)(t:Nat)(x:Tm):Option PS:=match s with
 |⟨tm,loc,ln,pr,fz⟩=>(match bE t tm with
  |none=>some ⟨(t,x)::tm,loc,ln,pr,fz⟩
  |some _=>none)
def PS.must(s:PS)(p:Prop):Option PS:=some (s.and p)
def PS.at_(s:PS)(j b g:Nat):Option PS:=match s with
 |⟨tm,loc,ln,pr,fz⟩=>(match bE j loc with
  |none=>ac (kG b loc) (some ⟨tm,(j,b,g)::loc,ln,pr,fz⟩) none
  |some (b',g')=>ac (Nat.beq b b') (ac (Nat.beq g g') (some ⟨tm,loc,ln,pr,fz⟩) none) none)
def PS.len_(s:PS)(j tag n:Nat):Option PS:=match s with|⟨tm,loc,ln,pr,fz⟩=>some ⟨tm,loc,(j,tag,n)::ln,pr,fz⟩
def Fw(F:T ABlk)(m:Nat)(a:AV)(s:PS)(k:List G->PS->Option PS):Option PS:=match a with
 | .nils=>k [] s
 | .cv (.rows m' l)=>ac (Nat.beq m m') (k l s) none
 | .gsl b g n es=>T.getK F b none λx=>(match x with
  | .grow (.rows m' l) gen _=>ac (Nat.ble (base+64) b) (ac (Nat.beq m m') (ac (Nat.beq g gen) (k l ((s.fzn b).and (l.length=n))) none) none) none
  | .froz (.rows m' l) gen=>ac (Nat.ble (base+64) b) (ac (Nat.beq m m') (ac (Nat.beq g gen) (ac (Nat.beq es (bq (cK m))) (k l ((s.fzn b).and (l.length=n))) none) none) none) none
  |_=>none)
 | .slc b g o len _ es=>T.getK F b none λx=>(match x with
  | .cells c gen _ _ _ _ ro _=>ac (Nat.ble (base+64) b) (ac ro none (ac (Nat.ble g gen) (ac (Nat.ble 1 len) (ac (Nat.beq es (bq (cK m))) (ac (Nat.ble 1 es) (bC (QM c g (len * es) o) λl=>bC (dW (cK m) len l) λq=>(match q with
   |(gs,[])=>k gs (s.fzn b)
   |_=>none)) none) none) none) none)) none
  |_=>none)
 |_=>none
def xC(F:T ABlk)(a:AV)(s:PS)(k:List Nat->PS->Option PS):Option PS:=match a with
 | .nils=>k [] s
 | .cv (.bytes l)=>k l s
 | .gsl b g n es=>T.getK F b none λx=>(match x with
  | .grow (.bytes l) gen _=>ac (Nat.ble (base+64) b) (ac (Nat.beq g gen) (k l ((s.fzn b).and (l.length=n))) none) none
  | .froz (.bytes l) gen=>ac (Nat.ble (base+64) b) (ac (Nat.beq g gen) (ac (Nat.beq es 1) (k l ((s.fzn b).and (l.length=n))) none) none) none
  |_=>none)
 | .slc b g o len _ es=>T.getK F b none λx=>(match x with
  | .cells c gen _ _ _ _ ro _=>ac (Nat.ble (base+64) b) (ac ro none (ac (Nat.ble g gen) (ac (Nat.ble 1 len) (ac (Nat.beq es 1) (bC (QM c g len o) λl=>bC (gk l) λns=>k (aG ns) ((s.fzn b).and (bu ns))) none) none) none)) none
  |_=>none)
 |_=>none
def jC(blk:List BSh)(j:Nat):Bool:=match blk[j]? with|some (.cells _ _)=>true|some (.obj _ _ _)=>true|some (.arr _ _ _)=>true|some (.arb _ _)=>true|_=>false
def xD(blk:List BSh)(j:Nat):Bool:=match blk[j]? with|some (.sm _ _)=>true|_=>false
def nK(F:T ABlk)(blk:List BSh)(x:Sh)(a:AV)(s:PS):Option PS:=match x with
 | .i k t=>(match ce a with|some (k',n)=>ac (decide (k=k')) (s.add t (.i n)) none|none=>none)
 | .b t=>(match dO a with|some q=>s.add t (.p q)|none=>none)
 | .s t=>(match gj a with|some l=>s.add t (.s l)|none=>none)
 | .o=>ac (fQ a) (some s) none
 | .v m t=>Fw F m a s λl s=>s.add t (.g l)
 | .vb t=>xC F a s λl s=>s.add t (.s l)
 | .pi k n=>(match ce a with|some (k',n')=>ac (decide (k=k')) (s.must (n'=n)) none|none=>none)
 | .pb q=>(match dO a with|some q'=>s.must (q'↔q)|none=>none)
 | .ps l=>(match gj a with|some l'=>s.must (l'=l)|none=>none)
 | .pv m l=>Fw F m a s λl' s=>s.must (l'=l)
 | .pvb l=>xC F a s λl' s=>s.must (l'=l)
 | .np=>(match a with | .nilp=>some s|_=>none)
 | .p j=>(match a with | .ptr b g o=>ac (Nat.beq g 0) (ac (Nat.beq o 0) (ac (jC blk j) (s.at_ j b 0) none) none) none|_=>none)
 | .m j=>(match a with | .map b=>ac (xD blk j) (s.at_ j b 0) none|_=>none)
 | .g j es t=>(match a with | .gsl b g n R'=>ac (Nat.beq es R') (bC (s.at_ j b g) λs=>s.len_ j (2 * t) n) none|_=>none)
 | .gb j t=>(match a with | .gsl b g n R'=>ac (Nat.beq 1 R') (bC (s.at_ j b g) λs=>s.len_ j (2 * t+1) n) none|_=>none)
 | .fn f j=>(match a with | .func (.func f') [] [.ptr b g o]=>ac (Nat.beq f f') (ac (Nat.beq g 0) (ac (Nat.beq o 0) (ac (jC blk j) (s.at_ j b 0) none) none) none) none|_=>none)
 | .li k n=>(match a with | .int k' n'=>ac (decide (k=k')) (ac (decide (n=n')) (some s) none) none|_=>none)
 | .nz=>(match a with | .nils=>some s|_=>none)
def iT(F:T ABlk)(blk:List BSh)(l:List Sh)(as:List AV)(s:PS):Option PS:=
 List.rec (motive:=λ_=>List AV->PS->Option PS) (λas s=>match as with | []=>some s|_=>none) (λx _ ih as s=>match as with
  |a::as=>bC (nK F blk x a s) λs=>ih as s
  | []=>none) l as s
def su(F:T ABlk)(blk:List BSh)(x:Sa)(a:AV)(s:PS):Option PS:=match x with
 | .c x=>nK F blk x a s
 | .ag l=>(match a with | .agg as=>iT F blk l as s|_=>none)
 | .cp l=>(match a with | .cptr as=>iT F blk l as s|_=>none)
def iB(F:T ABlk)(blk:List BSh)(l:List Sa)(as:List AV)(s:PS):Option PS:=
 List.rec (motive:=λ_=>List AV->PS->Option PS) (λas s=>match as with | []=>some s|_=>none) (λx _ ih as s=>match as with
  |a::as=>bC (su F blk x a s) λs=>ih as s
  | []=>none) l as s
def AM(F:T ABlk)(blk:List BSh)(r:Sr)(a:AV)(s:PS):Option PS:=match r with
 | .one x=>su F blk x a s
 | .tu l=>(match a with | .tup as=>iB F blk l as s|_=>none)
def nL(ty n:Nat)(q:ABlk)(g:Nat):Option (List AV):=match q with
 | .cells c gen lo hi fl fh ro ty'=>ac ro none (ac (Nat.beq gen 0) (ac (Nat.beq lo 0) (ac (Nat.beq hi n) (ac (Nat.beq fl 0) (ac (Nat.beq fh 0) (ac (Nat.beq ty' ty) (ac (Nat.beq g 0) (QM c 0 n 0) none) none) none) none) none) none) none)
 |_=>none
def gw(x:BSh)(q:ABlk)(g:Nat)(s:PS):Option PS:=match x with
 | .grow m ty t=>(match q with
  | .grow (.rows m' l) gen ty'=>ac (Nat.beq m m') (ac (Nat.beq g gen) (ac (Nat.beq ty ty') (s.add t (.g l)) none) none) none
  |_=>none)
 | .growb ty t=>(match q with
  | .grow (.bytes l) gen ty'=>ac (Nat.beq g gen) (ac (Nat.beq ty ty') (s.add t (.s l)) none) none
  |_=>none)
 | .sm m t=>(match q with
  | .smap m' l=>ac (Nat.beq m m') (ac (Nat.beq g 0) (s.add t (.g l)) none) none
  | .mapo [] _=>ac (Nat.beq g 0) (s.add t (.g [])) none
  |_=>none)
 | .arb ty t=>(match q with
  | .grow (.bytes l) gen ty'=>ac (Nat.beq gen 0) (ac (Nat.beq g 0) (ac (Nat.beq ty ty') (bC (s.must (0<l.length)) λs=>s.add t (.s l)) none) none) none
  |_=>none)
 | .arr m ty t=>(match q with
  | .grow (.rows m' l) gen ty'=>ac (Nat.beq m m') (ac (Nat.beq gen 0) (ac (Nat.beq g 0) (ac (Nat.beq ty ty') (bC (s.must (0<l.length)) λs=>s.add t (.g l)) none) none) none) none
  |_=>none)
 | .obj k C t=>(match q with
  | .obj k' I l=>ac (Nat.beq k k') (ac (Nat.beq g 0) (bC (s.must (I=C l)) λs=>s.add t (.g l)) none) none
  |_=>none)
 | .cells _ _=>none
def pn(F:T ABlk)(blk:List BSh)(x:BSh)(q:ABlk)(g:Nat)(s:PS):Option PS:=match x with
 | .cells ty l=>bC (nL ty (List.length l) q g) λas=>iT F blk l as s
 |x=>gw x q g s
def mf(blk:List BSh)(l:List (Nat×Nat×Nat))(s:PS):Option PS:=
 List.rec (motive:=λ_=>PS->Option PS) (λs=>some s) (λ(x:Nat×Nat×Nat) _ ih s=>match blk[x.1]? with
  |some (.grow _ _ t)=>ac (Nat.beq x.2.1 (2 * t)) (bC (s.must ((Ds s.tm t).length=x.2.2)) ih) none
  |some (.growb _ t)=>ac (Nat.beq x.2.1 (2 * t+1)) (bC (s.must ((I1 s.tm t).length=x.2.2)) ih) none
  |_=>none) l s
structure FSpec where
 args:List Sa
 blk:List BSh
 pre:Sy->Prop
 res:Sy->Sr
 out:Sy->List BSh
 post:Sy->Sy->Prop
 gl:Option (Nat×Nat×List Nat):=none
def iU(x:BSh):Bool:=match x with | .grow _ _ _=>false | .growb _ _=>false|_=>true
def up(q:ABlk):Nat:=match q with | .cells _ g _ _ _ _ _ _=>g | .grow _ g _=>g | .froz _ g=>g|_=>0
def I3(H:T ABlk)(blk:List BSh)(l:List BSh)(j:Nat)(s:PS):Option PS:=
 List.rec (motive:=λ_=>Nat->PS->Option PS) (λ_ s=>some s) (λx _ ih j s=>match bE j s.loc with
  |some bg=>T.getK H bg.1 none λq=>bC (pn H blk x q bg.2 s) λs=>ih (Nat.succ j) s
  |none=>T.getK H (base+j) none λq=>bC (pn H blk x q (up q) (s.name (j,base+j,up q))) λs=>ih (Nat.succ j) s) l j s
def mg(n:Nat)(l:List (Nat×Nat×Nat)):Bool:=List.rec (motive:=λ_=>Bool) true (λx l ih=>ac (Nat.ble (Nat.succ x.1) n) (ac (kG x.2.1 l) ih false) false) l
def AN(x y:BSh):Bool:=match x,y with
 | .cells _ _,.cells _ _=>true
 | .grow _ _ _,.grow _ _ _=>true
 | .growb _ _,.growb _ _=>true
 | .sm _ _,.sm _ _=>true
 | .arr _ _ _,.arr _ _ _=>true
 | .arb _ _,.arb _ _=>true
 | .obj k _ _,.obj k' _ _=>Nat.beq k k'
 |_,_=>false
def qb:List BSh->List BSh->Bool
 | [],_=>true
 |x::l,y::m=>ac (AN x y) (qb l m) false
 |_,_=>false
def Rq(bl:List BSh)(j:Nat):Bool:=match bl[j]? with|some (.grow _ _ _)=>true|some (.growb _ _)=>true|_=>false
def nM(bl:List BSh)(n:Nat)(l:List (Nat×Nat×Nat)):Bool:=List.rec (motive:=λ_=>Bool) true (λx _ ih=>ac (ac (Nat.ble (Nat.succ x.1) n) (ac (Nat.beq x.2.1 (base+x.1)) true (ac (Rq bl x.1) (Nat.ble (base+64) x.2.1) false)) (Nat.ble (base+64) x.2.1)) ih false) l
def sv(fz:List Nat)(l:List (Nat×Nat×Nat)):Bool:=List.rec (motive:=λ_=>Bool) true (λb _ ih=>ac (kG b l) ih false) fz
def I4(H:T ABlk)(l:List BSh)(j:Nat)(s:PS):Option PS:=
 List.rec (motive:=λ_=>Nat->PS->Option PS) (λ_ s=>some s) (λx _ ih j s=>match bE j s.loc with
  |some _=>ih (Nat.succ j) s
  |none=>ac (iU x) (T.getK H (base+j) none λq=>ih (Nat.succ j) (s.name (j,base+j,up q))) (ih (Nat.succ j) s)) l j s
def fg(n:Nat)(H:T ABlk)(r:Sr)(l:List BSh)(a:AV):Option PS:=
 bC (AM H l r a kj) λs=>bC (I4 H (l.take n) 0 s) λs=>bC (I3 H l l 0 s) λs=>bC (mf l s.ln s) λs=>ac (ac (nM l n s.loc) (sv s.fz s.loc) false) (ac (mg (List.length l) s.loc) (some s) none) none
def UE(n:Nat)(r:Sr)(l:List BSh)(post:Sy->Prop):Lf:=λa σ _=>match fg n σ.h r l a with
 |some s=>.an s.pr (.at (post (aM s.tm)))
 |none=>.ff
def FSpec.argsA(S:FSpec)(z:Sy):List AV:=nJ bH z S.args
def addTab(o:Option (Nat×Nat×List Nat))(H:T ABlk):T ABlk:=match o with|none=>H|some (g,ty,l)=>H.set g (.tab ty l)
def Rr(o:Option (Nat×Nat×List Nat))(k:Tr):Tr:=match o with
 |none=>k
 |some (g,ty,l)=>ac (Nat.ble (Nat.succ g) 1048576) (.rd g λq=>match q with
  | .tab ty' l'=>ac (Nat.beq ty ty') (ac (ES l l') k .fail) .fail
  |_=>.fail) .fail
def FSpec.heap(S:FSpec)(z:Sy):T ABlk:=addTab S.gl (eS bH z S.blk 0 .leaf)
def Dt(loc:List (Nat×Nat×Nat))(a:AV)(k:AV->Tr):Tr:=match a with
 | .gsl b g n es=>.rd b λq=>(match q with
  | .grow c gen _=>ac (Nat.beq g gen) (ac (Nat.beq c.es es) (ac (ac (Nat.ble (base+64) b) (kG b loc) false) (.req (c.len=n) (.wr b (.froz c gen) (k (.cv c)))) .fail) .fail) .fail
  | .froz c gen=>ac (Nat.beq g gen) (ac (Nat.beq c.es es) (.req (c.len=n) (k (.cv c))) .fail) .fail
  |_=>.fail)
 |a=>k a
def Rs(loc:List (Nat×Nat×Nat))(m:Nat)(a:AV)(k:AV->Tr):Tr:=match a with
 | .slc b g o len cap es=>ac (Nat.beq es (bq (cK m))) (oV loc b g o len cap es (λty as k=>cU (dW (cK m) len as) .fail λq=>(match q with|(gs,[])=>k (.rows m gs) ty|_=>.fail)) λa=>Dt loc a k) .fail
 |a=>Dt loc a k
def frzB(loc:List (Nat×Nat×Nat))(a:AV)(k:AV->Tr):Tr:=match a with
 | .slc b g o len cap es=>ac (Nat.beq 1 es) (oV loc b g o len cap 1 (λty as k=>cU (gk as) .fail λns=>.req (bu ns) (k (.bytes (aG ns)) ty)) λa=>Dt loc a k) .fail
 |a=>Dt loc a k
def arrK(loc:List (Nat×Nat×Nat))(m b g:Nat)(k:Tr):Tr:=.rd b λq=>match q with
 | .cells _ _ _ hi _ _ _ _=>oV loc b g 0 (hi/bq (cK m)) (some (hi/bq (cK m))) (bq (cK m)) (rI m (hi/bq (cK m))) λ_=>k
 |_=>k
def arbK(loc:List (Nat×Nat×Nat))(b g:Nat)(k:Tr):Tr:=.rd b λq=>match q with
 | .cells _ _ _ hi _ _ _ _=>oV loc b g 0 hi (some hi) 1 rJ λ_=>k
 |_=>k
def vq(loc:List (Nat×Nat×Nat))(blk:List BSh)(x:Sh)(a:AV)(k:AV->Tr):Tr:=match x with
 | .g j es t=>(match a with
  | .nils=>(match blk[j]? with|some (.grow m ty _)=>.new (.grow (.rows m []) 0 ty) λb=>k (.gsl b 0 0 es)|_=>.fail)
  | .slc b g o len cap R'=>(match blk[j]? with
   |some (.grow m ty _)=>ac (Nat.beq es R') (oV loc b g o len cap es (λ_ as k=>cU (dW (cK m) len as) .fail λq=>(match q with|(gs,[])=>k (.rows m gs) ty|_=>.fail)) k) .fail
   |_=>.fail)
  |a=>k a)
 | .gb j t=>(match a with
  | .nils=>(match blk[j]? with|some (.growb ty _)=>.new (.grow (.bytes []) 0 ty) λb=>k (.gsl b 0 0 1)|_=>.fail)
  | .slc b g o len cap R'=>(match blk[j]? with
   |some (.growb ty _)=>ac (Nat.beq 1 R') (oV loc b g o len cap 1 (λ_ as k=>cU (gk as) .fail λns=>.req (bu ns) (k (.bytes (aG ns)) ty)) k) .fail
   |_=>.fail)
  |a=>k a)
 | .p j=>(match a with
  | .ptr b g o=>(match blk[j]? with|some (.arr m _ _)=>arrK loc m b g (k (.ptr b g o))|some (.arb _ _)=>arbK loc b g (k (.ptr b g o))|_=>k (.ptr b g o))
  |a=>k a)
 | .v m _=>Rs loc m a k
 | .pv m _=>Rs loc m a k
 | .vb _=>frzB loc a k
 | .pvb _=>frzB loc a k
 |_=>k a
def xE(loc:List (Nat×Nat×Nat))(blk:List BSh)(l:List Sh)(as:List AV)(k:List AV->Tr):Tr:=
 List.rec (motive:=λ_=>List AV->(List AV->Tr)->Tr) (λas k=>k as) (λx _ ih as k=>match as with
  | []=>k []
  |a::as=>vq loc blk x a λa=>ih as λas=>k (a::as)) l as k
def L5(loc:List (Nat×Nat×Nat))(blk:List BSh)(x:Sa)(a:AV)(k:AV->Tr):Tr:=match x with
 | .c x=>vq loc blk x a k
 | .ag l=>(match a with
  | .agg as=>ac (Nat.beq (List.length as) (List.length l)) (xE loc blk l as λas=>k (.agg as)) .fail
  |a=>k a)
 | .cp _=>k a
def jD(loc:List (Nat×Nat×Nat))(blk:List BSh)(l:List Sa)(as:List AV)(k:List AV->Tr):Tr:=
 List.rec (motive:=λ_=>List AV->(List AV->Tr)->Tr) (λas k=>k as) (λx _ ih as k=>match as with
  | []=>k []
  |a::as=>L5 loc blk x a λa=>ih as λas=>k (a::as)) l as k
def ZJ(x:Sh):Sh:=match x with | .g j es t=>.g j es t | .gb j t=>.gb j t|_=>.o
def Rt(x:Sa):Sa:=match x with | .c x=>.c (ZJ x) | .ag l=>.ag (l.map ZJ) | .cp l=>.cp l
def Du(blk:List BSh)(r:Sr)(a:AV)(k:AV->Tr):Tr:=match r with
 | .one x=>jD [] blk [Rt x] [a] λas=>match as with | [a]=>k a|_=>.fail
 | .tu l=>(match a with
  | .tup as=>ac (Nat.beq (List.length (l.map Rt)) (List.length as)) (jD [] blk (l.map Rt) as λas=>k (.tup as)) (k (.tup as))
  |a=>k a)
def FSpec.callFm(S:FSpec)(P:Program)(M:Tab)(n f:Nat)(z:Sy)(h:Hn):Fm:=
 CI (nu P (xj P M n) f (S.argsA z) λa=>Du (S.out z) (S.res z) a .ret) (start (S.heap z) (base+64)) (UE (List.length S.blk) (S.res z) (S.out z) (S.post z)) h
def ZK(blk:List BSh)(x:BSh)(q:ABlk)(g:Nat)(s:PS)(k:PS->Tr):Tr:=match x with
 | .cells ty l=>cU (nL ty (List.length l) q g) .fail λas=>xE s.loc blk l as λas=>cU (iT .leaf blk l as s) .fail k
 |x=>cU (gw x q g s) .fail k
def vu(blk:List BSh)(l:List BSh)(j:Nat)(s:PS)(k:PS->Tr):Tr:=
 List.rec (motive:=λ_=>Nat->PS->(PS->Tr)->Tr) (λ_ s k=>k s) (λx _ ih j s k=>cU (bE j s.loc) .fail λbg=>.rd bg.1 λq=>ZK blk x q bg.2 s λs=>ih (Nat.succ j) s k) l j s k
def po(s:PS):lS:=λj=>match bE j s.loc with|some p=>p|none=>(0,0)
def Fx(x:BSh)(g:Nat):Nat:=ac (iU x) g (g+1)
def qx(l:List BSh)(γ:lS):lS:=λj=>match l[j]? with|some x=>((γ j).1,Fx x (γ j).2)|none=>γ j
def Ru(l:List BSh)(k:List Nat->Tr):Tr:=List.rec (motive:=λ_=>(List Nat->Tr)->Tr) (λk=>k []) (λ_ _ ih k=>.new (.grow (.bytes []) 0 0) λb=>ih λbs=>k (b::bs)) l k
def uq(n:Nat)(γ:lS)(bs:List Nat):lS:=λj=>ac (Nat.ble (Nat.succ j) n) (γ j) (bs.getD (j-n) 0,0)
def Ws(γ:lS)(y:Sy)(l:List BSh)(j:Nat)(k:Tr):Tr:=
 List.rec (motive:=λ_=>Nat->Tr->Tr) (λ_ k=>k) (λx _ ih j k=>.wr (γ j).1 (mF γ y j x) (ih (Nat.succ j) k)) l j k
def Wt(S:FSpec)(zf:(z:Sy)->{y:Sy // S.pre z->S.post z y})(args:List AV)(k:AV->Tr):Tr:=
 Rr S.gl <| jD [] S.blk S.args args λargs=>cU (iB .leaf S.blk S.args args kj) .fail λs=>vu S.blk S.blk 0 s λs=>cU (mf S.blk s.ln s) .fail λs=>ac (ac (Nat.ble (List.length S.blk) 64) (ac (qb S.blk (S.out (aM s.tm))) (mg (List.length S.blk) s.loc) false) false) (.req (s.pr/\S.pre (aM s.tm))
  (.sk (λy=>S.pre (aM s.tm)->S.post (aM s.tm) y) (zf (aM s.tm)) λy=>Ru ((S.out (aM s.tm)).drop (List.length S.blk)) λbs=>Ws (uq (List.length S.blk) (qx S.blk (po s)) bs) y (S.out (aM s.tm)) 0 (k (Dr (uq (List.length S.blk) (qx S.blk (po s)) bs) y (S.res (aM s.tm)))))) .fail
end
end Go.Sym
namespace Go.Sym
open Go.RowKit (Below)
def mW(s:PS)(F:T ABlk):Nat->Option ABlk:=λb=>if b∈s.fz then F.get b else none
def RdC(F:Nat->Option ABlk)(ct:Ct)(a:AV):Prop:=
 (a= .nils/\ct.len=0)∨a= .cv ct∨
 (∃b g es ty,a= .gsl b g ct.len es/\base+64<=b/\F b=some (.grow ct g ty))∨
 (∃(b g o:Nat) (cap:Option Nat) (c:T Cell) (gen lo hi fl fh ty:Nat) (as:List AV),a= .slc b g o ct.len cap ct.es/\base+64<=b/\F b=some (.cells c gen lo hi fl fh false ty)/\g<=gen/\1<=ct.len/\1<=ct.es/\
  QM c g (ct.len * ct.es) o=some as/\∀i,i<ct.len->∀(ρ:Rho) (vs:List Value),LR ρ ((as.drop (i * ct.es)).take ct.es) vs->LR ρ (ct.row i) vs)∨
 (∃b g,a= .gsl b g ct.len ct.es/\base+64<=b/\F b=some (.froz ct g))
def Tv(F:Nat->Option ABlk)(blk:List BSh)(L:Nat->Option (Nat×Nat))(y:Sy)(x:Sh)(a:AV):Prop:=match x with
 | .i k t=>ce a=some (k,y.i t)
 | .b t=>dO a=some (y.p t)
 | .s t=>gj a=some (y.s t)
 | .o=>fQ a=true
 | .v m t=>RdC F (.rows m (y.g t)) a
 | .vb t=>RdC F (.bytes (y.s t)) a
 | .pi k n=>ce a=some (k,n)
 | .pb q=>∃q',dO a=some q'/\(q'↔q)
 | .ps l=>gj a=some l
 | .pv m l=>RdC F (.rows m l) a
 | .pvb l=>RdC F (.bytes l) a
 | .np=>a= .nilp
 | .m j=>∃b,L j=some (b,0)/\a= .map b/\xD blk j=true
 | .p j=>∃b,L j=some (b,0)/\a= .ptr b 0 0/\jC blk j=true
 | .g j es t=>∃b g,L j=some (b,g)/\a= .gsl b g (y.g t).length es/\∃m ty,blk[j]? =some (.grow m ty t)
 | .gb j t=>∃b g,L j=some (b,g)/\a= .gsl b g (y.s t).length 1/\∃ty,blk[j]? =some (.growb ty t)
 | .fn f j=>∃b,L j=some (b,0)/\a= .func (.func f) [] [.ptr b 0 0]/\jC blk j=true
 | .li k n=>a= .int k n
 | .nz=>a= .nils
structure PS.Le(s s':PS):Prop where
 tm:∀t x,bE t s.tm=some x->bE t s'.tm=some x
 loc:∀j p,bE j s.loc=some p->bE j s'.loc=some p
 ln:∀q,q∈s.ln->q∈s'.ln
 pr:s'.pr->s.pr
 mem:∀q,q∈s.loc->q∈s'.loc
 fz:∀b,b∈s.fz->b∈s'.fz
def PS.Le.refl(s:PS):s.Le s:=⟨λ_ _ h=>h,λ_ _ h=>h,λ_ h=>h,λh=>h,λ_ h=>h,λ_ h=>h⟩
def PS.Le.trans{a b c:PS}(h:a.Le b)(h':b.Le c):a.Le c:=⟨λt x q=>h'.tm t x (h.tm t x q),λj p q=>h'.loc j p (h.loc j p q),λq p=>h'.ln q (h.ln q p),λp=>h.pr (h'.pr p),λq p=>h'.mem q (h.mem q p),λb p=>h'.fz b (h.fz b p)⟩
def sw(blk:List BSh)(s:PS):Prop:=∀j tag n,(j,tag,n)∈s.ln->(∃m ty t,blk[j]? =some (.grow m ty t)/\tag=2 * t/\(Ds s.tm t).length=n)∨(∃ty t,blk[j]? =some (.growb ty t)/\tag=2 * t+1/\(I1 s.tm t).length=n)
noncomputable def PS.L(s:PS):Nat->Option (Nat×Nat):=λj=>bE j s.loc
def cZ{α:Type}(n:Nat)(x:Nat×α)(l:List (Nat×α)):bE n (x::l)=if x.1=n then some x.2 else bE n l:=by
 show ac (Nat.beq x.1 n) (some x.2) (bE n l)=_;rw[ar];by_cases h:x.1=n
 ·rw[if_pos h,if_pos (by rw[h];exact abk n)]
 ·rw[if_neg h,if_neg (λe=>h (aac e))]
def PS.and_le(s:PS)(p:Prop):s.Le (s.and p)/\((s.and p).pr->p):=by cases s;exact⟨⟨λ_ _ h=>h,λ_ _ h=>h,λ_ h=>h,λh=>h.2,λ_ h=>h,λ_ h=>h⟩,λh=>h.1⟩
def PS.fzn_le(s:PS)(b:Nat):s.Le (s.fzn b)/\b∈(s.fzn b).fz:=by cases s;exact⟨⟨λ_ _ h=>h,λ_ _ h=>h,λ_ h=>h,λh=>h,λ_ h=>h,λ_ h=>aaj _ h⟩,aan⟩
def pp{s sF:PS}{F:T ABlk}{b:Nat}(h:b∈s.fz)(hF:s.Le sF):mW sF F b=F.get b:=by unfold mW;rw[if_pos (hF.fz _ h)]
def PS.add_ok{s s':PS}{t:Nat}{x:Tm}(h:s.add t x=some s'):s.Le s'/\bE t s'.tm=some x:=by
 cases s with
 |mk tm loc ln pr fz=>
 unfold PS.add at h
 simp only at h
 split at h
 ·rename_i hn;injection h with h;subst h;refine⟨⟨λt' x' h'=>?_,λ_ _ h=>h,λ_ h=>h,λh=>h,λ_ h=>h,λ_ h=>h⟩,by rw[cZ,if_pos rfl]⟩;rw[cZ];split
  ·rename_i e;simp only at e;subst e;have h':bE t tm=some x':=h';rw[hn] at h';cases h'
  ·exact h'
 ·cases h
def PS.must_ok{s s':PS}{p:Prop}(h:s.must p=some s'):s.Le s'/\(s'.pr->p):=by injection h with h;subst h;exact PS.and_le s p
def PS.at_ok{s s':PS}{j b g:Nat}(h:s.at_ j b g=some s'):s.Le s'/\bE j s'.loc=some (b,g):=by
 cases s with
 |mk tm loc ln pr fz=>
 unfold PS.at_ at h
 simp only at h
 split at h
 ·rename_i hn;obtain⟨_,h⟩:=bf h;injection h with h;subst h;refine⟨⟨λ_ _ h=>h,λj' p h'=>?_,λ_ h=>h,λh=>h,λ_ h=>aaj _ h,λ_ h=>h⟩,by rw[cZ,if_pos rfl]⟩;rw[cZ];split
  ·rename_i e;simp only at e;subst e;have h':bE j loc=some p:=h';rw[hn] at h';cases h'
  ·exact h'
 ·rename_i b' g' hn;obtain⟨e1,h⟩:=bf h;obtain⟨e2,h⟩:=bf h;have e1:=aac e1;have e2:=aac e2;injection h with h;subst h;subst e1;subst e2;exact⟨.refl _,hn⟩
def PS.len_ok{s s':PS}{j tag n:Nat}(h:s.len_ j tag n=some s'):s.Le s'/\(j,tag,n)∈s'.ln:=by
 cases s with
 |mk tm loc ln pr fz=>
 injection h with h
 subst h
 exact⟨⟨λ_ _ h=>h,λ_ _ h=>h,λ_ h=>aaj _ h,λh=>h,λ_ h=>h,λ_ h=>h⟩,aan⟩
def AO{F:T ABlk}{m:Nat}{a:AV}{s s':PS}{k:List G->PS->Option PS}(h:Fw F m a s k=some s'):
 ∃l s1,k l s1=some s'/\s.Le s1/\(s1.pr->∀sF,s1.Le sF->RdC (mW sF F) (.rows m l) a):=by
 unfold Fw at h
 split at h
 ·exact⟨_,_,h,.refl _,λ_ _ _=>.inl ⟨rfl,rfl⟩⟩
 ·replace h:=bf h;obtain⟨e,h⟩:=h;have e:=aac e;subst e;exact⟨_,_,h,.refl _,λ_ _ _=>.inr (.inl rfl)⟩
 ·rename_i b g n es;replace h:=nA h;obtain⟨x,hx,h⟩:=h;split at h
  ·rename_i m' l gen ty;replace h:=bf h;obtain⟨e0,h⟩:=h;replace h:=bf h;obtain⟨e1,h⟩:=h;replace h:=bf h;obtain⟨e2,h⟩:=h;have e1:=aac e1;have e2:=aac e2;subst e1;subst e2;refine⟨_,_,h,(PS.fzn_le s b).1.trans (PS.and_le _ _).1,λhp sF hF=>.inr (.inr (.inl ⟨b,g,es,ty, ?_,aaw e0,(pp ((PS.and_le _ _).1.fz _ (PS.fzn_le s b).2) hF).trans hx⟩))⟩;show AV.gsl b g n es= .gsl b g l.length es;rw[←(PS.and_le _ _).2 hp]
  ·rename_i m' l gen;replace h:=bf h;obtain⟨e0,h⟩:=h;replace h:=bf h;obtain⟨e1,h⟩:=h;replace h:=bf h;obtain⟨e2,h⟩:=h;replace h:=bf h;obtain⟨e3,h⟩:=h;have e1:=aac e1;have e2:=aac e2;have e3:=aac e3;subst e1;subst e2;subst e3;refine⟨_,_,h,(PS.fzn_le s b).1.trans (PS.and_le _ _).1,λhp sF hF=>.inr (.inr (.inr (.inr ⟨b,g, ?_,aaw e0,(pp ((PS.and_le _ _).1.fz _ (PS.fzn_le s b).2) hF).trans hx⟩)))⟩;show AV.gsl b g n _= .gsl b g l.length _;rw[←(PS.and_le _ _).2 hp];rfl
  ·cases h
 ·rename_i b g o len cap es;replace h:=nA h;obtain⟨x,hx,h⟩:=h;split at h
  ·rename_i c gen lo hi fl fh ro ty;replace h:=bf h;obtain⟨e0,h⟩:=h;replace h:=Wl h;obtain⟨e1,h⟩:=h;replace h:=bf h;obtain⟨e2,h⟩:=h;replace h:=bf h;obtain⟨e3,h⟩:=h;replace h:=bf h;obtain⟨e4,h⟩:=h;replace h:=bf h;obtain⟨e5,h⟩:=h;replace h:=aB h;obtain⟨as,hl,h⟩:=h;replace h:=aB h;obtain⟨q,hq,h⟩:=h;split at h
   ·rename_i gs;have e4:=aac e4;subst e1;obtain⟨c1,f1,f2,f3,f4⟩:=hY _ _ _ _ hq;have f1:as=c1:=by simpa using f1
    subst f1;subst e4;subst f3;exact⟨_,_,h,(PS.fzn_le s b).1,λ_ sF hF=>.inr (.inr (.inr (.inl ⟨b,g,o,cap,c,gen,lo,hi,fl,fh,ty,as,rfl,aaw e0,(pp (PS.fzn_le s b).2 hF).trans hx,aaw e2,aaw e3,aaw e5,hl,f4⟩)))⟩
   ·cases h
  ·cases h
 ·cases h
def vw{F:T ABlk}{a:AV}{s s':PS}{k:List Nat->PS->Option PS}(h:xC F a s k=some s'):
 ∃l s1,k l s1=some s'/\s.Le s1/\(s1.pr->∀sF,s1.Le sF->RdC (mW sF F) (.bytes l) a):=by
 unfold xC at h
 split at h
 ·exact⟨_,_,h,.refl _,λ_ _ _=>.inl ⟨rfl,rfl⟩⟩
 ·exact⟨_,_,h,.refl _,λ_ _ _=>.inr (.inl rfl)⟩
 ·rename_i b g n es;replace h:=nA h;obtain⟨x,hx,h⟩:=h;split at h
  ·rename_i l gen ty;replace h:=bf h;obtain⟨e0,h⟩:=h;replace h:=bf h;obtain⟨e2,h⟩:=h;have e2:=aac e2;subst e2;refine⟨_,_,h,(PS.fzn_le s b).1.trans (PS.and_le _ _).1,λhp sF hF=>.inr (.inr (.inl ⟨b,g,es,ty, ?_,aaw e0,(pp ((PS.and_le _ _).1.fz _ (PS.fzn_le s b).2) hF).trans hx⟩))⟩;show AV.gsl b g n es= .gsl b g l.length es;rw[←(PS.and_le _ _).2 hp]
  ·rename_i l gen;replace h:=bf h;obtain⟨e0,h⟩:=h;replace h:=bf h;obtain⟨e2,h⟩:=h;replace h:=bf h;obtain⟨e3,h⟩:=h;have e2:=aac e2;have e3:=aac e3;subst e2;subst e3;refine⟨_,_,h,(PS.fzn_le s b).1.trans (PS.and_le _ _).1,λhp sF hF=>.inr (.inr (.inr (.inr ⟨b,g, ?_,aaw e0,(pp ((PS.and_le _ _).1.fz _ (PS.fzn_le s b).2) hF).trans hx⟩)))⟩;show AV.gsl b g n _= .gsl b g l.length _;rw[←(PS.and_le _ _).2 hp];rfl
  ·cases h
 ·rename_i b g o len cap es;replace h:=nA h;obtain⟨x,hx,h⟩:=h;split at h
  ·rename_i c gen lo hi fl fh ro ty;replace h:=bf h;obtain⟨e0,h⟩:=h;replace h:=Wl h;obtain⟨e1,h⟩:=h;replace h:=bf h;obtain⟨e2,h⟩:=h;replace h:=bf h;obtain⟨e3,h⟩:=h;replace h:=bf h;obtain⟨e4,h⟩:=h;replace h:=aB h;obtain⟨as,hl,h⟩:=h;replace h:=aB h;obtain⟨ns,hq,h⟩:=h;have e4:=aac e4;subst e1;subst e4;obtain⟨f1,f2⟩:=nw _ _ hq;have hal:as.length=len:=by
    have:∀(n o:Nat) (l:List AV),QM c g n o=some l->l.length=n:=by
     intro n
     induction n with
     |zero=>intro o l h;injection h with h;subst h;rfl
     |succ n ih=>
      intro o l h
      replace h:=nA h;obtain⟨x,_,h⟩:=h
      cases x with
      |mk tag v=>replace h:=bf h;obtain⟨_,h⟩:=h;rw[rB] at h;obtain⟨l',h1,h2⟩:=aB h;injection h2 with h2;subst h2;simp [ih _ _ h1]
    exact this _ _ _ hl
   have hnl:(Ct.bytes (aG ns)).len=len:=by show(aG ns).length=len;rw[bQ,f1,hal]
   refine⟨_,_,h,(PS.fzn_le s b).1.trans (PS.and_le _ _).1,λhp sF hF=>.inr (.inr (.inr (.inl ⟨b,g,o,cap,c,gen,lo,hi,fl,fh,ty,as,by rw[hnl];rfl,aaw e0,(pp ((PS.and_le _ _).1.fz _ (PS.fzn_le s b).2) hF).trans hx,aaw e2,by rw[hnl];exact aaw e3,aaa _,by rw[hnl];show QM c g (len * 1) o=_;rw[aaF];exact hl,λi hi ρ vs I'=>?_⟩)))⟩;rw[hnl] at hi;have hia:i<as.length:=by omega
   have hd:(as.drop (i * 1)).take 1= [as[i]]:=by rw[aaF,aa2 hia];rfl
   have I':LR ρ ((as.drop (i * 1)).take 1) vs:=I';rw[hd] at I';refine I'.one λv hv=>?_;obtain⟨n',q1,q2⟩:=f2 i as[i] (aai hia);obtain⟨q3,q4⟩:=ju _ _ _ ((PS.and_le _ _).2 hp) q1;rw[bc hv q2,aag,q3];show VR ρ (.sI .u8 ((n'.toNat:Nat):Int)) _;rw[show((n'.toNat:Nat):Int)=n' by omega];exact .sI _ _
  ·cases h
 ·cases h
def L6{l:List (Nat×Tm)}{t:Nat}{n:Int}(h:bE t l=some (.i n)):tmI l t=n:=by unfold tmI;rw[h]
def sx{l:List (Nat×Tm)}{t:Nat}{n:List Nat}(h:bE t l=some (.s n)):I1 l t=n:=by unfold I1;rw[h]
def Wu{l:List (Nat×Tm)}{t:Nat}{n:Prop}(h:bE t l=some (.p n)):tmP l t=n:=by unfold tmP;rw[h]
def mG{l:List (Nat×Tm)}{t:Nat}{n:List G}(h:bE t l=some (.g n)):Ds l t=n:=by unfold Ds;rw[h]
def AP{F:T ABlk}{blk:List BSh}{x:Sh}{a:AV}{s s':PS}(h:nK F blk x a s=some s'):
 s.Le s'/\∀sF,s'.Le sF->sF.pr->sw blk sF->Tv (mW sF F) blk sF.L (aM sF.tm) x a:=by
 unfold nK at h
 cases x with
 |i k t=>
  simp only at h
  split at h
  ·rename_i k' n hn;replace h:=bf h;obtain⟨e,h⟩:=h;have e:=of_decide_eq_true e;subst e;obtain⟨h1,h2⟩:=PS.add_ok h;refine⟨h1,λsF hF _ _=>?_⟩;show ce a=some (k,tmI sF.tm t);rw[L6 (hF.tm _ _ h2),hn]
  ·cases h
 |b t=>
  simp only at h
  split at h
  ·rename_i q hn;obtain⟨h1,h2⟩:=PS.add_ok h;refine⟨h1,λsF hF _ _=>?_⟩;show dO a=some (tmP sF.tm t);rw[Wu (hF.tm _ _ h2),hn]
  ·cases h
 |s t=>
  simp only at h
  split at h
  ·rename_i q hn;obtain⟨h1,h2⟩:=PS.add_ok h;refine⟨h1,λsF hF _ _=>?_⟩;show gj a=some (I1 sF.tm t);rw[sx (hF.tm _ _ h2),hn]
  ·cases h
 |o=>
  replace h:=bf h;obtain⟨e,h⟩:=h
  injection h with h
  subst h
  exact⟨.refl _,λsF _ _ _=>e⟩
 |v m t=>
  obtain⟨l,s1,hk,hle,hr⟩:=AO h
  obtain⟨h1,h2⟩:=PS.add_ok hk
  refine⟨hle.trans h1,λsF hF hp _=>?_⟩
  show RdC (mW sF F) (.rows m (Ds sF.tm t)) a
  rw[mG (hF.tm _ _ h2)]
  exact hr (h1.pr (hF.pr hp)) sF (h1.trans hF)
 |vb t=>
  obtain⟨l,s1,hk,hle,hr⟩:=vw h
  obtain⟨h1,h2⟩:=PS.add_ok hk
  refine⟨hle.trans h1,λsF hF hp _=>?_⟩
  show RdC (mW sF F) (.bytes (I1 sF.tm t)) a
  rw[sx (hF.tm _ _ h2)]
  exact hr (h1.pr (hF.pr hp)) sF (h1.trans hF)
 |pi k n=>
  simp only at h
  split at h
  ·rename_i k' n' hn;replace h:=bf h;obtain⟨e,h⟩:=h;have e:=of_decide_eq_true e;subst e;obtain⟨h1,h2⟩:=PS.must_ok h;refine⟨h1,λsF hF hp _=>?_⟩;show ce a=some (k,n);rw[hn,h2 (hF.pr hp)]
  ·cases h
 |pb q=>
  simp only at h
  split at h
  ·rename_i q' hn;obtain⟨h1,h2⟩:=PS.must_ok h;exact⟨h1,λsF hF hp _=>⟨q',hn,h2 (hF.pr hp)⟩⟩
  ·cases h
 |ps l=>
  simp only at h
  split at h
  ·rename_i l' hn;obtain⟨h1,h2⟩:=PS.must_ok h;refine⟨h1,λsF hF hp _=>?_⟩;show gj a=some l;rw[hn,h2 (hF.pr hp)]
  ·cases h
 |pv m l=>
  obtain⟨l',s1,hk,hle,hr⟩:=AO h
  obtain⟨h1,h2⟩:=PS.must_ok hk
  refine⟨hle.trans h1,λsF hF hp _=>?_⟩
  show RdC (mW sF F) (.rows m l) a
  rw[←h2 (hF.pr hp)]
  exact hr (h1.pr (hF.pr hp)) sF (h1.trans hF)
 |pvb l=>
  obtain⟨l',s1,hk,hle,hr⟩:=vw h
  obtain⟨h1,h2⟩:=PS.must_ok hk
  refine⟨hle.trans h1,λsF hF hp _=>?_⟩
  show RdC (mW sF F) (.bytes l) a
  rw[←h2 (hF.pr hp)]
  exact hr (h1.pr (hF.pr hp)) sF (h1.trans hF)
 |np=>
  simp only at h
  split at h
  ·injection h with h;subst h;exact⟨.refl _,λsF _ _ _=>rfl⟩
  ·cases h
 |li k n=>
  simp only at h
  split at h
  ·replace h:=bf h;obtain⟨e,h⟩:=h;replace h:=bf h;obtain⟨e2,h⟩:=h;have e:=of_decide_eq_true e;have e2:=of_decide_eq_true e2;injection h with h;subst h;subst e;subst e2;exact⟨.refl _,λsF _ _ _=>rfl⟩
  ·cases h
 |nz=>
  simp only at h
  split at h
  ·injection h with h;subst h;exact⟨.refl _,λsF _ _ _=>rfl⟩
  ·cases h
 |p j=>
  simp only at h
  split at h
  ·rename_i b g o;replace h:=bf h;obtain⟨e1,h⟩:=h;replace h:=bf h;obtain⟨e2,h⟩:=h;replace h:=bf h;obtain⟨e3,h⟩:=h;have e1:=aac e1;have e2:=aac e2;subst e1;subst e2;obtain⟨h1,h2⟩:=PS.at_ok h;exact⟨h1,λsF hF _ _=>⟨b,hF.loc _ _ h2,rfl,e3⟩⟩
  ·cases h
 |fn f j=>
  simp only at h
  split at h
  ·rename_i f' b g o;replace h:=bf h;obtain⟨e0,h⟩:=h;replace h:=bf h;obtain⟨e1,h⟩:=h;replace h:=bf h;obtain⟨e2,h⟩:=h;replace h:=bf h;obtain⟨e3,h⟩:=h;have e0:=aac e0;have e1:=aac e1;have e2:=aac e2;subst e0;subst e1;subst e2;obtain⟨h1,h2⟩:=PS.at_ok h;exact⟨h1,λsF hF _ _=>⟨b,hF.loc _ _ h2,rfl,e3⟩⟩
  ·cases h
 |m j=>
  simp only at h
  split at h
  ·rename_i b;replace h:=bf h;obtain⟨e3,h⟩:=h;obtain⟨h1,h2⟩:=PS.at_ok h;exact⟨h1,λsF hF _ _=>⟨b,hF.loc _ _ h2,rfl,e3⟩⟩
  ·cases h
 |g j es t=>
  simp only at h
  split at h
  ·rename_i b g n R';replace h:=bf h;obtain⟨e1,h⟩:=h;have e1:=aac e1;subst e1;replace h:=aB h;obtain⟨s1,h1,h⟩:=h;obtain⟨h1,h2⟩:=PS.at_ok h1;obtain⟨h3,h4⟩:=PS.len_ok h;refine⟨h1.trans h3,λsF hF _ hl=>⟨b,g,hF.loc _ _ (h3.loc _ _ h2), ?_⟩⟩;rcases hl _ _ _ (hF.ln _ h4) with⟨m,ty,t',eb,e,e2⟩|⟨ty,t',eb,e,e2⟩
   ·have:t'=t:=by omega
    subst this;refine⟨?_,m,ty,eb⟩;show AV.gsl b g n es= .gsl b g (Ds sF.tm t').length es;rw[e2]
   ·omega
  ·cases h
 |gb j t=>
  simp only at h
  split at h
  ·rename_i b g n R';replace h:=bf h;obtain⟨e1,h⟩:=h;have e1:=aac e1;subst e1;replace h:=aB h;obtain⟨s1,h1,h⟩:=h;obtain⟨h1,h2⟩:=PS.at_ok h1;obtain⟨h3,h4⟩:=PS.len_ok h;refine⟨h1.trans h3,λsF hF _ hl=>⟨b,g,hF.loc _ _ (h3.loc _ _ h2), ?_⟩⟩;rcases hl _ _ _ (hF.ln _ h4) with⟨m,ty,t',eb,e,e2⟩|⟨ty,t',eb,e,e2⟩
   ·omega
   ·have:t'=t:=by omega
    subst this;refine⟨?_,ty,eb⟩;show AV.gsl b g n 1= .gsl b g (I1 sF.tm t').length 1;rw[e2]
  ·cases h
def cH{α β:Type}(R:α->β->Prop):List α->List β->Prop
 | [],[]=>True
 |a::l,b::m=>R a b/\cH R l m
 |_,_=>False
def nN{F:T ABlk}{blk:List BSh}:∀{l:List Sh} {as:List AV} {s s':PS},iT F blk l as s=some s'->
 s.Le s'/\∀sF,s'.Le sF->sF.pr->sw blk sF->cH (Tv (mW sF F) blk sF.L (aM sF.tm)) l as:=by
 intro l
 induction l with
 |nil=>
  intro as s s' h
  cases as with
  |nil=>injection h with h;subst h;exact⟨.refl _,λ_ _ _ _=>trivial⟩
  |cons _ _=>cases h
 |cons x l ih=>
  intro as s s' h
  cases as with
  |nil=>cases h
  |cons a as=>
   obtain⟨s1,h1,h2⟩:=aB (show bC (nK F blk x a s) (λs=>iT F blk l as s)=some s' from h)
   obtain⟨q1,q2⟩:=AP (blk:=blk) h1
   obtain⟨r1,r2⟩:=ih h2
   exact⟨q1.trans r1,λsF hF hp hl=>⟨q2 sF (r1.trans hF) hp hl,r2 sF hF hp hl⟩⟩
def TvA(F:Nat->Option ABlk)(blk:List BSh)(L:Nat->Option (Nat×Nat))(y:Sy)(x:Sa)(a:AV):Prop:=match x with
 | .c x=>Tv F blk L y x a
 | .ag l=>∃as,a= .agg as/\cH (Tv F blk L y) l as
 | .cp l=>∃as,a= .cptr as/\cH (Tv F blk L y) l as
def TvR(F:Nat->Option ABlk)(blk:List BSh)(L:Nat->Option (Nat×Nat))(y:Sy)(x:Sr)(a:AV):Prop:=match x with
 | .one x=>TvA F blk L y x a
 | .tu l=>∃as,a= .tup as/\cH (TvA F blk L y) l as
def AQ{F:T ABlk}{blk:List BSh}{x:Sa}{a:AV}{s s':PS}(h:su F blk x a s=some s'):
 s.Le s'/\∀sF,s'.Le sF->sF.pr->sw blk sF->TvA (mW sF F) blk sF.L (aM sF.tm) x a:=by
 cases x with
 |c x=>exact AP h
 |ag l=>
  unfold su at h
  simp only at h
  split at h
  ·obtain⟨h1,h2⟩:=nN (blk:=blk) h;exact⟨h1,λsF hF hp hl=>⟨_,rfl,h2 sF hF hp hl⟩⟩
  ·cases h
 |cp l=>
  unfold su at h
  simp only at h
  split at h
  ·obtain⟨h1,h2⟩:=nN (blk:=blk) h;exact⟨h1,λsF hF hp hl=>⟨_,rfl,h2 sF hF hp hl⟩⟩
  ·cases h
def gd{F:T ABlk}{blk:List BSh}:∀{l:List Sa} {as:List AV} {s s':PS},iB F blk l as s=some s'->
 s.Le s'/\∀sF,s'.Le sF->sF.pr->sw blk sF->cH (TvA (mW sF F) blk sF.L (aM sF.tm)) l as:=by
 intro l
 induction l with
 |nil=>
  intro as s s' h
  cases as with
  |nil=>injection h with h;subst h;exact⟨.refl _,λ_ _ _ _=>trivial⟩
  |cons _ _=>cases h
 |cons x l ih=>
  intro as s s' h
  cases as with
  |nil=>cases h
  |cons a as=>
   obtain⟨s1,h1,h2⟩:=aB (show bC (su F blk x a s) (λs=>iB F blk l as s)=some s' from h)
   obtain⟨q1,q2⟩:=AQ (blk:=blk) h1
   obtain⟨r1,r2⟩:=ih h2
   exact⟨q1.trans r1,λsF hF hp hl=>⟨q2 sF (r1.trans hF) hp hl,r2 sF hF hp hl⟩⟩
def L7{F:T ABlk}{blk:List BSh}{x:Sr}{a:AV}{s s':PS}(h:AM F blk x a s=some s'):
 s.Le s'/\∀sF,s'.Le sF->sF.pr->sw blk sF->TvR (mW sF F) blk sF.L (aM sF.tm) x a:=by
 cases x with
 |one x=>exact AQ h
 |tu l=>
  unfold AM at h
  simp only at h
  split at h
  ·obtain⟨h1,h2⟩:=gd (blk:=blk) h;exact⟨h1,λsF hF hp hl=>⟨_,rfl,h2 sF hF hp hl⟩⟩
  ·cases h
def sy{ty n g:Nat}{q:ABlk}{as:List AV}(h:nL ty n q g=some as):g=0/\∃c,q= .cells c 0 0 n 0 0 false ty/\QM c 0 n 0=some as:=by
 unfold nL at h;split at h
 ·replace h:=Wl h;obtain⟨e0,h⟩:=h;replace h:=bf h;obtain⟨e1,h⟩:=h;replace h:=bf h;obtain⟨e2,h⟩:=h;replace h:=bf h;obtain⟨e3,h⟩:=h;replace h:=bf h;obtain⟨e4,h⟩:=h;replace h:=bf h;obtain⟨e5,h⟩:=h;replace h:=bf h;obtain⟨e6,h⟩:=h;replace h:=bf h;obtain⟨e7,h⟩:=h;have e1:=aac e1;have e2:=aac e2;have e3:=aac e3;have e4:=aac e4;have e5:=aac e5;have e6:=aac e6;have e7:=aac e7;subst e0 e1 e2 e3 e4 e5 e6 e7;exact⟨rfl,_,rfl,h⟩
 ·cases h
def BT(ρ:Rho)(F:Nat->Option ABlk)(blk:List BSh)(L:Nat->Option (Nat×Nat))(y:Sy)(x:BSh)(q:ABlk)(g:Nat):Prop:=match x with
 | .cells ty l=>g=0/\∃c as,q= .cells c 0 0 l.length 0 0 false ty/\as.length=l.length/\(∀(j:Nat) (a:AV),as[j]? =some a->∃a0,c.get j=some (.mk 0 a0)/\∀v,VR ρ a0 v->VR ρ a v)/\cH (Tv F blk L y) l as
 | .grow m ty t=>q= .grow (.rows m (y.g t)) g ty
 | .growb ty t=>q= .grow (.bytes (y.s t)) g ty
 | .arb ty t=>g=0/\q= .grow (.bytes (y.s t)) 0 ty/\0<(y.s t).length
 | .arr m ty t=>g=0/\q= .grow (.rows m (y.g t)) 0 ty/\0<(y.g t).length
 | .sm m t=>g=0/\(q= .smap m (y.g t)∨∃c,q= .mapo [] c/\y.g t= [])
 | .obj k C t=>g=0/\q= .obj k (C (y.g t)) (y.g t)
def eT{ρ:Rho}{F:T ABlk}{blk:List BSh}{x:BSh}{q:ABlk}{g:Nat}{s s':PS}(h:gw x q g s=some s'):
 s.Le s'/\∀sF,s'.Le sF->sF.pr->BT ρ (mW sF F) blk sF.L (aM sF.tm) x q g:=by
 unfold gw at h
 cases x with
 |cells ty l=>cases h
 |grow m ty t=>
  simp only at h
  split at h
  ·replace h:=bf h;obtain⟨e1,h⟩:=h;replace h:=bf h;obtain⟨e2,h⟩:=h;replace h:=bf h;obtain⟨e3,h⟩:=h;have e1:=aac e1;have e2:=aac e2;have e3:=aac e3;subst e1;subst e2;subst e3;obtain⟨h1,h2⟩:=PS.add_ok h;refine⟨h1,λsF hF _=>?_⟩;show ABlk.grow _ _ _=ABlk.grow (.rows m (Ds sF.tm t)) g ty;rw[mG (hF.tm _ _ h2)]
  ·cases h
 |growb ty t=>
  simp only at h
  split at h
  ·replace h:=bf h;obtain⟨e2,h⟩:=h;replace h:=bf h;obtain⟨e3,h⟩:=h;have e2:=aac e2;have e3:=aac e3;subst e2;subst e3;obtain⟨h1,h2⟩:=PS.add_ok h;refine⟨h1,λsF hF _=>?_⟩;show ABlk.grow _ _ _=ABlk.grow (.bytes (I1 sF.tm t)) g ty;rw[sx (hF.tm _ _ h2)]
  ·cases h
 |sm m t=>
  simp only at h
  split at h
  ·replace h:=bf h;obtain⟨e2,h⟩:=h;replace h:=bf h;obtain⟨e3,h⟩:=h;have e2:=aac e2;have e3:=aac e3;subst e2;subst e3;obtain⟨h1,h2⟩:=PS.add_ok h;exact⟨h1,λsF hF _=>⟨rfl,.inl (by show ABlk.smap _ _=ABlk.smap _ (Ds sF.tm t);rw[mG (hF.tm _ _ h2)])⟩⟩
  ·replace h:=bf h;obtain⟨e3,h⟩:=h;have e3:=aac e3;subst e3;obtain⟨h1,h2⟩:=PS.add_ok h;exact⟨h1,λsF hF _=>⟨rfl,.inr ⟨_,rfl,mG (hF.tm _ _ h2)⟩⟩⟩
  ·cases h
 |arb ty t=>
  simp only at h
  split at h
  ·replace h:=bf h;obtain⟨e2,h⟩:=h;replace h:=bf h;obtain⟨e3,h⟩:=h;replace h:=bf h;obtain⟨e4,h⟩:=h;have e2:=aac e2;have e3:=aac e3;have e4:=aac e4;subst e2;subst e3;subst e4;obtain⟨s1,hm,h⟩:=aB h;obtain⟨m1,m2⟩:=PS.must_ok hm;obtain⟨h1,h2⟩:=PS.add_ok h;refine⟨m1.trans h1,λsF hF hp=>⟨rfl, ?_, ?_⟩⟩
   ·show ABlk.grow _ _ _=ABlk.grow (.bytes (I1 sF.tm t)) 0 ty;rw[sx (hF.tm _ _ h2)]
   ·show 0<(I1 sF.tm t).length;rw[sx (hF.tm _ _ h2)];exact m2 (h1.pr (hF.pr hp))
  ·cases h
 |arr m ty t=>
  simp only at h
  split at h
  ·replace h:=bf h;obtain⟨e1,h⟩:=h;replace h:=bf h;obtain⟨e2,h⟩:=h;replace h:=bf h;obtain⟨e3,h⟩:=h;replace h:=bf h;obtain⟨e4,h⟩:=h;have e1:=aac e1;have e2:=aac e2;have e3:=aac e3;have e4:=aac e4;subst e1;subst e2;subst e3;subst e4;obtain⟨s1,hm,h⟩:=aB h;obtain⟨m1,m2⟩:=PS.must_ok hm;obtain⟨h1,h2⟩:=PS.add_ok h;refine⟨m1.trans h1,λsF hF hp=>⟨rfl, ?_, ?_⟩⟩
   ·show ABlk.grow _ _ _=ABlk.grow (.rows m (Ds sF.tm t)) 0 ty;rw[mG (hF.tm _ _ h2)]
   ·show 0<(Ds sF.tm t).length;rw[mG (hF.tm _ _ h2)];exact m2 (h1.pr (hF.pr hp))
  ·cases h
 |obj k C t=>
  simp only at h
  split at h
  ·replace h:=bf h;obtain⟨e2,h⟩:=h;replace h:=bf h;obtain⟨e3,h⟩:=h;have e2:=aac e2;have e3:=aac e3;subst e2;subst e3;obtain⟨s1,hm,h⟩:=aB h;obtain⟨m1,m2⟩:=PS.must_ok hm;obtain⟨h1,h2⟩:=PS.add_ok h;refine⟨m1.trans h1,λsF hF hp=>⟨rfl, ?_⟩⟩;show ABlk.obj _ _ _=ABlk.obj k (C (Ds sF.tm t)) (Ds sF.tm t);rw[mG (hF.tm _ _ h2),m2 (h1.pr (hF.pr hp))]
  ·cases h
def I5{ρ:Rho}{F:T ABlk}{blk:List BSh}{x:BSh}{q:ABlk}{g:Nat}{s s':PS}(h:pn F blk x q g s=some s'):
 s.Le s'/\∀sF,s'.Le sF->sF.pr->sw blk sF->BT ρ (mW sF F) blk sF.L (aM sF.tm) x q g:=by
 cases x with
 |cells ty l=>
  obtain⟨as,h1,h2⟩:=aB (show bC (nL ty (List.length l) q g) (λas=>iT F blk l as s)=some s' from h)
  obtain⟨e,c,eq,hl⟩:=sy h1
  obtain⟨q1,q2⟩:=nN (blk:=blk) h2
  obtain⟨r1,r2⟩:=rT hl
  refine⟨q1,λsF hF hp hl=>⟨e,c,as,eq,r1,λj a ha=>?_,q2 sF hF hp hl⟩⟩
  obtain⟨tag,t1,t2⟩:=r2 j a ha
  have:tag=0:=by omega
  subst this
  exact⟨a,by rw[←t1];congr 1;omega,λ_ h=>h⟩
 |grow m ty t=>obtain⟨h1,h2⟩:=eT (ρ:=ρ) (F:=F) (blk:=blk) (show gw (.grow m ty t) q g s=some s' from h);exact⟨h1,λsF hF hp _=>h2 sF hF hp⟩
 |growb ty t=>obtain⟨h1,h2⟩:=eT (ρ:=ρ) (F:=F) (blk:=blk) (show gw (.growb ty t) q g s=some s' from h);exact⟨h1,λsF hF hp _=>h2 sF hF hp⟩
 |arb ty t=>obtain⟨h1,h2⟩:=eT (ρ:=ρ) (F:=F) (blk:=blk) (show gw (.arb ty t) q g s=some s' from h);exact⟨h1,λsF hF hp _=>h2 sF hF hp⟩
 |arr m ty t=>obtain⟨h1,h2⟩:=eT (ρ:=ρ) (F:=F) (blk:=blk) (show gw (.arr m ty t) q g s=some s' from h);exact⟨h1,λsF hF hp _=>h2 sF hF hp⟩
 |sm m t=>obtain⟨h1,h2⟩:=eT (ρ:=ρ) (F:=F) (blk:=blk) (show gw (.sm m t) q g s=some s' from h);exact⟨h1,λsF hF hp _=>h2 sF hF hp⟩
 |obj k C t=>obtain⟨h1,h2⟩:=eT (ρ:=ρ) (F:=F) (blk:=blk) (show gw (.obj k C t) q g s=some s' from h);exact⟨h1,λsF hF hp _=>h2 sF hF hp⟩
def eu{blk:List BSh}:∀{l:List (Nat×Nat×Nat)} {s s':PS},mf blk l s=some s'->
 s.Le s'/\s'.tm=s.tm/\s'.loc=s.loc/\s'.ln=s.ln/\(s'.pr->∀j tag n,(j,tag,n)∈l->(∃m ty t,blk[j]? =some (.grow m ty t)/\tag=2 * t/\(Ds s.tm t).length=n)∨(∃ty t,blk[j]? =some (.growb ty t)/\tag=2 * t+1/\(I1 s.tm t).length=n)):=by
 intro l
 induction l with
 |nil=>intro s s' h;injection h with h;subst h;exact⟨.refl _,rfl,rfl,rfl,λ_ j tag n h=>by cases h⟩
 |cons x l ih=>
  intro s s' h
  obtain⟨j,tag,n⟩:=x
  have h:(match blk[j]? with
   |some (.grow _ _ t)=>ac (Nat.beq tag (2 * t)) (bC (s.must ((Ds s.tm t).length=n)) (mf blk l)) none
   |some (.growb _ t)=>ac (Nat.beq tag (2 * t+1)) (bC (s.must ((I1 s.tm t).length=n)) (mf blk l)) none
   |_=>none)=some s':=h
  split at h
  ·rename_i m ty t hb;replace h:=bf h;obtain⟨e,h⟩:=h;have e:=aac e;replace h:=aB h;obtain⟨s1,h1,h⟩:=h;obtain⟨q1,q2,q3,q4,q5⟩:=ih h;have hm:=PS.must_ok h1;injection h1 with h1;subst h1;refine⟨hm.1.trans q1,q2,q3,q4,λhp j' ae2 n' ab1=>?_⟩;rcases List.mem_cons.1 ab1 with e'|ab1
   ·injection e' with e1 e2;injection e2 with e2 e3;subst e1;subst e2;subst e3;exact .inl ⟨m,ty,t,hb,e,hm.2 (q1.pr hp)⟩
   ·exact q5 hp _ _ _ ab1
  ·rename_i ty t hb;replace h:=bf h;obtain⟨e,h⟩:=h;have e:=aac e;replace h:=aB h;obtain⟨s1,h1,h⟩:=h;obtain⟨q1,q2,q3,q4,q5⟩:=ih h;have hm:=PS.must_ok h1;injection h1 with h1;subst h1;refine⟨hm.1.trans q1,q2,q3,q4,λhp j' ae2 n' ab1=>?_⟩;rcases List.mem_cons.1 ab1 with e'|ab1
   ·injection e' with e1 e2;injection e2 with e2 e3;subst e1;subst e2;subst e3;exact .inr ⟨ty,t,hb,e,hm.2 (q1.pr hp)⟩
   ·exact q5 hp _ _ _ ab1
  ·cases h
def lH{blk:List BSh}{s s':PS}(h:mf blk s.ln s=some s')(hp:s'.pr):sw blk s':=by obtain⟨_,q2,_,q4,q5⟩:=eu h;intro j tag n hm;rw[q4] at hm;rw[q2];exact q5 hp j tag n hm
end Go.Sym
namespace Go.Sym
open Go.RowKit (Below)
def hl:AV->Bool
 | .bool _=>true | .int _ _=>true | .str _=>true | .nilp=>true | .nils=>true | .sI _ _=>true | .sB _=>true | .sS _=>true | .any1=>true | .cv _=>true
 |_=>false
def pq:∀(g:G) (n i:Nat),∀a∈mo g n i,hl a=true:=by
 intro g n
 induction n with
 |zero=>intro i a h;cases h
 |succ n ih=>
  intro i a h;rcases List.mem_cons.1 h with e|h
  ·subst e;rfl
  ·exact ih _ a h
def dl{ρ ρ':Rho}{a:AV}{v:Value}(hf:∀b x,ρ.frz b=some x->ρ'.frz b=some x)(h:VR ρ a v):hl a=true->VR ρ' a v:=by
 induction h with
 |bool b=>intro _;exact .bool b
 |int k n=>intro _;exact .int k n
 |str s=>intro _;exact .str s
 |nilp=>intro _;exact .nilp
 |nils=>intro _;exact .nils
 |sI k n=>intro _;exact .sI k n
 |sB p b h=>intro _;exact .sB p b h
 |sS s=>intro _;exact .sS s
 |any1 v h=>intro _;exact .any1 v h
 |cv c blk off cp arr ty hfz hc hb r ih=>
  intro _
  refine .cv c blk off cp arr ty (hf _ _ hfz) hc hb λi j a v hi ha hv=>ih i j a v hi ha hv ?_
  cases c with
  |bytes s=>
   cases j with
   |zero=>simp [Ct.row] at ha;subst ha;rfl
   |succ j=>simp [Ct.row] at ha
  |rows m l=>
   have key:∀(xs:List Sc) (g:G) (q:Nat),∀a∈bB xs g q,hl a=true:=by
    intro xs
    induction xs with
    |nil=>intro g q a h;cases h
    |cons x xs ihx=>
     intro g q a h;rcases List.mem_append.1 h with h|h
     ·cases x <;> simp [fP] at h;case h n=>exact pq _ _ _ a h
      all_goals (subst h;rfl)
     ·exact ihx _ _ a h
   exact key _ _ _ a (abf ha)
 |cvnil c h=>intro _;exact .cvnil c h
 |cvempty c a h=>intro _;exact .cvempty c a h
 |_=>intro h;cases h
def mH{c:Ct}{i j:Nat}{a:AV}(ha:(c.row i)[j]? =some a):hl a=true:=by
 cases c with
 |bytes s=>
  cases j with
  |zero=>simp [Ct.row] at ha;subst ha;rfl
  |succ j=>simp [Ct.row] at ha
 |rows m l=>
  have key:∀(xs:List Sc) (g:G) (q:Nat),∀a∈bB xs g q,hl a=true:=by
   intro xs
   induction xs with
   |nil=>intro g q a h;cases h
   |cons x xs ihx=>
    intro g q a h;rcases List.mem_append.1 h with h|h
    ·cases x <;> simp [fP] at h;case h n=>exact pq _ _ _ a h
     all_goals (subst h;rfl)
    ·exact ihx _ _ a h
  exact key _ _ _ a (abf ha)
def VR.into{ρ ρ':Rho}(h1:∀b g h,ρ.at_ b g=some h->ρ'.at_ b g=some h)(h2:ρ'.val=ρ.val)(h3:∀b x,ρ.frz b=some x->ρ'.frz b=some x){a:AV}{v:Value}(h:VR ρ a v):VR ρ' a v:=by
 have sl:∀{b g o len:Nat} {cap:Option Nat} {es:Nat} {a:Addr} {c:Nat},SlOk ρ b g o len cap es a c->SlOk ρ' b g o len cap es a c:=by
  intro b g o len cap es a c h
  refine⟨h.1, ?_⟩
  have h2:=h.2
  cases cap with
  |some k=>obtain⟨e,x,hx,r⟩:=h2;exact⟨e,x,h1 _ _ _ hx,r⟩
  |none=>
   rcases h2 with h2|⟨x,hx,r⟩
   ·exact .inl h2
   ·exact .inr ⟨x,h1 _ _ _ hx,r⟩
 induction h with
 |bool b=>exact .bool b
 |int k n=>exact .int k n
 |str s=>exact .str s
 |nilp=>exact .nilp
 |ptr b g o h hh ho=>exact .ptr b g o h (h1 _ _ _ hh) ho
 |nils=>exact .nils
 |slc b g o len cap es a c h=>exact .slc b g o len cap es a c (sl h)
 |nilm=>exact .nilm
 |map b h hh=>exact .map b h (h1 _ _ _ hh)
 |func fn l m first captured e1 e2 r1 r2 hf i1 i2=>exact .func fn l m first captured e1 e2 i1 i2 hf
 |yld b h hh=>exact .yld b h (h1 _ _ _ hh)
 |nilf=>exact .nilf
 |iface t x v h ih=>exact .iface t x v ih
 |nili=>exact .nili
 |agg l cs h r ih=>exact .agg l cs h ih
 |tup l cs h r ih=>exact .tup l cs h ih
 |opq n=>rw[←h2];exact .opq n
 |opc n h=>rw[←h2];exact .opc n (by rw[h2];exact h)
 |anyB b=>exact .anyB b
 |anyI k n=>exact .anyI k n
 |osl n base len cap h=>exact .osl n base len cap (by rw[h2];exact h)
 |sI k n=>exact .sI k n
 |sB p b h=>exact .sB p b h
 |sS s=>exact .sS s
 |any1 v h=>exact .any1 v h
 |cptr l blk off arr ty hf hb r ih=>exact .cptr l blk off arr ty (h3 _ _ hf) hb ih
 |cv c blk off cp arr ty hf hc hb r ih=>exact .cv c blk off cp arr ty (h3 _ _ hf) hc hb ih
 |cvnil c h=>exact .cvnil c h
 |cvempty c a h=>exact .cvempty c a h
 |gsl b g n es h c hn hh hs hc hz=>exact .gsl b g n es h c hn (h1 _ _ _ hh) hs hc hz
 |gnil b g es=>exact .gnil b g es
 |gempty b g es a=>exact .gempty b g es a
 |gptr b g i o es h hh hs=>exact .gptr b g i o es h (h1 _ _ _ hh) hs
 |aptr b g o n i h hh ho h0 h9=>exact .aptr b g o n i h (h1 _ _ _ hh) ho h0 h9
def L8(γ:lS)(y:Sy):∀(l:List Sh) (i:Nat),(ki γ y l)[i]? =(l[i]?).map (put γ y):=by
 intro l
 induction l with
 |nil=>intro i;rfl
 |cons x l ih=>intro i;cases i with
  |zero=>rfl
  |succ i=>exact ih i
def L9(γ:lS)(y:Sy):∀(l:List Sh),(ki γ y l).length=l.length:=by
 intro l
 induction l with
 |nil=>rfl
 |cons x l ih=>show(put γ y x::ki γ y l).length=_;simp [ih]
def vy:∀(l:List AV) (i:Nat) (t:T Cell) (o:Nat) (x:Cell),(sq l i t).get o=some x->
 (∃(j:Nat) (a:AV),o=i+j/\l[j]? =some a/\x= .mk 0 a)∨(t.get o=some x/\(o<i∨i+l.length<=o)):=by
 intro l
 induction l with
 |nil=>intro i t o x h;exact .inr ⟨h,by simp;omega⟩
 |cons a l ih=>
  intro i t o x h
  rcases ih (i+1) (t.set i (.mk 0 a)) o x h with⟨j,b,e,hb,hx⟩|⟨hx,ho⟩
  ·exact .inl ⟨j+1,b,by omega,by simpa using hb,hx⟩
  ·by_cases e:o=i
   ·subst e;have:=T.get_set_some _ _ hx;exact .inl ⟨0,a,by omega,rfl,this⟩
   ·rw[T.get_set_ne _ e] at hx;exact .inr ⟨hx,by simp at ho⊢;omega⟩
def sz{γ:lS}{y:Sy}:∀(l:List BSh) (j:Nat) (H:T ABlk) (b:Nat) (X:ABlk),(eS γ y l j H).get b=some X->
 (∃i x,l[i]? =some x/\b=(γ (j+i)).1/\X=mF γ y (j+i) x)∨(H.get b=some X/\∀i,i<l.length->b≠(γ (j+i)).1):=by
 intro l
 induction l with
 |nil=>intro j H b X h;exact .inr ⟨h,λi hi=>by simp at hi⟩
 |cons x l ih=>
  intro j H b X h
  rcases ih (j+1) _ b X h with⟨i,x',h1,h2,h3⟩|⟨h1,h2⟩
  ·exact .inl ⟨i+1,x',by simpa using h1,by rw[h2];congr 2;omega,by rw[h3];congr 1;omega⟩
  ·by_cases e:b=(γ j).1
   ·subst e;have:=T.get_set_some _ _ h1;exact .inl ⟨0,x,rfl,rfl,this⟩
   ·rw[T.get_set_ne _ e] at h1
    refine .inr ⟨h1,λi hi=>?_⟩
    cases i with
    |zero=>exact e
    |succ i=>have:=h2 i (by simpa using hi);rwa [show j+1+i=j+(i+1) by omega] at this
def sA{γ:lS}{y:Sy}:∀(l:List BSh) (j:Nat) (H:T ABlk) (i:Nat) (x:BSh),l[i]? =some x->(∀i,i<l.length->(γ (j+i)).1+1<2 ^ 64)->
 (∀a b,a<l.length->b<l.length->(γ (j+a)).1=(γ (j+b)).1->a=b)->(eS γ y l j H).get (γ (j+i)).1=some (mF γ y (j+i) x):=by
 intro l
 induction l with
 |nil=>intro j H i x h;simp at h
 |cons z l ih=>
  intro j H i x h f9 ao8
  cases i with
  |zero=>
   simp at h;subst h
   have keep:∀(l:List BSh) (j':Nat) (H:T ABlk),(∀i,i<l.length->(γ (j'+i)).1≠(γ j).1)->(eS γ y l j' H).get (γ j).1=H.get (γ j).1:=by
    intro l
    induction l with
    |nil=>intro j' H _;rfl
    |cons q l ihl=>intro j' H m8;show(eS γ y l (j'+1) (H.set (γ j').1 (mF γ y j' q))).get (γ j).1=_;rw[ihl (j'+1) _ (λi hi=>by have:=m8 (i+1) (by simpa using hi);rwa [show j'+(i+1)=j'+1+i by omega] at this),T.get_set_ne _ (Ne.symm (show(γ j').1≠(γ j).1 from m8 0 (by simp)))]
   show(eS γ y l (j+1) (H.set (γ j).1 (mF γ y j z))).get (γ j).1=_
   rw[keep l (j+1) _ (λi hi e=>by have:=ao8 (i+1) 0 (by simpa using hi) (by simp) (by rw[show j+(i+1)=j+1+i by omega];exact e);omega),T.get_set_same _ _ _ (show(γ j).1+1<2 ^ 64 from f9 0 (by simp))]
   rfl
  |succ i=>
   have:=ih (j+1) (H.set (γ j).1 (mF γ y j z)) i x (by simpa using h) (λi hi=>by have:=f9 (i+1) (by simpa using hi);rwa [show j+(i+1)=j+1+i by omega] at this) (λa b ha hb e=>by have:=ao8 (a+1) (b+1) (by simpa using ha) (by simpa using hb) (by rw[show j+(a+1)=j+1+a by omega,show j+(b+1)=j+1+b by omega];exact e);omega)
   rw[show j+(i+1)=j+1+i by omega]
   exact this
section
variable(B:Nat)(ρ:Rho)(H:T ABlk)(w wf:World)(L:Nat->Option (Nat×Nat))(γ:lS)(n:Nat)(own:Nat->Prop)(frz0:Nat->Option (Array Value×TypeId))
def bz(j:Nat):Option Home:=match L j with
 |some (b,g)=>(match H.get b with
  |some (.grow c _ _)=>if c.len=0 then none else ρ.at_ b g
  |_=>ρ.at_ b g)
 |none=>none
def zA(j:Nat):Prop:=∃b g k I l,L j=some (b,g)/\H.get b=some (.obj k I l)
def sC(j:Nat)(h:Home):Prop:=bz ρ H L j=some h∨∃b g,L j=some (b,g)/\zA H L j/\(∃g',ρ.at_ b g'=some h)/\Own ρ B h.blk
open Classical in
noncomputable def sD(j g':Nat):Option Home:=if zA H L j then(match L j with
 |some (b,_)=>(match ρ.at_ b g' with|some h=>if Own ρ B h.blk then some h else none|none=>none)
 |none=>none) else if g'=(γ j).2 then bz ρ H L j else none
open Classical in
noncomputable def iI(b' g':Nat):Option Home:=if h:∃j,j<n/\(γ j).1=b' then sD B ρ H L γ (Classical.choose h) g' else none
open Classical in
noncomputable def kS(blk:Nat):Option (Array Value×TypeId):=match ρ.frz blk with
 |some x=>some x
 |none=>if wf.heap.size<=blk/\∀j h,sC B ρ H L j h->h.blk≠blk then(match w.heap[blk]? with|some (.cells arr ty _)=>some (arr,ty)|_=>none) else none
noncomputable def lT(vl:Nat->Value):Rho:=⟨iI B ρ H L γ n,vl,own,kS B ρ H w wf L,frz0⟩
end
structure MvHyp(w0:World)(ρ:Rho)(H:T ABlk)(F:Nat->Option ABlk)(w wf wb:World)(L:Nat->Option (Nat×Nat))(γ:lS)(blk:List BSh)(y:Sy)(own:Nat->Prop)(frz0:Nat->Option (Array Value×TypeId)):Prop where
 good:Good w0 ρ H w
 hb:∀j x,blk[j]? =some x->∃b g,L j=some (b,g)/\∃q,H.get b=some q/\BT ρ F blk L y x q g
 dom:∀j p,L j=some p->j<blk.length
 linj:∀j j' b g g',L j=some (b,g)->L j'=some (b,g')->j=j'
 ginj:∀a b,a<blk.length->b<blk.length->(γ a).1=(γ b).1->a=b
 g64:∀j,j<blk.length->(γ j).1+1<2 ^ 64
 g0:∀j x,blk[j]? =some x->iU x=true->(γ j).2=0
 kept:Kept own wb.heap.size wb w
 owns:∀j h,sC w0.heap.size ρ H L j h->Own ρ w0.heap.size h.blk->wb.heap.size<=h.blk∨own h.blk
 frF:∀b x,base+64<=b->F b=some x->H.get b=some x/\(∀j g,L j≠some (b,g))/\∀g h,ρ.at_ b g=some h->Own ρ w0.heap.size h.blk->wf.heap.size<=h.blk
 frz:∀b x,kS w0.heap.size ρ H w wf L b=some x->b<wb.heap.size->frz0 b=some x
section
variable{w0:World}{ρ:Rho}{H:T ABlk}{F:Nat->Option ABlk}{w wf wb:World}{L:Nat->Option (Nat×Nat)}{γ:lS}{blk:List BSh}{y:Sy}{own:Nat->Prop}{frz0:Nat->Option (Array Value×TypeId)}
def kT{j:Nat}{h:Home}(hh:bz ρ H L j=some h):∃b g,L j=some (b,g)/\ρ.at_ b g=some h:=by
 unfold bz at hh;split at hh
 ·rename_i b g e;split at hh
  ·split at hh
   ·cases hh
   ·exact⟨b,g,e,hh⟩
  ·exact⟨b,g,e,hh⟩
 ·cases hh
def c_{B:Nat}{j:Nat}{h:Home}(hh:sC B ρ H L j h):∃b g g',L j=some (b,g)/\ρ.at_ b g'=some h:=by
 rcases hh with hh|⟨b,g,h1,_,⟨g',h2⟩,_⟩
 ·obtain⟨b,g,h1,h2⟩:=kT hh;exact⟨b,g,g,h1,h2⟩
 ·exact⟨b,g,g',h1,h2⟩
def ew{B:Nat}{j g':Nat}{h:Home}(hh:sD B ρ H L γ j g'=some h):sC B ρ H L j h/\((zA H L j/\∃b g,L j=some (b,g)/\ρ.at_ b g'=some h)∨(¬zA H L j/\g'=(γ j).2/\bz ρ H L j=some h)):=by
 unfold sD at hh;split at hh
 ·rename_i ho;split at hh
  ·rename_i b g e;split at hh
   ·rename_i h' e';split at hh
    ·rename_i i5;injection hh with hh;subst hh;exact⟨.inr ⟨b,g,e,ho,⟨g',e'⟩,i5⟩,.inl ⟨ho,b,g,e,e'⟩⟩
    ·cases hh
   ·cases hh
  ·cases hh
 ·rename_i ho;split at hh
  ·rename_i e;exact⟨.inl hh,.inr ⟨ho,e,hh⟩⟩
  ·cases hh
def UF(hm:MvHyp w0 ρ H F w wf wb L γ blk y own frz0){j g':Nat}(hj:j<blk.length):iI w0.heap.size ρ H L γ blk.length (γ j).1 g'=sD w0.heap.size ρ H L γ j g':=by
 unfold iI;have he:∃j',j'<blk.length/\(γ j').1=(γ j).1:=⟨j,hj,rfl⟩
 rw[dif_pos he];obtain⟨h1,h2⟩:=abt he;rw[hm.ginj _ _ h1 hj h2]
def ez(hm:MvHyp w0 ρ H F w wf wb L γ blk y own frz0){j:Nat}(hj:j<blk.length)(s8:¬zA H L j):iI w0.heap.size ρ H L γ blk.length (γ j).1 (γ j).2=bz ρ H L j:=by rw[UF hm hj];unfold sD;rw[if_neg s8,if_pos rfl]
def jE(hm:MvHyp w0 ρ H F w wf wb L γ blk y own frz0){j b g g':Nat}{h:Home}(hj:j<blk.length)(ho:zA H L j)(hL:L j=some (b,g))(hh:ρ.at_ b g'=some h)(i5:Own ρ w0.heap.size h.blk):iI w0.heap.size ρ H L γ blk.length (γ j).1 g'=some h:=by rw[UF hm hj];unfold sD;rw[if_pos ho];simp only [hL,hh,if_pos i5]
def eA{B:Nat}{b g:Nat}{h:Home}(hh:iI B ρ H L γ blk.length b g=some h):∃j,j<blk.length/\(γ j).1=b/\sD B ρ H L γ j g=some h:=by
 unfold iI at hh;split at hh
 ·rename_i he;obtain⟨h1,h2⟩:=abt he;exact⟨_,h1,h2,hh⟩
 ·cases hh
def eB{B:Nat}{b:Nat}{x:Array Value×TypeId}(h:ρ.frz b=some x):kS B ρ H w wf L b=some x:=by unfold kS;rw[h]
def AR(hm:MvHyp w0 ρ H F w wf wb L γ blk y own frz0){b g:Nat}{h:Home}{x:ABlk}{arr:Array Value}{ty:TypeId}{fr:Nat×Nat}(hh:ρ.at_ b g=some h)(hx:H.get b=some x)(hn:¬zK x)(hL:∀j g,L j≠some (b,g))(hb:wf.heap.size<=h.blk)(hw:w.heap[h.blk]? =some (.cells arr ty fr)):kS w0.heap.size ρ H w wf L h.blk=some (arr,ty):=by
 unfold kS
 cases hf:ρ.frz h.blk with
 |some x=>exact absurd rfl (hm.good.frzE (show ρ.frz h.blk=some (x.1,x.2) from hf) hh hx hn)
 |none=>
  have:wf.heap.size<=h.blk/\∀j h',sC w0.heap.size ρ H L j h'->h'.blk≠h.blk:=⟨hb,λj h' hj e=>by obtain⟨b',g',g2,e1,e2⟩:=c_ hj;have:=(hm.good.inj _ _ _ _ _ _ e2 hh e).1;subst this;exact hL _ _ e1⟩
  simp only [if_pos this,hw]
def AS{j:Nat}(h:jC blk j=true):(∃ty l,blk[j]? =some (.cells ty l))∨(∃k C t,blk[j]? =some (.obj k C t))∨(∃m ty t,blk[j]? =some (.arr m ty t))∨∃ty t,blk[j]? =some (.arb ty t):=by
 unfold jC at h;split at h
 ·exact .inl ⟨_,_,by assumption⟩
 ·exact .inr (.inl ⟨_,_,_,by assumption⟩)
 ·exact .inr (.inr (.inl ⟨_,_,_,by assumption⟩))
 ·exact .inr (.inr (.inr ⟨_,_,by assumption⟩))
 ·cases h
def Dv{j:Nat}(h:xD blk j=true):∃m t,blk[j]? =some (.sm m t):=by
 unfold xD at h;split at h
 ·exact⟨_,_,by assumption⟩
 ·cases h
def ur{j b g:Nat}{q:ABlk}(hL:L j=some (b,g))(hq:H.get b=some q)(hn:∀k I l,q≠ .obj k I l):¬zA H L j:=λ⟨b',g',k,I,l,e1,e2⟩=>by rw[hL] at e1;injection e1 with e1;injection e1 with e1 e1';subst e1;rw[hq] at e2;injection e2 with e2;exact hn _ _ _ e2
def RdC.vr{vl:Nat->Value}(hm:MvHyp w0 ρ H F w wf wb L γ blk y own frz0){ct:Ct}{a:AV}{v:Value}(h:RdC F ct a)(hv:VR ρ a v):VR (lT w0.heap.size ρ H w wf L γ blk.length own frz0 vl) (.cv ct) v:=by
 have hfm:∀b x,ρ.frz b=some x->(lT w0.heap.size ρ H w wf L γ blk.length own frz0 vl).frz b=some x:=λb x h=>eB h;rcases h with⟨e,h0⟩|e|⟨b,g,es,ty,e,hb,hF⟩|⟨b,g,o,cap,c,gen,lo,hi,fl,fh,ty,as,e,hb,hF,hg,h1,h2,hl,hr⟩|⟨b,g,e,hb,hF⟩
 ·subst e;cases hv;exact .cvnil _ h0
 ·subst e;exact dl hfm hv rfl
 ·subst e
  obtain⟨q1,q2,q3⟩:=hm.frF _ _ hb hF
  generalize hnn:ct.len=nn at hv
  cases hv with
  |gnil _ _ _=>exact .cvnil _ hnn
  |gempty _ _ _ a=>exact .cvempty _ a hnn
  |gsl _ _ _ _ h c hn hh hs hc hz=>
   subst hnn;rcases hm.good.blk _ _ q1 with h0|⟨h',r1,r2,r3,arr,fr,r4,r5,r6,r7,r8⟩
   ·omega
   rw[hh] at r1;injection r1 with r1;subst r1;refine .cv ct h.blk 0 c arr ty (AR hm hh q1 (λh=>h) q2 (q3 _ _ hh r3) r4) hc (by omega) λi j a v hi ha hv=>?_;obtain⟨u,u1,u2⟩:=r8 i hi j a ha;rw[aam,u1] at hv;injection hv with hv;subst hv;exact dl hfm u2 (mH ha)
 ·subst e
  obtain⟨q1,q2,q3⟩:=hm.frF _ _ hb hF
  cases hv with
  |slc _ _ _ _ _ _ ad cp hsl=>
   obtain⟨U',r1,r2,_,arr,fr,r3,r4,r5,r6⟩:=(hm.good.blk _ _ q1).2 g hg;obtain⟨hlc,ab4⟩:=hsl;have ah6:∃h,ρ.at_ b g=some h/\h.shift<=o/\ad=⟨h.blk,o-h.shift,none⟩:=by
    cases cap with
    |some k=>obtain⟨_,h,x1,x2,x3⟩:=ab4;exact⟨h,x1,x2,x3⟩
    |none=>
     rcases ab4 with ab4|⟨h,x1,x2,x3,_⟩
     ·omega
     ·exact⟨h,x1,x2,x3⟩
   obtain⟨h,x1,x2,x3⟩:=ah6;rw[x1] at r1;injection r1 with r1;subst r1;subst x3;obtain⟨l1,l2⟩:=rT hl;have i6:∀j,j<ct.len * ct.es->∃a u,as[j]? =some a/\arr[o-h.shift+j]? =some u/\VR ρ a u:=λj hj=>by have ha:as[j]? =some (as[j]'(by omega)):=aai (by omega);obtain⟨tag,t1,t2⟩:=l2 j _ ha;obtain⟨s1,u,s2,s3⟩:=r6 _ _ _ t1 (aaH t2 (aaa _));exact⟨_,u,ha,by rw[show o-h.shift+j=o+j-h.shift by omega];exact s2,s3⟩
   have ac8:o-h.shift+ct.len * ct.es<=arr.size:=by
    have l9:1<=ct.len * ct.es:=Nat.mul_pos h1 h2;obtain⟨a,u,_,hu,_⟩:=i6 (ct.len * ct.es-1) (by omega);rcases aaf (o-h.shift+(ct.len * ct.es-1)) arr.size with h'|h'
    ·omega
    ·rw[aaT h'] at hu;cases hu
   refine .cv ct h.blk (o-h.shift) cp arr ty (AR hm x1 q1 (λh=>h) q2 (q3 _ _ x1 (r2 rfl)) r3) hlc ac8 λi j a v hi ha hv=>?_;have hrl:=ct.row_len i;have hj:j<ct.es:=by
    rcases aaf j ct.es with h'|h'
    ·exact h'
    ·rw[aak (by omega)] at ha;cases ha
   have ae3:i * ct.es+ct.es<=ct.len * ct.es:=by rw[←aaN];exact aay _ hi
   have ad5:∀q a0,((as.drop (i * ct.es)).take ct.es)[q]? =some a0->∃u,arr[o-h.shift+(i * ct.es+q)]? =some u/\VR ρ a0 u:=λq a0 hq=>by
    rw[aa0] at hq;split at hq
    ·rw[aat] at hq;obtain⟨a1,u,e1,e2,e3⟩:=i6 (i * ct.es+q) (by omega);rw[hq] at e1;injection e1 with e1;subst e1;exact⟨u,e2,e3⟩
    ·cases hq
   obtain⟨u,u1,u2⟩:=nx (A:=λq=>arr[o-h.shift+(i * ct.es+q)]?) ad5 (λvs=>hr i hi ρ vs) j a ha;rw[abr] at hv;have u1:arr[o-h.shift+(i * ct.es+j)]? =some u:=u1;rw[u1] at hv;injection hv with hv;subst hv;exact dl hfm u2 (mH ha)
 ·subst e;obtain⟨q1,q2,q3⟩:=hm.frF _ _ hb hF;exact dl hfm (jv (hm.good.blk _ _ q1) hv) rfl
def ZL{vl:Nat->Value}(hm:MvHyp w0 ρ H F w wf wb L γ blk y own frz0){j b g n es:Nat}{v:Value}(hL:L j=some (b,g))(hq:∀q,H.get b=some q->∃c ty,q= .grow c g ty/\c.len=n)(hv:VR ρ (.gsl b g n es) v):
 VR (lT w0.heap.size ρ H w wf L γ blk.length own frz0 vl) (.gsl (γ j).1 (γ j).2 n es) v:=by
 have hj:=hm.dom _ _ hL
 cases hv with
 |gnil _ _ _=>exact .gnil _ _ _
 |gempty _ _ _ a=>exact .gempty _ _ _ a
 |gsl _ _ _ _ h c hn hh hs hc hz=>
  refine .gsl _ _ _ _ h c hn ?_ hs hc hz
  show iI w0.heap.size ρ H L γ blk.length (γ j).1 (γ j).2=some h
  have s8:¬zA H L j:=λ⟨b',g',k,I,l,e1,e2⟩=>by rw[hL] at e1;injection e1 with e1;injection e1 with e1 e1';subst e1;obtain⟨c,ty,e,_⟩:=hq _ e2;cases e
  rw[ez hm hj s8]
  unfold bz
  rw[hL]
  simp only
  split
  ·rename_i c' g' ty' e;obtain⟨c2,ty2,e2,e3⟩:=hq _ e;injection e2 with e2;subst e2;rw[if_neg (by omega)];exact hh
  ·exact hh
def ZM{vl:Nat->Value}(hm:MvHyp w0 ρ H F w wf wb L γ blk y own frz0){j b:Nat}{v:Value}(hL:L j=some (b,0))(hc:jC blk j=true)(hv:VR ρ (.ptr b 0 0) v):VR (lT w0.heap.size ρ H w wf L γ blk.length own frz0 vl) (.ptr (γ j).1 0 0) v:=by
 cases hv with
 |ptr _ _ _ h hh ho=>
  have hj:=hm.dom _ _ hL;refine .ptr _ _ _ h ?_ ho;show iI w0.heap.size ρ H L γ blk.length (γ j).1 0=_;rcases AS hc with⟨ty,l,hx⟩|⟨k,C,t,hx⟩|⟨m,ty,t,hx⟩|⟨ty,t,hx⟩
  ·obtain⟨b',g',q1,q,q2,q3⟩:=hm.hb j _ hx;rw[hL] at q1;injection q1 with q1;injection q1 with q1 q1';subst q1;subst q1';obtain⟨_,c,as,e,_⟩:=q3;have hJ:bz ρ H L j=some h:=by unfold bz;rw[hL];simp only [q2,e,hh]
   have:=ez hm hj (ur hL q2 (λk I l e'=>by rw[e] at e';cases e'));rw[hm.g0 j _ hx rfl] at this;rw[this];exact hJ
  ·obtain⟨b',g',q1,q,q2,q3⟩:=hm.hb j _ hx;rw[hL] at q1;injection q1 with q1;injection q1 with q1 q1';subst q1;subst q1';obtain⟨_,e⟩:=q3;subst e;obtain⟨_,h',fp,r1,r2,r3,_⟩:=hm.good.blk _ _ q2;rw[hh] at r1;injection r1 with r1;subst r1;exact jE hm hj ⟨_,_,_,_,_,hL,q2⟩ hL hh (r3 _ aan).1
  ·obtain⟨b',g',q1,q,q2,q3⟩:=hm.hb j _ hx;rw[hL] at q1;injection q1 with q1;injection q1 with q1 q1';subst q1;subst q1';obtain⟨_,e,l9⟩:=q3;have m8:¬(Ct.rows m (y.g t)).len=0:=by show ¬(y.g t).length=0;omega
   have hJ:bz ρ H L j=some h:=by unfold bz;rw[hL];simp only [q2,e];rw[if_neg m8];exact hh
   have:=ez hm hj (ur hL q2 (λk I l e'=>by rw[e] at e';cases e'));rw[hm.g0 j _ hx rfl] at this;rw[this];exact hJ
  ·obtain⟨b',g',q1,q,q2,q3⟩:=hm.hb j _ hx;rw[hL] at q1;injection q1 with q1;injection q1 with q1 q1';subst q1;subst q1';obtain⟨_,e,l9⟩:=q3;have m8:¬(Ct.bytes (y.s t)).len=0:=by show ¬(y.s t).length=0;omega
   have hJ:bz ρ H L j=some h:=by unfold bz;rw[hL];simp only [q2,e];rw[if_neg m8];exact hh
   have:=ez hm hj (ur hL q2 (λk I l e'=>by rw[e] at e';cases e'));rw[hm.g0 j _ hx rfl] at this;rw[this];exact hJ
def Tv.vr{vl:Nat->Value}(hm:MvHyp w0 ρ H F w wf wb L γ blk y own frz0){x:Sh}{a:AV}{v:Value}(h:Tv F blk L y x a)(hv:VR ρ a v):VR (lT w0.heap.size ρ H w wf L γ blk.length own frz0 vl) (put γ y x) v:=by
 cases x with
 |i k t=>have h:ce a=some (k,y.i t):=h;rw[bc hv h];exact .sI _ _
 |b t=>have h:dO a=some (y.p t):=h;obtain⟨b,e,hb⟩:=eP hv h;rw[e];exact .sB _ b hb
 |s t=>have h:gj a=some (y.s t):=h;obtain⟨s,e,hs⟩:=dB hv h;rw[e];show VR _ (.sS (y.s t)) _;rw[hs];exact .sS s
 |o=>exact .any1 v (jo hv h)
 |v m t=>exact RdC.vr hm h hv
 |vb t=>exact RdC.vr hm h hv
 |pi k n=>have h:ce a=some (k,n):=h;rw[bc hv h];exact .sI _ _
 |pb q=>obtain⟨q',h1,h2⟩:=h;obtain⟨b,e,hb⟩:=eP hv h1;rw[e];exact .sB _ b (hb.trans h2)
 |ps l=>have h:gj a=some l:=h;obtain⟨s,e,hs⟩:=dB hv h;rw[e];show VR _ (.sS l) _;rw[hs];exact .sS s
 |pv m l=>exact RdC.vr hm h hv
 |pvb l=>exact RdC.vr hm h hv
 |np=>have h:a= .nilp:=h;subst h;cases hv;exact .nilp
 |li k n=>have h:a= .int k n:=h;subst h;cases hv;exact .int _ _
 |nz=>have h:a= .nils:=h;subst h;cases hv;exact .nils
 |p j=>obtain⟨b,hL,e,hc⟩:=h;subst e;exact ZM hm hL hc hv
 |fn f j=>
  obtain⟨b,hL,e,hc⟩:=h
  subst e
  cases hv with
  |func _ _ _ first captured h1 h2 r1 r2 hf=>
   refine .func _ _ _ _ _ h1 (by simpa using h2) (λi a u ha hu=>by simp at ha) (λi a u ha hu=>?_) rfl
   match i,ha with
   |0,ha=>injection ha with ha;subst ha;exact ZM hm hL hc (r2 0 _ u rfl hu)
 |m j=>
  obtain⟨b,hL,e,hc⟩:=h
  subst e
  cases hv with
  |map _ h hh=>
   have hj:=hm.dom _ _ hL;refine .map _ h ?_;show iI w0.heap.size ρ H L γ blk.length (γ j).1 0=_;obtain⟨m,t,hx⟩:=Dv hc;obtain⟨b',g',q1,q,q2,q3⟩:=hm.hb j _ hx;rw[hL] at q1;injection q1 with q1;injection q1 with q1 q1';subst q1;subst q1';have hq:(∃m l,q= .smap m l)∨∃es c,q= .mapo es c:=by
    rcases q3.2 with e|⟨c,e,_⟩
    ·exact .inl ⟨_,_,e⟩
    ·exact .inr ⟨_,_,e⟩
   have hJ:bz ρ H L j=some h:=by unfold bz;rw[hL];rcases hq with⟨m,l,e⟩|⟨es,c,e⟩ <;> simp only [q2,e,hh]
   have:=ez hm hj (ur hL q2 (λk I l e'=>by rcases hq with⟨m,l,e⟩|⟨es,c,e⟩ <;> (rw[e] at e';cases e')));rw[hm.g0 j _ hx rfl] at this;rw[this];exact hJ
 |g j es t=>obtain⟨b,g,hL,e,m,ty,hx⟩:=h;subst e;show VR _ (.gsl (γ j).1 (γ j).2 (y.g t).length es) v;exact ZL hm hL (λq hq=>by obtain⟨b',g',q1,q',q2,q3⟩:=hm.hb j _ hx;rw[hL] at q1;injection q1 with q1;injection q1 with q1 q1';subst q1;subst q1';rw[hq] at q2;injection q2 with q2;subst q2;exact⟨_,_,q3,rfl⟩) hv
 |gb j t=>obtain⟨b,g,hL,e,ty,hx⟩:=h;subst e;show VR _ (.gsl (γ j).1 (γ j).2 (y.s t).length 1) v;exact ZL hm hL (λq hq=>by obtain⟨b',g',q1,q',q2,q3⟩:=hm.hb j _ hx;rw[hL] at q1;injection q1 with q1;injection q1 with q1 q1';subst q1;subst q1';rw[hq] at q2;injection q2 with q2;subst q2;exact⟨_,_,q3,rfl⟩) hv
def xF{ρ ρ':Rho}{α:Type}{R:α->AV->Prop}{f:α->AV}{fs:List α->List AV}(hf0:fs []= [])(hfs:∀x l,fs (x::l)=f x::fs l)(hR:∀x a v,R x a->VR ρ a v->VR ρ' (f x) v):
 ∀{l:List α} {as:List AV} {vs:List Value},cH R l as->LR ρ as vs->LR ρ' (fs l) vs
 | [],[],vs,_,h=>by rw[hf0,h.nil_inv];exact LR.nil _
 |x::l,a::as,vs,⟨h1,h2⟩,h=>by obtain⟨v,K',rfl,hv,h'⟩:=h.cons_inv;rw[hfs];exact LR.cons (hR x a v h1 hv) (xF hf0 hfs hR h2 h')
 | [],_::_,_,h,_=>h.elim
 |_::_,[],_,h,_=>h.elim
def Tvs.lr{vl:Nat->Value}(hm:MvHyp w0 ρ H F w wf wb L γ blk y own frz0){l:List Sh}{as:List AV}{vs:List Value}(h:cH (Tv F blk L y) l as)(hv:LR ρ as vs):LR (lT w0.heap.size ρ H w wf L γ blk.length own frz0 vl) (ki γ y l) vs:=
 xF rfl (λ_ _=>rfl) (λ_ _ _ h hv=>Tv.vr hm h hv) h hv
def vz{ρ ρ':Rho}{as bs:List AV}{bl off:Nat}{arr:Array Value}{ty:TypeId}(hf:ρ.frz bl=some (arr,ty))(hf':ρ'.frz bl=some (arr,ty))(hb:off+as.length<=arr.size)(r:∀(j:Nat) (a:AV) (v:Value),as[j]? =some a->arr[off+j]? =some v->VR ρ a v)(h:∀vs,LR ρ as vs->LR ρ' bs vs):VR ρ' (.cptr bs) (.pointer (some ⟨bl,off,none⟩)):=by
 have hl:LR ρ as ((arr.toList.drop off).take as.length):=by
  refine⟨by rw[aal,aao,aaJ (xs:=arr)];omega,λj a v ha hv=>r j a v ha ?_⟩;rw[aa0] at hv;split at hv
  ·rw[aat,aaW] at hv;exact hv
  ·cases hv
 obtain⟨e,hr⟩:=h _ hl
 rw[aal,aao,aaJ (xs:=arr)] at e
 refine .cptr bs bl off arr ty hf' (by omega) λj a v ha hv=>hr j a v ha ?_
 have hj:j<bs.length:=by
  rcases aaf j bs.length with h'|h'
  ·exact h'
  ·rw[aak h'] at ha;cases ha
 rw[aar (by omega),aat,aaW];exact hv
def TvA.vr{vl:Nat->Value}(hm:MvHyp w0 ρ H F w wf wb L γ blk y own frz0){x:Sa}{a:AV}{v:Value}(h:TvA F blk L y x a)(hv:VR ρ a v):VR (lT w0.heap.size ρ H w wf L γ blk.length own frz0 vl) (kR γ y x) v:=by
 cases x with
 |c x=>exact Tv.vr hm h hv
 |ag l=>
  obtain⟨as,e,ha⟩:=h
  subst e
  cases hv with
  |agg _ cs h1 h2=>obtain⟨q1,q2⟩:=(Tvs.lr hm ha (LR.of_arr h1 h2)).arr;exact .agg _ cs q1 q2
 |cp l=>
  obtain⟨as,e,ha⟩:=h
  subst e
  cases hv with
  |cptr _ bl off arr ty hf hb r=>exact vz hf (eB hf) hb r λvs hl=>Tvs.lr hm ha hl
def TvAs.lr{vl:Nat->Value}(hm:MvHyp w0 ρ H F w wf wb L γ blk y own frz0){l:List Sa}{as:List AV}{vs:List Value}(h:cH (TvA F blk L y) l as)(hv:LR ρ as vs):LR (lT w0.heap.size ρ H w wf L γ blk.length own frz0 vl) (nJ γ y l) vs:=
 xF rfl (λ_ _=>rfl) (λ_ _ _ h hv=>TvA.vr hm h hv) h hv
def TvR.vr{vl:Nat->Value}(hm:MvHyp w0 ρ H F w wf wb L γ blk y own frz0){x:Sr}{a:AV}{v:Value}(h:TvR F blk L y x a)(hv:VR ρ a v):VR (lT w0.heap.size ρ H w wf L γ blk.length own frz0 vl) (Dr γ y x) v:=by
 cases x with
 |one x=>exact TvA.vr hm h hv
 |tu l=>
  obtain⟨as,e,ha⟩:=h
  subst e
  cases hv with
  |tup _ cs h1 h2=>obtain⟨q1,q2⟩:=(TvAs.lr hm ha (LR.of_arr h1 h2)).arr;exact .tup _ cs q1 q2
def L_{j:Nat}{x:BSh}(hg:iU x=true->(γ j).2=0):Kw (γ j).2 (mF γ y j x):=by
 cases x with
 |cells ty l=>show(γ j).2<=0;rw[hg rfl];exact aaa _
 |grow m ty t=>exact aaa _
 |growb ty t=>exact aaa _
 |sm m t=>trivial
 |arr m ty t=>show(γ j).2<=0;rw[hg rfl];exact aaa _
 |arb ty t=>show(γ j).2<=0;rw[hg rfl];exact aaa _
 |obj k C t=>trivial
def I6:∀(ks:List IntKind) (g:G) (j:Nat),∀a∈mq ks g j,hl a=true:=by
 intro ks
 induction ks with
 |nil=>intro g j a h;cases h
 |cons k ks ih=>
  intro g j a h;rcases List.mem_cons.1 h with h|h
  ·subst h;rfl
  ·exact ih _ _ _ h
def Ma{ρ ρ':Rho}(hf:∀b x,ρ.frz b=some x->ρ'.frz b=some x){b:Bool}{l:List AV}(E':∀a∈l,hl a=true){v:Value}(h:VR ρ (V5 b l) v):VR ρ' (V5 b l) v:=by
 cases b with
 |true=>
  cases h with
  |agg _ cs h1 h2=>exact .agg _ cs h1 λi a v ha hv=>dl hf (h2 i a v ha hv) (E' a (abf ha))
 |false=>
  cases l with
  |nil=>exact dl hf h rfl
  |cons a l=>exact dl hf h (E' a aan)
def I7:∀(xs:List Sc) (g:G) (q:Nat),∀a∈bB xs g q,hl a=true:=by
 intro xs
 induction xs with
 |nil=>intro g q a h;cases h
 |cons x xs ihx=>
  intro g q a h;rcases List.mem_append.1 h with h|h
  ·cases x <;> simp [fP] at h;case h n=>exact pq _ _ _ a h
   all_goals (subst h;rfl)
  ·exact ihx _ _ a h
def MvHyp.to0{vl:Nat->Value}(hm:MvHyp w0 ρ H F w wf wb L γ blk y own frz0):Good0 wb (lT w0.heap.size ρ H w wf L γ blk.length own frz0 vl) (eS γ y blk 0 .leaf) w:=by
 have hfm:∀b x,ρ.frz b=some x->(lT w0.heap.size ρ H w wf L γ blk.length own frz0 vl).frz b=some x:=λb x h=>eB h;have P':∀j x,blk[j]? =some x->(eS γ y blk 0 .leaf).get (γ j).1=some (mF γ y j x):=λj x hx=>by have:=sA (γ:=γ) (y:=y) blk 0 .leaf j x hx (λi hi=>by rw[aam];exact hm.g64 i hi) (λa b ha hb e=>hm.ginj a b ha hb (by simpa using e));simpa using this
 refine⟨hm.kept,λb X hX=>?_,λb' g' h hh=>?_,λb1 g1 h1 b2 g2 h2 q1 q2 e=>?_,λb' g' h X hh hX=>?_,λb arr ty hf=>?_,λb x hf c8=>?_,λb k I l hX g h hh=>?_⟩
 ·rcases sz blk 0 .leaf b X hX with⟨j,x,hx,e1,e2⟩|⟨h,_⟩
  case inr=>simp [T.get] at h
  rw[aam] at e1 e2
  subst e1;subst e2
  have hj:j<blk.length:=by
   rcases aaf j blk.length with h'|h'
   ·exact h'
   ·rw[aak h'] at hx;cases hx
  obtain⟨b,g,hL,q,hq,V'⟩:=hm.hb j x hx
  have af7:∀h,bz ρ H L j=some h->Own ρ w0.heap.size h.blk->Own (lT w0.heap.size ρ H w wf L γ blk.length own frz0 vl) wb.heap.size h.blk:=λh h1 h2=>hm.owns j h (.inl h1) h2
  cases x with
  |cells ty l=>
   obtain⟨eg,c,as,eq,hlen,i6,ad6⟩:=V';subst eg;subst eq;have q9:=ez hm hj (ur hL hq (λ_ _ _ e=>by cases e));obtain⟨U',r1,r2,_,arr,fr,r3,r4,r5,r6⟩:=(hm.good.blk _ _ hq).2 0 (aaa _);have hJ:bz ρ H L j=some U':=by unfold bz;rw[hL];simp only [hq,r1]
   have hz:=hm.g0 j _ hx rfl;refine⟨λo x ho=>?_,λg hg=>?_⟩
   ·rcases vy _ _ _ _ _ ho with⟨i,a,e,ha,ex⟩|⟨h,_⟩
    ·have:i<l.length:=by
      rcases aaf i l.length with h'|h'
      ·exact h'
      ·rw[aak (by rw[L9];exact h')] at ha;cases ha
     subst ex;exact⟨aap _,by omega,aaa _⟩
    ·simp [T.get] at h
   ·have:g=0:=by omega
    subst this;refine⟨U', ?_,λ_=>af7 U' hJ (r2 rfl),(λh=>by cases h),arr,fr,r3,r4,r5,λo tag a ho _=>?_⟩
    ·rw[hz] at q9;show iI w0.heap.size ρ H L γ blk.length (γ j).1 0=_;rw[q9];exact hJ
    ·rcases vy _ _ _ _ _ ho with⟨i,a',e,ha,ex⟩|⟨h,_⟩
     ·injection ex with ex1 ex2
      subst ex1;subst ex2
      rw[L8] at ha
      have e:o=i:=by omega
      subst e
      cases hli:l[o]? with
      |none=>rw[hli] at ha;cases ha
      |some xs=>
       rw[hli] at ha;injection ha with ha;subst ha;have ao9:∀{l:List Sh} {as:List AV},cH (Tv F blk L y) l as->∀(i:Nat) (xs:Sh),l[i]? =some xs->∃a,as[i]? =some a/\Tv F blk L y xs a:=by
        intro l
        induction l with
        |nil=>intro as _ i xs h;simp at h
        |cons x l ih=>
         intro as h i xs hi
         cases as with
         |nil=>exact h.elim
         |cons a as=>cases i with
          |zero=>simp at hi;subst hi;exact⟨a,rfl,h.1⟩
          |succ i=>simp at hi;obtain⟨b,h1,h2⟩:=ih h.2 i xs hi;exact⟨b,by simpa using h1,h2⟩
       obtain⟨a1,ha1,ht⟩:=ao9 ad6 o xs hli;obtain⟨a0,hc0,hwk⟩:=i6 o a1 ha1;obtain⟨s1,u,s2,s3⟩:=r6 o 0 a0 hc0 (aaa _);exact⟨s1,u,s2,Tv.vr hm ht (hwk _ s3)⟩
     ·simp [T.get] at h
  |grow m ty t=>
   have V':q= .grow (.rows m (y.g t)) g ty:=V';subst V';have q9:=ez hm hj (ur hL hq (λ_ _ _ e=>by cases e));rcases aaS (Ct.rows m (y.g t)).len with h0|l9
   ·exact .inl h0
   ·rcases hm.good.blk _ _ hq with h0|⟨U',r1,r2,r3,arr,fr,r4,r5,r6,r7,r8⟩
    ·omega
    have hJ:bz ρ H L j=some U':=by unfold bz;rw[hL];simp only [hq];rw[if_neg (by omega)];exact r1
    refine .inr ⟨U', ?_,r2,af7 U' hJ r3,arr,fr,r4,r5,r6,r7,λi hi j' a ha=>?_⟩
    ·show iI w0.heap.size ρ H L γ blk.length (γ j).1 (γ j).2=_;rw[q9];exact hJ
    ·obtain⟨u,u1,u2⟩:=r8 i hi j' a ha;exact⟨u,u1,dl hfm u2 (mH ha)⟩
  |growb ty t=>
   have V':q= .grow (.bytes (y.s t)) g ty:=V';subst V';have q9:=ez hm hj (ur hL hq (λ_ _ _ e=>by cases e));rcases aaS (Ct.bytes (y.s t)).len with h0|l9
   ·exact .inl h0
   ·rcases hm.good.blk _ _ hq with h0|⟨U',r1,r2,r3,arr,fr,r4,r5,r6,r7,r8⟩
    ·omega
    have hJ:bz ρ H L j=some U':=by unfold bz;rw[hL];simp only [hq];rw[if_neg (by omega)];exact r1
    refine .inr ⟨U', ?_,r2,af7 U' hJ r3,arr,fr,r4,r5,r6,r7,λi hi j' a ha=>?_⟩
    ·show iI w0.heap.size ρ H L γ blk.length (γ j).1 (γ j).2=_;rw[q9];exact hJ
    ·obtain⟨u,u1,u2⟩:=r8 i hi j' a ha;exact⟨u,u1,dl hfm u2 (mH ha)⟩
  |arr m ty t=>
   obtain⟨eg,e,l9⟩:=V';subst eg;subst e;have hz:=hm.g0 j _ hx rfl;have q9:=ez hm hj (ur hL hq (λ_ _ _ e=>by cases e));rw[hz] at q9;have m8:¬(Ct.rows m (y.g t)).len=0:=by show ¬(y.g t).length=0;omega
   rcases hm.good.blk _ _ hq with h0|⟨U',r1,r2,r3,arr,fr,r4,r5,r6,r7,r8⟩
   ·exact absurd h0 m8
   have hJ:bz ρ H L j=some U':=by unfold bz;rw[hL];simp only [hq];rw[if_neg m8];exact r1
   refine .inr ⟨U',q9.trans hJ,r2,af7 U' hJ r3,arr,fr,r4,r5,r6,r7,λi hi j' a ha=>?_⟩;obtain⟨u,u1,u2⟩:=r8 i hi j' a ha;exact⟨u,u1,dl hfm u2 (mH ha)⟩
  |arb ty t=>
   obtain⟨eg,e,l9⟩:=V';subst eg;subst e;have hz:=hm.g0 j _ hx rfl;have q9:=ez hm hj (ur hL hq (λ_ _ _ e=>by cases e));rw[hz] at q9;have m8:¬(Ct.bytes (y.s t)).len=0:=by show ¬(y.s t).length=0;omega
   rcases hm.good.blk _ _ hq with h0|⟨U',r1,r2,r3,arr,fr,r4,r5,r6,r7,r8⟩
   ·exact absurd h0 m8
   have hJ:bz ρ H L j=some U':=by unfold bz;rw[hL];simp only [hq];rw[if_neg m8];exact r1
   refine .inr ⟨U',q9.trans hJ,r2,af7 U' hJ r3,arr,fr,r4,r5,r6,r7,λi hi j' a ha=>?_⟩;obtain⟨u,u1,u2⟩:=r8 i hi j' a ha;exact⟨u,u1,dl hfm u2 (mH ha)⟩
  |sm m t=>
   obtain⟨eg,hq2⟩:=V';subst eg;have hz:=hm.g0 j _ hx rfl;have s8:¬zA H L j:=ur hL hq (λ_ _ _ e=>by rcases hq2 with h|⟨_,h,_⟩ <;> (rw[h] at e;cases e));have q9:=ez hm hj s8;rw[hz] at q9;rcases hq2 with e|⟨c,e,e0⟩
   ·subst e;obtain⟨U',r1,r2,es,clock,r3,r4,r5⟩:=hm.good.blk _ _ hq;have hJ:bz ρ H L j=some U':=by unfold bz;rw[hL];simp only [hq,r1]
    refine⟨U',q9.trans hJ,af7 U' hJ r2,es,clock,r3,r4,λi g e hi he=>?_⟩;obtain⟨s1,s2⟩:=r5 i g e hi he;exact⟨Ma hfm (I6 _ _ _) s1,Ma hfm (I7 _ _ _) s2⟩
   ·subst e;obtain⟨U',r1,r2,es,r3,r4,r5⟩:=hm.good.blk _ _ hq;have hJ:bz ρ H L j=some U':=by unfold bz;rw[hL];simp only [hq,r1]
    refine⟨U',q9.trans hJ,af7 U' hJ r2,es,c,r3,by rw[e0];exact r4,λi g e hi he=>?_⟩;rw[e0] at hi;simp at hi
  |obj k C t=>
   obtain⟨eg,e⟩:=V';subst eg;subst e;have hz:=hm.g0 j _ hx rfl;have hO:zA H L j:=⟨_,_,_,_,_,hL,hq⟩
   obtain⟨ae5,U',fp,r1,r2,r3,r4⟩:=hm.good.blk _ _ hq;refine⟨ae5,U',fp,jE hm hj hO hL r1 (r3 _ aan).1,r2,λx hx=>?_,r4⟩;obtain⟨s1,g,hx',s2,s3⟩:=r3 x hx;subst s3;exact⟨hm.owns j hx' (.inr ⟨_,_,hL,hO,⟨g,s2⟩,s1⟩) s1,g,hx',jE hm hj hO hL s2 s1,rfl⟩
 ·obtain⟨j,hj,e1,hG⟩:=eA hh;obtain⟨b,g,g2,_,q9⟩:=c_ (ew hG).1;refine⟨(hm.good.dom _ _ _ q9).1,mF γ y j blk[j], ?_⟩;rw[←e1];exact P' j blk[j] (aai hj)
 ·obtain⟨j1,hj1,e1,b9⟩:=eA q1;obtain⟨j2,hj2,e3,l8⟩:=eA q2;obtain⟨b1',g1',_,hL1,ab2⟩:=c_ (ew b9).1;obtain⟨b2',g2',_,hL2,ar1⟩:=c_ (ew l8).1;obtain⟨r1,r2⟩:=hm.good.inj _ _ _ _ _ _ ab2 ar1 e;subst r1;have:=hm.linj _ _ _ _ _ hL1 hL2;subst this;exact⟨by rw[←e1, ←e3],r2⟩
 ·obtain⟨j,hj,e1,hG⟩:=eA hh;have hxj:=aai hj;have:=P' j blk[j] hxj;rw[e1,hX] at this;injection this with this;subst this;rcases(ew hG).2 with⟨⟨b0,g0,k,I,l,hL,hq⟩,_⟩|⟨_,e2,_⟩
  ·obtain⟨b1,g1,hL1,q,M',V'⟩:=hm.hb j _ hxj
   rw[hL] at hL1;injection hL1 with hL1;injection hL1 with e3 e4
   subst e3
   rw[hq] at M';injection M' with M'
   generalize blk[j]=x at V'
   cases x with
   |cells ty l=>obtain⟨_,c,as,e,_⟩:=V';rw[←M'] at e;cases e
   |grow m ty t=>have V':q=_:=V';rw[←M'] at V';cases V'
   |growb ty t=>have V':q=_:=V';rw[←M'] at V';cases V'
   |sm m t=>obtain⟨_,e|⟨c,e,_⟩⟩:=V' <;> (rw[←M'] at e;cases e)
   |arr m ty t=>obtain⟨_,e,_⟩:=V';rw[←M'] at e;cases e
   |arb ty t=>obtain⟨_,e,_⟩:=V';rw[←M'] at e;cases e
   |obj k C t=>trivial
  ·rw[e2];exact L_ λe=>hm.g0 j _ hxj e
 ·have hf:kS w0.heap.size ρ H w wf L b=some (arr,ty):=hf;unfold kS at hf;split at hf
  ·rename_i x hx
   injection hf with hf
   subst hf
   refine⟨(hm.good.frz _ _ _ hx).1,λb' g' h hh e=>?_⟩
   obtain⟨j,hj,e1,hG⟩:=eA hh
   obtain⟨b2,g2,g3,hL,q9⟩:=c_ (ew hG).1
   obtain⟨b1,g1,hL1,q,M',V'⟩:=hm.hb j _ (aai hj)
   rw[hL] at hL1;injection hL1 with hL1;injection hL1 with e3 e4
   subst e3
   refine absurd e (hm.good.frzE hx q9 M' ?_)
   generalize blk[j]=x at V'
   cases x with
   |cells ty l=>obtain⟨_,c,as,e,_⟩:=V';rw[e];exact λh=>h
   |grow m ty t=>have V':q=_:=V';rw[V'];exact λh=>h
   |growb ty t=>have V':q=_:=V';rw[V'];exact λh=>h
   |sm m t=>obtain⟨_,e|⟨c,e,_⟩⟩:=V' <;> (rw[e];exact λh=>h)
   |arr m ty t=>obtain⟨_,e,_⟩:=V';rw[e];exact λh=>h
   |arb ty t=>obtain⟨_,e,_⟩:=V';rw[e];exact λh=>h
   |obj k C t=>obtain⟨_,e⟩:=V';rw[e];exact λh=>h
  ·split at hf
   ·rename_i hc;split at hf
    ·rename_i u0 ty' fr' hw;injection hf with hf;injection hf with e1 e2;subst e1;subst e2;refine⟨⟨fr',hw⟩,λb' g' h hh e=>?_⟩;obtain⟨j,hj,e1,hG⟩:=eA hh;exact absurd e (hc.2 j h (ew hG).1)
    ·cases hf
   ·cases hf
 ·exact hm.frz b x hf c8
 ·obtain⟨j,hj,e1,hG⟩:=eA hh;have hxj:=aai hj;have hp:=P' j blk[j] hxj;rw[e1,hX] at hp;injection hp with hp;obtain⟨b0,g0,hL,q,hq,V'⟩:=hm.hb j _ hxj;have hO:zA H L j:=by
   generalize blk[j]=x at V' hp
   cases x with
   |obj k C t=>obtain⟨_,e⟩:=V';subst e;exact⟨_,_,_,_,_,hL,hq⟩
   |_=>cases hp
  rcases ew hG with⟨hA,hc⟩
  rcases hc with⟨_,b2,g2,hL2,q9⟩|⟨hn,_⟩
  ·rw[hL] at hL2;injection hL2 with hL2;injection hL2 with e3 e4;subst e3;obtain⟨_,_,k0,I0,l0,e5,e6⟩:=hO;rw[hL] at e5;injection e5 with e5;injection e5 with e5 _;subst e5;exact⟨hm.owns j h hA (hm.good.objO _ _ _ _ e6 _ _ q9).1,(hm.good.objO _ _ _ _ e6 _ _ q9).2⟩
  ·exact absurd hO hn
end
end Go.Sym
