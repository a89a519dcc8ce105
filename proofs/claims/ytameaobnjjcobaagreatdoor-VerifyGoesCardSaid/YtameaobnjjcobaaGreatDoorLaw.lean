/- VerifyGoes: for every list of lists of values and three sizes the law returns true, and its arguments read as before. No condition but the row's own. Names and spaces are cut short by program. -/
import Derived.Test.YtameaobnjjcobaaGreatDoorRows
import Derived.Test.YtameaobnjjcobaaGreatDoorTie
import Derived.Test.YtameaobnjjcobaaGreatDoorCards
import Derived.ProofKit
import Derived.Below
import Derived.ChangeSame
import Derived.ChangeArms
import Derived.ChangeMaps5
import Derived.HandedShaped
import Derived.LaidMore
import Derived.LaidSub
import Derived.Lay
import Derived.OpenShut
import Derived.Carry
import Derived.Stop.Joined
import Derived.SevenTiedAt
import Derived.Test.YtameaobnjjcobaaGreatDoorProg
import Derived.KernelRfl
import Derived.Test.YtameaobnjjcobaaGreatDoorP10
import Derived.Test.YtameaobnjjcobaaGreatDoorP11
set_option linter.all false
namespace Go.Proofs.YtameaobnjjcobaaGreatDoor
set_option maxRecDepth 100000 in
theorem XZ:joinedFacts Tryz.prog 3 Tryz.f3 Rows.verifyGoesSpec Rows.verifyGoesRow=true:=by unfold joinedFacts;exact(dO (dO (dO (dO (dO (dO (dO (dO (dO (dO (dO (dO (dO (dO (dO (dO (dO (dO (dO (dO (dO (dO (dO (dO (dO (dO (dO (dO (dO (dO (dO fact0 fact1) fact2) fact3) fact4) fact5) fact6) fact7) fact8) fact9) XC) XD) XE) XF) XG) XH) XI) XJ) XL) XM) XN) XO) XP) XQ) XR) XS) XT) XU) XV) XW) XX) XY)
open Go.ChangeShapes Go.WideShapes Go.ChangeAt Go.RowKit Go.Sym
section
variable{H:Type}{enc:TypeId×Value->H}{P:Program}
def ua{f:Func}{s:ChangeSpec}{apart fresh handsOn uM:Bool}{W W':World}{args:Array Value}{v:Value}{ds gs:List (DataW H)}{before pa pv:List MemPlace}(hW:DataW.Whole enc P f.params.toList s.vars apart W args.toList ds gs before)(ah_:∀(b:Nat) (sp:Nat->Bool) (hd:Bool),DataW.TrodAll enc P W' b sp hd f.resultTypes.toList (v.resultList f.resultTypes.size) (s.fn H (ds++gs)).results [])(g8:∀sp:Nat->Bool,(∀p∈before,sp p.block=true)->DataW.TrodAll enc P W' 0 sp true f.params.toList args.toList (s.fn H (ds++gs)).args pa)(aj8:∀sp:Nat->Bool,(∀p∈before,sp p.block=true)->DataW.TrodVars enc P W' sp s.vars (s.fn H (ds++gs)).vars pv)(tV:before=pa++pv)(hb:Below W.heap.size W W')(hok:∀(j:Nat) (t:TypeId) (r:Value),f.resultTypes[j]? =some t->(v.resultList f.resultTypes.size)[j]? =some r->Value.okWide P W' .any 0 t r):
 s.post enc P f apart fresh handsOn uM W args v W':=by
 have c8:∀p∈before,p.block<W.heap.size:=λp hp=>hW.lt p hp
 have hold:∀p∈before,(λb=>decide (b<W.heap.size)) p.block=true:=λp hp=>by simpa using c8 p hp
 refine⟨ds,gs,before,[],pa,pv,hW,ah_ _ _ _,g8 _ hold,aj8 _ hold,World.keptBut_mono (λp hp=>⟨hp, ?_⟩) (hb.frame (· ∈before)),λ_=>?_⟩
 ·rw[tV,List.mem_append] at hp;exact Or.inr hp
 ·obtain⟨_,_,_,_,_,hz,hn⟩:=hW;refine⟨hok,_,_,([]++pa)++pv,⟨[]++pa,pv,trodAll_append (g8 _ (λ_ _=>rfl)) (ah_ _ _ _),aj8 _ (λ_ _=>rfl),rfl, ?_, ?_⟩, ?_⟩
  ·intro b off hp;have J':MemPlace.cell b off∈before:=by rw[tV];simpa using hp
   rw[hb.frozen (c8 _ J')];exact hz b off J'
  ·intro ha;have:=hn ha;rw[tV] at this;simpa using this
  ·intro p hp _;rw[tV];simpa using hp
end
def BE{P:Program}{w:World}:∀{l:List (String×DataW Unit)} {ps:List MemPlace},DataW.LaidVars P w l ps->∀n d,(n,d)∈l->
 ∃g t cs fuel p,P.globalNamed n=some g/\(P.globals[g]?).map (·.type)=some t/\w.var? P n=some cs/\DataW.trod (λ_=>()) P w 0 (λ_=>true) false fuel t cs.toList=some (d,p)
 | [],_,_,_,_,hm=>by cases hm
 |(n,d)::r,ps,⟨g,t,cs,fuel,p,q,h1,h2,h3,h4,hr,_⟩,n',d',hm=>by
  rcases List.mem_cons.1 hm with e|hm
  ·cases e;exact⟨g,t,cs,fuel,p,h1,h2,h3,h4⟩
  ·exact BE hr n' d' hm
def PF{P:Program}{w:World}{n:String}{g:Nat}{cs:Array Value}(hg:P.globalNamed n=some g)(h:w.var? P n=some cs):∃t fr,w.heap[g]? =some (.cells cs t fr):=by
 simp only [World.var?,hg,Option.bind_some] at h;split at h
 ·rename_i c t fr e;injection h with h;subst h;exact⟨t,fr,e⟩
 ·cases h
def dq:List (String×DataW Unit):=Rows.verifyGoesRow.laid
set_option maxRecDepth 100000 in
theorem Tf:(Rows.laid_math_bits_deBruijn64tab:DataW Unit)= .agg (fK.map λn=>.lit (.int .u8 (n:Nat))):=by with_unfolding_all rfl
def DO:(dq.filter λx=>x.2.handleName?.isSome)= []:=by kernel_rfl
def PG{W:World}(h:laidMetH Tryz.prog dq W)(n:String)(d:DataW Unit)(hm:(n,d)∈dq):
 ∃g t cs fuel p,Tryz.prog.globalNamed n=some g/\(Tryz.prog.globals[g]?).map (·.type)=some t/\W.var? Tryz.prog n=some cs/\DataW.trod (λ_=>()) Tryz.prog W 0 (λ_=>true) false fuel t cs.toList=some (d,p):=by
 unfold laidMetH at h
 rw[DO] at h
 obtain⟨ps,hl,_⟩:=h
 exact BE hl n d hm
def X1{H:Type}{enc:TypeId×Value->H}{P:Program}{w:World}{base:Nat}{sp:Nat->Bool}{held:Bool}{fuel:Nat}{t e n:Nat}{cs:List Value}{l:List Nat}{p:List MemPlace}(ht:P.underlying t=some (.array n e))(he:P.underlying e=some (.int .u8))(hc:P.cellsOf e=1)(hl:l.length=n)(h:DataW.trod enc P w base sp held fuel t cs=some (.agg (l.map λn=>.lit (.int .u8 (n:Nat))),p)):cs.length=P.cellsOf t/\∀(i m:Nat),l[i]? =some m->cs[i]? =some (.int .u8 (m:Nat)):=by
 obtain⟨xs,k,_,hx,hlen,hxl,hel⟩:=DataW.trod_array ht h
 simp only [Prod.mk.injEq,DataW.agg.injEq] at hx
 refine⟨hlen,λi m hi=>?_⟩
 have J':i<n:=by rw[←hl];exact(List.getElem?_eq_some_iff.1 hi).1
 have e1:(xs.map (·.1))[i]? =some (.lit (.int .u8 (m:Nat))):=by rw[←hx.1,aaW,hi];rfl
 rw[aaW,Option.map_eq_some_iff] at e1
 obtain⟨y,hy,hy1⟩:=e1
 have e2:=hel i J'
 rw[hy,hc,aaU] at e2
 obtain⟨q,hk,hyk,_⟩:=DataW.trod_int he e2
 rw[hyk] at hy1
 simp only [DataW.lit.injEq,Lit.int.injEq,true_and] at hy1
 subst hy1
 have e3:((cs.drop i).take 1)[0]? =some (.int .u8 (m:Nat)):=by rw[hk];rfl
 rw[aaF (by decide),aaH] at e3
 simpa using e3
def hY:Tryz.prog.cellsOf 373=64:=by kernel_rfl
def Tg:Tryz.prog.cellsOf 5=1:=by kernel_rfl
def Th:("math/bits.deBruijn64tab",(Rows.laid_math_bits_deBruijn64tab:DataW Unit))∈dq:=abs (i:=1) (by kernel_rfl)
def PH{W:World}(h:laidMetH Tryz.prog dq W):∃cs fuel p,W.var? Tryz.prog "math/bits.deBruijn64tab" =some cs/\DataW.trod (λ_=>()) Tryz.prog W 0 (λ_=>true) false fuel 373 cs.toList=some ((Rows.laid_math_bits_deBruijn64tab:DataW Unit),p):=by obtain⟨g,t,cs,fuel,p,hg,ht,hv,hd⟩:=PG h _ _ Th;obtain rfl:=Option.some.inj ((show Tryz.prog.globalNamed "math/bits.deBruijn64tab" =some 2 by kernel_rfl).symm.trans hg);obtain rfl:=Option.some.inj ((show(Tryz.prog.globals[2]?).map (·.type)=some 373 by kernel_rfl).symm.trans ht);exact⟨cs,fuel,p,hv,hd⟩
def yi:fK.length=64:=by kernel_rfl
def Jt{W:World}(h:laidMetH Tryz.prog dq W):∃cs fuel p,W.var? Tryz.prog "math/bits.deBruijn64tab" =some cs/\DataW.trod (λ_=>()) Tryz.prog W 0 (λ_=>true) false fuel 373 cs.toList=some ((.agg (fK.map λn=>.lit (.int .u8 (n:Nat))):DataW Unit),p):=by
 have:=PH h
 rwa [Tf] at this
def Ju{W:World}(h:laidMetH Tryz.prog dq W):∃cs t fr,W.heap[2]? =some (.cells cs t fr)/\cs.size=64/\∀(i n:Nat),fK[i]? =some n->cs[i]? =some (.int .u8 (n:Nat)):=by obtain⟨cs,fuel,p,hv,hd⟩:=Jt h;obtain⟨bt,fr,hh⟩:=PF (show Tryz.prog.globalNamed "math/bits.deBruijn64tab" =some 2 by kernel_rfl) hv;obtain⟨hlen,ac9⟩:=X1 Tryz.underlying373 Tryz.underlying5 Tg yi hd;rw[hY] at hlen;exact⟨cs,bt,fr,hh,by rw[←hlen,aaY],λi n hi=>by rw[←aa9];exact ac9 i n hi⟩
def Ti:(((begin Tryz.prog (λ_ _=>0) default).world.heap[2]?).bind Obj.row?)=some (Array.replicate 64 (.int .u8 0),373):=by kernel_rfl
def PI:2<Tryz.prog.globals.size:=of_decide_eq_true (by kernel_rfl)
def Jv{W:World}(h:laidMetH Tryz.prog dq W)(hs:W.ShapedOpen Tryz.prog):Go.Sym.Good W (mo W) (addTab kJ (.leaf:T ABlk)) W:=by
 obtain⟨cs,t,fr,h1,h2,h3⟩:=Ju h;obtain⟨cs',e1,_,_⟩:=hs.1 _ _ _ PI Ti;rw[h1] at e1;injection e1 with e1;injection e1 with e1 e2 e3;subst e2;have ea:cs=(fK.map λn=>Value.int .u8 (Int.ofNat n)).toArray:=by
  refine Array.ext (by rw[h2,List.size_toArray,aaZ,yi]) λi hi _=>?_;have hi':i<fK.length:=by rw[yi];omega
  have:=h3 i fK[i] (aaw hi');rw[aa0 hi] at this;injection this with this;rw[this];simp only [List.getElem_toArray,abT];rfl
 refine YW W (λb x hx=>?_) λb k I l hx=>?_
 ·by_cases hb:b=2
  ·subst hb;rw[show(addTab kJ (.leaf:T ABlk)).get 2=some (.tab 373 fK) from T.get_set_same _ _ _ (by decide)] at hx;injection hx with hx;subst hx;refine⟨by decide, ?_⟩;rw[←ea];exact zZ h1
  ·rw[show(addTab kJ (.leaf:T ABlk)).get b=(T.leaf:T ABlk).get b from T.get_set_ne _ hb _] at hx;simp [T.get] at hx
 ·by_cases hb:b=2
  ·subst hb;rw[show(addTab kJ (.leaf:T ABlk)).get 2=some (.tab 373 fK) from T.get_set_same _ _ _ (by decide)] at hx;cases hx
  ·rw[show(addTab kJ (.leaf:T ABlk)).get b=(T.leaf:T ABlk).get b from T.get_set_ne _ hb _] at hx;simp [T.get] at hx
def Tj{P:Program}{f:Nat}{S:FSpec}{zf:Zf S}(h:kB P f S zf){z:Sy}(hz:S.pre z)(hr:S.res z= .one (.c (.b 50)))(ho:S.out z= [])(hbk:S.blk= [])(hp:∀y,S.post z y->y.p 50){w:World}{ρ:Rho}{vs:List Value}(hG:Go.Sym.Good w ρ (S.heap z) w)(hl:LR ρ (S.argsA z) vs)(d4:∀x,¬ρ.own x):
 Calls P f vs.toArray w λe w'=>e= .returned (.bool true)/\Below w.heap.size w w':=by
 obtain⟨_,hc⟩:=h z hz w ρ vs hG hl
 refine(callsIn_wide.1 hc).mono λe w' ⟨v,ρ',H',a,s,he,f6,hle,hv,P',hpr,hy⟩=>?_
 subst he
 rw[hr,ho,hbk] at P'
 have P':e_ 0 H' (.one (.c (.b 50))) [] a=some s:=P'
 have hq:∃q,dQ a=some q/\s.tm= [(50,.p q)]:=by
  cases e:dQ a with
  |none=>
   have e2:e_ 0 H' (.one (.c (.b 50))) [] a=none:=by show bA (match dQ a with|some q=>PS.add jN 50 (.p q)|none=>none) _=_;rw[e];rfl
   rw[e2] at P';cases P'
  |some q=>
   have e2:e_ 0 H' (.one (.c (.b 50))) [] a=some ⟨[(50,.p q)],[],[],True,[]⟩:=by show bA (match dQ a with|some q=>PS.add jN 50 (.p q)|none=>none) _=_;rw[e];rfl
   rw[e2] at P';injection P' with P';exact⟨q,rfl,by rw[←P']⟩
 obtain⟨q,h1,h2⟩:=hq
 obtain⟨b,rfl,hb⟩:=eP hv h1
 have h3:=hp _ ((zf z).2 hz)
 rw[hy,h2] at h3
 have h4:b=true:=hb.2 h3
 subst h4
 exact⟨rfl,f6.below.below λx=>by rw[hle.own];exact d4 x⟩
def PJ{W:World}(hL:laidMetH Tryz.prog dq W)(hs:W.ShapedOpen Tryz.prog){v0:Value}{l:List G}(r0:VR (mo W) (.cv (.rows 13 l)) v0)(q0:∀r∈l,VL r)(l0:l.length<=1125899906842624){a b c:Int}:
 Calls Tryz.prog 3 #[v0,.int .i64 a,.int .i64 b,.int .i64 c] W λe W'=>e= .returned (.bool true)/\Below W.heap.size W W':=by
 obtain⟨zf,h⟩:=Tc
 obtain⟨n1,n2⟩:=Js q0
 exact Tj (vs:=[v0,.int .i64 a,.int .i64 b,.int .i64 c]) (z:=⟨λn=>if n=202 then a else if n=203 then b else c,λ_=>[],λ_=>False,λ_=>l⟩) h
  ⟨n1,n2,l0⟩ rfl rfl rfl (λ_ hy=>hy) (Jv hL hs) (LR.cons r0 (LR.cons (.sI .i64 a) (LR.cons (.sI .i64 b) (LR.cons (.sI .i64 c) (LR.nil _))))) (λ_ h=>h)
def own:ownKnob Tryz.prog.godebug=none:=by kernel_rfl
def PK(os:Os)(args:Array Value):laidMetH Tryz.prog dq ((World.doorLaid Tryz.prog 62 os).forCall (λ_ _=>0) ⟨#[],args,[]⟩).memory:=
 laidMetH_of_parts3 (fuel:=8) (laidMet_of_run' 8 (by kernel_rfl) (by kernel_rfl)) (by kernel_rfl) (by kernel_rfl)
def Tl:laidOutB Tryz.prog=true:=by kernel_rfl
def DP:Tryz.prog.readableRec 22=true:=by kernel_rfl
set_option maxRecDepth 100000 in
theorem row22:22<Tryz.prog.types.size:=of_decide_eq_true (by kernel_rfl)
def DQ{H:Type}{enc:TypeId×Value->H}{a:Assume}{C:Checked}{os:Os}{f:FuncId}{fn:Func}{s:ChangeSpec}{conds:List PathCond}{apart fresh handsOn uM:Bool}{X:World->Array Value->Prop}(hX:∀(w w':World) (args:Array Value),w.heap=w'.heap->X w args->X w' args)(own:ownKnob C.prog.godebug=none)(started:os.Started)(noInit:C.prog.inits.idxOf? f=none)(hfn:C.prog.funcs[f]? =some fn)(witness:∃(w:World) (tape:Tape) (i:Input),w.os=os/\(w.forCall tape i).Shaped C.prog/\i.vars= []/\Input.okWide C.prog (w.forCall tape i) .any w.heap.size f i/\
  ((s.pre enc C.prog fn conds apart (w.forCall tape i).memory i.args/\X (w.forCall tape i).memory i.args)/\sizedMet enc C.prog fn (OpenSpec.ofChange s) apart (w.forCall tape i).memory i.args)/\a.holds C.prog (lone (Frame.enter C.prog f i.args .normal) [] (w.forCall tape i)))(contract:∀(W:World) (base:Nat) (args:Array Value) (ds gs:List (DataW H)) (before:List MemPlace),
  (∀(j:Nat) t v,fn.params[j]? =some t->args[j]? =some v->Value.okWide C.prog W .any base t v)->
  DataW.Whole enc C.prog fn.params.toList s.vars apart W args.toList ds gs before->
  (DataW.weightsEach C.prog (fn.params.toList++s.plain.varTypes C.prog) (ds++gs)).all (· <=reachBytes)=true->X W args->W.ShapedOpen C.prog->
  Calls C.prog f args W λe W'=>∃v,e= .returned v/\s.post enc C.prog fn apart fresh handsOn uM W args v W'):
 ReturnsInHanded a C os f .any (λw args=>(s.pre enc C.prog fn conds apart w args/\X w args)/\sizedMet enc C.prog fn (OpenSpec.ofChange s) apart w args) (s.post enc C.prog fn apart fresh handsOn uM):=by
 refine returnsInHanded_of_calls own started noInit witness ?_
 intro w tape i _ E' _ hok V' _
 obtain⟨_,_,_,fn',as5,_,_,_,_,ad9⟩:=hok
 have e:fn'=fn:=Option.some.inj (as5.symm.trans hfn)
 subst e
 obtain⟨⟨⟨ds,gs,before,hw,_⟩,hx⟩,hz⟩:=V'
 refine(contract (w.forCall tape i) w.heap.size i.args ds gs before ad9 (DataW.Whole.of_heap (w':=w.forCall tape i) (by rfl) hw) (hz.weights hw) (hX _ _ _ (by rfl) hx) E').mono λe W' ⟨v,he,hp⟩=>?_
 subst he
 exact ChangeSpec.post_blind hp
def four{P:Program}{H:Type}{enc:TypeId×Value->H}{w:World}{base:Nat}{sp:Nat->Bool}{held:Bool}{t0 t1 t2 t3:TypeId}{args:Array Value}{ds:List (DataW H)}{p:List MemPlace}(h:DataW.TrodAll enc P w base sp held [t0,t1,t2,t3] args.toList ds p):
 ∃v0 v1 v2 v3 d0 d1 d2 d3 p0 p1 p2 p3,args= #[v0,v1,v2,v3]/\ds= [d0,d1,d2,d3]/\p=p0++(p1++(p2++(p3++ [])))/\DataW.Trod enc P w base sp held t0 v0 d0 p0/\DataW.Trod enc P w base sp held t1 v1 d1 p1/\DataW.Trod enc P w base sp held t2 v2 d2 p2/\DataW.Trod enc P w base sp held t3 v3 d3 p3:=by
 obtain⟨v0,vs0,d0,ds0,p0,q0,e0,rfl,rfl,h0,r0⟩:=trodAll_cons h
 obtain⟨v1,vs1,d1,ds1,p1,q1,rfl,rfl,rfl,h1,r1⟩:=trodAll_cons r0
 obtain⟨v2,vs2,d2,ds2,p2,q2,rfl,rfl,rfl,h2,r2⟩:=trodAll_cons r1
 obtain⟨v3,vs3,d3,ds3,p3,q3,rfl,rfl,rfl,h3,r3⟩:=trodAll_cons r2
 obtain⟨rfl,rfl,rfl⟩:=trodAll_nil r3
 exact⟨v0,v1,v2,v3,d0,d1,d2,d3,p0,p1,p2,p3,by cases args;simp_all,rfl,rfl,h0,h1,h2,h3⟩
set_option maxRecDepth 100000 in
theorem lifted(os:Os)(started:os.Started)(H:Type)(enc:TypeId×Value->H):
 ReturnsInHanded {} Tryz.checked os 3 .any (λw args=>(Rows.verifyGoesSpec.pre enc Tryz.prog Tryz.f3 [] false w args/\laidMetH Tryz.prog dq w)/\sizedMet enc Tryz.prog Tryz.f3 (OpenSpec.ofChange Rows.verifyGoesSpec) false w args)
  (Rows.verifyGoesSpec.post enc Tryz.prog Tryz.f3 false true false false):=by
 refine DQ (C:=Tryz.checked) (X:=λw _=>laidMetH Tryz.prog dq w) (λ_ _ _ hh h=>h.of_heap hh) own started (by kernel_rfl) Tryz.func3
  (ChangeSpec.witness_shaped (enc:=enc) (C:=Tryz.checked) (os:=os) (X:=λw _=>laidMetH Tryz.prog dq w) false (World.doorLaid Tryz.prog 62 os) #[.slice none 0 0,.int .i64 0,.int .i64 0,.int .i64 0] 8 rfl (World.shaped_of_RefB (by kernel_rfl) (by kernel_rfl)) (by kernel_rfl) (by kernel_rfl) (by kernel_rfl) (PK os _)) ?_
 intro W base args ds gs before aj9 hW hz hL E'
 have ad9:∀(j:Nat) t v,Tryz.f3.params[j]? =some t->args[j]? =some v->Value.okWide Tryz.prog W .any base t v:=aj9
 have hW':=hW
 obtain⟨p,q,hA0,hV,rfl,hfz,hnd⟩:=hW
 have hA:DataW.TrodAll enc Tryz.prog W 0 (λ_=>true) true Tryz.f3.params.toList args.toList ds p:=hA0
 rw[Tryz.params3] at hA ad9
 obtain⟨v0,v1,v2,v3,d0,d1,d2,d3,p0,p1,p2,p3,rfl,rfl,rfl,h0,h1,h2,h3⟩:=four hA
 obtain⟨rfl,rfl⟩:=trodVars_none hV
 obtain⟨a,rfl,rfl,rfl,wa⟩:=open_int Tryz.underlying3 (ad9 1 3 v1 rfl rfl) h1
 obtain⟨b,rfl,rfl,rfl,wb⟩:=open_int Tryz.underlying3 (ad9 2 3 v2 rfl rfl) h2
 obtain⟨c,rfl,rfl,rfl,wc⟩:=open_int Tryz.underlying3 (ad9 3 3 v3 rfl rfl) h3
 have hwe:∀k∈DataW.weightsEach Tryz.prog [22,3,3,3] [d0,.lit (.int .i64 a),.lit (.int .i64 b),.lit (.int .i64 c)],k<=1125899906842624:=λk hk=>by have:=List.all_eq_true.1 hz k (by rw[Tryz.params3];exact hk);have:=of_decide_eq_true this;exact aaV this (by decide)
 obtain⟨n0,t0⟩:=h0
 obtain⟨v0',l,e0,r0,q0,l0⟩:=PE (λ_=>rfl) t0 (jt hwe 0 _ _ rfl rfl)
 have h0:DataW.Trod enc Tryz.prog W 0 (λ_=>true) true 22 v0 d0 p0:=⟨n0,t0⟩
 have c0:v0=v0':=by obtain⟨x,y,z,rfl⟩:=okWide_slice Tryz.underlying22 (ad9 0 _ v0 rfl rfl);have e0: [Value.slice x y z]= [v0']:=e0;injection e0
 subst c0
 clear hA0 aj9
 have c8:∀x∈p0++([]++([]++([]++ []))),x.block<W.heap.size:=λx hx=>hW'.lt x (by simpa using hx)
 refine(PJ (a:=a) (b:=b) (c:=c) hL E' r0 q0 l0).mono λe W' ⟨he,hw⟩=>?_
 subst he
 exact⟨_,rfl,ua (pa:=p0++([]++([]++([]++ [])))) (pv:=[]) hW' (λ_ _ _=>trodAll_mk1 (shut_bool Tryz.underlying4 _))
  (λsp hsp=>trodAll_cons_mk (WideElems.Trod_stays Tl DP row22 h0 (λx hx=>hw.same (c8 x (by simp [hx]))) (λx hx=>hsp x (by simp [hx]))) (trodAll_cons_mk (shut_int Tryz.underlying3 wa) (trodAll_cons_mk (shut_int Tryz.underlying3 wb) (trodAll_cons_mk (shut_int Tryz.underlying3 wc) trodAll_mk0))))
  (λ_ _=>rfl) (by simp) hw (ok_one (by kernel_rfl) rfl (okWide_bool_mk Tryz.underlying4 _))⟩
def PL:Tryz.prog.funcNamed Rows.verifyGoesRow.func=some 3:=by kernel_rfl
def inst3:Tryz.f3.isInstance Tryz.prog Rows.verifyGoesRow.origin Rows.verifyGoesRow.targs:=of_decide_eq_true (by kernel_rfl)
def wrap3:Tryz.f3.isWrapper Tryz.prog Rows.verifyGoesRow.wrapper Rows.verifyGoesRow.mainSum:=by unfold Func.isWrapper;first|(rw[if_pos (by decide+kernel)];kernel_rfl)|(rw[if_neg (by decide+kernel)];exact⟨rfl,rfl⟩)
def Jw:Rows.VerifyGoesSaid:=
 OpenClaim.holds_of_wide 3 Tryz.f3 rfl rfl rfl rfl rfl rfl rfl ⟨rfl,rfl,rfl,rfl,rfl⟩ rfl rfl rfl rfl rfl PL Tryz.func3 XZ
  inst3 wrap3
  (λos started H enc _=>lifted os started H enc)
def wf3:Rows.verifyGoesRow.wfByText (OpenSpec.ofChange Rows.verifyGoesSpec)=true:=by kernel_rfl
def main3:Tryz.pinned.checked.prog.mainIs=some (true, "06d59cec52e9bf59be15a07af21268cfbbb9578d103a1db2a135593ff37063a7".toList):=by kernel_rfl
def X3:true=Tryz.pinned.checked.prog.looks []:=by kernel_rfl
def Tn{P:Program}(h:P.funcs.any Func.goes=false)(c:OpenClaim)(hs:c.start= .entering):false=c.goesBy P:=by
 have hg:∀f,P.goes f=false:=λf=>by
  unfold Program.goes
  rw[h,Bool.and_false,Bool.or_false, ←Bool.not_eq_true]
  intro hc
  obtain⟨g,_,hg⟩:=List.any_eq_true.1 hc
  cases e:P.funcs[g]? with
  |none=>rw[e] at hg;cases hg
  |some fn=>rw[e] at hg;have:P.funcs.any Func.goes=true:=Array.any_eq_true.2 (by obtain⟨h1,h2⟩:=Array.getElem?_eq_some_iff.1 e;exact⟨g,h1,by rw[h2];exact hg⟩);rw[h] at this;cases this
 unfold OpenClaim.goesBy Program.goesAt Program.goesFrom
 rw[hs]
 cases P.funcNamed c.func with
 |none=>rfl
 |some f=>simp [hg f]
def Jx:Tryz.prog.funcs.any Func.goes=false:=by kernel_rfl
def goes3:false=Rows.verifyGoesRow.goesBy Tryz.pinned.checked.prog:=Tn Jx _ rfl
def X4:([22,3].all λu=>!Tryz.prog.wantsStandIn u)=true:=by kernel_rfl
theorem card_holds:Rows.VerifyGoesCardSaid:=
 Claim7.holds_tied_plain_at .later [] [.data,.data,.data,.sentinel,.sentinel] true (true, "06d59cec52e9bf59be15a07af21268cfbbb9578d103a1db2a135593ff37063a7") true
  Jw (λ_ h=>by cases h) wf3 (λ_ h=>by cases h) verifyGoes_row_tie rfl ⟨rfl,rfl⟩ main3 rfl
  (λf fn hf hfn=>by
   obtain rfl:f=3:=Option.some.inj (PL.symm.trans hf) |>.symm;obtain rfl:fn=Tryz.f3:=(Option.some.inj (Tryz.func3.symm.trans hfn)).symm;exact⟨X3,λj t ht=>by
    rw[Tryz.params3] at ht;have hm:t∈ [22,3]:=by have:=Array.mem_of_getElem? ht;simp at this⊢;omega
    exact(show Tryz.prog.wantsStandIn t=false by simpa using List.all_eq_true.1 X4 t hm)⟩)
  goes3
#print axioms card_holds
end Go.Proofs.YtameaobnjjcobaaGreatDoor
