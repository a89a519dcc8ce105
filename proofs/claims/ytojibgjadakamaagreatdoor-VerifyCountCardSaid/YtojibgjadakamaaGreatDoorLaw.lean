/- VerifyCount: for every list of values, places, count and picks the law returns true, and its arguments read as before. No condition but the row's own (its tables, laid; sizes that a machine has). The program and the document are run with terms in place of values, each function told once; names and spaces are cut short by program. -/
import Derived.Test.YtojibgjadakamaaGreatDoorRows
import Derived.Test.YtojibgjadakamaaGreatDoorTie
import Derived.Test.YtojibgjadakamaaGreatDoorCards
import Derived.ProofKit
import Derived.Below
import Derived.ChangeSame
import Derived.ChangeArms
import Derived.ChangeMaps5
import Derived.HandedShaped
import Derived.LaidMore
import Derived.LaidSub
import Derived.Lay
import Derived.OpenShut
import Derived.Carry
import Derived.Stop.Joined
import Derived.SevenTiedAt
import Derived.Test.YtojibgjadakamaaGreatDoorProg
import Derived.KernelRfl
import Derived.Test.YtojibgjadakamaaGreatDoorP6
import Derived.Test.YtojibgjadakamaaGreatDoorP7
import Derived.Test.YtojibgjadakamaaGreatDoorP8
import Derived.Test.YtojibgjadakamaaGreatDoorP9
import Derived.Test.YtojibgjadakamaaGreatDoorP11
set_option linter.all false
namespace Go.Proofs.YtojibgjadakamaaGreatDoor
open Go.ChangeShapes Go.WideShapes Go.ChangeAt Go.RowKit Go.Sym
section
variable{H:Type}{enc:TypeId×Value->H}{P:Program}
theorem sG{f:Func}{s:ChangeSpec}{apart fresh handsOn tE:Bool}{W W':World}{args:Array Value}{v:Value}{ds gs:List (DataW H)}{before pa pv:List MemPlace}
  (hW:DataW.Whole enc P f.params.toList s.vars apart W args.toList ds gs before)
  (ab0:∀(b:Nat) (sp:Nat->Bool) (hd:Bool),DataW.TrodAll enc P W' b sp hd f.resultTypes.toList (v.resultList f.resultTypes.size) (s.fn H (ds++gs)).results [])
  (j6:∀sp:Nat->Bool,(∀p∈before,sp p.block=true)->DataW.TrodAll enc P W' 0 sp true f.params.toList args.toList (s.fn H (ds++gs)).args pa)
  (ac6:∀sp:Nat->Bool,(∀p∈before,sp p.block=true)->DataW.TrodVars enc P W' sp s.vars (s.fn H (ds++gs)).vars pv)
  (Ae:before=pa++pv) (hb:Below W.heap.size W W')
  (hok:∀(j:Nat) (t:TypeId) (r:Value),f.resultTypes[j]? =some t->(v.resultList f.resultTypes.size)[j]? =some r->Value.okWide P W' .any 0 t r):
  s.post enc P f apart fresh handsOn tE W args v W':=by
 have f7:∀p∈before,p.block<W.heap.size:=fun p hp=>hW.lt p hp
 have hold:∀p∈before,(fun b=>decide (b<W.heap.size)) p.block=true:=fun p hp=>by simpa using f7 p hp
 refine⟨ds,gs,before,[],pa,pv,hW,ab0 _ _ _,j6 _ hold,ac6 _ hold,World.keptBut_mono (fun p hp=>⟨hp, ?_⟩) (hb.frame (· ∈before)),fun _=>?_⟩
 ·rw[Ae,List.mem_append] at hp
  exact Or.inr hp
 ·obtain⟨_,_,_,_,_,hz,hn⟩:=hW
  refine⟨hok,_,_,([]++pa)++pv,⟨[]++pa,pv,trodAll_append (j6 _ (fun _ _=>rfl)) (ab0 _ _ _),ac6 _ (fun _ _=>rfl),rfl, ?_, ?_⟩, ?_⟩
  ·intro b off hp
   have XW:MemPlace.cell b off∈before:=by rw[Ae];simpa using hp
   rw[hb.frozen (f7 _ XW)]
   exact hz b off XW
  ·intro ha
   have:=hn ha
   rw[Ae] at this
   simpa using this
  ·intro p hp _
   rw[Ae]
   simpa using hp
end
theorem AX{P:Program}{w:World}:∀{l:List (String×DataW Unit)} {ps:List MemPlace},DataW.LaidVars P w l ps->∀n d,(n,d)∈l->
  ∃g t cs fuel p,P.globalNamed n=some g/\(P.globals[g]?).map (·.type)=some t/\w.var? P n=some cs/\DataW.trod (fun _=>()) P w 0 (fun _=>true) false fuel t cs.toList=some (d,p)
 | [],_,_,_,_,hm=>by cases hm
 |(n,d)::r,ps,⟨g,t,cs,fuel,p,q,h1,h2,h3,h4,hr,_⟩,n',d',hm=>by
  rcases List.mem_cons.1 hm with e|hm
  ·cases e;exact⟨g,t,cs,fuel,p,h1,h2,h3,h4⟩
  ·exact AX hr n' d' hm
theorem NA{P:Program}{w:World}{n:String}{g:Nat}{cs:Array Value}(hg:P.globalNamed n=some g)(h:w.var? P n=some cs):∃t fr,w.heap[g]? =some (.cells cs t fr):=by
 simp only [World.var?,hg,Option.bind_some] at h
 split at h
 ·rename_i c t fr e
  injection h with h
  subst h
  exact⟨t,fr,e⟩
 ·cases h
def cY:List (String×DataW Unit):=Rows.verifyCountRow.laid
set_option maxRecDepth 100000 in
theorem Qy:(Rows.laid_math_bits_deBruijn64tab:DataW Unit)= .agg (eW.map fun n=>.lit (.int .u8 (n:Nat))):=by with_unfolding_all rfl
theorem Du:(cY.filter fun x=>x.2.handleName?.isSome)= []:=by kernel_rfl
theorem NB{W:World}(h:laidMetH Tryz.prog cY W)(n:String)(d:DataW Unit)(hm:(n,d)∈cY):
  ∃g t cs fuel p,Tryz.prog.globalNamed n=some g/\(Tryz.prog.globals[g]?).map (·.type)=some t/\W.var? Tryz.prog n=some cs/\DataW.trod (fun _=>()) Tryz.prog W 0 (fun _=>true) false fuel t cs.toList=some (d,p):=by
 unfold laidMetH at h
 rw[Du] at h
 obtain⟨ps,hl,_⟩:=h
 exact AX hl n d hm
theorem T5{H:Type}{enc:TypeId×Value->H}{P:Program}{w:World}{base:Nat}{sp:Nat->Bool}{held:Bool}{fuel:Nat}{t e n:Nat}{cs:List Value}{l:List Nat}{p:List MemPlace}(ht:P.underlying t=some (.array n e))(he:P.underlying e=some (.int .u8))(hc:P.cellsOf e=1)
  (hl:l.length=n) (h:DataW.trod enc P w base sp held fuel t cs=some (.agg (l.map fun n=>.lit (.int .u8 (n:Nat))),p)):cs.length=P.cellsOf t/\∀(i m:Nat),l[i]? =some m->cs[i]? =some (.int .u8 (m:Nat)):=by
 obtain⟨xs,k,_,hx,hlen,hxl,hel⟩:=DataW.trod_array ht h
 simp only [Prod.mk.injEq,DataW.agg.injEq] at hx
 refine⟨hlen,fun i m hi=>?_⟩
 have XW:i<n:=by rw[←hl];exact(List.getElem?_eq_some_iff.1 hi).1
 have e1:(xs.map (·.1))[i]? =some (.lit (.int .u8 (m:Nat))):=by rw[←hx.1,List.getElem?_map,hi];rfl
 rw[List.getElem?_map,Option.map_eq_some_iff] at e1
 obtain⟨y,hy,hy1⟩:=e1
 have e2:=hel i XW
 rw[hy,hc,Nat.mul_one] at e2
 obtain⟨q,hk,hyk,_⟩:=DataW.trod_int he e2
 rw[hyk] at hy1
 simp only [DataW.lit.injEq,Lit.int.injEq,true_and] at hy1
 subst hy1
 have e3:((cs.drop i).take 1)[0]? =some (.int .u8 (m:Nat)):=by rw[hk];rfl
 rw[List.getElem?_take_of_lt (by decide),List.getElem?_drop] at e3
 simpa using e3
theorem fL:Tryz.prog.cellsOf 366=64:=by kernel_rfl
theorem Qz:Tryz.prog.cellsOf 5=1:=by kernel_rfl
theorem QA:("math/bits.deBruijn64tab",(Rows.laid_math_bits_deBruijn64tab:DataW Unit))∈cY:=List.mem_of_getElem? (i:=1) (by kernel_rfl)
theorem NC{W:World}(h:laidMetH Tryz.prog cY W):∃cs fuel p,W.var? Tryz.prog "math/bits.deBruijn64tab" =some cs/\DataW.trod (fun _=>()) Tryz.prog W 0 (fun _=>true) false fuel 366 cs.toList=some ((Rows.laid_math_bits_deBruijn64tab:DataW Unit),p):=by
 obtain⟨g,t,cs,fuel,p,hg,ht,hv,hd⟩:=NB h _ _ QA
 obtain rfl:=Option.some.inj ((show Tryz.prog.globalNamed "math/bits.deBruijn64tab" =some 2 by kernel_rfl).symm.trans hg)
 obtain rfl:=Option.some.inj ((show(Tryz.prog.globals[2]?).map (·.type)=some 366 by kernel_rfl).symm.trans ht)
 exact⟨cs,fuel,p,hv,hd⟩
theorem xw:eW.length=64:=by kernel_rfl
theorem H4{W:World}(h:laidMetH Tryz.prog cY W):∃cs fuel p,W.var? Tryz.prog "math/bits.deBruijn64tab" =some cs/\DataW.trod (fun _=>()) Tryz.prog W 0 (fun _=>true) false fuel 366 cs.toList=some ((.agg (eW.map fun n=>.lit (.int .u8 (n:Nat))):DataW Unit),p):=by
 have:=NC h
 rwa [Qy] at this
theorem H5{W:World}(h:laidMetH Tryz.prog cY W):∃cs t fr,W.heap[2]? =some (.cells cs t fr)/\cs.size=64/\∀(i n:Nat),eW[i]? =some n->cs[i]? =some (.int .u8 (n:Nat)):=by
 obtain⟨cs,fuel,p,hv,hd⟩:=H4 h
 obtain⟨bt,fr,hh⟩:=NA (show Tryz.prog.globalNamed "math/bits.deBruijn64tab" =some 2 by kernel_rfl) hv
 obtain⟨hlen,Yo⟩:=T5 Tryz.underlying366 Tryz.underlying5 Qz xw hd
 rw[fL] at hlen
 exact⟨cs,bt,fr,hh,by rw[←hlen,Array.length_toList],fun i n hi=>by rw[←Array.getElem?_toList];exact Yo i n hi⟩
theorem QB:(((begin Tryz.prog (fun _ _=>0) default).world.heap[2]?).bind Obj.row?)=some (Array.replicate 64 (.int .u8 0),366):=by kernel_rfl
theorem ND:2<Tryz.prog.globals.size:=of_decide_eq_true (by kernel_rfl)
theorem H6{W:World}(h:laidMetH Tryz.prog cY W)(hs:W.ShapedOpen Tryz.prog):Go.Sym.Good W (kB W) (addTab lI (.leaf:T ABlk)) W:=by
 obtain⟨cs,t,fr,h1,h2,h3⟩:=H5 h
 obtain⟨YP,e1,_,_⟩:=hs.1 _ _ _ ND QB
 rw[h1] at e1
 injection e1 with e1
 injection e1 with e1 e2 e3
 subst e2
 have ea:cs=(eW.map fun n=>Value.int .u8 (Int.ofNat n)).toArray:=by
  refine Array.ext (by rw[h2,List.size_toArray,List.length_map,xw]) fun i hi _=>?_
  have hi':i<eW.length:=by rw[xw];omega
  have:=h3 i eW[i] (List.getElem?_eq_getElem hi')
  rw[Array.getElem?_eq_getElem hi] at this
  injection this with this
  rw[this]
  simp only [List.getElem_toArray,List.getElem_map]
  rfl
 refine UO W (fun b x hx=>?_) fun b k I l hx=>?_
 ·by_cases hb:b=2
  ·subst hb
   rw[show(addTab lI (.leaf:T ABlk)).get 2=some (.tab 366 eW) from T.get_set_same _ _ _ (by decide)] at hx
   injection hx with hx
   subst hx
   refine⟨by decide, ?_⟩
   rw[←ea]
   exact zt h1
  ·rw[show(addTab lI (.leaf:T ABlk)).get b=(T.leaf:T ABlk).get b from T.get_set_ne _ hb _] at hx
   simp [T.get] at hx
 ·by_cases hb:b=2
  ·subst hb
   rw[show(addTab lI (.leaf:T ABlk)).get 2=some (.tab 366 eW) from T.get_set_same _ _ _ (by decide)] at hx
   cases hx
  ·rw[show(addTab lI (.leaf:T ABlk)).get b=(T.leaf:T ABlk).get b from T.get_set_ne _ hb _] at hx
   simp [T.get] at hx
theorem QC{P:Program}{f:Nat}{S:FSpec}{zf:Zf S}(h:jG P f S zf){z:Sy}(hz:S.pre z)(hr:S.res z= .one (.c (.b 50)))(ho:S.out z= [])(hbk:S.blk= [])(hp:∀y,S.post z y->y.p 50)
  {w:World} {ρ:Rho} {vs:List Value} (hG:Go.Sym.Good w ρ (S.heap z) w) (hl:LR ρ (S.argsA z) vs) (x7:∀x,¬ρ.own x):
  Calls P f vs.toArray w fun e w'=>e= .returned (.bool true)/\Below w.heap.size w w':=by
 obtain⟨_,hc⟩:=h z hz w ρ vs hG hl
 refine(callsIn_wide.1 hc).mono fun e w' ⟨v,ρ',H',a,s,he,i6,hle,hv,XL,Z8,hy⟩=>?_
 subst he
 rw[hr,ho,hbk] at XL
 have XL:gm 0 H' (.one (.c (.b 50))) [] a=some s:=XL
 have hq:∃q,dA a=some q/\s.tm= [(50,.p q)]:=by
  cases e:dA a with
  |none=>
   have e2:gm 0 H' (.one (.c (.b 50))) [] a=none:=by
    show bz (match dA a with|some q=>PS.add iZ 50 (.p q)|none=>none) _=_
    rw[e];rfl
   rw[e2] at XL;cases XL
  |some q=>
   have e2:gm 0 H' (.one (.c (.b 50))) [] a=some ⟨[(50,.p q)],[],[],True,[]⟩:=by
    show bz (match dA a with|some q=>PS.add iZ 50 (.p q)|none=>none) _=_
    rw[e];rfl
   rw[e2] at XL
   injection XL with XL
   exact⟨q,rfl,by rw[←XL]⟩
 obtain⟨q,h1,h2⟩:=hq
 obtain⟨b,rfl,hb⟩:=dZ hv h1
 have h3:=hp _ ((zf z).2 hz)
 rw[hy,h2] at h3
 have h4:b=true:=hb.2 h3
 subst h4
 exact⟨rfl,i6.below.below fun x=>by rw[hle.own];exact x7 x⟩
theorem NE{W:World}(hL:laidMetH Tryz.prog cY W)(hs:W.ShapedOpen Tryz.prog){v0 v4:Value}{l k:List G}(r0:VR (kB W) (.cv (.rows 2 l)) v0)(q0:∀g∈l,VQ g)(l0:l.length<=1125899906842624)
  (r4:VR (kB W) (.cv (.rows 8 k)) v4) (q4:xt k) (l4:k.length<=1125899906842624) {a b c:Int} (ha: -9223372036854775808<=a/\a<9223372036854775808) (hb: -9223372036854775808<=b/\b<9223372036854775808):
  Calls Tryz.prog 3 #[v0,.int .i64 a,.int .i64 b,.int .i64 c,v4] W fun e W'=>e= .returned (.bool true)/\Below W.heap.size W W':=by
 obtain⟨zf,h⟩:=Qs
 obtain⟨n1,n2⟩:=TG q0
 exact QC (vs:=[v0,.int .i64 a,.int .i64 b,.int .i64 c,v4]) (z:=⟨fun n=>if n=2 then a else if n=3 then b else c,fun _=>[],fun _=>False,fun n=>if n=1 then l else k⟩) h
  ⟨n1,n2,l0,ha,hb,q4,l4⟩ rfl rfl rfl (fun _ hy=>hy) (H6 hL hs) (LR.cons r0 (LR.cons (.sI .i64 a) (LR.cons (.sI .i64 b) (LR.cons (.sI .i64 c) (LR.cons r4 (LR.nil _)))))) (fun _ h=>h)
theorem own:ownKnob Tryz.prog.godebug=none:=by kernel_rfl
theorem NF(os:Os)(args:Array Value):laidMetH Tryz.prog cY ((World.doorLaid Tryz.prog 62 os).forCall (fun _ _=>0) ⟨#[],args,[]⟩).memory:=
 laidMetH_of_parts3 (fuel:=8) (laidMet_of_run' 8 (by kernel_rfl) (by kernel_rfl)) (by kernel_rfl) (by kernel_rfl)
theorem FE:laidOutB Tryz.prog=true:=by kernel_rfl
theorem Dv:Tryz.prog.readableRec 22=true:=by kernel_rfl
theorem Dw:Tryz.prog.readableRec 23=true:=by kernel_rfl
set_option maxRecDepth 100000 in
theorem VT:22<Tryz.prog.types.size:=of_decide_eq_true (by kernel_rfl)
set_option maxRecDepth 100000 in
theorem VU:23<Tryz.prog.types.size:=of_decide_eq_true (by kernel_rfl)
theorem Dx{H:Type}{enc:TypeId×Value->H}{a:Assume}{C:Checked}{os:Os}{f:FuncId}{fn:Func}{s:ChangeSpec}{conds:List PathCond}{apart fresh handsOn tE:Bool}{X:World->Array Value->Prop}
  (hX:∀(w w':World) (args:Array Value),w.heap=w'.heap->X w args->X w' args) (own:ownKnob C.prog.godebug=none) (started:os.Started) (noInit:C.prog.inits.idxOf? f=none) (hfn:C.prog.funcs[f]? =some fn)
  (witness:∃(w:World) (tape:Tape) (i:Input),w.os=os/\(w.forCall tape i).Shaped C.prog/\i.vars= []/\Input.okWide C.prog (w.forCall tape i) .any w.heap.size f i/\
   ((s.pre enc C.prog fn conds apart (w.forCall tape i).memory i.args/\X (w.forCall tape i).memory i.args)/\sizedMet enc C.prog fn (OpenSpec.ofChange s) apart (w.forCall tape i).memory i.args)/\a.holds C.prog (lone (Frame.enter C.prog f i.args .normal) [] (w.forCall tape i)))
  (contract:∀(W:World) (base:Nat) (args:Array Value) (ds gs:List (DataW H)) (before:List MemPlace),
   (∀(j:Nat) t v,fn.params[j]? =some t->args[j]? =some v->Value.okWide C.prog W .any base t v)->
   DataW.Whole enc C.prog fn.params.toList s.vars apart W args.toList ds gs before->
   (DataW.weightsEach C.prog (fn.params.toList++s.plain.varTypes C.prog) (ds++gs)).all (· <=reachBytes)=true->X W args->W.ShapedOpen C.prog->
   Calls C.prog f args W fun e W'=>∃v,e= .returned v/\s.post enc C.prog fn apart fresh handsOn tE W args v W'):
  ReturnsInHanded a C os f .any (fun w args=>(s.pre enc C.prog fn conds apart w args/\X w args)/\sizedMet enc C.prog fn (OpenSpec.ofChange s) apart w args) (s.post enc C.prog fn apart fresh handsOn tE):=by
 refine returnsInHanded_of_calls own started noInit witness ?_
 intro w tape i _ F' _ hok XU _
 obtain⟨_,_,_,ZQ,aj9,_,_,_,_,Yq⟩:=hok
 have e:ZQ=fn:=Option.some.inj (aj9.symm.trans hfn)
 subst e
 obtain⟨⟨⟨ds,gs,before,hw,_⟩,hx⟩,hz⟩:=XU
 refine(contract (w.forCall tape i) w.heap.size i.args ds gs before Yq (DataW.Whole.of_heap (w':=w.forCall tape i) (by rfl) hw) (hz.weights hw) (hX _ _ _ (by rfl) hx) F').mono fun e W' ⟨v,he,hp⟩=>?_
 subst he
 exact ChangeSpec.post_blind hp
theorem W2{P:Program}{H:Type}{enc:TypeId×Value->H}{w:World}{base:Nat}{sp:Nat->Bool}{held:Bool}{t0 t1 t2 t3 t4:TypeId}{args:Array Value}{ds:List (DataW H)}{p:List MemPlace}(h:DataW.TrodAll enc P w base sp held [t0,t1,t2,t3,t4] args.toList ds p):
  ∃v0 v1 v2 v3 v4 d0 d1 d2 d3 d4 p0 p1 p2 p3 p4,args= #[v0,v1,v2,v3,v4]/\ds= [d0,d1,d2,d3,d4]/\p=p0++(p1++(p2++(p3++(p4++ []))))/\DataW.Trod enc P w base sp held t0 v0 d0 p0/\DataW.Trod enc P w base sp held t1 v1 d1 p1/\DataW.Trod enc P w base sp held t2 v2 d2 p2/\DataW.Trod enc P w base sp held t3 v3 d3 p3/\DataW.Trod enc P w base sp held t4 v4 d4 p4:=by
 obtain⟨v0,vs0,d0,ds0,p0,q0,e0,rfl,rfl,h0,r0⟩:=trodAll_cons h
 obtain⟨v1,vs1,d1,ds1,p1,q1,rfl,rfl,rfl,h1,r1⟩:=trodAll_cons r0
 obtain⟨v2,vs2,d2,ds2,p2,q2,rfl,rfl,rfl,h2,r2⟩:=trodAll_cons r1
 obtain⟨v3,vs3,d3,ds3,p3,q3,rfl,rfl,rfl,h3,r3⟩:=trodAll_cons r2
 obtain⟨v4,vs4,d4,ds4,p4,q4,rfl,rfl,rfl,h4,r4⟩:=trodAll_cons r3
 obtain⟨rfl,rfl,rfl⟩:=trodAll_nil r4
 exact⟨v0,v1,v2,v3,v4,d0,d1,d2,d3,d4,p0,p1,p2,p3,p4,by cases args;simp_all,rfl,rfl,h0,h1,h2,h3,h4⟩
set_option maxRecDepth 100000 in
theorem lifted(os:Os)(started:os.Started)(H:Type)(enc:TypeId×Value->H):
  ReturnsInHanded {} Tryz.checked os 3 .any (fun w args=>(Rows.verifyCountSpec.pre enc Tryz.prog Tryz.f3 [] false w args/\laidMetH Tryz.prog cY w)/\sizedMet enc Tryz.prog Tryz.f3 (OpenSpec.ofChange Rows.verifyCountSpec) false w args)
   (Rows.verifyCountSpec.post enc Tryz.prog Tryz.f3 false true false false):=by
 refine Dx (C:=Tryz.checked) (X:=fun w _=>laidMetH Tryz.prog cY w) (fun _ _ _ hh h=>h.of_heap hh) own started (by kernel_rfl) Tryz.func3
  (ChangeSpec.witness_shaped (enc:=enc) (C:=Tryz.checked) (os:=os) (X:=fun w _=>laidMetH Tryz.prog cY w) false (World.doorLaid Tryz.prog 62 os) #[.slice none 0 0,.int .i64 0,.int .i64 0,.int .i64 0,.slice none 0 0] 8 rfl (World.shaped_of_RefB (by kernel_rfl) (by kernel_rfl)) (by kernel_rfl) (by kernel_rfl) (by kernel_rfl) (NF os _)) ?_
 intro W base args ds gs before ac7 hW hz hL F'
 have Yq:∀(j:Nat) t v,Tryz.f3.params[j]? =some t->args[j]? =some v->Value.okWide Tryz.prog W .any base t v:=ac7
 have hW':=hW
 obtain⟨p,q,hA0,hV,rfl,hfz,hnd⟩:=hW
 have hA:DataW.TrodAll enc Tryz.prog W 0 (fun _=>true) true Tryz.f3.params.toList args.toList ds p:=hA0
 rw[Tryz.params3] at hA Yq
 obtain⟨v0,v1,v2,v3,v4,d0,d1,d2,d3,d4,p0,p1,p2,p3,p4,rfl,rfl,rfl,h0,h1,h2,h3,h4⟩:=W2 hA
 obtain⟨rfl,rfl⟩:=trodVars_none hV
 obtain⟨a,rfl,rfl,rfl,wa⟩:=open_int Tryz.underlying3 (Yq 1 3 v1 rfl rfl) h1
 obtain⟨b,rfl,rfl,rfl,wb⟩:=open_int Tryz.underlying3 (Yq 2 3 v2 rfl rfl) h2
 obtain⟨c,rfl,rfl,rfl,wc⟩:=open_int Tryz.underlying3 (Yq 3 3 v3 rfl rfl) h3
 have hwe:∀k∈DataW.weightsEach Tryz.prog [22,3,3,3,23] [d0,.lit (.int .i64 a),.lit (.int .i64 b),.lit (.int .i64 c),d4],k<=1125899906842624:=fun k hk=>by
  have:=List.all_eq_true.1 hz k (by
   rw[Tryz.params3]
   exact hk)
  have:=of_decide_eq_true this
  exact Nat.le_trans this (by decide)
 obtain⟨n0,t0⟩:=h0
 obtain⟨v0',l,e0,r0,q0,l0⟩:=(FD (fun _=>rfl) n0).2 _ _ t0 (fm hwe 0 _ _ rfl rfl)
 have h0:DataW.Trod enc Tryz.prog W 0 (fun _=>true) true 22 v0 d0 p0:=⟨n0,t0⟩
 obtain⟨n4,t4⟩:=h4
 obtain⟨v4',k,e4,r4,q4,l4⟩:=Qx (fun _=>rfl) t4 (fm hwe 4 _ _ rfl rfl)
 have h4:DataW.Trod enc Tryz.prog W 0 (fun _=>true) true 23 v4 d4 p4:=⟨n4,t4⟩
 have c0:v0=v0':=by
  obtain⟨x,y,z,rfl⟩:=okWide_slice Tryz.underlying22 (Yq 0 _ v0 rfl rfl)
  have e0: [Value.slice x y z]= [v0']:=e0
  injection e0
 have c4:v4=v4':=by
  obtain⟨x,y,z,rfl⟩:=okWide_slice Tryz.underlying23 (Yq 4 _ v4 rfl rfl)
  have e4: [Value.slice x y z]= [v4']:=e4
  injection e4
 subst c0;subst c4
 clear hA0 ac7
 have f7:∀x∈p0++([]++([]++([]++(p4++ [])))),x.block<W.heap.size:=fun x hx=>hW'.lt x (by simpa using hx)
 refine(NE (c:=c) hL F' r0 q0 l0 r4 q4 l4 (Qt wa) (Qt wb)).mono fun e W' ⟨he,hw⟩=>?_
 subst he
 exact⟨_,rfl,sG (pa:=p0++([]++([]++([]++(p4++ []))))) (pv:=[]) hW' (fun _ _ _=>trodAll_mk1 (shut_bool Tryz.underlying4 _))
  (fun sp YO=>trodAll_cons_mk (WideElems.Trod_stays FE Dv VT h0 (fun x hx=>hw.same (f7 x (by simp [hx]))) (fun x hx=>YO x (by simp [hx]))) (trodAll_cons_mk (shut_int Tryz.underlying3 wa) (trodAll_cons_mk (shut_int Tryz.underlying3 wb) (trodAll_cons_mk (shut_int Tryz.underlying3 wc) (trodAll_cons_mk (WideElems.Trod_stays FE Dw VU h4 (fun x hx=>hw.same (f7 x (by simp [hx]))) (fun x hx=>YO x (by simp [hx]))) trodAll_mk0)))))
  (fun _ _=>rfl) (by simp) hw (ok_one (by kernel_rfl) rfl (okWide_bool_mk Tryz.underlying4 _))⟩
theorem NG:Tryz.prog.funcNamed Rows.verifyCountRow.func=some 3:=by kernel_rfl
theorem VV:Tryz.f3.isInstance Tryz.prog Rows.verifyCountRow.origin Rows.verifyCountRow.targs:=of_decide_eq_true (by kernel_rfl)
theorem VW:Tryz.f3.isWrapper Tryz.prog Rows.verifyCountRow.wrapper Rows.verifyCountRow.mainSum:=by unfold Func.isWrapper;first|(rw[if_pos (by decide+kernel)];kernel_rfl)|(rw[if_neg (by decide+kernel)];exact⟨rfl,rfl⟩)
theorem H7:Rows.VerifyCountSaid:=
 OpenClaim.holds_of_wide 3 Tryz.f3 rfl rfl rfl rfl rfl rfl rfl ⟨rfl,rfl,rfl,rfl,rfl⟩ rfl rfl rfl rfl rfl NG Tryz.func3 T4
  VV VW
  (fun os started H enc _=>lifted os started H enc)
theorem Xx:Rows.verifyCountRow.wfByText (OpenSpec.ofChange Rows.verifyCountSpec)=true:=by kernel_rfl
theorem VX:Tryz.pinned.checked.prog.mainIs=some (true, "b8ea5cf17549d58632cf172cc95e3bfa7403bec719ec66942a234df012eb463b".toList):=by kernel_rfl
theorem T6:true=Tryz.pinned.checked.prog.looks []:=by kernel_rfl
theorem QD{P:Program}(h:P.funcs.any Func.goes=false)(c:OpenClaim)(hs:c.start= .entering):false=c.goesBy P:=by
 have hg:∀f,P.goes f=false:=fun f=>by
  unfold Program.goes
  rw[h,Bool.and_false,Bool.or_false, ←Bool.not_eq_true]
  intro hc
  obtain⟨g,_,hg⟩:=List.any_eq_true.1 hc
  cases e:P.funcs[g]? with
  |none=>rw[e] at hg;cases hg
  |some fn=>
   rw[e] at hg
   have:P.funcs.any Func.goes=true:=Array.any_eq_true.2 (by
    obtain⟨h1,h2⟩:=Array.getElem?_eq_some_iff.1 e
    exact⟨g,h1,by rw[h2];exact hg⟩)
   rw[h] at this;cases this
 unfold OpenClaim.goesBy Program.goesAt Program.goesFrom
 rw[hs]
 cases P.funcNamed c.func with
 |none=>rfl
 |some f=>simp [hg f]
theorem H8:Tryz.prog.funcs.any Func.goes=false:=by kernel_rfl
theorem VY:false=Rows.verifyCountRow.goesBy Tryz.pinned.checked.prog:=QD H8 _ rfl
theorem T7:([22,3,23].all fun u=>!Tryz.prog.wantsStandIn u)=true:=by kernel_rfl
theorem card_holds:Rows.VerifyCountCardSaid:=
 Claim7.holds_tied_plain_at .later [] [.data,.data,.data,.sentinel,.sentinel] true (true, "b8ea5cf17549d58632cf172cc95e3bfa7403bec719ec66942a234df012eb463b") true
  H7 (fun _ h=>by cases h) Xx (fun _ h=>by cases h) verifyCount_row_tie rfl ⟨rfl,rfl⟩ VX rfl
  (fun f fn hf hfn=>by
   obtain rfl:f=3:=Option.some.inj (NG.symm.trans hf) |>.symm
   obtain rfl:fn=Tryz.f3:=(Option.some.inj (Tryz.func3.symm.trans hfn)).symm
   exact⟨T6,fun j t ht=>by
    rw[Tryz.params3] at ht
    have hm:t∈ [22,3,23]:=by have:=Array.mem_of_getElem? ht;simp at this⊢;omega
    exact(show Tryz.prog.wantsStandIn t=false by simpa using List.all_eq_true.1 T7 t hm)⟩)
  VY
#print axioms card_holds
end Go.Proofs.YtojibgjadakamaaGreatDoor
