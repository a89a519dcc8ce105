/- VerifyClash: for every list of lists of values, places, size, place, byte and entry the law returns true, and its arguments read as before. No condition but the row's own. Names and spaces are cut short by program. -/
import Derived.Test.YtomfobckhogpnaaGreatDoorRows
import Derived.Test.YtomfobckhogpnaaGreatDoorTie
import Derived.Test.YtomfobckhogpnaaGreatDoorCards
import Derived.ProofKit
import Derived.Below
import Derived.ChangeSame
import Derived.ChangeArms
import Derived.ChangeMaps5
import Derived.HandedShaped
import Derived.LaidMore
import Derived.LaidSub
import Derived.Lay
import Derived.OpenShut
import Derived.Carry
import Derived.Stop.Joined
import Derived.SevenTiedAt
import Derived.Test.YtomfobckhogpnaaGreatDoorProg
import Derived.KernelRfl
import Derived.Test.YtomfobckhogpnaaGreatDoorP8
import Derived.Test.YtomfobckhogpnaaGreatDoorP10
set_option linter.all false
namespace Go.Proofs.YtomfobckhogpnaaGreatDoor
set_option maxRecDepth 100000
open Go.ChangeShapes Go.WideShapes Go.ChangeAt Go.RowKit Go.Sym
section
variable{H:Type}{enc:TypeId×Value->H}{P:Program}
def uJ{f:Func}{s:ChangeSpec}{apart fresh handsOn vJ:Bool}{W W':World}{args:Array Value}{v:Value}{ds gs:List (DataW H)}{before pa pv:List MemPlace}(hW:DataW.Whole enc P f.params.toList s.vars apart W args.toList ds gs before)(ai8:∀(b:Nat) (sp:Nat->Bool) (hd:Bool),DataW.TrodAll enc P W' b sp hd f.resultTypes.toList (v.resultList f.resultTypes.size) (s.fn H (ds++gs)).results [])(l9:∀sp:Nat->Bool,(∀p∈before,sp p.block=true)->DataW.TrodAll enc P W' 0 sp true f.params.toList args.toList (s.fn H (ds++gs)).args pa)(ak5:∀sp:Nat->Bool,(∀p∈before,sp p.block=true)->DataW.TrodVars enc P W' sp s.vars (s.fn H (ds++gs)).vars pv)(uC:before=pa++pv)(hb:Below W.heap.size W W')(hok:∀(j:Nat) (t:TypeId) (r:Value),f.resultTypes[j]? =some t->(v.resultList f.resultTypes.size)[j]? =some r->Value.okWide P W' .any 0 t r):
 s.post enc P f apart fresh handsOn vJ W args v W':=by
 have c9:∀p∈before,p.block<W.heap.size:=λp hp=>hW.lt p hp
 have hold:∀p∈before,(λb=>decide (b<W.heap.size)) p.block=true:=λp hp=>by simpa using c9 p hp
 refine⟨ds,gs,before,[],pa,pv,hW,ai8 _ _ _,l9 _ hold,ak5 _ hold,World.keptBut_mono (λp hp=>⟨hp, ?_⟩) (hb.frame (· ∈before)),λ_=>?_⟩
 ·rw[uC,List.mem_append] at hp;exact Or.inr hp
 ·obtain⟨_,_,_,_,_,hz,hn⟩:=hW;refine⟨hok,_,_,([]++pa)++pv,⟨[]++pa,pv,trodAll_append (l9 _ (λ_ _=>rfl)) (ai8 _ _ _),ak5 _ (λ_ _=>rfl),rfl, ?_, ?_⟩, ?_⟩
  ·intro b off hp;have hin:MemPlace.cell b off∈before:=by rw[uC];simpa using hp
   rw[hb.frozen (c9 _ hin)];exact hz b off hin
  ·intro ha;have:=hn ha;rw[uC] at this;simpa using this
  ·intro p hp _;rw[uC];simpa using hp
end
def CE{P:Program}{w:World}:∀{l:List (String×DataW Unit)} {ps:List MemPlace},DataW.LaidVars P w l ps->∀n d,(n,d)∈l->
 ∃g t cs fuel p,P.globalNamed n=some g/\(P.globals[g]?).map (·.type)=some t/\w.var? P n=some cs/\DataW.trod (λ_=>()) P w 0 (λ_=>true) false fuel t cs.toList=some (d,p)
 | [],_,_,_,_,hm=>by cases hm
 |(n,d)::r,ps,⟨g,t,cs,fuel,p,q,h1,h2,h3,h4,hr,_⟩,n',d',hm=>by
  rcases List.mem_cons.1 hm with e|hm
  ·cases e;exact⟨g,t,cs,fuel,p,h1,h2,h3,h4⟩
  ·exact CE hr n' d' hm
def QG{P:Program}{w:World}{n:String}{g:Nat}{cs:Array Value}(hg:P.globalNamed n=some g)(h:w.var? P n=some cs):∃t fr,w.heap[g]? =some (.cells cs t fr):=by
 simp only [World.var?,hg,Option.bind_some] at h;split at h
 ·rename_i c t fr e;injection h with h;subst h;exact⟨t,fr,e⟩
 ·cases h
def dt:List (String×DataW Unit):=Rows.verifyClashRow.laid
def Ul:(Rows.laid_math_bits_deBruijn64tab:DataW Unit)= .agg (fP.map λn=>.lit (.int .u8 (n:Nat))):=by with_unfolding_all rfl
def EH:(dt.filter λx=>x.2.handleName?.isSome)= []:=by kernel_rfl
def QH{W:World}(h:laidMetH Tryz.prog dt W)(n:String)(d:DataW Unit)(hm:(n,d)∈dt):
 ∃g t cs fuel p,Tryz.prog.globalNamed n=some g/\(Tryz.prog.globals[g]?).map (·.type)=some t/\W.var? Tryz.prog n=some cs/\DataW.trod (λ_=>()) Tryz.prog W 0 (λ_=>true) false fuel t cs.toList=some (d,p):=by
 unfold laidMetH at h
 rw[EH] at h
 obtain⟨ps,hl,_⟩:=h
 exact CE hl n d hm
def Y5{H:Type}{enc:TypeId×Value->H}{P:Program}{w:World}{base:Nat}{sp:Nat->Bool}{held:Bool}{fuel:Nat}{t e n:Nat}{cs:List Value}{l:List Nat}{p:List MemPlace}(ht:P.underlying t=some (.array n e))(he:P.underlying e=some (.int .u8))(hc:P.cellsOf e=1)(hl:l.length=n)(h:DataW.trod enc P w base sp held fuel t cs=some (.agg (l.map λn=>.lit (.int .u8 (n:Nat))),p)):cs.length=P.cellsOf t/\∀(i m:Nat),l[i]? =some m->cs[i]? =some (.int .u8 (m:Nat)):=by
 obtain⟨xs,k,_,hx,hlen,hxl,hel⟩:=DataW.trod_array ht h
 simp only [Prod.mk.injEq,DataW.agg.injEq] at hx
 refine⟨hlen,λi m hi=>?_⟩
 have hin:i<n:=by rw[←hl];exact(List.getElem?_eq_some_iff.1 hi).1
 have e1:(xs.map (·.1))[i]? =some (.lit (.int .u8 (m:Nat))):=by rw[←hx.1,List.getElem?_map,hi];rfl
 rw[List.getElem?_map,Option.map_eq_some_iff] at e1
 obtain⟨y,hy,hy1⟩:=e1
 have e2:=hel i hin
 rw[hy,hc,Nat.mul_one] at e2
 obtain⟨q,hk,hyk,_⟩:=DataW.trod_int he e2
 rw[hyk] at hy1
 simp only [DataW.lit.injEq,Lit.int.injEq,true_and] at hy1
 subst hy1
 have e3:((cs.drop i).take 1)[0]? =some (.int .u8 (m:Nat)):=by rw[hk];rfl
 rw[List.getElem?_take_of_lt (by decide),List.getElem?_drop] at e3
 simpa using e3
def iu:Tryz.prog.cellsOf 367=64:=by kernel_rfl
def Um:Tryz.prog.cellsOf 5=1:=by kernel_rfl
def Un:("math/bits.deBruijn64tab",(Rows.laid_math_bits_deBruijn64tab:DataW Unit))∈dt:=List.mem_of_getElem? (i:=1) (by kernel_rfl)
def QI{W:World}(h:laidMetH Tryz.prog dt W):∃cs fuel p,W.var? Tryz.prog "math/bits.deBruijn64tab" =some cs/\DataW.trod (λ_=>()) Tryz.prog W 0 (λ_=>true) false fuel 367 cs.toList=some ((Rows.laid_math_bits_deBruijn64tab:DataW Unit),p):=by obtain⟨g,t,cs,fuel,p,hg,ht,hv,hd⟩:=QH h _ _ Un;obtain rfl:=Option.some.inj ((show Tryz.prog.globalNamed "math/bits.deBruijn64tab" =some 2 by kernel_rfl).symm.trans hg);obtain rfl:=Option.some.inj ((show(Tryz.prog.globals[2]?).map (·.type)=some 367 by kernel_rfl).symm.trans ht);exact⟨cs,fuel,p,hv,hd⟩
def zx:fP.length=64:=by kernel_rfl
def Kl{W:World}(h:laidMetH Tryz.prog dt W):∃cs fuel p,W.var? Tryz.prog "math/bits.deBruijn64tab" =some cs/\DataW.trod (λ_=>()) Tryz.prog W 0 (λ_=>true) false fuel 367 cs.toList=some ((.agg (fP.map λn=>.lit (.int .u8 (n:Nat))):DataW Unit),p):=by
 have:=QI h
 rwa [Ul] at this
def Km{W:World}(h:laidMetH Tryz.prog dt W):∃cs t fr,W.heap[2]? =some (.cells cs t fr)/\cs.size=64/\∀(i n:Nat),fP[i]? =some n->cs[i]? =some (.int .u8 (n:Nat)):=by obtain⟨cs,fuel,p,hv,hd⟩:=Kl h;obtain⟨bt,fr,hh⟩:=QG (show Tryz.prog.globalNamed "math/bits.deBruijn64tab" =some 2 by kernel_rfl) hv;obtain⟨hlen,ad6⟩:=Y5 Tryz.underlying367 Tryz.underlying5 Um zx hd;rw[iu] at hlen;exact⟨cs,bt,fr,hh,by rw[←hlen,Array.length_toList],λi n hi=>by rw[←Array.getElem?_toList];exact ad6 i n hi⟩
def Uo:(((begin Tryz.prog (λ_ _=>0) default).world.heap[2]?).bind Obj.row?)=some (Array.replicate 64 (.int .u8 0),367):=by kernel_rfl
def QJ:2<Tryz.prog.globals.size:=of_decide_eq_true (by kernel_rfl)
def Kn{W:World}(h:laidMetH Tryz.prog dt W)(hs:W.ShapedOpen Tryz.prog):Go.Sym.Good W (jD W) (addTab kX (.leaf:T ABlk)) W:=by
 obtain⟨cs,t,fr,h1,h2,h3⟩:=Km h;obtain⟨cs',e1,_,_⟩:=hs.1 _ _ _ QJ Uo;rw[h1] at e1;injection e1 with e1;injection e1 with e1 e2 e3;subst e2;have ea:cs=(fP.map λn=>Value.int .u8 (Int.ofNat n)).toArray:=by
  refine Array.ext (by rw[h2,List.size_toArray,List.length_map,zx]) λi hi _=>?_;have hi':i<fP.length:=by rw[zx];omega
  have:=h3 i fP[i] (List.getElem?_eq_getElem hi');rw[Array.getElem?_eq_getElem hi] at this;injection this with this;rw[this];simp only [List.getElem_toArray,List.getElem_map];rfl
 refine Z1 W (λb x hx=>?_) λb k I l hx=>?_
 ·by_cases hb:b=2
  ·subst hb;rw[show(addTab kX (.leaf:T ABlk)).get 2=some (.tab 367 fP) from T.get_set_same _ _ _ (by decide)] at hx;injection hx with hx;subst hx;refine⟨by decide, ?_⟩;rw[←ea];exact A4 h1
  ·rw[show(addTab kX (.leaf:T ABlk)).get b=(T.leaf:T ABlk).get b from T.get_set_ne _ hb _] at hx;simp [T.get] at hx
 ·by_cases hb:b=2
  ·subst hb;rw[show(addTab kX (.leaf:T ABlk)).get 2=some (.tab 367 fP) from T.get_set_same _ _ _ (by decide)] at hx;cases hx
  ·rw[show(addTab kX (.leaf:T ABlk)).get b=(T.leaf:T ABlk).get b from T.get_set_ne _ hb _] at hx;simp [T.get] at hx
def Up{P:Program}{f:Nat}{S:FSpec}{zf:Zf S}(h:kQ P f S zf){z:Sy}(hz:S.pre z)(hr:S.res z= .one (.c (.b 50)))(ho:S.out z= [])(hbk:S.blk= [])(hp:∀y,S.post z y->y.p 50){w:World}{ρ:Rho}{vs:List Value}(hG:Go.Sym.Good w ρ (S.heap z) w)(hl:LR ρ (S.argsA z) vs)(d9:∀x,¬ρ.own x):
 Calls P f vs.toArray w λe w'=>e= .returned (.bool true)/\Below w.heap.size w w':=by
 obtain⟨_,hc⟩:=h z hz w ρ vs hG hl
 refine(callsIn_wide.1 hc).mono λe w' ⟨v,ρ',H',a,s,he,j9,hle,hv,ab_,hpr,hy⟩=>?_
 subst he
 rw[hr,ho,hbk] at ab_
 have ab_:fi 0 H' (.one (.c (.b 50))) [] a=some s:=ab_
 have hq:∃q,dO a=some q/\s.tm= [(50,.p q)]:=by
  cases e:dO a with
  |none=>
   have e2:fi 0 H' (.one (.c (.b 50))) [] a=none:=by show bx (match dO a with|some q=>PS.add ji 50 (.p q)|none=>none) _=_;rw[e];rfl
   rw[e2] at ab_;cases ab_
  |some q=>
   have e2:fi 0 H' (.one (.c (.b 50))) [] a=some ⟨[(50,.p q)],[],[],True,[]⟩:=by show bx (match dO a with|some q=>PS.add ji 50 (.p q)|none=>none) _=_;rw[e];rfl
   rw[e2] at ab_;injection ab_ with ab_;exact⟨q,rfl,by rw[←ab_]⟩
 obtain⟨q,h1,h2⟩:=hq
 obtain⟨b,rfl,hb⟩:=eR hv h1
 have h3:=hp _ ((zf z).2 hz)
 rw[hy,h2] at h3
 have h4:b=true:=hb.2 h3
 subst h4
 exact⟨rfl,j9.below.below λx=>by rw[hle.own];exact d9 x⟩
def QK{W:World}(hL:laidMetH Tryz.prog dt W)(hs:W.ShapedOpen Tryz.prog){v0:Value}{l:List G}(r0:VR (jD W) (.cv (.rows 13 l)) v0)(q0:∀r∈l,VL r)(l0:l.length<=1125899906842624){a b c d by':Int}(hd: -9223372036854775808<=d/\d<9223372036854775808){kd:Int}{tx:List Nat}{tb dc vr:Int}{g:G}{f:Nat->Int}{gn:Prop}{ab ae:Int}{cs:Array Value}(re:LR (jD W) (eCs kd tx tb dc vr g f gn ab ae) cs.toList)(htx:tx.length<=1125899906842624)(ht8:B8 tx)(h2: -9223372036854775808<=tb/\tb<9223372036854775808)(h3: -9223372036854775808<=dc/\dc<9223372036854775808)(h4: -9223372036854775808<=vr/\vr<9223372036854775808)(h5: -9223372036854775808<=ab/\ab<9223372036854775808)(h6: -9223372036854775808<=ae/\ae<9223372036854775808)(hg:VQ g)(hf:∀j,j<32->0<=f j/\f j<256):
 Calls Tryz.prog 3 #[v0,.int .i64 a,.int .i64 b,.int .i64 c,.int .i64 d,.int .u8 by',.agg cs] W λe W'=>e= .returned (.bool true)/\Below W.heap.size W W':=by
 obtain⟨zf,h⟩:=Qx
 obtain⟨n1,n2⟩:=Kk q0
 have hv:QV 1002 (gI (aa g 1)) (gS (aa g 3)) (gL (aa g 4)) (gL (aa g 5)):=by rw[yS];exact hg.2 1002
 have ra:VR (jD W) (.agg (nI bI (zC l a b c d by' kd tx tb dc vr g f gn ab ae) enD)) (.agg cs):=by rw[Uk];obtain⟨x,y⟩:=LR.arr re;exact .agg _ _ x y
 exact Up (vs:=[v0,.int .i64 a,.int .i64 b,.int .i64 c,.int .i64 d,.int .u8 by',.agg cs]) (z:=zC l a b c d by' kd tx tb dc vr g f gn ab ae) h
  ⟨⟨n1,n2,l0⟩,hd,⟨htx,ht8⟩,h2,h3,h4,h5,h6,hv,zC_h l a b c d by' kd tx tb dc vr g gn ab ae hf⟩ rfl rfl rfl (λ_ hy=>hy) (Kn hL hs) (LR.cons r0 (LR.cons (.sI .i64 a) (LR.cons (.sI .i64 b) (LR.cons (.sI .i64 c) (LR.cons (.sI .i64 d) (LR.cons (.sI .u8 by') (LR.cons ra (LR.nil _)))))))) (λ_ h=>h)
def own:ownKnob Tryz.prog.godebug=none:=by kernel_rfl
def QL(os:Os)(args:Array Value):laidMetH Tryz.prog dt ((World.doorLaid Tryz.prog 62 os).forCall (λ_ _=>0) ⟨#[],args,[]⟩).memory:=
 laidMetH_of_parts3 (fuel:=8) (laidMet_of_run' 8 (by kernel_rfl) (by kernel_rfl)) (by kernel_rfl) (by kernel_rfl)
def Ih:laidOutB Tryz.prog=true:=by kernel_rfl
def EI:Tryz.prog.readableRec 22=true:=by kernel_rfl
def EJ:Tryz.prog.readableRec 32=true:=by kernel_rfl
def row22:22<Tryz.prog.types.size:=of_decide_eq_true (by kernel_rfl)
def row23:32<Tryz.prog.types.size:=of_decide_eq_true (by kernel_rfl)
def EK{H:Type}{enc:TypeId×Value->H}{a:Assume}{C:Checked}{os:Os}{f:FuncId}{fn:Func}{s:ChangeSpec}{conds:List PathCond}{apart fresh handsOn vJ:Bool}{X:World->Array Value->Prop}(hX:∀(w w':World) (args:Array Value),w.heap=w'.heap->X w args->X w' args)(own:ownKnob C.prog.godebug=none)(started:os.Started)(noInit:C.prog.inits.idxOf? f=none)(hfn:C.prog.funcs[f]? =some fn)(witness:∃(w:World) (tape:Tape) (i:Input),w.os=os/\(w.forCall tape i).Shaped C.prog/\i.vars= []/\Input.okWide C.prog (w.forCall tape i) .any w.heap.size f i/\
  ((s.pre enc C.prog fn conds apart (w.forCall tape i).memory i.args/\X (w.forCall tape i).memory i.args)/\sizedMet enc C.prog fn (OpenSpec.ofChange s) apart (w.forCall tape i).memory i.args)/\a.holds C.prog (lone (Frame.enter C.prog f i.args .normal) [] (w.forCall tape i)))(contract:∀(W:World) (base:Nat) (args:Array Value) (ds gs:List (DataW H)) (before:List MemPlace),
  (∀(j:Nat) t v,fn.params[j]? =some t->args[j]? =some v->Value.okWide C.prog W .any base t v)->
  DataW.Whole enc C.prog fn.params.toList s.vars apart W args.toList ds gs before->
  (DataW.weightsEach C.prog (fn.params.toList++s.plain.varTypes C.prog) (ds++gs)).all (· <=reachBytes)=true->X W args->W.ShapedOpen C.prog->
  Calls C.prog f args W λe W'=>∃v,e= .returned v/\s.post enc C.prog fn apart fresh handsOn vJ W args v W'):
 ReturnsInHanded a C os f .any (λw args=>(s.pre enc C.prog fn conds apart w args/\X w args)/\sizedMet enc C.prog fn (OpenSpec.ofChange s) apart w args) (s.post enc C.prog fn apart fresh handsOn vJ):=by
 refine returnsInHanded_of_calls own started noInit witness ?_
 intro w tape i _ hsh _ hok ac3 _
 obtain⟨_,_,_,fn',at6,_,_,_,_,ac8⟩:=hok
 have e:fn'=fn:=Option.some.inj (at6.symm.trans hfn)
 subst e
 obtain⟨⟨⟨ds,gs,before,hw,_⟩,hx⟩,hz⟩:=ac3
 refine(contract (w.forCall tape i) w.heap.size i.args ds gs before ac8 (DataW.Whole.of_heap (w':=w.forCall tape i) (by rfl) hw) (hz.weights hw) (hX _ _ _ (by rfl) hx) hsh).mono λe W' ⟨v,he,hp⟩=>?_
 subst he
 exact ChangeSpec.post_blind hp
def eZ:Value:=.agg (#[.int .i64 0,.string ⟨#[]⟩,.int .i64 0,.int .i64 0,.int .i64 0,.int .i64 0,.int .i64 0,.int .i64 0,.string ⟨#[]⟩,.slice none 0 0,.slice none 0 0]++ .replicate 32 (.int .u8 0)++ #[.bool false,.int .i64 0,.int .i64 0])
def lifted(os:Os)(started:os.Started)(H:Type)(enc:TypeId×Value->H):
 ReturnsInHanded {} Tryz.checked os 3 .any (λw args=>(Rows.verifyClashSpec.pre enc Tryz.prog Tryz.f3 [] false w args/\laidMetH Tryz.prog dt w)/\sizedMet enc Tryz.prog Tryz.f3 (OpenSpec.ofChange Rows.verifyClashSpec) false w args)
  (Rows.verifyClashSpec.post enc Tryz.prog Tryz.f3 false true false false):=by
 refine EK (C:=Tryz.checked) (X:=λw _=>laidMetH Tryz.prog dt w) (λ_ _ _ hh h=>h.of_heap hh) own started (by kernel_rfl) Tryz.func3
  (ChangeSpec.witness_shaped (enc:=enc) (C:=Tryz.checked) (os:=os) (X:=λw _=>laidMetH Tryz.prog dt w) false (World.doorLaid Tryz.prog 62 os) #[.slice none 0 0,.int .i64 0,.int .i64 0,.int .i64 0,.int .i64 0,.int .u8 0,eZ] 8 rfl (World.shaped_of_RefB (by kernel_rfl) (by kernel_rfl)) (by kernel_rfl) (by kernel_rfl) (by kernel_rfl) (QL os _)) ?_
 intro W base args ds gs before ak6 hW hz hL hsh
 have ac8:∀(j:Nat) t v,Tryz.f3.params[j]? =some t->args[j]? =some v->Value.okWide Tryz.prog W .any base t v:=ak6
 have hW':=hW
 obtain⟨p,q,hA0,hV,rfl,hfz,hnd⟩:=hW
 have hA:DataW.TrodAll enc Tryz.prog W 0 (λ_=>true) true Tryz.f3.params.toList args.toList ds p:=hA0
 rw[Tryz.params3] at hA ac8
 obtain⟨v0,w0,d0,x0,p0,y0,e0,rfl,rfl,h0,r0⟩:=trodAll_cons hA
 obtain⟨v1,w1,d1,x1,p1,y1,rfl,rfl,rfl,h1,r1⟩:=trodAll_cons r0
 obtain⟨v2,w2,d2,x2,p2,y2,rfl,rfl,rfl,h2,r2⟩:=trodAll_cons r1
 obtain⟨v3,w3,d3,x3,p3,y3,rfl,rfl,rfl,h3,r3⟩:=trodAll_cons r2
 obtain⟨v4,w4,d4,x4,p4,y4,rfl,rfl,rfl,h4,r4⟩:=trodAll_cons r3
 obtain⟨v5,w5,d5,x5,p5,y5,rfl,rfl,rfl,h5,r5⟩:=trodAll_cons r4
 obtain⟨v6,w6,d6,x6,p6,y6,rfl,rfl,rfl,h6,r6⟩:=trodAll_cons r5
 obtain⟨rfl,rfl,rfl⟩:=trodAll_nil r6
 obtain rfl:args= #[v0,v1,v2,v3,v4,v5,v6]:=Array.ext' e0
 clear e0
 obtain⟨rfl,rfl⟩:=trodVars_none hV
 obtain⟨a,rfl,rfl,rfl,wa⟩:=open_int Tryz.underlying3 (ac8 1 3 v1 rfl rfl) h1
 obtain⟨b,rfl,rfl,rfl,wb⟩:=open_int Tryz.underlying3 (ac8 2 3 v2 rfl rfl) h2
 obtain⟨c,rfl,rfl,rfl,wc⟩:=open_int Tryz.underlying3 (ac8 3 3 v3 rfl rfl) h3
 obtain⟨d,rfl,rfl,rfl,wd⟩:=open_int Tryz.underlying3 (ac8 4 3 v4 rfl rfl) h4
 obtain⟨u,rfl,rfl,rfl,wu⟩:=open_int Tryz.underlying5 (ac8 5 5 v5 rfl rfl) h5
 have hwe:∀k∈DataW.weightsEach Tryz.prog [22,3,3,3,3,5,32] [d0,.lit (.int .i64 a),.lit (.int .i64 b),.lit (.int .i64 c),.lit (.int .i64 d),.lit (.int .u8 u),d6],k<=1125899906842624:=λk hk=>by have:=List.all_eq_true.1 hz k (by rw[Tryz.params3];exact hk);have:=of_decide_eq_true this;exact Nat.le_trans this (by decide)
 obtain⟨n0,t0⟩:=h0
 obtain⟨v0',l,e0,r0,q0,l0⟩:=QA (λ_=>rfl) t0 (eA hwe 0 _ _ rfl rfl)
 have h0:DataW.Trod enc Tryz.prog W 0 (λ_=>true) true 22 v0 d0 p0:=⟨n0,t0⟩
 obtain⟨cs,hv6,hc6⟩:=okWide_struct Tryz.underlying32 (ac8 6 _ v6 rfl rfl)
 subst hv6
 obtain⟨n6,t6⟩:=h6
 obtain⟨kd,tx,tb,dc,vr,g,f,gn,ab,ae,re,g1,g2,g3,g4,g5,g6,g7,g8,g9⟩:=QF (λ_=>rfl) t6 (eA hwe 6 _ _ rfl rfl)
 have h6:DataW.Trod enc Tryz.prog W 0 (λ_=>true) true 32 (.agg cs) d6 p6:=⟨n6,t6⟩
 have c0:v0=v0':=by obtain⟨x,y,z,rfl⟩:=okWide_slice Tryz.underlying22 (ac8 0 _ v0 rfl rfl);have e0: [Value.slice x y z]= [v0']:=e0;injection e0
 subst c0
 clear hA0 ak6
 have c9:∀x∈p0++([]++([]++([]++([]++([]++(p6++ [])))))),x.block<W.heap.size:=λx hx=>hW'.lt x (by simpa using hx)
 refine(QK (a:=a) (b:=b) (c:=c) (by':=u) hL hsh r0 q0 l0 (EF wd) re g1 g2 g3 g4 g5 g6 g7 g8 g9).mono λe W' ⟨he,hw⟩=>?_
 subst he
 exact⟨_,rfl,uJ (pa:=p0++([]++([]++([]++([]++([]++(p6++ []))))))) (pv:=[]) hW' (λ_ _ _=>trodAll_mk1 (shut_bool Tryz.underlying4 _))
  (λsp hsp=>trodAll_cons_mk (WideElems.Trod_stays Ih EI row22 h0 (λx hx=>hw.same (c9 x (by simp [hx]))) (λx hx=>hsp x (by simp [hx]))) (trodAll_cons_mk (shut_int Tryz.underlying3 wa) (trodAll_cons_mk (shut_int Tryz.underlying3 wb) (trodAll_cons_mk (shut_int Tryz.underlying3 wc) (trodAll_cons_mk (shut_int Tryz.underlying3 wd) (trodAll_cons_mk (shut_int Tryz.underlying5 wu) (trodAll_cons_mk (WideElems.Trod_stays Ih EJ row23 h6 (λx hx=>hw.same (c9 x (by simp [hx]))) (λx hx=>hsp x (by simp [hx]))) trodAll_mk0)))))))
  (λ_ _=>rfl) (by simp) hw (ok_one (by kernel_rfl) rfl (okWide_bool_mk Tryz.underlying4 _))⟩
def QM:Tryz.prog.funcNamed Rows.verifyClashRow.func=some 3:=by kernel_rfl
def inst3:Tryz.f3.isInstance Tryz.prog Rows.verifyClashRow.origin Rows.verifyClashRow.targs:=of_decide_eq_true (by kernel_rfl)
def wrap3:Tryz.f3.isWrapper Tryz.prog Rows.verifyClashRow.wrapper Rows.verifyClashRow.mainSum:=by unfold Func.isWrapper;first|(rw[if_pos (by decide+kernel)];kernel_rfl)|(rw[if_neg (by decide+kernel)];exact⟨rfl,rfl⟩)
def Ko:Rows.VerifyClashSaid:=
 OpenClaim.holds_of_wide 3 Tryz.f3 rfl rfl rfl rfl rfl rfl rfl ⟨rfl,rfl,rfl,rfl,rfl⟩ rfl rfl rfl rfl rfl QM Tryz.func3 Y4
  inst3 wrap3
  (λos started H enc _=>lifted os started H enc)
def wf3:Rows.verifyClashRow.wfByText (OpenSpec.ofChange Rows.verifyClashSpec)=true:=by kernel_rfl
def main3:Tryz.pinned.checked.prog.mainIs=some (true, "ed4e1c75a291c0b64f6aa10199c02cbf1bcda0e6dcea7ca88f11bdcfa675f17e".toList):=by kernel_rfl
def Y6:true=Tryz.pinned.checked.prog.looks []:=by kernel_rfl
def Uq{P:Program}(h:P.funcs.any Func.goes=false)(c:OpenClaim)(hs:c.start= .entering):false=c.goesBy P:=by
 have hg:∀f,P.goes f=false:=λf=>by
  unfold Program.goes
  rw[h,Bool.and_false,Bool.or_false, ←Bool.not_eq_true]
  intro hc
  obtain⟨g,_,hg⟩:=List.any_eq_true.1 hc
  cases e:P.funcs[g]? with
  |none=>rw[e] at hg;cases hg
  |some fn=>rw[e] at hg;have:P.funcs.any Func.goes=true:=Array.any_eq_true.2 (by obtain⟨h1,h2⟩:=Array.getElem?_eq_some_iff.1 e;exact⟨g,h1,by rw[h2];exact hg⟩);rw[h] at this;cases this
 unfold OpenClaim.goesBy Program.goesAt Program.goesFrom
 rw[hs]
 cases P.funcNamed c.func with
 |none=>rfl
 |some f=>simp [hg f]
def Kp:Tryz.prog.funcs.any Func.goes=false:=by kernel_rfl
def goes3:false=Rows.verifyClashRow.goesBy Tryz.pinned.checked.prog:=Uq Kp _ rfl
def Y7:([22,3,5,32].all λu=>!Tryz.prog.wantsStandIn u)=true:=by kernel_rfl
theorem card_holds:Rows.VerifyClashCardSaid:=
 Claim7.holds_tied_plain_at .later [] [.data,.data,.data,.sentinel,.sentinel] true (true,_) true
  Ko (λ_ h=>by cases h) wf3 (λ_ h=>by cases h) verifyClash_row_tie rfl ⟨rfl,rfl⟩ main3 rfl
  (λf fn hf hfn=>by
   obtain rfl:f=3:=Option.some.inj (QM.symm.trans hf) |>.symm;obtain rfl:fn=Tryz.f3:=(Option.some.inj (Tryz.func3.symm.trans hfn)).symm;exact⟨Y6,λj t ht=>by
    rw[Tryz.params3] at ht;have hm:t∈ [22,3,5,32]:=by have:=Array.mem_of_getElem? ht;simp at this⊢;omega
    exact(show Tryz.prog.wantsStandIn t=false by simpa using List.all_eq_true.1 Y7 t hm)⟩)
  goes3
#print axioms card_holds
end Go.Proofs.YtomfobckhogpnaaGreatDoor
