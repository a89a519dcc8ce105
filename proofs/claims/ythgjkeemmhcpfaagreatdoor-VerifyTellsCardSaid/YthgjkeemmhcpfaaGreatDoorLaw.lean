/- VerifyTells: for every list of lists of values, places, size, place, byte, entry, list of digests and two digests the law returns true, and its arguments read as before. No condition but the row's own. Names and spaces are cut short by program. -/
import Derived.Test.YthgjkeemmhcpfaaGreatDoorRows
import Derived.Test.YthgjkeemmhcpfaaGreatDoorTie
import Derived.Test.YthgjkeemmhcpfaaGreatDoorCards
import Derived.ProofKit
import Derived.Below
import Derived.ChangeSame
import Derived.ChangeArms
import Derived.ChangeMaps5
import Derived.HandedShaped
import Derived.LaidMore
import Derived.LaidSub
import Derived.Lay
import Derived.OpenShut
import Derived.Carry
import Derived.Stop.Joined
import Derived.SevenTiedAt
import Derived.Test.YthgjkeemmhcpfaaGreatDoorProg
import Derived.KernelRfl
import Derived.Test.YthgjkeemmhcpfaaGreatDoorP21
import Derived.Test.YthgjkeemmhcpfaaGreatDoorP22
import Derived.Test.YthgjkeemmhcpfaaGreatDoorP23
set_option linter.all false
namespace Go.Proofs.YthgjkeemmhcpfaaGreatDoor
set_option maxRecDepth 100000 in
theorem YS:joinedFacts Tryz.prog 3 Tryz.f3 Rows.verifyTellsSpec Rows.verifyTellsRow=true:=by unfold joinedFacts;exact(dN (dN (dN (dN (dN (dN (dN (dN (dN (dN (dN (dN (dN (dN (dN (dN (dN (dN (dN (dN (dN (dN (dN (dN (dN (dN (dN (dN (dN (dN (dN fact0 fact1) fact2) fact3) fact4) fact5) fact6) fact7) fact8) fact9) Yw) Yx) Yy) Yz) YA) YB) YC) YD) YE) YF) YG) YH) YI) YJ) YK) YL) YM) YN) YO) YP) YQ) YR)
set_option maxRecDepth 100000
open Go.ChangeShapes Go.WideShapes Go.ChangeAt Go.RowKit Go.Sym
section
variable{H:Type}{enc:TypeId×Value->H}{P:Program}
def uH{f:Func}{s:ChangeSpec}{apart fresh handsOn vG:Bool}{W W':World}{args:Array Value}{v:Value}{ds gs:List (DataW H)}{before pa pv:List MemPlace}(hW:DataW.Whole enc P f.params.toList s.vars apart W args.toList ds gs before)(ai7:∀(b:Nat) (sp:Nat->Bool) (hd:Bool),DataW.TrodAll enc P W' b sp hd f.resultTypes.toList (v.resultList f.resultTypes.size) (s.fn H (ds++gs)).results [])(m6:∀sp:Nat->Bool,(∀p∈before,sp p.block=true)->DataW.TrodAll enc P W' 0 sp true f.params.toList args.toList (s.fn H (ds++gs)).args pa)(ak4:∀sp:Nat->Bool,(∀p∈before,sp p.block=true)->DataW.TrodVars enc P W' sp s.vars (s.fn H (ds++gs)).vars pv)(uz:before=pa++pv)(hb:Below W.heap.size W W')(hok:∀(j:Nat) (t:TypeId) (r:Value),f.resultTypes[j]? =some t->(v.resultList f.resultTypes.size)[j]? =some r->Value.okWide P W' .any 0 t r):
 s.post enc P f apart fresh handsOn vG W args v W':=by
 have c8:∀p∈before,p.block<W.heap.size:=λp hp=>hW.lt p hp
 have hold:∀p∈before,(λb=>decide (b<W.heap.size)) p.block=true:=λp hp=>by simpa using c8 p hp
 refine⟨ds,gs,before,[],pa,pv,hW,ai7 _ _ _,m6 _ hold,ak4 _ hold,World.keptBut_mono (λp hp=>⟨hp, ?_⟩) (hb.frame (· ∈before)),λ_=>?_⟩
 ·rw[uz,List.mem_append] at hp;exact Or.inr hp
 ·obtain⟨_,_,_,_,_,hz,hn⟩:=hW;refine⟨hok,_,_,([]++pa)++pv,⟨[]++pa,pv,trodAll_append (m6 _ (λ_ _=>rfl)) (ai7 _ _ _),ak4 _ (λ_ _=>rfl),rfl, ?_, ?_⟩, ?_⟩
  ·intro b off hp;have hin:MemPlace.cell b off∈before:=by rw[uz];simpa using hp
   rw[hb.frozen (c8 _ hin)];exact hz b off hin
  ·intro ha;have:=hn ha;rw[uz] at this;simpa using this
  ·intro p hp _;rw[uz];simpa using hp
end
def CH{P:Program}{w:World}:∀{l:List (String×DataW Unit)} {ps:List MemPlace},DataW.LaidVars P w l ps->∀n d,(n,d)∈l->
 ∃g t cs fuel p,P.globalNamed n=some g/\(P.globals[g]?).map (·.type)=some t/\w.var? P n=some cs/\DataW.trod (λ_=>()) P w 0 (λ_=>true) false fuel t cs.toList=some (d,p)
 | [],_,_,_,_,hm=>by cases hm
 |(n,d)::r,ps,⟨g,t,cs,fuel,p,q,h1,h2,h3,h4,hr,_⟩,n',d',hm=>by
  rcases List.mem_cons.1 hm with e|hm
  ·cases e;exact⟨g,t,cs,fuel,p,h1,h2,h3,h4⟩
  ·exact CH hr n' d' hm
def QF{P:Program}{w:World}{n:String}{g:Nat}{cs:Array Value}(hg:P.globalNamed n=some g)(h:w.var? P n=some cs):∃t fr,w.heap[g]? =some (.cells cs t fr):=by
 simp only [World.var?,hg,Option.bind_some] at h;split at h
 ·rename_i c t fr e;injection h with h;subst h;exact⟨t,fr,e⟩
 ·cases h
def dr:List (String×DataW Unit):=Rows.verifyTellsRow.laid
def Uh:(Rows.laid_math_bits_deBruijn64tab:DataW Unit)= .agg (fM.map λn=>.lit (.int .u8 (n:Nat))):=by with_unfolding_all rfl
def EI:(dr.filter λx=>x.2.handleName?.isSome)= []:=by kernel_rfl
def QG{W:World}(h:laidMetH Tryz.prog dr W)(n:String)(d:DataW Unit)(hm:(n,d)∈dr):
 ∃g t cs fuel p,Tryz.prog.globalNamed n=some g/\(Tryz.prog.globals[g]?).map (·.type)=some t/\W.var? Tryz.prog n=some cs/\DataW.trod (λ_=>()) Tryz.prog W 0 (λ_=>true) false fuel t cs.toList=some (d,p):=by
 unfold laidMetH at h
 rw[EI] at h
 obtain⟨ps,hl,_⟩:=h
 exact CH hl n d hm
def YT{H:Type}{enc:TypeId×Value->H}{P:Program}{w:World}{base:Nat}{sp:Nat->Bool}{held:Bool}{fuel:Nat}{t e n:Nat}{cs:List Value}{l:List Nat}{p:List MemPlace}(ht:P.underlying t=some (.array n e))(he:P.underlying e=some (.int .u8))(hc:P.cellsOf e=1)(hl:l.length=n)(h:DataW.trod enc P w base sp held fuel t cs=some (.agg (l.map λn=>.lit (.int .u8 (n:Nat))),p)):cs.length=P.cellsOf t/\∀(i m:Nat),l[i]? =some m->cs[i]? =some (.int .u8 (m:Nat)):=by
 obtain⟨xs,k,_,hx,hlen,hxl,hel⟩:=DataW.trod_array ht h
 simp only [Prod.mk.injEq,DataW.agg.injEq] at hx
 refine⟨hlen,λi m hi=>?_⟩
 have hin:i<n:=by rw[←hl];exact(List.getElem?_eq_some_iff.1 hi).1
 have e1:(xs.map (·.1))[i]? =some (.lit (.int .u8 (m:Nat))):=by rw[←hx.1,aaI,hi];rfl
 rw[aaI,Option.map_eq_some_iff] at e1
 obtain⟨y,hy,hy1⟩:=e1
 have e2:=hel i hin
 rw[hy,hc,aaF] at e2
 obtain⟨q,hk,hyk,_⟩:=DataW.trod_int he e2
 rw[hyk] at hy1
 simp only [DataW.lit.injEq,Lit.int.injEq,true_and] at hy1
 subst hy1
 have e3:((cs.drop i).take 1)[0]? =some (.int .u8 (m:Nat)):=by rw[hk];rfl
 rw[aar (by decide),aat] at e3
 simpa using e3
def iy:Tryz.prog.cellsOf 373=64:=by kernel_rfl
def Ui:Tryz.prog.cellsOf 5=1:=by kernel_rfl
def Uj:("math/bits.deBruijn64tab",(Rows.laid_math_bits_deBruijn64tab:DataW Unit))∈dr:=abf (i:=1) (by kernel_rfl)
def QH{W:World}(h:laidMetH Tryz.prog dr W):∃cs fuel p,W.var? Tryz.prog "math/bits.deBruijn64tab" =some cs/\DataW.trod (λ_=>()) Tryz.prog W 0 (λ_=>true) false fuel 373 cs.toList=some ((Rows.laid_math_bits_deBruijn64tab:DataW Unit),p):=by obtain⟨g,t,cs,fuel,p,hg,ht,hv,hd⟩:=QG h _ _ Uj;obtain rfl:=Option.some.inj ((show Tryz.prog.globalNamed "math/bits.deBruijn64tab" =some 2 by kernel_rfl).symm.trans hg);obtain rfl:=Option.some.inj ((show(Tryz.prog.globals[2]?).map (·.type)=some 373 by kernel_rfl).symm.trans ht);exact⟨cs,fuel,p,hv,hd⟩
def zz:fM.length=64:=by kernel_rfl
def Kj{W:World}(h:laidMetH Tryz.prog dr W):∃cs fuel p,W.var? Tryz.prog "math/bits.deBruijn64tab" =some cs/\DataW.trod (λ_=>()) Tryz.prog W 0 (λ_=>true) false fuel 373 cs.toList=some ((.agg (fM.map λn=>.lit (.int .u8 (n:Nat))):DataW Unit),p):=by
 have:=QH h
 rwa [Uh] at this
def Kk{W:World}(h:laidMetH Tryz.prog dr W):∃cs t fr,W.heap[2]? =some (.cells cs t fr)/\cs.size=64/\∀(i n:Nat),fM[i]? =some n->cs[i]? =some (.int .u8 (n:Nat)):=by obtain⟨cs,fuel,p,hv,hd⟩:=Kj h;obtain⟨bt,fr,hh⟩:=QF (show Tryz.prog.globalNamed "math/bits.deBruijn64tab" =some 2 by kernel_rfl) hv;obtain⟨hlen,ad6⟩:=YT Tryz.underlying373 Tryz.underlying5 Ui zz hd;rw[iy] at hlen;exact⟨cs,bt,fr,hh,by rw[←hlen,aaJ],λi n hi=>by rw[←aaW];exact ad6 i n hi⟩
def Uk:(((begin Tryz.prog (λ_ _=>0) default).world.heap[2]?).bind Obj.row?)=some (Array.replicate 64 (.int .u8 0),373):=by kernel_rfl
def QI:2<Tryz.prog.globals.size:=of_decide_eq_true (by kernel_rfl)
def Kl{W:World}(h:laidMetH Tryz.prog dr W)(hs:W.ShapedOpen Tryz.prog):Go.Sym.Good W (fw W) (addTab lk (.leaf:T ABlk)) W:=by
 obtain⟨cs,t,fr,h1,h2,h3⟩:=Kk h;obtain⟨cs',e1,_,_⟩:=hs.1 _ _ _ QI Uk;rw[h1] at e1;injection e1 with e1;injection e1 with e1 e2 e3;subst e2;have ea:cs=(fM.map λn=>Value.int .u8 (Int.ofNat n)).toArray:=by
  refine Array.ext (by rw[h2,List.size_toArray,aaK,zz]) λi hi _=>?_;have hi':i<fM.length:=by rw[zz];omega
  have:=h3 i fM[i] (aai hi');rw[aaM hi] at this;injection this with this;rw[this];simp only [List.getElem_toArray,abF];rfl
 refine ZS W (λb x hx=>?_) λb k I l hx=>?_
 ·by_cases hb:b=2
  ·subst hb;rw[show(addTab lk (.leaf:T ABlk)).get 2=some (.tab 373 fM) from T.get_set_same _ _ _ (by decide)] at hx;injection hx with hx;subst hx;refine⟨by decide, ?_⟩;rw[←ea];exact Ba h1
  ·rw[show(addTab lk (.leaf:T ABlk)).get b=(T.leaf:T ABlk).get b from T.get_set_ne _ hb _] at hx;simp [T.get] at hx
 ·by_cases hb:b=2
  ·subst hb;rw[show(addTab lk (.leaf:T ABlk)).get 2=some (.tab 373 fM) from T.get_set_same _ _ _ (by decide)] at hx;cases hx
  ·rw[show(addTab lk (.leaf:T ABlk)).get b=(T.leaf:T ABlk).get b from T.get_set_ne _ hb _] at hx;simp [T.get] at hx
def Ul{P:Program}{f:Nat}{S:FSpec}{zf:Zf S}(h:kV P f S zf){z:Sy}(hz:S.pre z)(hr:S.res z= .one (.c (.b 50)))(ho:S.out z= [])(hbk:S.blk= [])(hp:∀y,S.post z y->y.p 50){w:World}{ρ:Rho}{vs:List Value}(hG:Go.Sym.Good w ρ (S.heap z) w)(hl:LR ρ (S.argsA z) vs)(i5:∀x,¬ρ.own x):
 Calls P f vs.toArray w λe w'=>e= .returned (.bool true)/\Below w.heap.size w w':=by
 obtain⟨_,hc⟩:=h z hz w ρ vs hG hl
 refine(callsIn_wide.1 hc).mono λe w' ⟨v,ρ',H',a,s,he,j7,hle,hv,ac0,hpr,hy⟩=>?_
 subst he
 rw[hr,ho,hbk] at ac0
 have ac0:fg 0 H' (.one (.c (.b 50))) [] a=some s:=ac0
 have hq:∃q,dO a=some q/\s.tm= [(50,.p q)]:=by
  cases e:dO a with
  |none=>
   have e2:fg 0 H' (.one (.c (.b 50))) [] a=none:=by show bC (match dO a with|some q=>PS.add kj 50 (.p q)|none=>none) _=_;rw[e];rfl
   rw[e2] at ac0;cases ac0
  |some q=>
   have e2:fg 0 H' (.one (.c (.b 50))) [] a=some ⟨[(50,.p q)],[],[],True,[]⟩:=by show bC (match dO a with|some q=>PS.add kj 50 (.p q)|none=>none) _=_;rw[e];rfl
   rw[e2] at ac0;injection ac0 with ac0;exact⟨q,rfl,by rw[←ac0]⟩
 obtain⟨q,h1,h2⟩:=hq
 obtain⟨b,rfl,hb⟩:=eP hv h1
 have h3:=hp _ ((zf z).2 hz)
 rw[hy,h2] at h3
 have h4:b=true:=hb.2 h3
 subst h4
 exact⟨rfl,j7.below.below λx=>by rw[hle.own];exact i5 x⟩
def QJ{W:World}(hL:laidMetH Tryz.prog dr W)(hs:W.ShapedOpen Tryz.prog){v0:Value}{l:List G}(r0:VR (fw W) (.cv (.rows 13 l)) v0)(q0:∀r∈l,VL r)(l0:l.length<=1125899906842624){a b c d by':Int}(hd: -9223372036854775808<=d/\d<9223372036854775808){kd:Int}{tx:List Nat}{tb dc vr:Int}{g:G}{f:Nat->Int}{gn:Prop}{ab ae:Int}{cs:Array Value}(re:LR (fw W) (eCs kd tx tb dc vr g f gn ab ae) cs.toList)(htx:tx.length<=1125899906842624)(ht8:B8 tx)(h2: -9223372036854775808<=tb/\tb<9223372036854775808)(h3: -9223372036854775808<=dc/\dc<9223372036854775808)(h4: -9223372036854775808<=vr/\vr<9223372036854775808)(h5: -9223372036854775808<=ab/\ab<9223372036854775808)(h6: -9223372036854775808<=ae/\ae<9223372036854775808)(hg:VQ g)(hf:∀j,j<32->0<=f j/\f j<256){v7:Value}{p:List G}(r7:VR (fw W) (.cv (.rows 6 p)) v7)(q7:RowsOk p)(l7:p.length<=1125899906842624){na nb:Int}{fa fb:Nat->Int}{ca cb:Array Value}(ra:LR (fw W) ([.sI .i64 na]++(List.range 32).map λj=>.sI .u8 (fa j)) ca.toList)(hfa:∀j,j<32->0<=fa j/\fa j<256)(rb:LR (fw W) ([.sI .i64 nb]++(List.range 32).map λj=>.sI .u8 (fb j)) cb.toList)(hfb:∀j,j<32->0<=fb j/\fb j<256):
 Calls Tryz.prog 3 #[v0,.int .i64 a,.int .i64 b,.int .i64 c,.int .i64 d,.int .u8 by',.agg cs,v7,.agg ca,.agg cb] W λe W'=>e= .returned (.bool true)/\Below W.heap.size W W':=by
 obtain⟨zf,h⟩:=Ue
 obtain⟨n1,n2⟩:=Kg q0
 have hv:QT 1002 (gI (aa g 1)) (gS (aa g 3)) (gL (aa g 4)) (gL (aa g 5)):=by rw[yY];exact hg.2 1002
 have x6:VR (fw W) (.agg (ki bH (zT l p a b c d by' kd tx tb dc vr g f fa fb gn ab ae na nb) enD)) (.agg cs):=by rw[zT_e];obtain⟨x,y⟩:=LR.arr re;exact .agg _ _ x y
 have x8:VR (fw W) (.agg (ki bH (zT l p a b c d by' kd tx tb dc vr g f fa fb gn ab ae na nb) (dg 208 2300))) (.agg ca):=by rw[zT_a];obtain⟨x,y⟩:=LR.arr ra;exact .agg _ _ x y
 have x9:VR (fw W) (.agg (ki bH (zT l p a b c d by' kd tx tb dc vr g f fa fb gn ab ae na nb) (dg 209 2400))) (.agg cb):=by rw[zT_b];obtain⟨x,y⟩:=LR.arr rb;exact .agg _ _ x y
 exact Ul (vs:=[v0,.int .i64 a,.int .i64 b,.int .i64 c,.int .i64 d,.int .u8 by',.agg cs,v7,.agg ca,.agg cb]) (z:=zT l p a b c d by' kd tx tb dc vr g f fa fb gn ab ae na nb) h
  ⟨⟨n1,n2,l0⟩,hd,⟨htx,ht8⟩,h2,h3,h4,h5,h6,hv,zT_h (h:=hf) ..,q7,zT_ha (h:=hfa) ..,zT_hb (h:=hfb) ..⟩ rfl rfl rfl (λ_ hy=>hy) (Kl hL hs) (LR.cons r0 (LR.cons (.sI .i64 a) (LR.cons (.sI .i64 b) (LR.cons (.sI .i64 c) (LR.cons (.sI .i64 d) (LR.cons (.sI .u8 by') (LR.cons x6 (LR.cons r7 (LR.cons x8 (LR.cons x9 (LR.nil _))))))))))) (λ_ h=>h)
def own:ownKnob Tryz.prog.godebug=none:=by kernel_rfl
def QK(os:Os)(args:Array Value):laidMetH Tryz.prog dr ((World.doorLaid Tryz.prog 62 os).forCall (λ_ _=>0) ⟨#[],args,[]⟩).memory:=
 laidMetH_of_parts3 (fuel:=8) (laidMet_of_run' 8 (by kernel_rfl) (by kernel_rfl)) (by kernel_rfl) (by kernel_rfl)
def oQ:laidOutB Tryz.prog=true:=by kernel_rfl
def EJ:Tryz.prog.readableRec 22=true:=by kernel_rfl
def EK:Tryz.prog.readableRec 32=true:=by kernel_rfl
def EL:Tryz.prog.readableRec 33=true:=by kernel_rfl
def ug:Tryz.prog.readableRec 35=true:=by kernel_rfl
def row22:22<Tryz.prog.types.size:=of_decide_eq_true (by kernel_rfl)
def row23:32<Tryz.prog.types.size:=of_decide_eq_true (by kernel_rfl)
def row24:33<Tryz.prog.types.size:=of_decide_eq_true (by kernel_rfl)
def V4:35<Tryz.prog.types.size:=of_decide_eq_true (by kernel_rfl)
def EM{H:Type}{enc:TypeId×Value->H}{a:Assume}{C:Checked}{os:Os}{f:FuncId}{fn:Func}{s:ChangeSpec}{conds:List PathCond}{apart fresh handsOn vG:Bool}{X:World->Array Value->Prop}(hX:∀(w w':World) (args:Array Value),w.heap=w'.heap->X w args->X w' args)(own:ownKnob C.prog.godebug=none)(started:os.Started)(noInit:C.prog.inits.idxOf? f=none)(hfn:C.prog.funcs[f]? =some fn)(witness:∃(w:World) (tape:Tape) (i:Input),w.os=os/\(w.forCall tape i).Shaped C.prog/\i.vars= []/\Input.okWide C.prog (w.forCall tape i) .any w.heap.size f i/\
  ((s.pre enc C.prog fn conds apart (w.forCall tape i).memory i.args/\X (w.forCall tape i).memory i.args)/\sizedMet enc C.prog fn (OpenSpec.ofChange s) apart (w.forCall tape i).memory i.args)/\a.holds C.prog (lone (Frame.enter C.prog f i.args .normal) [] (w.forCall tape i)))(contract:∀(W:World) (base:Nat) (args:Array Value) (ds gs:List (DataW H)) (before:List MemPlace),
  (∀(j:Nat) t v,fn.params[j]? =some t->args[j]? =some v->Value.okWide C.prog W .any base t v)->
  DataW.Whole enc C.prog fn.params.toList s.vars apart W args.toList ds gs before->
  (DataW.weightsEach C.prog (fn.params.toList++s.plain.varTypes C.prog) (ds++gs)).all (· <=reachBytes)=true->X W args->W.ShapedOpen C.prog->
  Calls C.prog f args W λe W'=>∃v,e= .returned v/\s.post enc C.prog fn apart fresh handsOn vG W args v W'):
 ReturnsInHanded a C os f .any (λw args=>(s.pre enc C.prog fn conds apart w args/\X w args)/\sizedMet enc C.prog fn (OpenSpec.ofChange s) apart w args) (s.post enc C.prog fn apart fresh handsOn vG):=by
 refine returnsInHanded_of_calls own started noInit witness ?_
 intro w tape i _ hsh _ hok ac4 _
 obtain⟨_,_,_,fn',at4,_,_,_,_,ab7⟩:=hok
 have e:fn'=fn:=Option.some.inj (at4.symm.trans hfn)
 subst e
 obtain⟨⟨⟨ds,gs,before,hw,_⟩,hx⟩,hz⟩:=ac4
 refine(contract (w.forCall tape i) w.heap.size i.args ds gs before ab7 (DataW.Whole.of_heap (w':=w.forCall tape i) (by rfl) hw) (hz.weights hw) (hX _ _ _ (by rfl) hx) hsh).mono λe W' ⟨v,he,hp⟩=>?_
 subst he
 exact ChangeSpec.post_blind hp
def eZ:Value:=.agg (#[.int .i64 0,.string ⟨#[]⟩,.int .i64 0,.int .i64 0,.int .i64 0,.int .i64 0,.int .i64 0,.int .i64 0,.string ⟨#[]⟩,.slice none 0 0,.slice none 0 0]++ .replicate 32 (.int .u8 0)++ #[.bool false,.int .i64 0,.int .i64 0])
def dZ:Value:=.agg (#[.int .i64 0]++ .replicate 32 (.int .u8 0))
def lifted(os:Os)(started:os.Started)(H:Type)(enc:TypeId×Value->H):
 ReturnsInHanded {} Tryz.checked os 3 .any (λw args=>(Rows.verifyTellsSpec.pre enc Tryz.prog Tryz.f3 [] false w args/\laidMetH Tryz.prog dr w)/\sizedMet enc Tryz.prog Tryz.f3 (OpenSpec.ofChange Rows.verifyTellsSpec) false w args)
  (Rows.verifyTellsSpec.post enc Tryz.prog Tryz.f3 false true false false):=by
 refine EM (C:=Tryz.checked) (X:=λw _=>laidMetH Tryz.prog dr w) (λ_ _ _ hh h=>h.of_heap hh) own started (by kernel_rfl) Tryz.func3
  (ChangeSpec.witness_shaped (enc:=enc) (C:=Tryz.checked) (os:=os) (X:=λw _=>laidMetH Tryz.prog dr w) false (World.doorLaid Tryz.prog 62 os) #[.slice none 0 0,.int .i64 0,.int .i64 0,.int .i64 0,.int .i64 0,.int .u8 0,eZ,.slice none 0 0,dZ,dZ] 8 rfl (World.shaped_of_RefB (by kernel_rfl) (by kernel_rfl)) (by kernel_rfl) (by kernel_rfl) (by kernel_rfl) (QK os _)) ?_
 intro W base args ds gs before ak5 hW hz hL hsh
 have ab7:∀(j:Nat) t v,Tryz.f3.params[j]? =some t->args[j]? =some v->Value.okWide Tryz.prog W .any base t v:=ak5
 have hW':=hW
 obtain⟨p,q,hA0,hV,rfl,hfz,hnd⟩:=hW
 have hA:DataW.TrodAll enc Tryz.prog W 0 (λ_=>true) true Tryz.f3.params.toList args.toList ds p:=hA0
 rw[Tryz.params3] at hA ab7
 obtain⟨v0,w0,d0,x0,p0,y0,e0,rfl,rfl,h0,r0⟩:=trodAll_cons hA
 obtain⟨v1,w1,d1,x1,p1,y1,rfl,rfl,rfl,h1,r1⟩:=trodAll_cons r0
 obtain⟨v2,w2,d2,x2,p2,y2,rfl,rfl,rfl,h2,r2⟩:=trodAll_cons r1
 obtain⟨v3,w3,d3,x3,p3,y3,rfl,rfl,rfl,h3,r3⟩:=trodAll_cons r2
 obtain⟨v4,w4,d4,x4,p4,y4,rfl,rfl,rfl,h4,r4⟩:=trodAll_cons r3
 obtain⟨v5,w5,d5,x5,p5,y5,rfl,rfl,rfl,h5,r5⟩:=trodAll_cons r4
 obtain⟨v6,w6,d6,x6,p6,y6,rfl,rfl,rfl,h6,r6⟩:=trodAll_cons r5
 obtain⟨v7,w7,d7,x7,p7,y7,rfl,rfl,rfl,h7,r7⟩:=trodAll_cons r6
 obtain⟨v8,w8,d8,x8,p8,y8,rfl,rfl,rfl,h8,r8⟩:=trodAll_cons r7
 obtain⟨v9,w9,d9,x9,p9,y9,rfl,rfl,rfl,h9,r9⟩:=trodAll_cons r8
 obtain⟨rfl,rfl,rfl⟩:=trodAll_nil r9
 obtain rfl:args= #[v0,v1,v2,v3,v4,v5,v6,v7,v8,v9]:=Array.ext' e0
 clear e0
 obtain⟨rfl,rfl⟩:=trodVars_none hV
 obtain⟨a,rfl,rfl,rfl,wa⟩:=open_int Tryz.underlying3 (ab7 1 3 v1 rfl rfl) h1
 obtain⟨b,rfl,rfl,rfl,wb⟩:=open_int Tryz.underlying3 (ab7 2 3 v2 rfl rfl) h2
 obtain⟨c,rfl,rfl,rfl,wc⟩:=open_int Tryz.underlying3 (ab7 3 3 v3 rfl rfl) h3
 obtain⟨d,rfl,rfl,rfl,wd⟩:=open_int Tryz.underlying3 (ab7 4 3 v4 rfl rfl) h4
 obtain⟨u,rfl,rfl,rfl,wu⟩:=open_int Tryz.underlying5 (ab7 5 5 v5 rfl rfl) h5
 have hwe:∀k∈DataW.weightsEach Tryz.prog [22,3,3,3,3,5,32,33,35,35] [d0,.lit (.int .i64 a),.lit (.int .i64 b),.lit (.int .i64 c),.lit (.int .i64 d),.lit (.int .u8 u),d6,d7,d8,d9],k<=1125899906842624:=λk hk=>by have:=List.all_eq_true.1 hz k (by rw[Tryz.params3];exact hk);have:=of_decide_eq_true this;exact aaH this (by decide)
 obtain⟨n0,t0⟩:=h0
 obtain⟨v0',l,e0,r0,q0,l0⟩:=QA (λ_=>rfl) t0 (dm hwe 0 _ _ rfl rfl)
 have h0:DataW.Trod enc Tryz.prog W 0 (λ_=>true) true 22 v0 d0 p0:=⟨n0,t0⟩
 obtain⟨cs,hv6,hc6⟩:=okWide_struct Tryz.underlying32 (ab7 6 _ v6 rfl rfl)
 subst hv6
 obtain⟨n6,t6⟩:=h6
 obtain⟨kd,tx,tb,dc,vr,g,f,gn,ab,ae,re,g1,g2,g3,g4,g5,g6,g7,g8,g9⟩:=QD (λ_=>rfl) t6 (dm hwe 6 _ _ rfl rfl)
 have h6:DataW.Trod enc Tryz.prog W 0 (λ_=>true) true 32 (.agg cs) d6 p6:=⟨n6,t6⟩
 obtain⟨n7,t7⟩:=h7
 obtain⟨v7',lp,e7,r7,q7,l7⟩:=Ki (λ_=>rfl) t7 (dm hwe 7 _ _ rfl rfl)
 have h7:DataW.Trod enc Tryz.prog W 0 (λ_=>true) true 33 v7 d7 p7:=⟨n7,t7⟩
 obtain⟨ca,Y2,hc8⟩:=okWide_struct Tryz.underlying35 (ab7 8 _ v8 rfl rfl)
 subst Y2
 obtain⟨n8,t8⟩:=h8
 obtain⟨na,fa,ra,hfa⟩:=wU t8
 have h8:DataW.Trod enc Tryz.prog W 0 (λ_=>true) true 35 (.agg ca) d8 p8:=⟨n8,t8⟩
 obtain⟨cb,Y3,hc9⟩:=okWide_struct Tryz.underlying35 (ab7 9 _ v9 rfl rfl)
 subst Y3
 obtain⟨n9,t9⟩:=h9
 obtain⟨nb,fb,rb,hfb⟩:=wU t9
 have h9:DataW.Trod enc Tryz.prog W 0 (λ_=>true) true 35 (.agg cb) d9 p9:=⟨n9,t9⟩
 have c7:v7=v7':=by obtain⟨x,y,z,rfl⟩:=okWide_slice Tryz.underlying33 (ab7 7 _ v7 rfl rfl);have e7: [Value.slice x y z]= [v7']:=e7;injection e7
 subst c7
 have c0:v0=v0':=by obtain⟨x,y,z,rfl⟩:=okWide_slice Tryz.underlying22 (ab7 0 _ v0 rfl rfl);have e0: [Value.slice x y z]= [v0']:=e0;injection e0
 subst c0
 clear hA0 ak5
 have c8:∀x∈p0++([]++([]++([]++([]++([]++(p6++(p7++(p8++(p9++ []))))))))),x.block<W.heap.size:=λx hx=>hW'.lt x (by simpa using hx)
 refine(QJ (a:=a) (b:=b) (c:=c) (by':=u) hL hsh r0 q0 l0 (EG wd) re g1 g2 g3 g4 g5 g6 g7 g8 g9 r7 q7 l7 ra hfa rb hfb).mono λe W' ⟨he,hw⟩=>?_
 subst he
 exact⟨_,rfl,uH (pa:=p0++([]++([]++([]++([]++([]++(p6++(p7++(p8++(p9++ [])))))))))) (pv:=[]) hW' (λ_ _ _=>trodAll_mk1 (shut_bool Tryz.underlying4 _))
  (λsp hsp=>trodAll_cons_mk (WideElems.Trod_stays oQ EJ row22 h0 (λx hx=>hw.same (c8 x (by simp [hx]))) (λx hx=>hsp x (by simp [hx]))) (trodAll_cons_mk (shut_int Tryz.underlying3 wa) (trodAll_cons_mk (shut_int Tryz.underlying3 wb) (trodAll_cons_mk (shut_int Tryz.underlying3 wc) (trodAll_cons_mk (shut_int Tryz.underlying3 wd) (trodAll_cons_mk (shut_int Tryz.underlying5 wu) (trodAll_cons_mk (WideElems.Trod_stays oQ EK row23 h6 (λx hx=>hw.same (c8 x (by simp [hx]))) (λx hx=>hsp x (by simp [hx]))) (trodAll_cons_mk (WideElems.Trod_stays oQ EL row24 h7 (λx hx=>hw.same (c8 x (by simp [hx]))) (λx hx=>hsp x (by simp [hx]))) (trodAll_cons_mk (WideElems.Trod_stays oQ ug V4 h8 (λx hx=>hw.same (c8 x (by simp [hx]))) (λx hx=>hsp x (by simp [hx]))) (trodAll_cons_mk (WideElems.Trod_stays oQ ug V4 h9 (λx hx=>hw.same (c8 x (by simp [hx]))) (λx hx=>hsp x (by simp [hx]))) trodAll_mk0))))))))))
  (λ_ _=>rfl) (by simp) hw (ok_one (by kernel_rfl) rfl (okWide_bool_mk Tryz.underlying4 _))⟩
def QL:Tryz.prog.funcNamed Rows.verifyTellsRow.func=some 3:=by kernel_rfl
def inst3:Tryz.f3.isInstance Tryz.prog Rows.verifyTellsRow.origin Rows.verifyTellsRow.targs:=of_decide_eq_true (by kernel_rfl)
def wrap3:Tryz.f3.isWrapper Tryz.prog Rows.verifyTellsRow.wrapper Rows.verifyTellsRow.mainSum:=by unfold Func.isWrapper;first|(rw[if_pos (by decide+kernel)];kernel_rfl)|(rw[if_neg (by decide+kernel)];exact⟨rfl,rfl⟩)
def Km:Rows.VerifyTellsSaid:=
 OpenClaim.holds_of_wide 3 Tryz.f3 rfl rfl rfl rfl rfl rfl rfl ⟨rfl,rfl,rfl,rfl,rfl⟩ rfl rfl rfl rfl rfl QL Tryz.func3 YS
  inst3 wrap3
  (λos started H enc _=>lifted os started H enc)
def wf3:Rows.verifyTellsRow.wfByText (OpenSpec.ofChange Rows.verifyTellsSpec)=true:=by kernel_rfl
def main3:Tryz.pinned.checked.prog.mainIs=some (true, "44bf76c18a0b47d1433629c453757596a9a951379c33fe748d0b2f55f23885c2".toList):=by kernel_rfl
def YU:true=Tryz.pinned.checked.prog.looks []:=by kernel_rfl
def Um{P:Program}(h:P.funcs.any Func.goes=false)(c:OpenClaim)(hs:c.start= .entering):false=c.goesBy P:=by
 have hg:∀f,P.goes f=false:=λf=>by
  unfold Program.goes
  rw[h,Bool.and_false,Bool.or_false, ←Bool.not_eq_true]
  intro hc
  obtain⟨g,_,hg⟩:=List.any_eq_true.1 hc
  cases e:P.funcs[g]? with
  |none=>rw[e] at hg;cases hg
  |some fn=>rw[e] at hg;have:P.funcs.any Func.goes=true:=Array.any_eq_true.2 (by obtain⟨h1,h2⟩:=Array.getElem?_eq_some_iff.1 e;exact⟨g,h1,by rw[h2];exact hg⟩);rw[h] at this;cases this
 unfold OpenClaim.goesBy Program.goesAt Program.goesFrom
 rw[hs]
 cases P.funcNamed c.func with
 |none=>rfl
 |some f=>simp [hg f]
def Kn:Tryz.prog.funcs.any Func.goes=false:=by kernel_rfl
def goes3:false=Rows.verifyTellsRow.goesBy Tryz.pinned.checked.prog:=Um Kn _ rfl
def YV:([22,3,5,32,33,35].all λu=>!Tryz.prog.wantsStandIn u)=true:=by kernel_rfl
theorem card_holds:Rows.VerifyTellsCardSaid:=
 Claim7.holds_tied_plain_at .later [] [.data,.data,.data,.sentinel,.sentinel] true (true,_) true
  Km (λ_ h=>by cases h) wf3 (λ_ h=>by cases h) verifyTells_row_tie rfl ⟨rfl,rfl⟩ main3 rfl
  (λf fn hf hfn=>by
   obtain rfl:f=3:=Option.some.inj (QL.symm.trans hf) |>.symm;obtain rfl:fn=Tryz.f3:=(Option.some.inj (Tryz.func3.symm.trans hfn)).symm;exact⟨YU,λj t ht=>by
    rw[Tryz.params3] at ht;have hm:t∈ [22,3,5,32,33,35]:=by have:=Array.mem_of_getElem? ht;simp at this⊢;omega
    exact(show Tryz.prog.wantsStandIn t=false by simpa using List.all_eq_true.1 YV t hm)⟩)
  goes3
#print axioms card_holds
end Go.Proofs.YthgjkeemmhcpfaaGreatDoor
