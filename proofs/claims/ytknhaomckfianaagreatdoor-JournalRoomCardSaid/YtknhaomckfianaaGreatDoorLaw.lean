/- JournalRoom: for every room and every two values the law returns true, and its arguments read as before. No condition but the row's own. Names and spaces are cut short by program. -/
import Derived.Test.YtknhaomckfianaaGreatDoorRows
import Derived.Test.YtknhaomckfianaaGreatDoorTie
import Derived.Test.YtknhaomckfianaaGreatDoorCards
import Derived.ProofKit
import Derived.Below
import Derived.ChangeSame
import Derived.ChangeArms
import Derived.ChangeMaps5
import Derived.HandedShaped
import Derived.LaidMore
import Derived.LaidSub
import Derived.Lay
import Derived.OpenShut
import Derived.Carry
import Derived.Stop.Joined
import Derived.SevenTiedAt
import Derived.Test.YtknhaomckfianaaGreatDoorProg
import Derived.KernelRfl
import Derived.Test.YtknhaomckfianaaGreatDoorP22
import Derived.Test.YtknhaomckfianaaGreatDoorP23
import Derived.Test.YtknhaomckfianaaGreatDoorP24
set_option linter.all false
namespace Go.Proofs.YtknhaomckfianaaGreatDoor
set_option maxRecDepth 100000 in
theorem RP:joinedFacts Tryz.prog 3 Tryz.f3 Rows.journalRoomSpec Rows.journalRoomRow=true:=by unfold joinedFacts;exact(cR (cR (cR (cR (cR (cR (cR (cR (cR (cR (cR (cR (cR (cR (cR (cR (cR (cR (cR (cR (cR (cR (cR (cR (cR (cR (cR (cR (cR (cR (cR Ue Uf) Ug) Uh) Ui) Uj) Uk) Ul) Um) Un) Rt) Ru) Rv) Rw) Rx) Ry) Rz) RA) RB) RC) RD) RE) RF) RG) RH) RI) RJ) RK) RL) RM) RN) RO)
set_option maxRecDepth 100000
open Go.ChangeShapes Go.WideShapes Go.ChangeAt Go.RowKit Go.Sym
section
variable{H:Type}{enc:TypeId×Value->H}{P:Program}
def rG{f:Func}{s:ChangeSpec}{apart fresh handsOn sD:Bool}{W W':World}{args:Array Value}{v:Value}{ds gs:List (DataW H)}{before pa pv:List MemPlace}(hW:DataW.Whole enc P f.params.toList s.vars apart W args.toList ds gs before)(ZM:∀(b:Nat) (sp:Nat->Bool) (hd:Bool),DataW.TrodAll enc P W' b sp hd f.resultTypes.toList (v.resultList f.resultTypes.size) (s.fn H (ds++gs)).results [])(i7:∀sp:Nat->Bool,(∀p∈before,sp p.block=true)->DataW.TrodAll enc P W' 0 sp true f.params.toList args.toList (s.fn H (ds++gs)).args pa)(ab8:∀sp:Nat->Bool,(∀p∈before,sp p.block=true)->DataW.TrodVars enc P W' sp s.vars (s.fn H (ds++gs)).vars pv)(F0:before=pa++pv)(hb:Below W.heap.size W W')(Y4:∀(j:Nat) (t:TypeId) (r:Value),f.resultTypes[j]? =some t->(v.resultList f.resultTypes.size)[j]? =some r->Value.okWide P W' .any 0 t r):
 s.post enc P f apart fresh handsOn sD W args v W':=by
 have c8:∀p∈before,p.block<W.heap.size:=λp hp=>hW.lt p hp
 have hold:∀p∈before,(λb=>decide (b<W.heap.size)) p.block=true:=λp hp=>by simpa using c8 p hp
 refine⟨ds,gs,before,[],pa,pv,hW,ZM _ _ _,i7 _ hold,ab8 _ hold,World.keptBut_mono (λp hp=>⟨hp, ?_⟩) (hb.frame (· ∈before)),λ_=>?_⟩
 ·rw[F0,List.mem_append] at hp;exact Or.inr hp
 ·obtain⟨_,_,_,_,_,hz,hn⟩:=hW;refine⟨Y4,_,_,([]++pa)++pv,⟨[]++pa,pv,trodAll_append (i7 _ (λ_ _=>rfl)) (ZM _ _ _),ab8 _ (λ_ _=>rfl),rfl, ?_, ?_⟩, ?_⟩
  ·intro b off hp;have M':MemPlace.cell b off∈before:=by rw[F0];simpa using hp
   rw[hb.frozen (c8 _ M')];exact hz b off M'
  ·intro ha;have:=hn ha;rw[F0] at this;simpa using this
  ·intro p hp _;rw[F0];simpa using hp
end
def yU{P:Program}{w:World}:∀{l:List (String×DataW Unit)} {ps:List MemPlace},DataW.LaidVars P w l ps->∀n d,(n,d)∈l->
 ∃g t cs fuel p,P.globalNamed n=some g/\(P.globals[g]?).map (·.type)=some t/\w.var? P n=some cs/\DataW.trod (λ_=>()) P w 0 (λ_=>true) false fuel t cs.toList=some (d,p)
 | [],_,_,_,_,hm=>by cases hm
 |(n,d)::r,ps,⟨g,t,cs,fuel,p,q,h1,h2,h3,h4,hr,_⟩,n',d',hm=>by
  rcases List.mem_cons.1 hm with e|hm
  ·cases e;exact⟨g,t,cs,fuel,p,h1,h2,h3,h4⟩
  ·exact yU hr n' d' hm
def yV{P:Program}{w:World}{n:String}{g:Nat}{cs:Array Value}(hg:P.globalNamed n=some g)(h:w.var? P n=some cs):∃t fr,w.heap[g]? =some (.cells cs t fr):=by
 simp only [World.var?,hg,Option.bind_some] at h;split at h
 ·rename_i c t fr e;injection h with h;subst h;exact⟨t,fr,e⟩
 ·cases h
def bK:List (String×DataW Unit):=Rows.journalRoomRow.laid
def NU:(Rows.laid_math_bits_deBruijn64tab:DataW Unit)= .agg (eI.map λn=>.lit (.int .u8 (n:Nat))):=by with_unfolding_all rfl
def Bd:(bK.filter λx=>x.2.handleName?.isSome)= []:=by kernel_rfl
def yW{W:World}(h:laidMetH Tryz.prog bK W)(n:String)(d:DataW Unit)(hm:(n,d)∈bK):
 ∃g t cs fuel p,Tryz.prog.globalNamed n=some g/\(Tryz.prog.globals[g]?).map (·.type)=some t/\W.var? Tryz.prog n=some cs/\DataW.trod (λ_=>()) Tryz.prog W 0 (λ_=>true) false fuel t cs.toList=some (d,p):=by
 unfold laidMetH at h
 rw[Bd] at h
 obtain⟨ps,hl,_⟩:=h
 exact yU hl n d hm
def FK{H:Type}{enc:TypeId×Value->H}{P:Program}{w:World}{base:Nat}{sp:Nat->Bool}{fuel:Nat}{t:TypeId}{ms:Array (String×TypeId)}{cs:List Value}{x:DataW H×List MemPlace}(ht:P.underlying t=some (.interface ms))(h:DataW.trod enc P w base sp false fuel t cs=some x):∃v,cs= [v]/\v.oneCell'=true:=by
 cases fuel with
 |zero=>simp [DataW.trod] at h
 |succ n=>
  unfold DataW.trod at h
  rw[ht] at h
  split at h <;> simp_all [Value.oneCell']
def RQ{H:Type}{enc:TypeId×Value->H}{P:Program}{w:World}{base:Nat}{sp:Nat->Bool}{held:Bool}{fuel:Nat}{t e n:Nat}{cs:List Value}{l:List Nat}{p:List MemPlace}(ht:P.underlying t=some (.array n e))(he:P.underlying e=some (.int .u8))(hc:P.cellsOf e=1)(hl:l.length=n)(h:DataW.trod enc P w base sp held fuel t cs=some (.agg (l.map λn=>.lit (.int .u8 (n:Nat))),p)):cs.length=P.cellsOf t/\∀(i m:Nat),l[i]? =some m->cs[i]? =some (.int .u8 (m:Nat)):=by
 obtain⟨xs,k,_,hx,hlen,hxl,Zt⟩:=DataW.trod_array ht h
 simp only [Prod.mk.injEq,DataW.agg.injEq] at hx
 refine⟨hlen,λi m hi=>?_⟩
 have M':i<n:=by rw[←hl];exact(List.getElem?_eq_some_iff.1 hi).1
 have e1:(xs.map (·.1))[i]? =some (.lit (.int .u8 (m:Nat))):=by rw[←hx.1,aaE,hi];rfl
 rw[aaE,Option.map_eq_some_iff] at e1
 obtain⟨y,hy,hy1⟩:=e1
 have e2:=Zt i M'
 rw[hy,hc,aaC] at e2
 obtain⟨q,hk,hyk,_⟩:=DataW.trod_int he e2
 rw[hyk] at hy1
 simp only [DataW.lit.injEq,Lit.int.injEq,true_and] at hy1
 subst hy1
 have e3:((cs.drop i).take 1)[0]? =some (.int .u8 (m:Nat)):=by rw[hk];rfl
 rw[aav (by decide),aax] at e3
 simpa using e3
def fi:Tryz.prog.cellsOf 339=64:=by kernel_rfl
def NV:Tryz.prog.cellsOf 5=1:=by kernel_rfl
def NW:("math/bits.deBruijn64tab",(Rows.laid_math_bits_deBruijn64tab:DataW Unit))∈bK:=Zv (i:=1) (by kernel_rfl)
def KS{W:World}(h:laidMetH Tryz.prog bK W):∃cs fuel p,W.var? Tryz.prog "math/bits.deBruijn64tab" =some cs/\DataW.trod (λ_=>()) Tryz.prog W 0 (λ_=>true) false fuel 339 cs.toList=some ((Rows.laid_math_bits_deBruijn64tab:DataW Unit),p):=by obtain⟨g,t,cs,fuel,p,hg,ht,hv,hd⟩:=yW h _ _ NW;obtain rfl:=Option.some.inj ((show Tryz.prog.globalNamed "math/bits.deBruijn64tab" =some 0 by kernel_rfl).symm.trans hg);obtain rfl:=Option.some.inj ((show(Tryz.prog.globals[0]?).map (·.type)=some 339 by kernel_rfl).symm.trans ht);exact⟨cs,fuel,p,hv,hd⟩
def DL:eI.length=64:=by kernel_rfl
def FL{W:World}(h:laidMetH Tryz.prog bK W):∃cs fuel p,W.var? Tryz.prog "math/bits.deBruijn64tab" =some cs/\DataW.trod (λ_=>()) Tryz.prog W 0 (λ_=>true) false fuel 339 cs.toList=some ((.agg (eI.map λn=>.lit (.int .u8 (n:Nat))):DataW Unit),p):=by
 have:=KS h
 rwa [NU] at this
def FM{W:World}(h:laidMetH Tryz.prog bK W):∃cs t fr,W.heap[0]? =some (.cells cs t fr)/\cs.size=64/\∀(i n:Nat),eI[i]? =some n->cs[i]? =some (.int .u8 (n:Nat)):=by obtain⟨cs,fuel,p,hv,hd⟩:=FL h;obtain⟨bt,fr,hh⟩:=yV (show Tryz.prog.globalNamed "math/bits.deBruijn64tab" =some 0 by kernel_rfl) hv;obtain⟨hlen,Xg⟩:=RQ Tryz.underlying339 Tryz.underlying5 NV DL hd;rw[fi] at hlen;exact⟨cs,bt,fr,hh,by rw[←hlen,aaI],λi n hi=>by rw[←aaP];exact Xg i n hi⟩
def NX:(((begin Tryz.prog (λ_ _=>0) default).world.heap[0]?).bind Obj.row?)=some (Array.replicate 64 (.int .u8 0),339):=by kernel_rfl
def KT:0<Tryz.prog.globals.size:=of_decide_eq_true (by kernel_rfl)
def NY:("strconv.ErrSyntax",(Rows.laid_strconv_ErrSyntax:DataW Unit))∈bK:=Zv (i:=4) (by kernel_rfl)
def NZ:(((begin Tryz.prog (λ_ _=>0) default).world.heap[1]?).bind Obj.row?)=some (#[.nilIface],230):=by kernel_rfl
def KU:1<Tryz.prog.globals.size:=of_decide_eq_true (by kernel_rfl)
def FN{W:World}(h:laidMetH Tryz.prog bK W):∃v t fr,W.heap[1]? =some (.cells #[v] t fr)/\v.oneCell'=true:=by obtain⟨g,t,cs,fuel,p,hg,ht,hv,hd⟩:=yW h _ _ NY;obtain rfl:=Option.some.inj ((show Tryz.prog.globalNamed "strconv.ErrSyntax" =some 1 by kernel_rfl).symm.trans hg);obtain rfl:=Option.some.inj ((show(Tryz.prog.globals[1]?).map (·.type)=some 230 by kernel_rfl).symm.trans ht);obtain⟨v,e,hc⟩:=FK Tryz.underlying230 hd;obtain⟨t,fr,e2⟩:=yV hg hv;obtain rfl:cs= #[v]:=Array.ext' e;exact⟨v,t,fr,e2,hc⟩
def FO{W:World}(h:laidMetH Tryz.prog bK W)(hs:W.ShapedOpen Tryz.prog):∃arr,(ig W).frz 0=some (arr,339)/\oL eI arr:=by
 obtain⟨cs,t,fr,h1,h2,h3⟩:=FM h;obtain⟨Xv,e1,_,_⟩:=hs.1 _ _ _ KT NX;rw[h1] at e1;injection e1 with e1;injection e1 with e1 e2 e3;subst e2;refine⟨cs,pX h1,h2.trans DL.symm,λj n v hj hv=>?_⟩;have e:=h3 j n hj;rw[hv] at e;injection e with e;have hn:n<=255:=by have:=List.all_eq_true.1 (show(eI.all λn=>Nat.ble n 255)=true by kernel_rfl) n (Zv hj);exact aau this
 unfold Pa;rw[if_pos hn,e];rfl
def FP{W:World}(h:laidMetH Tryz.prog bK W)(hs:W.ShapedOpen Tryz.prog):∃arr,(ig W).frz 1=some (arr,230)/\oL [256] arr:=by
 obtain⟨v,t,fr,h1,h2⟩:=FN h
 obtain⟨Xv,e1,_,_⟩:=hs.1 _ _ _ KU NZ
 rw[h1] at e1
 injection e1 with e1
 injection e1 with e1 e2 e3
 subst e2
 refine⟨_,pX h1,rfl,λj n u hj hv=>?_⟩
 cases j with
 |zero=>obtain rfl:256=n:=Option.some.inj hj;obtain rfl:v=u:=Option.some.inj hv;exact h2
 |succ j=>cases hj
def FQ{W:World}(h:laidMetH Tryz.prog bK W)(hs:W.ShapedOpen Tryz.prog):Go.Sym.Good W (ig W) (addTab nL (.leaf:T ABlk)) W:=by
 have key:∀b x,(addTab nL (.leaf:T ABlk)).get b=some x->(b=0/\x= .tab 339 eI)∨(b=1/\x= .tab 230 [256]):=λb x hx=>by
  by_cases hb:b=0
  ·subst hb;rw[show(addTab nL (.leaf:T ABlk)).get 0=some (.tab 339 eI) from T.get_set_same _ _ _ (by decide)] at hx;exact .inl ⟨rfl,(Option.some.inj hx).symm⟩
  ·rw[show(addTab nL (.leaf:T ABlk)).get b=((T.leaf:T ABlk).set 1 (.tab 230 [256])).get b from T.get_set_ne _ hb _] at hx;exact .inr (fP (by decide) hx)
 refine SG W (λb x hx=>?_) λb k I l hx=>?_
 ·rcases key b x hx with⟨rfl,rfl⟩|⟨rfl,rfl⟩
  ·exact⟨by decide,FO h hs⟩
  ·exact⟨by decide,FP h hs⟩
 ·rcases key _ _ hx with⟨_,e⟩|⟨_,e⟩ <;> cases e
def N0{P:Program}{f:Nat}{S:FSpec}{zf:Zf S}(h:jh P f S zf){z:Sy}(hz:S.pre z)(hr:S.res z= .one (.c (.b 50)))(ho:S.out z= [])(hbk:S.blk= [])(hp:∀y,S.post z y->y.p 50){w:World}{ρ:Rho}{vs:List Value}(hG:Go.Sym.Good w ρ (S.heap z) w)(hl:LR ρ (S.argsA z) vs)(d6:∀x,¬ρ.own x):
 Calls P f vs.toArray w λe w'=>e= .returned (.bool true)/\Below w.heap.size w w':=by
 obtain⟨_,hc⟩:=h z hz w ρ vs hG hl
 refine(callsIn_wide.1 hc).mono λe w' ⟨v,ρ',H',a,s,he,g9,hle,hv,WC,Zc,hy⟩=>?_
 subst he
 rw[hr,ho,hbk] at WC
 have WC:db 0 H' (.one (.c (.b 50))) [] a=some s:=WC
 have hq:∃q,cS a=some q/\s.tm= [(50,.p q)]:=by
  cases e:cS a with
  |none=>
   have e2:db 0 H' (.one (.c (.b 50))) [] a=none:=by show bi (match cS a with|some q=>PS.add q_ 50 (.p q)|none=>none) _=_;rw[e];rfl
   rw[e2] at WC;cases WC
  |some q=>
   have e2:db 0 H' (.one (.c (.b 50))) [] a=some ⟨[(50,.p q)],[],[],True,[]⟩:=by show bi (match cS a with|some q=>PS.add q_ 50 (.p q)|none=>none) _=_;rw[e];rfl
   rw[e2] at WC;injection WC with WC;exact⟨q,rfl,by rw[←WC]⟩
 obtain⟨q,h1,h2⟩:=hq
 obtain⟨b,rfl,hb⟩:=dB hv h1
 have h3:=hp _ ((zf z).2 hz)
 rw[hy,h2] at h3
 have h4:b=true:=hb.2 h3
 subst h4
 exact⟨rfl,g9.below.below λx=>by rw[hle.own];exact d6 x⟩
def zR(a:Int)(g h:G):Sy:=
 ⟨λm=>match m with|101=>gI (ah g 0)|102=>gI (ah g 1)|103=>gI (ah g 2)|111=>gI (ah h 0)|112=>gI (ah h 1)|113=>gI (ah h 2)|_=>a,
  λm=>match m with|104=>gS (ah g 3)|_=>gS (ah h 3),λ_=>True,λm=>match m with|105=>gL (ah g 4)|106=>gL (ah g 5)|115=>gL (ah h 4)|_=>gL (ah h 5)⟩
def VE(a:Int)(g h:G):jP bw (zR a g h) (vN 100)=aV (bO 2) g 0:=by with_unfolding_all rfl
def VF(a:Int)(g h:G):jP bw (zR a g h) (vN 110)=aV (bO 2) h 0:=by with_unfolding_all rfl
def KV{g:G}(h:VQ g):G.node [.int (gI (ah g 0)),.int (gI (ah g 1)),.int (gI (ah g 2)),.str (gS (ah g 3)),.node (gL (ah g 4)),.node (gL (ah g 5))]=g:=h.1 0
def O7{g:G}(h:VQ g):OY [g]:=by unfold OY;intro x hx;rw[List.mem_singleton.1 hx];exact h.1 16
def KW{W:World}(hL:laidMetH Tryz.prog bK W)(hs:W.ShapedOpen Tryz.prog){a:Int}{g h:G}{cs ds:Array Value}(rg:LR (ig W) (aV (bO 2) g 0) cs.toList)(rh:LR (ig W) (aV (bO 2) h 0) ds.toList)(qg:VQ g)(qh:VQ h):
 Calls Tryz.prog 3 #[.int .i64 a,.agg cs,.agg ds] W λe W'=>e= .returned (.bool true)/\Below W.heap.size W W':=by
 obtain⟨zf,hc⟩:=Rr
 have x1:VR (ig W) (.agg (jP bw (zR a g h) (vN 100))) (.agg cs):=by rw[VE];obtain⟨x,y⟩:=LR.arr rg;exact .agg _ _ x y
 have x2:VR (ig W) (.agg (jP bw (zR a g h) (vN 110))) (.agg ds):=by rw[VF];obtain⟨x,y⟩:=LR.arr rh;exact .agg _ _ x y
 have e1:iv (zR a g h) 100=g:=KV qg
 have e2:iv (zR a g h) 110=h:=KV qh
 have n1:Dl 2502 (gI (ah g 1)) (gS (ah g 3)) (gL (ah g 4)) (gL (ah g 5)):=by rw[vc];exact qg.2 2502
 have n2:Dl 2502 (gI (ah h 1)) (gS (ah h 3)) (gL (ah h 4)) (gL (ah h 5)):=by rw[vc];exact qh.2 2502
 exact N0 (vs:=[.int .i64 a,.agg cs,.agg ds]) (z:=zR a g h) hc ⟨⟨e1.symm▸O7 qg,n1⟩,e2.symm▸O7 qh,n2⟩ rfl rfl rfl (λ_ hy=>hy) (FQ hL hs) (LR.cons (.sI .i64 a) (LR.cons x1 (LR.cons x2 (LR.nil _)))) (λ_ h=>h)
def own:ownKnob Tryz.prog.godebug=none:=by kernel_rfl
def KX(os:Os)(args:Array Value):laidMetH Tryz.prog bK ((World.doorLaid Tryz.prog 62 os).forCall (λ_ _=>0) ⟨#[],args,[]⟩).memory:=
 laidMetH_of_parts3 (fuel:=8) (laidMet_of_run' 8 (by kernel_rfl) (by kernel_rfl)) (by kernel_rfl) (by kernel_rfl)
def DM:laidOutB Tryz.prog=true:=by kernel_rfl
def qZ:Tryz.prog.readableRec 25=true:=by kernel_rfl
def O8:25<Tryz.prog.types.size:=of_decide_eq_true (by kernel_rfl)
def Be{H:Type}{enc:TypeId×Value->H}{a:Assume}{C:Checked}{os:Os}{f:FuncId}{fn:Func}{s:ChangeSpec}{conds:List PathCond}{apart fresh handsOn sD:Bool}{X:World->Array Value->Prop}(hX:∀(w w':World) (args:Array Value),w.heap=w'.heap->X w args->X w' args)(own:ownKnob C.prog.godebug=none)(started:os.Started)(noInit:C.prog.inits.idxOf? f=none)(hfn:C.prog.funcs[f]? =some fn)(witness:∃(w:World) (tape:Tape) (i:Input),w.os=os/\(w.forCall tape i).Shaped C.prog/\i.vars= []/\Input.okWide C.prog (w.forCall tape i) .any w.heap.size f i/\
  ((s.pre enc C.prog fn conds apart (w.forCall tape i).memory i.args/\X (w.forCall tape i).memory i.args)/\sizedMet enc C.prog fn (OpenSpec.ofChange s) apart (w.forCall tape i).memory i.args)/\a.holds C.prog (lone (Frame.enter C.prog f i.args .normal) [] (w.forCall tape i)))(contract:∀(W:World) (base:Nat) (args:Array Value) (ds gs:List (DataW H)) (before:List MemPlace),
  (∀(j:Nat) t v,fn.params[j]? =some t->args[j]? =some v->Value.okWide C.prog W .any base t v)->
  DataW.Whole enc C.prog fn.params.toList s.vars apart W args.toList ds gs before->
  (DataW.weightsEach C.prog (fn.params.toList++s.plain.varTypes C.prog) (ds++gs)).all (· <=reachBytes)=true->X W args->W.ShapedOpen C.prog->
  Calls C.prog f args W λe W'=>∃v,e= .returned v/\s.post enc C.prog fn apart fresh handsOn sD W args v W'):
 ReturnsInHanded a C os f .any (λw args=>(s.pre enc C.prog fn conds apart w args/\X w args)/\sizedMet enc C.prog fn (OpenSpec.ofChange s) apart w args) (s.post enc C.prog fn apart fresh handsOn sD):=by
 refine returnsInHanded_of_calls own started noInit witness ?_
 intro w tape i _ w8 _ Y4 WK _
 obtain⟨_,_,_,YU,ak2,_,_,_,_,XR⟩:=Y4
 have e:YU=fn:=Option.some.inj (ak2.symm.trans hfn)
 subst e
 obtain⟨⟨⟨ds,gs,before,hw,_⟩,hx⟩,hz⟩:=WK
 refine(contract (w.forCall tape i) w.heap.size i.args ds gs before XR (DataW.Whole.of_heap (w':=w.forCall tape i) (by rfl) hw) (hz.weights hw) (hX _ _ _ (by rfl) hx) w8).mono λe W' ⟨v,he,hp⟩=>?_
 subst he
 exact ChangeSpec.post_blind hp
def vZ:Value:=.agg #[.int .i64 0,.int .i64 0,.int .i64 0,.string ⟨#[]⟩,.slice none 0 0,.slice none 0 0]
def lifted(os:Os)(started:os.Started)(H:Type)(enc:TypeId×Value->H):
 ReturnsInHanded {} Tryz.checked os 3 .any (λw args=>(Rows.journalRoomSpec.pre enc Tryz.prog Tryz.f3 [] false w args/\laidMetH Tryz.prog bK w)/\sizedMet enc Tryz.prog Tryz.f3 (OpenSpec.ofChange Rows.journalRoomSpec) false w args)
  (Rows.journalRoomSpec.post enc Tryz.prog Tryz.f3 false true false false):=by
 refine Be (C:=Tryz.checked) (X:=λw _=>laidMetH Tryz.prog bK w) (λ_ _ _ hh h=>h.of_heap hh) own started (by kernel_rfl) Tryz.func3
  (ChangeSpec.witness_shaped (enc:=enc) (C:=Tryz.checked) (os:=os) (X:=λw _=>laidMetH Tryz.prog bK w) false (World.doorLaid Tryz.prog 62 os) #[.int .i64 0,vZ,vZ] 8 rfl (World.shaped_of_RefB (by kernel_rfl) (by kernel_rfl)) (by kernel_rfl) (by kernel_rfl) (by kernel_rfl) (KX os _)) ?_
 intro W base args ds gs before ab9 hW hz hL w8
 have XR:∀(j:Nat) t v,Tryz.f3.params[j]? =some t->args[j]? =some v->Value.okWide Tryz.prog W .any base t v:=ab9
 have hW':=hW
 obtain⟨p,q,hA0,hV,rfl,WD,YC⟩:=hW
 have hA:DataW.TrodAll enc Tryz.prog W 0 (λ_=>true) true Tryz.f3.params.toList args.toList ds p:=hA0
 rw[Tryz.params3] at hA XR
 obtain⟨v0,w0,d0,x0,p0,y0,e0,rfl,rfl,h0,r0⟩:=trodAll_cons hA
 obtain⟨v1,w1,d1,x1,p1,y1,rfl,rfl,rfl,h1,r1⟩:=trodAll_cons r0
 obtain⟨v2,w2,d2,x2,p2,y2,rfl,rfl,rfl,h2,r2⟩:=trodAll_cons r1
 obtain⟨rfl,rfl,rfl⟩:=trodAll_nil r2
 obtain rfl:args= #[v0,v1,v2]:=Array.ext' e0
 clear e0
 obtain⟨rfl,rfl⟩:=trodVars_none hV
 obtain⟨a,rfl,rfl,rfl,wa⟩:=open_int Tryz.underlying3 (XR 0 3 v0 rfl rfl) h0
 have hwe:∀k∈DataW.weightsEach Tryz.prog [3,25,25] [.lit (.int .i64 a),d1,d2],k<=1125899906842624:=λk hk=>by have:=List.all_eq_true.1 hz k (by rw[Tryz.params3];exact hk);have:=of_decide_eq_true this;exact aaH this (by decide)
 obtain⟨cs,oz,hc1⟩:=okWide_struct Tryz.underlying25 (XR 1 _ v1 rfl rfl)
 subst oz
 obtain⟨n1,t1⟩:=h1
 obtain⟨g,q1,s1⟩:=(vC (λ_=>rfl) n1).1 _ _ t1 (eQ hwe 1 _ _ rfl rfl)
 have h1:DataW.Trod enc Tryz.prog W 0 (λ_=>true) true 25 (.agg cs) d1 p1:=⟨n1,t1⟩
 obtain⟨ds,vG,hc2⟩:=okWide_struct Tryz.underlying25 (XR 2 _ v2 rfl rfl)
 subst vG
 obtain⟨n2,t2⟩:=h2
 obtain⟨h,q2,s2⟩:=(vC (λ_=>rfl) n2).1 _ _ t2 (eQ hwe 2 _ _ rfl rfl)
 have h2:DataW.Trod enc Tryz.prog W 0 (λ_=>true) true 25 (.agg ds) d2 p2:=⟨n2,t2⟩
 clear hA0 ab9
 have c8:∀x∈ []++(p1++(p2++ [])),x.block<W.heap.size:=λx hx=>hW'.lt x (by simpa using hx)
 refine(KW (a:=a) hL w8 s1 s2 q1 q2).mono λe W' ⟨he,hw⟩=>?_
 subst he
 exact⟨_,rfl,rG (pa:=[]++(p1++(p2++ []))) (pv:=[]) hW' (λ_ _ _=>trodAll_mk1 (shut_bool Tryz.underlying4 _))
  (λsp X1=>trodAll_cons_mk (shut_int Tryz.underlying3 wa) (trodAll_cons_mk (WideElems.Trod_stays DM qZ O8 h1 (λx hx=>hw.same (c8 x (by simp [hx]))) (λx hx=>X1 x (by simp [hx]))) (trodAll_cons_mk (WideElems.Trod_stays DM qZ O8 h2 (λx hx=>hw.same (c8 x (by simp [hx]))) (λx hx=>X1 x (by simp [hx]))) trodAll_mk0)))
  (λ_ _=>rfl) (by simp) hw (ok_one (by kernel_rfl) rfl (okWide_bool_mk Tryz.underlying4 _))⟩
def KY:Tryz.prog.funcNamed Rows.journalRoomRow.func=some 3:=by kernel_rfl
def Uo:Tryz.f3.isInstance Tryz.prog Rows.journalRoomRow.origin Rows.journalRoomRow.targs:=of_decide_eq_true (by kernel_rfl)
def Up:Tryz.f3.isWrapper Tryz.prog Rows.journalRoomRow.wrapper Rows.journalRoomRow.mainSum:=by unfold Func.isWrapper;first|(rw[if_pos (by decide+kernel)];kernel_rfl)|(rw[if_neg (by decide+kernel)];exact⟨rfl,rfl⟩)
def FT:Rows.JournalRoomSaid:=
 OpenClaim.holds_of_wide 3 Tryz.f3 rfl rfl rfl rfl rfl rfl rfl ⟨rfl,rfl,rfl,rfl,rfl⟩ rfl rfl rfl rfl rfl KY Tryz.func3 RP
  Uo Up
  (λos started H enc _=>lifted os started H enc)
def Ws:Rows.journalRoomRow.wfByText (OpenSpec.ofChange Rows.journalRoomSpec)=true:=by kernel_rfl
def Uq:Tryz.pinned.checked.prog.mainIs=some (true, "7b4f9e17a08ed9f410aafdcbe97033ad9b200eaceb5b6166b1b6653246706368".toList):=by kernel_rfl
def RR:true=Tryz.pinned.checked.prog.looks []:=by kernel_rfl
def N1{P:Program}(h:P.funcs.any Func.goes=false)(c:OpenClaim)(hs:c.start= .entering):false=c.goesBy P:=by
 have hg:∀f,P.goes f=false:=λf=>by
  unfold Program.goes
  rw[h,Bool.and_false,Bool.or_false, ←Bool.not_eq_true]
  intro hc
  obtain⟨g,_,hg⟩:=List.any_eq_true.1 hc
  cases e:P.funcs[g]? with
  |none=>rw[e] at hg;cases hg
  |some fn=>rw[e] at hg;have:P.funcs.any Func.goes=true:=Array.any_eq_true.2 (by obtain⟨h1,h2⟩:=Array.getElem?_eq_some_iff.1 e;exact⟨g,h1,by rw[h2];exact hg⟩);rw[h] at this;cases this
 unfold OpenClaim.goesBy Program.goesAt Program.goesFrom
 rw[hs]
 cases P.funcNamed c.func with
 |none=>rfl
 |some f=>simp [hg f]
def FU:Tryz.prog.funcs.any Func.goes=false:=by kernel_rfl
def Ur:false=Rows.journalRoomRow.goesBy Tryz.pinned.checked.prog:=N1 FU _ rfl
def RS:([3,25].all λu=>!Tryz.prog.wantsStandIn u)=true:=by kernel_rfl
theorem card_holds:Rows.JournalRoomCardSaid:=
 Claim7.holds_tied_plain_at .later [] [.data,.data,.data,.sentinel,.sentinel] true (true,_) true
  FT (λ_ h=>by cases h) Ws (λ_ h=>by cases h) journalRoom_row_tie rfl ⟨rfl,rfl⟩ Uq rfl
  (λf fn hf hfn=>by
   obtain rfl:f=3:=Option.some.inj (KY.symm.trans hf) |>.symm;obtain rfl:fn=Tryz.f3:=(Option.some.inj (Tryz.func3.symm.trans hfn)).symm;exact⟨RR,λj t ht=>by
    rw[Tryz.params3] at ht;have hm:t∈ [3,25]:=by have:=Array.mem_of_getElem? ht;simp at this⊢;omega
    exact(show Tryz.prog.wantsStandIn t=false by simpa using List.all_eq_true.1 RS t hm)⟩)
  Ur
#print axioms card_holds
end Go.Proofs.YtknhaomckfianaaGreatDoor
