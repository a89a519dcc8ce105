/- Part 10. -/
import Derived.ChangeMaps5
import Derived.Test.YtameaobnjjcobaaGreatDoorChecked
import Derived.OpenShut
import Derived.Test.YtameaobnjjcobaaGreatDoorProg
import Derived.KernelRfl
import Derived.Test.YtameaobnjjcobaaGreatDoorP5
import Derived.Test.YtameaobnjjcobaaGreatDoorP8
import Derived.Test.YtameaobnjjcobaaGreatDoorP9
set_option linter.all false
namespace Go.Proofs.YtameaobnjjcobaaGreatDoor
open Go.Sym
set_option maxRecDepth 100000
noncomputable section
variable{H:Type}{enc:TypeId×Value->H}{W:World}{sp:Nat->Bool}{held:Bool}
def VQ(g:G):Prop:=(∀k,Yf k g=g)/\∀k,Sj k g
def wf64{n:Int}(h:(Lit.int .i64 n).wf=true): -9223372036854775808<=n/\n<9223372036854775808:=by simp [Lit.wf,IntKind.min,IntKind.max,IntKind.signed,IntKind.bits] at h;omega
def Jr(s:ByteArray):(bytesOf s).length=s.data.toList.length:=by unfold bytesOf;rw[List.length_map]
def vq_mk{a b c:Int}{t:List Nat}{ns ks:List G}(hb: -9223372036854775808<=b/\b<9223372036854775808)(ht:t.length<=1125899906842624)(hn:ns.length<=1125899906842624)(hk:ks.length<=1125899906842624)(hq:∀g∈ks,VQ g):VQ (.node [.int a,.int b,.int c,.str t,.node ns,.node ks]):=by
 refine⟨λk=>?_,λk=>?_⟩
 ·have e:yp k ks=ks:=by
   cases k with
   |zero=>rfl
   |succ k=>exact(List.map_congr_left λg hg=>(hq g hg).1 k).trans (List.map_id' ks)
  show G.node [.int a,.int b,.int c,.str t,.node ns,.node (yp k ks)]=_;rw[e]
 ·cases k with
  |zero=>exact⟨hb,ht,hn,hk⟩
  |succ k=>exact⟨⟨hb,ht,hn,hk⟩,λx hx=>(hq x hx).2 k⟩
def Hm:Tryz.prog.cellsOf 51=6:=by kernel_rfl
def PB:Tryz.prog.cellsOf 9=1:=by kernel_rfl
def DN:Tryz.prog.cellsOf 3=1:=by kernel_rfl
def Td:Tryz.prog.cellsOf 49=1:=by kernel_rfl
def Ho:Tryz.prog.cellsOf 47=1:=by kernel_rfl
def Te:0<Tryz.prog.bytesOf 51:=of_decide_eq_true (by kernel_rfl)
def XA:0<Tryz.prog.bytesOf 9:=of_decide_eq_true (by kernel_rfl)
def PC(hsp:∀b,sp b=true){n:Nat}{cs:List Value}{x:DataW H×List MemPlace}(h:DataW.trod enc Tryz.prog W 0 sp held n 49 cs=some x)(hw:∀k∈x.1.weights Tryz.prog 49,k<=1125899906842624):
 ∃v l,cs= [v]/\VR (mo W) (.cv (.rows 1 l)) v/\l.length<=1125899906842624:=by
 cases n with
 |zero=>simp [DataW.trod] at h
 |succ n=>
  obtain⟨v,l,h1,h2,_,h3⟩:=sd (m:=1) hsp Tryz.underlying49 PB (by decide) XA (λ_=>True) (λcs x h _=>by obtain⟨s,rfl,_,_⟩:=DataW.trod_string Tryz.underlying9 h;exact⟨.node [.str (bytesOf s)],trivial,LR.cons (.sS s) (LR.nil _)⟩) h hw
  exact⟨v,l,h1,h2,h3⟩
def len6{α:Type}:∀{l:List α},l.length=6->∃a b c d e f,l= [a,b,c,d,e,f]
 | [a,b,c,d,e,f],_=>⟨a,b,c,d,e,f,rfl⟩
def Hq(hsp:∀b,sp b=true):∀(n:Nat),
 (∀(cs:List Value) (x:DataW H×List MemPlace),DataW.trod enc Tryz.prog W 0 sp held n 51 cs=some x->(∀k∈x.1.weights Tryz.prog 51,k<=1125899906842624)->∃g,VQ g/\LR (mo W) (bE (cP 2) g 0) cs)/\
 (∀(cs:List Value) (x:DataW H×List MemPlace),DataW.trod enc Tryz.prog W 0 sp held n 47 cs=some x->(∀k∈x.1.weights Tryz.prog 47,k<=1125899906842624)->∃v l,cs= [v]/\VR (mo W) (.cv (.rows 2 l)) v/\(∀g∈l,VQ g)/\l.length<=1125899906842624)
 |0=>⟨λcs x h=>by simp [DataW.trod] at h,λcs x h=>by simp [DataW.trod] at h⟩
 |n+1=>by
  obtain⟨ih1,ih2⟩:=Hq hsp n;refine⟨λcs x h hw=>?_,λcs x h hw=>sd (m:=2) hsp Tryz.underlying47 Hm (by decide) Te VQ ih1 h hw⟩;obtain⟨xs,m,hm,rfl,hlen,hxl,hel⟩:=DataW.trod_struct Tryz.underlying51 h;injection hm with hm;subst hm;rw[Hm] at hlen;have hxl:xs.length=6:=hxl;have hwe:∀(i:Nat) (t:TypeId) (d:DataW H),[3,3,3,9,49,47][i]? =some t->(xs.map (·.1))[i]? =some d->∀k∈d.weights Tryz.prog t,k<=1125899906842624:=by have hw':=hw;simp only [DataW.weights,Tryz.underlying51] at hw';exact jt hw'
  obtain⟨c0,c1,c2,c3,c4,c5,rfl⟩:=len6 hlen;obtain⟨x0,x1,x2,x3,x4,x5,rfl⟩:=len6 hxl;have f0:DataW.trod enc Tryz.prog W 0 sp held n 3 [c0]=some x0:=by have h':DataW.trod enc Tryz.prog W 0 sp held n 3 (([c0,c1,c2,c3,c4,c5].drop 0).take (Tryz.prog.cellsOf 3))= [x0,x1,x2,x3,x4,x5][0]? :=hel 0 _ rfl;rw[DN] at h';exact h'
  have f1:DataW.trod enc Tryz.prog W 0 sp held n 3 [c1]=some x1:=by have h':DataW.trod enc Tryz.prog W 0 sp held n 3 (([c0,c1,c2,c3,c4,c5].drop 1).take (Tryz.prog.cellsOf 3))= [x0,x1,x2,x3,x4,x5][1]? :=hel 1 _ rfl;rw[DN] at h';exact h'
  have f2:DataW.trod enc Tryz.prog W 0 sp held n 3 [c2]=some x2:=by have h':DataW.trod enc Tryz.prog W 0 sp held n 3 (([c0,c1,c2,c3,c4,c5].drop 2).take (Tryz.prog.cellsOf 3))= [x0,x1,x2,x3,x4,x5][2]? :=hel 2 _ rfl;rw[DN] at h';exact h'
  have f3:DataW.trod enc Tryz.prog W 0 sp held n 9 [c3]=some x3:=by have h':DataW.trod enc Tryz.prog W 0 sp held n 9 (([c0,c1,c2,c3,c4,c5].drop 3).take (Tryz.prog.cellsOf 9))= [x0,x1,x2,x3,x4,x5][3]? :=hel 3 _ rfl;rw[PB] at h';exact h'
  have f4:DataW.trod enc Tryz.prog W 0 sp held n 49 [c4]=some x4:=by have h':DataW.trod enc Tryz.prog W 0 sp held n 49 (([c0,c1,c2,c3,c4,c5].drop 4).take (Tryz.prog.cellsOf 49))= [x0,x1,x2,x3,x4,x5][4]? :=hel 4 _ rfl;rw[Td] at h';exact h'
  have f5:DataW.trod enc Tryz.prog W 0 sp held n 47 [c5]=some x5:=by have h':DataW.trod enc Tryz.prog W 0 sp held n 47 (([c0,c1,c2,c3,c4,c5].drop 5).take (Tryz.prog.cellsOf 47))= [x0,x1,x2,x3,x4,x5][5]? :=hel 5 _ rfl;rw[Ho] at h';exact h'
  obtain⟨a,ea,_,_⟩:=DataW.trod_int Tryz.underlying3 f0;obtain⟨b,eb,_,hb⟩:=DataW.trod_int Tryz.underlying3 f1;obtain⟨c,ec,_,_⟩:=DataW.trod_int Tryz.underlying3 f2;obtain⟨s,es,e3,_⟩:=DataW.trod_string Tryz.underlying9 f3;obtain⟨v4,ns,e4,r4,l4⟩:=PC hsp f4 (hwe 4 _ _ rfl rfl);obtain⟨v5,ks,e5,r5,q5,l5⟩:=ih2 _ _ f5 (hwe 5 _ _ rfl rfl);injection ea with ea;injection eb with eb;injection ec with ec;injection es with es;injection e4 with e4;injection e5 with e5;subst ea;subst eb;subst ec;subst es;subst e4;subst e5;have ht:(bytesOf s).length<=1125899906842624:=by rw[Jr];have:=hwe 3 _ x3.1 rfl rfl;rw[e3] at this;exact this _ (by simp only [DataW.weights,List.mem_singleton])
  exact⟨.node [.int a,.int b,.int c,.str (bytesOf s),.node ns,.node ks],vq_mk (wf64 hb) ht l4 l5 q5,LR.cons (.sI .i64 a) (LR.cons (.sI .i64 b) (LR.cons (.sI .i64 c) (LR.cons (.sS s) (LR.cons r4 (LR.cons r5 (LR.nil _))))))⟩
def PD{l:List G}(h:∀g∈l,VQ g):Yj l/\xS 1002 l:=⟨by unfold Yj;exact λg hg=>(h g hg).1 16,by unfold xS;exact λg hg=>(h g hg).2 1002⟩
end
noncomputable section
variable{H:Type}{enc:TypeId×Value->H}{W:World}{sp:Nat->Bool}{held:Bool}
def XB:0<Tryz.prog.bytesOf 47:=of_decide_eq_true (by kernel_rfl)
def VL(r:G):Prop:=(∀g∈gL (aa r 0),VQ g)/\(gL (aa r 0)).length<=1125899906842624
def PE(hsp:∀b,sp b=true){n:Nat}{cs:List Value}{x:DataW H×List MemPlace}(h:DataW.trod enc Tryz.prog W 0 sp held n 22 cs=some x)(hw:∀k∈x.1.weights Tryz.prog 22,k<=1125899906842624):
 ∃v l,cs= [v]/\VR (mo W) (.cv (.rows 13 l)) v/\(∀r∈l,VL r)/\l.length<=1125899906842624:=by
 cases n with
 |zero=>simp [DataW.trod] at h
 |succ n=>
  exact sd (m:=13) hsp Tryz.underlying22 Ho (by decide) XB VL (λcs x h hw=>by obtain⟨v,l,rfl,h2,h3,h4⟩:=(Hq hsp n).2 cs x h hw;exact⟨.node [.node l],⟨h3,h4⟩,LR.cons h2 (LR.nil _)⟩) h hw
def Js{l:List G}(h:∀r∈l,VL r):Dq l/\NfM l:=by
 refine⟨?_, ?_⟩
 ·unfold Dq;exact λr hr=>⟨(PD (h r hr).1).2,(h r hr).2⟩
 ·unfold NfM;exact λr hr=>(PD (h r hr).1).1
end
end Go.Proofs.YtameaobnjjcobaaGreatDoor
