/- Part 23. -/
import Derived.ChangeMaps5
import Derived.Test.YtknhaomckfianaaGreatDoorChecked
import Derived.Test.YtknhaomckfianaaGreatDoorProg
import Derived.KernelRfl
import Derived.Test.YtknhaomckfianaaGreatDoorP8
import Derived.Test.YtknhaomckfianaaGreatDoorP11
set_option linter.all false
namespace Go.Proofs.YtknhaomckfianaaGreatDoor
open Go.Sym
set_option maxRecDepth 100000
noncomputable section
variable{H:Type}{enc:TypeId×Value->H}{W:World}{sp:Nat->Bool}{held:Bool}
def VQ(g:G):Prop:=(∀k,R2 k g=g)/\∀k,K3 k g
def VD{n:Int}(h:(Lit.int .i64 n).wf=true): -9223372036854775808<=n/\n<9223372036854775808:=by simp [Lit.wf,IntKind.min,IntKind.max,IntKind.signed,IntKind.bits] at h;omega
def FJ(s:ByteArray):(bytesOf s).length=s.data.toList.length:=by unfold bytesOf;rw[List.length_map]
def Uc{a b c:Int}{t:List Nat}{ns ks:List G}(hb: -9223372036854775808<=b/\b<9223372036854775808)(ht:t.length<=1125899906842624)(hn:ns.length<=1125899906842624)(hk:ks.length<=1125899906842624)(hq:∀g∈ks,VQ g):VQ (.node [.int a,.int b,.int c,.str t,.node ns,.node ks]):=by
 refine⟨λk=>?_,λk=>?_⟩
 ·have e:A0 k ks=ks:=by
   cases k with
   |zero=>rfl
   |succ k=>exact(List.map_congr_left λg hg=>(hq g hg).1 k).trans (List.map_id' ks)
  show G.node [.int a,.int b,.int c,.str t,.node ns,.node (A0 k ks)]=_;rw[e]
 ·cases k with
  |zero=>exact⟨hb,ht,hn,hk⟩
  |succ k=>exact⟨⟨hb,ht,hn,hk⟩,λx hx=>(hq x hx).2 k⟩
def DK:Tryz.prog.cellsOf 25=6:=by kernel_rfl
def KQ:Tryz.prog.cellsOf 9=1:=by kernel_rfl
def Bc:Tryz.prog.cellsOf 3=1:=by kernel_rfl
def NR:Tryz.prog.cellsOf 22=1:=by kernel_rfl
def NS:Tryz.prog.cellsOf 23=1:=by kernel_rfl
def NT:0<Tryz.prog.bytesOf 25:=of_decide_eq_true (by kernel_rfl)
def Rs:0<Tryz.prog.bytesOf 9:=of_decide_eq_true (by kernel_rfl)
def KR(X1:∀b,sp b=true){n:Nat}{cs:List Value}{x:DataW H×List MemPlace}(h:DataW.trod enc Tryz.prog W 0 sp held n 22 cs=some x)(hw:∀k∈x.1.weights Tryz.prog 22,k<=1125899906842624):
 ∃v l,cs= [v]/\VR (ig W) (.cv (.rows 1 l)) v/\l.length<=1125899906842624:=by
 cases n with
 |zero=>simp [DataW.trod] at h
 |succ n=>
  obtain⟨v,l,h1,h2,_,h3⟩:=xG (m:=1) X1 Tryz.underlying22 KQ (by decide) Rs (λ_=>True) (λcs x h _=>by obtain⟨s,rfl,_,_⟩:=DataW.trod_string Tryz.underlying9 h;exact⟨.node [.str (bytesOf s)],trivial,LR.cons (.sS s) (LR.nil _)⟩) h hw
  exact⟨v,l,h1,h2,h3⟩
def Ud{α:Type}:∀{l:List α},l.length=6->∃a b c d e f,l= [a,b,c,d,e,f]
 | [a,b,c,d,e,f],_=>⟨a,b,c,d,e,f,rfl⟩
def vC(X1:∀b,sp b=true):∀(n:Nat),
 (∀(cs:List Value) (x:DataW H×List MemPlace),DataW.trod enc Tryz.prog W 0 sp held n 25 cs=some x->(∀k∈x.1.weights Tryz.prog 25,k<=1125899906842624)->∃g,VQ g/\LR (ig W) (aV (bO 2) g 0) cs)/\
 (∀(cs:List Value) (x:DataW H×List MemPlace),DataW.trod enc Tryz.prog W 0 sp held n 23 cs=some x->(∀k∈x.1.weights Tryz.prog 23,k<=1125899906842624)->∃v l,cs= [v]/\VR (ig W) (.cv (.rows 2 l)) v/\(∀g∈l,VQ g)/\l.length<=1125899906842624)
 |0=>⟨λcs x h=>by simp [DataW.trod] at h,λcs x h=>by simp [DataW.trod] at h⟩
 |n+1=>by
  obtain⟨ih1,ih2⟩:=vC X1 n;refine⟨λcs x h hw=>?_,λcs x h hw=>xG (m:=2) X1 Tryz.underlying23 DK (by decide) NT VQ ih1 h hw⟩;obtain⟨xs,m,hm,rfl,hlen,hxl,Zt⟩:=DataW.trod_struct Tryz.underlying25 h;injection hm with hm;subst hm;rw[DK] at hlen;have hxl:xs.length=6:=hxl;have hwe:∀(i:Nat) (t:TypeId) (d:DataW H),[3,3,3,9,22,23][i]? =some t->(xs.map (·.1))[i]? =some d->∀k∈d.weights Tryz.prog t,k<=1125899906842624:=by have hw':=hw;simp only [DataW.weights,Tryz.underlying25] at hw';exact eQ hw'
  obtain⟨c0,c1,c2,c3,c4,c5,rfl⟩:=Ud hlen;obtain⟨x0,x1,x2,x3,x4,x5,rfl⟩:=Ud hxl;have f0:DataW.trod enc Tryz.prog W 0 sp held n 3 [c0]=some x0:=by have h':DataW.trod enc Tryz.prog W 0 sp held n 3 (([c0,c1,c2,c3,c4,c5].drop 0).take (Tryz.prog.cellsOf 3))= [x0,x1,x2,x3,x4,x5][0]? :=Zt 0 _ rfl;rw[Bc] at h';exact h'
  have f1:DataW.trod enc Tryz.prog W 0 sp held n 3 [c1]=some x1:=by have h':DataW.trod enc Tryz.prog W 0 sp held n 3 (([c0,c1,c2,c3,c4,c5].drop 1).take (Tryz.prog.cellsOf 3))= [x0,x1,x2,x3,x4,x5][1]? :=Zt 1 _ rfl;rw[Bc] at h';exact h'
  have f2:DataW.trod enc Tryz.prog W 0 sp held n 3 [c2]=some x2:=by have h':DataW.trod enc Tryz.prog W 0 sp held n 3 (([c0,c1,c2,c3,c4,c5].drop 2).take (Tryz.prog.cellsOf 3))= [x0,x1,x2,x3,x4,x5][2]? :=Zt 2 _ rfl;rw[Bc] at h';exact h'
  have f3:DataW.trod enc Tryz.prog W 0 sp held n 9 [c3]=some x3:=by have h':DataW.trod enc Tryz.prog W 0 sp held n 9 (([c0,c1,c2,c3,c4,c5].drop 3).take (Tryz.prog.cellsOf 9))= [x0,x1,x2,x3,x4,x5][3]? :=Zt 3 _ rfl;rw[KQ] at h';exact h'
  have f4:DataW.trod enc Tryz.prog W 0 sp held n 22 [c4]=some x4:=by have h':DataW.trod enc Tryz.prog W 0 sp held n 22 (([c0,c1,c2,c3,c4,c5].drop 4).take (Tryz.prog.cellsOf 22))= [x0,x1,x2,x3,x4,x5][4]? :=Zt 4 _ rfl;rw[NR] at h';exact h'
  have f5:DataW.trod enc Tryz.prog W 0 sp held n 23 [c5]=some x5:=by have h':DataW.trod enc Tryz.prog W 0 sp held n 23 (([c0,c1,c2,c3,c4,c5].drop 5).take (Tryz.prog.cellsOf 23))= [x0,x1,x2,x3,x4,x5][5]? :=Zt 5 _ rfl;rw[NS] at h';exact h'
  obtain⟨a,ea,_,_⟩:=DataW.trod_int Tryz.underlying3 f0;obtain⟨b,eb,_,hb⟩:=DataW.trod_int Tryz.underlying3 f1;obtain⟨c,ec,_,_⟩:=DataW.trod_int Tryz.underlying3 f2;obtain⟨s,es,e3,_⟩:=DataW.trod_string Tryz.underlying9 f3;obtain⟨v4,ns,e4,r4,l4⟩:=KR X1 f4 (hwe 4 _ _ rfl rfl);obtain⟨v5,ks,e5,r5,q5,l5⟩:=ih2 _ _ f5 (hwe 5 _ _ rfl rfl);injection ea with ea;injection eb with eb;injection ec with ec;injection es with es;injection e4 with e4;injection e5 with e5;subst ea;subst eb;subst ec;subst es;subst e4;subst e5;have ht:(bytesOf s).length<=1125899906842624:=by rw[FJ];have:=hwe 3 _ x3.1 rfl rfl;rw[e3] at this;exact this _ (by simp only [DataW.weights,List.mem_singleton])
  exact⟨.node [.int a,.int b,.int c,.str (bytesOf s),.node ns,.node ks],Uc (VD hb) ht l4 l5 q5,LR.cons (.sI .i64 a) (LR.cons (.sI .i64 b) (LR.cons (.sI .i64 c) (LR.cons (.sS s) (LR.cons r4 (LR.cons r5 (LR.nil _))))))⟩
end
end Go.Proofs.YtknhaomckfianaaGreatDoor
