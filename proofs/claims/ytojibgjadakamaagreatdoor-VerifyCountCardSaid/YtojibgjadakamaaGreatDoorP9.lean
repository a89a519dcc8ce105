/- Part 9: JoIn. Names and spaces are cut short by program. -/
import Derived.ChangeMaps5
import Derived.Test.YtojibgjadakamaaGreatDoorProg
import Derived.KernelRfl
import Derived.Test.YtojibgjadakamaaGreatDoorP5
import Derived.Test.YtojibgjadakamaaGreatDoorP8
set_option linter.all false
namespace Go.Proofs.YtojibgjadakamaaGreatDoor
open Go.Sym
set_option maxRecDepth 100000
noncomputable section
variable{H:Type}{enc:TypeId×Value->H}{W:World}{sp:Nat->Bool}{held:Bool}
def VQ(g:G):Prop:=(∀k,Uf k g=g)/\∀k,PZ k g
theorem Qt{n:Int}(h:(Lit.int .i64 n).wf=true): -9223372036854775808<=n/\n<9223372036854775808:=by
 simp [Lit.wf,IntKind.min,IntKind.max,IntKind.signed,IntKind.bits] at h
 omega
theorem H3(s:ByteArray):(bytesOf s).length=s.data.toList.length:=by unfold bytesOf;rw[List.length_map]
theorem VF{a b c:Int}{t:List Nat}{ns ks:List G}(hb: -9223372036854775808<=b/\b<9223372036854775808)(ht:t.length<=1125899906842624)(hn:ns.length<=1125899906842624)(hk:ks.length<=1125899906842624)(hq:∀g∈ks,VQ g):VQ (.node [.int a,.int b,.int c,.str t,.node ns,.node ks]):=by
 refine⟨fun k=>?_,fun k=>?_⟩
 ·have e:xB k ks=ks:=by
   cases k with
   |zero=>rfl
   |succ k=>exact(List.map_congr_left fun g hg=>(hq g hg).1 k).trans (List.map_id' ks)
  show G.node [.int a,.int b,.int c,.str t,.node ns,.node (xB k ks)]=_
  rw[e]
 ·cases k with
  |zero=>exact⟨hb,ht,hn,hk⟩
  |succ k=>exact⟨⟨hb,ht,hn,hk⟩,fun x hx=>(hq x hx).2 k⟩
theorem FC:Tryz.prog.cellsOf 46=6:=by kernel_rfl
theorem Ny:Tryz.prog.cellsOf 9=1:=by kernel_rfl
theorem xu:Tryz.prog.cellsOf 3=1:=by kernel_rfl
theorem Qu:Tryz.prog.cellsOf 44=1:=by kernel_rfl
theorem Qv:Tryz.prog.cellsOf 22=1:=by kernel_rfl
theorem Qw:0<Tryz.prog.bytesOf 46:=of_decide_eq_true (by kernel_rfl)
theorem TE:0<Tryz.prog.bytesOf 9:=of_decide_eq_true (by kernel_rfl)
theorem TF:0<Tryz.prog.bytesOf 3:=of_decide_eq_true (by kernel_rfl)
theorem Nz(YO:∀b,sp b=true){n:Nat}{cs:List Value}{x:DataW H×List MemPlace}(h:DataW.trod enc Tryz.prog W 0 sp held n 44 cs=some x)(hw:∀k∈x.1.weights Tryz.prog 44,k<=1125899906842624):
  ∃v l,cs= [v]/\VR (kB W) (.cv (.rows 1 l)) v/\l.length<=1125899906842624:=by
 cases n with
 |zero=>simp [DataW.trod] at h
 |succ n=>
  obtain⟨v,l,h1,h2,_,h3⟩:=qM (m:=1) YO Tryz.underlying44 Ny (by decide) TE (fun _=>True) (fun cs x h _=>by
   obtain⟨s,rfl,_,_⟩:=DataW.trod_string Tryz.underlying9 h
   exact⟨.node [.str (bytesOf s)],trivial,LR.cons (.sS s) (LR.nil _)⟩) h hw
  exact⟨v,l,h1,h2,h3⟩
theorem Qx(YO:∀b,sp b=true){n:Nat}{cs:List Value}{x:DataW H×List MemPlace}(h:DataW.trod enc Tryz.prog W 0 sp held n 23 cs=some x)(hw:∀k∈x.1.weights Tryz.prog 23,k<=1125899906842624):
  ∃v l,cs= [v]/\VR (kB W) (.cv (.rows 8 l)) v/\xt l/\l.length<=1125899906842624:=by
 cases n with
 |zero=>simp [DataW.trod] at h
 |succ n=>
  obtain⟨v,l,h1,h2,h4,h3⟩:=qM (m:=8) YO Tryz.underlying23 xu (by decide) TF (fun g=>-9223372036854775808<=gI (aa g 0)/\gI (aa g 0)<9223372036854775808) (fun cs x h _=>by
   obtain⟨k,rfl,_,hk⟩:=DataW.trod_int Tryz.underlying3 h
   exact⟨.node [.int k],Qt hk,LR.cons (.sI .i64 k) (LR.nil _)⟩) h hw
  exact⟨v,l,h1,h2,by unfold xt;exact h4,h3⟩
theorem VG{α:Type}:∀{l:List α},l.length=6->∃a b c d e f,l= [a,b,c,d,e,f]
 | [a,b,c,d,e,f],_=>⟨a,b,c,d,e,f,rfl⟩
theorem FD(YO:∀b,sp b=true):∀(n:Nat),
  (∀(cs:List Value) (x:DataW H×List MemPlace),DataW.trod enc Tryz.prog W 0 sp held n 46 cs=some x->(∀k∈x.1.weights Tryz.prog 46,k<=1125899906842624)->∃g,VQ g/\LR (kB W) (bx (cK 2) g 0) cs)/\
  (∀(cs:List Value) (x:DataW H×List MemPlace),DataW.trod enc Tryz.prog W 0 sp held n 22 cs=some x->(∀k∈x.1.weights Tryz.prog 22,k<=1125899906842624)->∃v l,cs= [v]/\VR (kB W) (.cv (.rows 2 l)) v/\(∀g∈l,VQ g)/\l.length<=1125899906842624)
 |0=>⟨fun cs x h=>by simp [DataW.trod] at h,fun cs x h=>by simp [DataW.trod] at h⟩
 |n+1=>by
  obtain⟨ih1,ih2⟩:=FD YO n
  refine⟨fun cs x h hw=>?_,fun cs x h hw=>qM (m:=2) YO Tryz.underlying22 FC (by decide) Qw VQ ih1 h hw⟩
  obtain⟨xs,m,hm,rfl,hlen,hxl,hel⟩:=DataW.trod_struct Tryz.underlying46 h
  injection hm with hm
  subst hm
  rw[FC] at hlen
  have hxl:xs.length=6:=hxl
  have hwe:∀(i:Nat) (t:TypeId) (d:DataW H),[3,3,3,9,44,22][i]? =some t->(xs.map (·.1))[i]? =some d->∀k∈d.weights Tryz.prog t,k<=1125899906842624:=by
   have hw':=hw
   simp only [DataW.weights,Tryz.underlying46] at hw'
   exact fm hw'
  obtain⟨c0,c1,c2,c3,c4,c5,rfl⟩:=VG hlen
  obtain⟨x0,x1,x2,x3,x4,x5,rfl⟩:=VG hxl
  have f0:DataW.trod enc Tryz.prog W 0 sp held n 3 [c0]=some x0:=by have h':DataW.trod enc Tryz.prog W 0 sp held n 3 (([c0,c1,c2,c3,c4,c5].drop 0).take (Tryz.prog.cellsOf 3))= [x0,x1,x2,x3,x4,x5][0]? :=hel 0 _ rfl;rw[xu] at h';exact h'
  have f1:DataW.trod enc Tryz.prog W 0 sp held n 3 [c1]=some x1:=by have h':DataW.trod enc Tryz.prog W 0 sp held n 3 (([c0,c1,c2,c3,c4,c5].drop 1).take (Tryz.prog.cellsOf 3))= [x0,x1,x2,x3,x4,x5][1]? :=hel 1 _ rfl;rw[xu] at h';exact h'
  have f2:DataW.trod enc Tryz.prog W 0 sp held n 3 [c2]=some x2:=by have h':DataW.trod enc Tryz.prog W 0 sp held n 3 (([c0,c1,c2,c3,c4,c5].drop 2).take (Tryz.prog.cellsOf 3))= [x0,x1,x2,x3,x4,x5][2]? :=hel 2 _ rfl;rw[xu] at h';exact h'
  have f3:DataW.trod enc Tryz.prog W 0 sp held n 9 [c3]=some x3:=by have h':DataW.trod enc Tryz.prog W 0 sp held n 9 (([c0,c1,c2,c3,c4,c5].drop 3).take (Tryz.prog.cellsOf 9))= [x0,x1,x2,x3,x4,x5][3]? :=hel 3 _ rfl;rw[Ny] at h';exact h'
  have f4:DataW.trod enc Tryz.prog W 0 sp held n 44 [c4]=some x4:=by have h':DataW.trod enc Tryz.prog W 0 sp held n 44 (([c0,c1,c2,c3,c4,c5].drop 4).take (Tryz.prog.cellsOf 44))= [x0,x1,x2,x3,x4,x5][4]? :=hel 4 _ rfl;rw[Qu] at h';exact h'
  have f5:DataW.trod enc Tryz.prog W 0 sp held n 22 [c5]=some x5:=by have h':DataW.trod enc Tryz.prog W 0 sp held n 22 (([c0,c1,c2,c3,c4,c5].drop 5).take (Tryz.prog.cellsOf 22))= [x0,x1,x2,x3,x4,x5][5]? :=hel 5 _ rfl;rw[Qv] at h';exact h'
  obtain⟨a,ea,_,_⟩:=DataW.trod_int Tryz.underlying3 f0
  obtain⟨b,eb,_,hb⟩:=DataW.trod_int Tryz.underlying3 f1
  obtain⟨c,ec,_,_⟩:=DataW.trod_int Tryz.underlying3 f2
  obtain⟨s,es,e3,_⟩:=DataW.trod_string Tryz.underlying9 f3
  obtain⟨v4,ns,e4,r4,l4⟩:=Nz YO f4 (hwe 4 _ _ rfl rfl)
  obtain⟨v5,ks,e5,r5,q5,l5⟩:=ih2 _ _ f5 (hwe 5 _ _ rfl rfl)
  injection ea with ea;injection eb with eb;injection ec with ec;injection es with es;injection e4 with e4;injection e5 with e5
  subst ea;subst eb;subst ec;subst es;subst e4;subst e5
  have ht:(bytesOf s).length<=1125899906842624:=by
   rw[H3]
   have:=hwe 3 _ x3.1 rfl rfl
   rw[e3] at this
   exact this _ (by simp only [DataW.weights,List.mem_singleton])
  exact⟨.node [.int a,.int b,.int c,.str (bytesOf s),.node ns,.node ks],VF (Qt hb) ht l4 l5 q5,LR.cons (.sI .i64 a) (LR.cons (.sI .i64 b) (LR.cons (.sI .i64 c) (LR.cons (.sS s) (LR.cons r4 (LR.cons r5 (LR.nil _))))))⟩
theorem TG{l:List G}(h:∀g∈l,VQ g):Uj l/\oX 1002 l:=⟨by unfold Uj;exact fun g hg=>(h g hg).1 16,by unfold oX;exact fun g hg=>(h g hg).2 1002⟩
end
end Go.Proofs.YtojibgjadakamaaGreatDoor
