/- Part 22. -/
import Derived.ChangeMaps5
import Derived.Test.YthgjkeemmhcpfaaGreatDoorChecked
import Derived.OpenShut
import Derived.Test.YthgjkeemmhcpfaaGreatDoorProg
import Derived.KernelRfl
import Derived.Test.YthgjkeemmhcpfaaGreatDoorP11
import Derived.Test.YthgjkeemmhcpfaaGreatDoorP19
import Derived.Test.YthgjkeemmhcpfaaGreatDoorP20
set_option linter.all false
namespace Go.Proofs.YthgjkeemmhcpfaaGreatDoor
open Go.Sym
set_option maxRecDepth 100000
noncomputable section
variable{H:Type}{enc:TypeId×Value->H}{W:World}{sp:Nat->Bool}{held:Bool}
def VQ(g:G):Prop:=(∀k,Y8 k g=g)/\∀k,QS k g
def EG{n:Int}(h:(Lit.int .i64 n).wf=true): -9223372036854775808<=n/\n<9223372036854775808:=by simp [Lit.wf,IntKind.min,IntKind.max,IntKind.signed,IntKind.bits] at h;omega
def wT(s:ByteArray):(bytesOf s).length=s.data.toList.length:=by unfold bytesOf;rw[List.length_map]
def vq_mk{a b c:Int}{t:List Nat}{ns ks:List G}(hb: -9223372036854775808<=b/\b<9223372036854775808)(ht:t.length<=1125899906842624)(hn:ns.length<=1125899906842624)(hk:ks.length<=1125899906842624)(hq:∀g∈ks,VQ g):VQ (.node [.int a,.int b,.int c,.str t,.node ns,.node ks]):=by
 refine⟨λk=>?_,λk=>?_⟩
 ·have e:zG k ks=ks:=by
   cases k with
   |zero=>rfl
   |succ k=>exact(List.map_congr_left λg hg=>(hq g hg).1 k).trans (List.map_id' ks)
  show G.node [.int a,.int b,.int c,.str t,.node ns,.node (zG k ks)]=_;rw[e]
 ·cases k with
  |zero=>exact⟨hb,ht,hn,hk⟩
  |succ k=>exact⟨⟨hb,ht,hn,hk⟩,λx hx=>(hq x hx).2 k⟩
def zt:Tryz.prog.cellsOf 26=6:=by kernel_rfl
def EH:Tryz.prog.cellsOf 9=1:=by kernel_rfl
def iH:Tryz.prog.cellsOf 3=1:=by kernel_rfl
def Uf:Tryz.prog.cellsOf 23=1:=by kernel_rfl
def Ih:Tryz.prog.cellsOf 24=1:=by kernel_rfl
def Ug:0<Tryz.prog.bytesOf 26:=of_decide_eq_true (by kernel_rfl)
def Yn:0<Tryz.prog.bytesOf 9:=of_decide_eq_true (by kernel_rfl)
def Qy(hsp:∀b,sp b=true){n:Nat}{cs:List Value}{x:DataW H×List MemPlace}(h:DataW.trod enc Tryz.prog W 0 sp held n 23 cs=some x)(hw:∀k∈x.1.weights Tryz.prog 23,k<=1125899906842624):
 ∃v l,cs= [v]/\VR (fw W) (.cv (.rows 1 l)) v/\l.length<=1125899906842624:=by
 cases n with
 |zero=>simp [DataW.trod] at h
 |succ n=>
  obtain⟨v,l,h1,h2,_,h3⟩:=nS (m:=1) hsp Tryz.underlying23 EH (by decide) Yn (λ_=>True) (λcs x h _=>by obtain⟨s,rfl,_,_⟩:=DataW.trod_string Tryz.underlying9 h;exact⟨.node [.str (bytesOf s)],trivial,LR.cons (.sS s) (LR.nil _)⟩) h hw
  exact⟨v,l,h1,h2,h3⟩
def len6{α:Type}:∀{l:List α},l.length=6->∃a b c d e f,l= [a,b,c,d,e,f]
 | [a,b,c,d,e,f],_=>⟨a,b,c,d,e,f,rfl⟩
def zu(hsp:∀b,sp b=true):∀(n:Nat),
 (∀(cs:List Value) (x:DataW H×List MemPlace),DataW.trod enc Tryz.prog W 0 sp held n 26 cs=some x->(∀k∈x.1.weights Tryz.prog 26,k<=1125899906842624)->∃g,VQ g/\LR (fw W) (bB (cK 2) g 0) cs)/\
 (∀(cs:List Value) (x:DataW H×List MemPlace),DataW.trod enc Tryz.prog W 0 sp held n 24 cs=some x->(∀k∈x.1.weights Tryz.prog 24,k<=1125899906842624)->∃v l,cs= [v]/\VR (fw W) (.cv (.rows 2 l)) v/\(∀g∈l,VQ g)/\l.length<=1125899906842624)
 |0=>⟨λcs x h=>by simp [DataW.trod] at h,λcs x h=>by simp [DataW.trod] at h⟩
 |n+1=>by
  obtain⟨ih1,ih2⟩:=zu hsp n;refine⟨λcs x h hw=>?_,λcs x h hw=>nS (m:=2) hsp Tryz.underlying24 zt (by decide) Ug VQ ih1 h hw⟩;obtain⟨xs,m,hm,rfl,hlen,hxl,hel⟩:=DataW.trod_struct Tryz.underlying26 h;injection hm with hm;subst hm;rw[zt] at hlen;have hxl:xs.length=6:=hxl;have hwe:∀(i:Nat) (t:TypeId) (d:DataW H),[3,3,3,9,23,24][i]? =some t->(xs.map (·.1))[i]? =some d->∀k∈d.weights Tryz.prog t,k<=1125899906842624:=by have hw':=hw;simp only [DataW.weights,Tryz.underlying26] at hw';exact dm hw'
  obtain⟨c0,c1,c2,c3,c4,c5,rfl⟩:=len6 hlen;obtain⟨x0,x1,x2,x3,x4,x5,rfl⟩:=len6 hxl;have f0:DataW.trod enc Tryz.prog W 0 sp held n 3 [c0]=some x0:=by have h':DataW.trod enc Tryz.prog W 0 sp held n 3 (([c0,c1,c2,c3,c4,c5].drop 0).take (Tryz.prog.cellsOf 3))= [x0,x1,x2,x3,x4,x5][0]? :=hel 0 _ rfl;rw[iH] at h';exact h'
  have f1:DataW.trod enc Tryz.prog W 0 sp held n 3 [c1]=some x1:=by have h':DataW.trod enc Tryz.prog W 0 sp held n 3 (([c0,c1,c2,c3,c4,c5].drop 1).take (Tryz.prog.cellsOf 3))= [x0,x1,x2,x3,x4,x5][1]? :=hel 1 _ rfl;rw[iH] at h';exact h'
  have f2:DataW.trod enc Tryz.prog W 0 sp held n 3 [c2]=some x2:=by have h':DataW.trod enc Tryz.prog W 0 sp held n 3 (([c0,c1,c2,c3,c4,c5].drop 2).take (Tryz.prog.cellsOf 3))= [x0,x1,x2,x3,x4,x5][2]? :=hel 2 _ rfl;rw[iH] at h';exact h'
  have f3:DataW.trod enc Tryz.prog W 0 sp held n 9 [c3]=some x3:=by have h':DataW.trod enc Tryz.prog W 0 sp held n 9 (([c0,c1,c2,c3,c4,c5].drop 3).take (Tryz.prog.cellsOf 9))= [x0,x1,x2,x3,x4,x5][3]? :=hel 3 _ rfl;rw[EH] at h';exact h'
  have f4:DataW.trod enc Tryz.prog W 0 sp held n 23 [c4]=some x4:=by have h':DataW.trod enc Tryz.prog W 0 sp held n 23 (([c0,c1,c2,c3,c4,c5].drop 4).take (Tryz.prog.cellsOf 23))= [x0,x1,x2,x3,x4,x5][4]? :=hel 4 _ rfl;rw[Uf] at h';exact h'
  have f5:DataW.trod enc Tryz.prog W 0 sp held n 24 [c5]=some x5:=by have h':DataW.trod enc Tryz.prog W 0 sp held n 24 (([c0,c1,c2,c3,c4,c5].drop 5).take (Tryz.prog.cellsOf 24))= [x0,x1,x2,x3,x4,x5][5]? :=hel 5 _ rfl;rw[Ih] at h';exact h'
  obtain⟨a,ea,_,_⟩:=DataW.trod_int Tryz.underlying3 f0;obtain⟨b,eb,_,hb⟩:=DataW.trod_int Tryz.underlying3 f1;obtain⟨c,ec,_,_⟩:=DataW.trod_int Tryz.underlying3 f2;obtain⟨s,es,e3,_⟩:=DataW.trod_string Tryz.underlying9 f3;obtain⟨v4,ns,e4,r4,l4⟩:=Qy hsp f4 (hwe 4 _ _ rfl rfl);obtain⟨v5,ks,e5,r5,q5,l5⟩:=ih2 _ _ f5 (hwe 5 _ _ rfl rfl);injection ea with ea;injection eb with eb;injection ec with ec;injection es with es;injection e4 with e4;injection e5 with e5;subst ea;subst eb;subst ec;subst es;subst e4;subst e5;have ht:(bytesOf s).length<=1125899906842624:=by rw[wT];have:=hwe 3 _ x3.1 rfl rfl;rw[e3] at this;exact this _ (by simp only [DataW.weights,List.mem_singleton])
  exact⟨.node [.int a,.int b,.int c,.str (bytesOf s),.node ns,.node ks],vq_mk (EG hb) ht l4 l5 q5,LR.cons (.sI .i64 a) (LR.cons (.sI .i64 b) (LR.cons (.sI .i64 c) (LR.cons (.sS s) (LR.cons r4 (LR.cons r5 (LR.nil _))))))⟩
def Qz{l:List G}(h:∀g∈l,VQ g):Za l/\wL 1002 l:=⟨by unfold Za;exact λg hg=>(h g hg).1 16,by unfold wL;exact λg hg=>(h g hg).2 1002⟩
end
noncomputable section
variable{H:Type}{enc:TypeId×Value->H}{W:World}{sp:Nat->Bool}{held:Bool}
def Yo:0<Tryz.prog.bytesOf 24:=of_decide_eq_true (by kernel_rfl)
def VL(r:G):Prop:=(∀g∈gL (aa r 0),VQ g)/\(gL (aa r 0)).length<=1125899906842624
def QA(hsp:∀b,sp b=true){n:Nat}{cs:List Value}{x:DataW H×List MemPlace}(h:DataW.trod enc Tryz.prog W 0 sp held n 22 cs=some x)(hw:∀k∈x.1.weights Tryz.prog 22,k<=1125899906842624):
 ∃v l,cs= [v]/\VR (fw W) (.cv (.rows 13 l)) v/\(∀r∈l,VL r)/\l.length<=1125899906842624:=by
 cases n with
 |zero=>simp [DataW.trod] at h
 |succ n=>
  exact nS (m:=13) hsp Tryz.underlying22 Ih (by decide) Yo VL (λcs x h hw=>by obtain⟨v,l,rfl,h2,h3,h4⟩:=(zu hsp n).2 cs x h hw;exact⟨.node [.node l],⟨h3,h4⟩,LR.cons h2 (LR.nil _)⟩) h hw
def Kg{l:List G}(h:∀r∈l,VL r):En l/\NfM l:=by
 refine⟨?_, ?_⟩
 ·unfold En;exact λr hr=>⟨(Qz (h r hr).1).2,(h r hr).2⟩
 ·unfold NfM;exact λr hr=>(Qz (h r hr).1).1
end
noncomputable section
variable{H:Type}{enc:TypeId×Value->H}{W:World}{sp:Nat->Bool}{held:Bool}
def Yp:Tryz.prog.cellsOf 4=1:=by kernel_rfl
def Yq:Tryz.prog.cellsOf 5=1:=by kernel_rfl
def zx:Tryz.prog.cellsOf 28=32:=by kernel_rfl
def QB:Tryz.prog.cellsOf 30=2:=by kernel_rfl
def Yr:Tryz.prog.cellsOf 32=46:=by kernel_rfl
def Ys{ρ:Rho}{f:Nat->AV}:∀{n:Nat} {cs:List Value},cs.length=n->(∀i,i<n->∃v,cs[i]? =some v/\VR ρ (f i) v)->LR ρ ((List.range n).map f) cs
 |n,cs,hl,h=>by
  refine⟨by simp [hl],λi a v ha hv=>?_⟩;have hi:i<n:=by rw[←hl];exact(List.getElem?_eq_some_iff.1 hv).1
  rw[List.getElem?_map,List.getElem?_range hi] at ha;injection ha with ha;obtain⟨u,h1,h2⟩:=h i hi;rw[hv] at h1;injection h1 with h1;subst h1;subst ha;exact h2
def u8_wf{n:Int}(h:(Lit.int .u8 n).wf=true):0<=n/\n<256:=by simp [Lit.wf,IntKind.min,IntKind.max,IntKind.signed,IntKind.bits] at h;omega
def zy{n:Nat}{cs:List Value}{x:DataW H×List MemPlace}(h:DataW.trod enc Tryz.prog W 0 sp held n 28 cs=some x):
 ∃f:Nat->Int,(∀j,j<32->0<=f j/\f j<256)/\LR (fw W) ((List.range 32).map λj=>.sI .u8 (f j)) cs:=by
 obtain⟨xs,k,_,hx,hlen,hxl,hel⟩:=DataW.trod_array Tryz.underlying28 h
 rw[zx] at hlen
 have each:∀i,i<32->∃q:Int,cs[i]? =some (.int .u8 q)/\0<=q/\q<256:=λi hi=>by
  have e:=hel i hi;rw[Yq,Nat.mul_one,List.getElem?_eq_getElem (by omega)] at e;obtain⟨q,hk,_,hq⟩:=DataW.trod_int Tryz.underlying5 e;have e3:((cs.drop i).take 1)[0]? =some (.int .u8 q):=by rw[hk];rfl
  rw[List.getElem?_take_of_lt (by decide),List.getElem?_drop] at e3;exact⟨q,by simpa using e3,u8_wf hq⟩
 refine⟨λi=>if h:i<32 then Classical.choose (each i h) else 0,λj hj=>?_,Ys hlen λi hi=>?_⟩
 ·show 0<=dite _ _ _/\dite _ _ _<_;rw[dif_pos hj];exact(Classical.choose_spec (each j hj)).2
 ·refine⟨_,(Classical.choose_spec (each i hi)).1, ?_⟩;show VR _ (AV.sI _ (dite _ _ _)) _;rw[dif_pos hi];exact .sI _ _
def cut(cs:List Value)(a n:Nat):cs.drop a=(cs.drop a).take n++cs.drop (a+n):=by rw[←List.drop_drop,List.take_append_drop]
def Kh{n:Nat}{fs:Array Field}{cs:List Value}{xs:List (DataW H×List MemPlace)}(hel:∀(i:Nat) (f:Field),fs[i]? =some f->DataW.trod enc Tryz.prog W 0 sp held n f.type ((cs.drop f.offset).take (Tryz.prog.cellsOf f.type))=xs[i]?)(i d:Nat){f:Field}{t k:Nat}{x:DataW H×List MemPlace}(hf:fs[i]? =some f)(h1:f.type=t)(h2:f.offset=d)(h3:Tryz.prog.cellsOf t=k)(h4:xs[i]? =some x):DataW.trod enc Tryz.prog W 0 sp held n t ((cs.drop d).take k)=some x:=by subst h1;subst h2;subst h3;exact(hel i f hf).trans h4
def nine{α:Type}:∀{l:List α},l.length=9->∃a b c d e f g h i,l= [a,b,c,d,e,f,g,h,i]
 | [a,b,c,d,e,f,g,h,i],_=>⟨a,b,c,d,e,f,g,h,i,rfl⟩
def Yt:∀{C:List Value} {a b:Value},(C.drop 0).take 1= [a]->(C.drop 1).take 1= [b]->C.length=2->C= [a,b]
 | [x,y],a,b,h0,h1,_=>by have h0: [x]= [a]:=h0;have h1: [y]= [b]:=h1;injection h0 with h0;injection h1 with h1;rw[h0,h1]
def eCs(kd:Int)(tx:List Nat)(tb dc vr:Int)(g:G)(f:Nat->Int)(gn:Prop)(ab ae:Int):List AV:=
 [.sI .i64 kd]++([.sS tx]++([.sI .i64 tb]++([.sI .i64 dc]++([.sI .i64 vr]++(bB (cK 2) g 0++((List.range 32).map (λj=>AV.sI .u8 (f j))++([.sB gn]++ [.sI .i64 ab,.sI .i64 ae])))))))
def QC(s:ByteArray):B8 (bytesOf s):=by unfold B8 bytesOf;intro x hx;obtain⟨u,_,rfl⟩:=List.mem_map.1 hx;exact u.toNat_lt
def QD(hsp:∀b,sp b=true){n:Nat}{cs:List Value}{x:DataW H×List MemPlace}(h:DataW.trod enc Tryz.prog W 0 sp held n 32 cs=some x)(hw:∀k∈x.1.weights Tryz.prog 32,k<=1125899906842624):
 ∃kd tx tb dc vr g f gn ab ae,LR (fw W) (eCs kd tx tb dc vr g f gn ab ae) cs/\tx.length<=1125899906842624/\B8 tx/\(-9223372036854775808<=tb/\tb<9223372036854775808)/\(-9223372036854775808<=dc/\dc<9223372036854775808)/\(-9223372036854775808<=vr/\vr<9223372036854775808)/\(-9223372036854775808<=ab/\ab<9223372036854775808)/\(-9223372036854775808<=ae/\ae<9223372036854775808)/\VQ g/\∀j,j<32->0<=f j/\f j<256:=by
 cases n with
 |zero=>simp [DataW.trod] at h
 |succ n=>
 obtain⟨xs,m,hm,rfl,hlen,hxl,hel⟩:=DataW.trod_struct Tryz.underlying32 h
 injection hm with hm
 subst hm
 rw[Yr] at hlen
 have hxl:xs.length=9:=hxl
 have hwe:∀(i:Nat) (t:TypeId) (d:DataW H),[3,9,3,3,3,26,28,4,30][i]? =some t->(xs.map (·.1))[i]? =some d->∀k∈d.weights Tryz.prog t,k<=1125899906842624:=by have hw':=hw;simp only [DataW.weights,Tryz.underlying32] at hw';exact dm hw'
 obtain⟨x0,x1,x2,x3,x4,x5,x6,x7,x8,rfl⟩:=nine hxl
 have f0:=Kh hel 0 0 rfl rfl rfl iH rfl
 have f1:=Kh hel 1 1 rfl rfl rfl EH rfl
 have f2:=Kh hel 2 2 rfl rfl rfl iH rfl
 have f3:=Kh hel 3 3 rfl rfl rfl iH rfl
 have f4:=Kh hel 4 4 rfl rfl rfl iH rfl
 have f5:=Kh hel 5 5 rfl rfl rfl zt rfl
 have f6:=Kh hel 6 11 rfl rfl rfl zx rfl
 have f7:=Kh hel 7 43 rfl rfl rfl Yp rfl
 have f8:=Kh hel 8 44 rfl rfl rfl QB rfl
 obtain⟨kd,e0,_,_⟩:=DataW.trod_int Tryz.underlying3 f0
 obtain⟨s,e1,es,_⟩:=DataW.trod_string Tryz.underlying9 f1
 obtain⟨tb,e2,_,w2⟩:=DataW.trod_int Tryz.underlying3 f2
 obtain⟨dc,e3,_,w3⟩:=DataW.trod_int Tryz.underlying3 f3
 obtain⟨vr,e4,_,w4⟩:=DataW.trod_int Tryz.underlying3 f4
 obtain⟨g,hg,r5⟩:=(zu hsp n).1 _ _ f5 (hwe 5 _ _ rfl rfl)
 obtain⟨f,hf,r6⟩:=zy f6
 obtain⟨gn,e7,_⟩:=DataW.trod_bool Tryz.underlying4 f7
 obtain⟨ys,m2,_,_,hl2,hy2,aq0⟩:=DataW.trod_struct Tryz.underlying30 f8
 have hy2:ys.length=2:=hy2
 obtain⟨ab,e8,_,w8⟩:∃ab,(((cs.drop 44).take 2).drop 0).take 1= [.int .i64 ab]/\True/\(Lit.int .i64 ab).wf=true:=by obtain⟨q,a,_,b⟩:=DataW.trod_int Tryz.underlying3 (Kh aq0 0 0 rfl rfl rfl iH (List.getElem?_eq_getElem (by omega)));exact⟨q,a,trivial,b⟩
 obtain⟨ae,e9,_,w9⟩:∃ae,(((cs.drop 44).take 2).drop 1).take 1= [.int .i64 ae]/\True/\(Lit.int .i64 ae).wf=true:=by obtain⟨q,a,_,b⟩:=DataW.trod_int Tryz.underlying3 (Kh aq0 1 1 rfl rfl rfl iH (List.getElem?_eq_getElem (by omega)));exact⟨q,a,trivial,b⟩
 have e89:(cs.drop 44).take 2= [.int .i64 ab,.int .i64 ae]:=Yt e8 e9 (by rw[hl2,QB])
 have hcs:cs= [.int .i64 kd]++([.string s]++([.int .i64 tb]++([.int .i64 dc]++([.int .i64 vr]++((cs.drop 5).take 6++((cs.drop 11).take 32++([.bool gn]++ [.int .i64 ab,.int .i64 ae]))))))):=by rw[←e0, ←e1, ←e2, ←e3, ←e4, ←e7, ←e89];have l:=cut cs 44 2;rw[List.drop_eq_nil_of_le (show cs.length<=44+2 by omega),List.append_nil] at l;rw[←l, ←cut cs 43 1, ←cut cs 11 32, ←cut cs 5 6, ←cut cs 4 1, ←cut cs 3 1, ←cut cs 2 1, ←cut cs 1 1, ←cut cs 0 1,List.drop_zero]
 have ht:(bytesOf s).length<=1125899906842624:=by rw[wT];have:=hwe 1 _ x1.1 rfl rfl;rw[es] at this;exact this _ (by simp only [DataW.weights,List.mem_singleton])
 refine⟨kd,bytesOf s,tb,dc,vr,g,f,gn=true,ab,ae, ?_,ht,QC s,EG w2,EG w3,EG w4,EG w8,EG w9,hg,hf⟩
 rw[hcs]
 unfold eCs
 exact(LR.cons (.sI .i64 kd) (LR.nil _)).append ((LR.cons (.sS s) (LR.nil _)).append ((LR.cons (.sI .i64 tb) (LR.nil _)).append ((LR.cons (.sI .i64 dc) (LR.nil _)).append ((LR.cons (.sI .i64 vr) (LR.nil _)).append (r5.append (r6.append ((LR.cons (.sB _ gn Iff.rfl) (LR.nil _)).append (LR.cons (.sI .i64 ab) (LR.cons (.sI .i64 ae) (LR.nil _))))))))))
end
noncomputable section
variable{H:Type}{enc:TypeId×Value->H}{W:World}{sp:Nat->Bool}{held:Bool}
def Yu:0<Tryz.prog.bytesOf 28:=of_decide_eq_true (by kernel_rfl)
def Yv:Tryz.prog.cellsOf 35=33:=by kernel_rfl
def V3{f:Nat->Int}(h:∀j,j<32->0<=f j/\f j<256):HOk (.node ((List.range 32).map λj=>.int (f j))):=by unfold HOk;refine⟨(List.range 32).map f,by unfold hN;rw[aa4];rfl,by simp,λx hx=>?_⟩;obtain⟨j,hj,rfl⟩:=List.mem_map.1 hx;exact h j (List.mem_range.1 hj)
def QE(f:Nat->Int):bB (cK 6) (.node [.node ((List.range 32).map λj=>.int (f j))]) 0=(List.range 32).map (λj=>AV.sI .u8 (f j)):=by with_unfolding_all rfl
def Ki(hsp:∀b,sp b=true){n:Nat}{cs:List Value}{x:DataW H×List MemPlace}(h:DataW.trod enc Tryz.prog W 0 sp held n 33 cs=some x)(hw:∀k∈x.1.weights Tryz.prog 33,k<=1125899906842624):
 ∃v l,cs= [v]/\VR (fw W) (.cv (.rows 6 l)) v/\RowsOk l/\l.length<=1125899906842624:=by
 cases n with
 |zero=>simp [DataW.trod] at h
 |succ n=>
  obtain⟨v,l,h1,h2,h4,h3⟩:=nS (m:=6) hsp Tryz.underlying33 zx (by decide) Yu (λg=>HOk (hX (aa g 0))) (λcs x h _=>by obtain⟨f,hf,r⟩:=zy h;refine⟨.node [.node ((List.range 32).map λj=>.int (f j))], ?_,by rw[QE];exact r⟩;show HOk (hX (.node _));rw[db (V3 hf)];exact V3 hf) h hw
  exact⟨v,l,h1,h2,h4,h3⟩
def wU{n:Nat}{cs:List Value}{x:DataW H×List MemPlace}(h:DataW.trod enc Tryz.prog W 0 sp held n 35 cs=some x):
 ∃(m:Int) (f:Nat->Int),LR (fw W) ([.sI .i64 m]++(List.range 32).map λj=>.sI .u8 (f j)) cs/\∀j,j<32->0<=f j/\f j<256:=by
 cases n with
 |zero=>simp [DataW.trod] at h
 |succ n=>
 obtain⟨xs,m,hm,rfl,hlen,hxl,hel⟩:=DataW.trod_struct Tryz.underlying35 h
 injection hm with hm
 subst hm
 rw[Yv] at hlen
 have hxl:xs.length=2:=hxl
 obtain⟨x0,x1,rfl⟩:∃a b,xs= [a,b]:=by
  cases xs with
  |nil=>simp at hxl
  |cons a r=>cases r with
   |nil=>simp at hxl
   |cons b r=>cases r with
    |nil=>exact⟨a,b,rfl⟩
    |cons c r=>simp at hxl
 have f0:=Kh hel 0 0 rfl rfl rfl iH rfl
 have f1:=Kh hel 1 1 rfl rfl rfl zx rfl
 obtain⟨k,e0,_,_⟩:=DataW.trod_int Tryz.underlying3 f0
 obtain⟨f,hf,r⟩:=zy f1
 refine⟨k,f, ?_,hf⟩
 have e1:cs=cs.take 1++cs.drop 1:=(abb 1 cs).symm
 have e2:(cs.drop 1).take 32=cs.drop 1:=abd (by simp;omega)
 have e3:cs.take 1= [.int .i64 k]:=by simpa using e0
 rw[e1,e3]
 rw[e2] at r
 exact LR.append (LR.cons (.sI _ _) (LR.nil _)) r
def zT(l p:List G)(i k n pl by':Int)(kd:Int)(tx:List Nat)(tb dc vr:Int)(g:G)(f fa fb:Nat->Int)(gn:Prop)(ab ae na nb:Int):Sy:=
 ⟨λm=>match m with|202=>i|203=>k|204=>n|205=>pl|206=>by'|208=>na|209=>nb|1001=>kd|1003=>tb|1004=>dc|1005=>vr|1006=>gI (aa g 0)|1007=>gI (aa g 1)|1008=>gI (aa g 2)|1013=>ab|1014=>ae|m=>bif Nat.ble 2400 m then fb (m-2400) else bif Nat.ble 2300 m then fa (m-2300) else f (m-1100),
  λm=>match m with|1002=>tx|_=>gS (aa g 3),λ_=>gn,λm=>match m with|201=>l|207=>p|1010=>gL (aa g 4)|_=>gL (aa g 5)⟩
section
variable(l p:List G)(i k n pl by' kd:Int)(tx:List Nat)(tb dc vr:Int)(g:G)(f fa fb:Nat->Int)(gn:Prop)(ab ae na nb:Int)
def zT_e:ki bH (zT l p i k n pl by' kd tx tb dc vr g f fa fb gn ab ae na nb) enD=eCs kd tx tb dc vr g f gn ab ae:=by with_unfolding_all rfl
def zT_a:ki bH (zT l p i k n pl by' kd tx tb dc vr g f fa fb gn ab ae na nb) (dg 208 2300)= [.sI .i64 na]++(List.range 32).map λj=>.sI .u8 (fa j):=by with_unfolding_all rfl
def zT_b:ki bH (zT l p i k n pl by' kd tx tb dc vr g f fa fb gn ab ae na nb) (dg 209 2400)= [.sI .i64 nb]++(List.range 32).map λj=>.sI .u8 (fb j):=by with_unfolding_all rfl
def zT_h(h:∀j,j<32->0<=f j/\f j<256):HOk (hT (zT l p i k n pl by' kd tx tb dc vr g f fa fb gn ab ae na nb) 1100):=by unfold HOk;refine⟨(List.range 32).map f,by with_unfolding_all rfl,by simp,λx hx=>?_⟩;obtain⟨j,hj,rfl⟩:=List.mem_map.1 hx;exact h j (List.mem_range.1 hj)
def zT_ha(h:∀j,j<32->0<=fa j/\fa j<256):HOk (hT (zT l p i k n pl by' kd tx tb dc vr g f fa fb gn ab ae na nb) 2300):=by unfold HOk;refine⟨(List.range 32).map fa,by with_unfolding_all rfl,by simp,λx hx=>?_⟩;obtain⟨j,hj,rfl⟩:=List.mem_map.1 hx;exact h j (List.mem_range.1 hj)
def zT_hb(h:∀j,j<32->0<=fb j/\fb j<256):HOk (hT (zT l p i k n pl by' kd tx tb dc vr g f fa fb gn ab ae na nb) 2400):=by unfold HOk;refine⟨(List.range 32).map fb,by with_unfolding_all rfl,by simp,λx hx=>?_⟩;obtain⟨j,hj,rfl⟩:=List.mem_map.1 hx;exact h j (List.mem_range.1 hj)
end
end
end Go.Proofs.YthgjkeemmhcpfaaGreatDoor
