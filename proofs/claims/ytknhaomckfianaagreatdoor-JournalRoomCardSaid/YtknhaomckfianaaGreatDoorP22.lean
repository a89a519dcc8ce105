/- Part 22. -/
import Derived.Test.YtknhaomckfianaaGreatDoorProg
import Derived.KernelRfl
import Derived.Test.YtknhaomckfianaaGreatDoorP6
import Derived.Test.YtknhaomckfianaaGreatDoorP8
import Derived.Test.YtknhaomckfianaaGreatDoorP9
import Derived.Test.YtknhaomckfianaaGreatDoorP10
import Derived.Test.YtknhaomckfianaaGreatDoorP11
import Derived.Test.YtknhaomckfianaaGreatDoorP12
import Derived.Test.YtknhaomckfianaaGreatDoorP14
import Derived.Test.YtknhaomckfianaaGreatDoorP15
import Derived.Test.YtknhaomckfianaaGreatDoorP16
import Derived.Test.YtknhaomckfianaaGreatDoorP17
import Derived.Test.YtknhaomckfianaaGreatDoorP18
import Derived.Test.YtknhaomckfianaaGreatDoorP19
import Derived.Test.YtknhaomckfianaaGreatDoorP20
import Derived.Test.YtknhaomckfianaaGreatDoorP21
set_option linter.all false
namespace Go.Proofs.YtknhaomckfianaaGreatDoor
open Go.Sym
def Bb:∀m∈oJ,ga Tryz.prog m:=by
 intro m h;simp only [oJ,abr,aaS,or_false] at h;rcases h with rfl|rfl|rfl|rfl|rfl|rfl|rfl|rfl|rfl|rfl|rfl|rfl|rfl|rfl|rfl|rfl|rfl|rfl
 ·exact bq (dv _) Wi
 ·exact bq (dv _) Wj
 ·exact bq (dv _) Wk
 ·exact bq (dv _) Wl
 ·exact bq (dv _) Wm
 ·exact bq (dv _) Wn
 ·exact bq (dv _) Wo
 ·exact bq (dv _) Wp
 ·exact bq (dv _) Wq
 ·exact bq (dv _) Wr
 ·exact bq (dv _) Vu
 ·exact bq (dv _) Vv
 ·exact bq (dv _) Vw
 ·exact bq (dv _) Vx
 ·exact bq (dv _) Vy
 ·exact bq (dv _) Vz
 ·exact bq (dv _) VA
 ·exact bq (dv _) VB
set_option maxRecDepth 100000
noncomputable section
def Rq{P:Program}{M:Tab}(hM:TabOk P M){n f:Nat}{S:FSpec}(e1:S.args= [])(e2:S.blk= [])(e3:∀z,S.res z= .one (.c (.b 50)))(e4:∀z,S.out z= [])(e5:∀z y,y.p 50->S.post z y)(h:oW P M n f [] (addTab S.gl .leaf) 1048640=true):Ok P f S:=by
 refine⟨λz=>⟨aK [(50,.p (true=true))],λ_=>e5 _ _ rfl⟩,λz hz w ρ vs hG hl=>?_⟩
 have eH:S.heap z=addTab S.gl .leaf:=by unfold FSpec.heap;rw[e2];rfl
 have eA:S.argsA z= []:=by unfold FSpec.argsA;rw[e1];rfl
 rw[eH] at hG
 rw[eA] at hl
 refine fk (lI P hM w n).1 f [] vs .ret (Go.Sym.start (addTab S.gl .leaf) 1048640) _ ρ w _ (iZ (by decide) (by decide)) hG hl h λav v a8 ρ' w' q1 q2 q3 q4 q5=>?_
 have ha:av= .bool true:=by
  clear q5
  have q1:(λv:AV=>match v with | .bool true=>true|_=>false) av=true:=q1
  cases av with
  |bool b=>cases b with
   |true=>rfl
   |false=>exact absurd (show false=true from q1) (by decide)
  |_=>exact absurd (show false=true from q1) (by decide)
 subst ha
 refine⟨v,ρ',a8.h,.bool true,⟨[(50,.p (true=true))],[],[],True,[]⟩,rfl,q3,q4,q5, ?_,trivial,rfl⟩
 rw[e2,e3,e4]
 rfl
end
def KN:addTab nL .leaf=O6:=by with_unfolding_all rfl
def FH:Ok Tryz.prog 5 yT:=Rq (HB Bb) rfl rfl (λ_=>rfl) (λ_=>rfl) (λ_ _ h=>h) (show oW Tryz.prog (Tab.of oJ) 100000 5 [] (addTab nL .leaf) 1048640=true by rw[KN];exact FG)
set_option maxHeartbeats 4000000
def FI:bI 5 yT:=FH
def KO:bI 81 oI:=KL DC
def KP:bI 7 vB:=KM
abbrev NQ:=Fm.ct (True) (λy=>y.p 50)
def Rr:bI 3 O5:=cC 14 46076177 (ar (DH 2502) (ar FI (ar Rc (ar KO (ar KP (ar OQ (ar NA eN))))))) (aX (ptm:=[(0,.c (.i .i64 1)),(1,.ag (vN 100)),(2,.ag (vN 110))]) KK lN) λz hA=>show Fm.den (let v0:Fm:=(NQ λy0=>(.ax (y0.p 50)));(.two (z.i 1<200) v0 (.two (3000<z.i 1) v0 (.ct (Dl 2502 (z.i 102) (z.s 104) (z.g 105) (z.g 106)/\((0:Int)<=0/\(0:Int)<=3000000000000000)/\(2501:Int)<=0+2502/\1<=2502) (λy0=>(y0.p 10↔2500<y0.i 21)/\0<y0.i 21/\y0.i 21<=5000000000000000/\(y0.i 21<=2500->y0.i 21=0+ ↑(J7 2502 (z.s 104) (z.g 105) (z.g 106)))) λy0=>(.two (y0.p 10) (NQ λy1=>(.ax (y1.p 50))) (.ct (Dl 2502 (z.i 112) (z.s 114) (z.g 115) (z.g 116)/\(0<=y0.i 21/\y0.i 21<=3000000000000000)/\2501<=y0.i 21+2502/\1<=2502) (λy1=>(y1.p 10↔2500<y1.i 21)/\y0.i 21<y1.i 21/\y1.i 21<=5000000000000000/\(vz (y1.i 21) (y0.i 21) (J7 2502 (z.s 114) (z.g 115) (z.g 116)))) λy1=>(.two (y1.p 10) (NQ λy2=>(.ax (y2.p 50))) (.ct (1<=z.i 1/\z.i 1<=1073741824) (λy2=>y2.g 20=dR (z.i 1) []/\y2.i 30=0) λy2=>(.an (¬(z.i 1<0)) (.an (¬(1073741824<z.i 1)) (.an (¬(y2.i 30≠0)) (Tu λy3=>(.cl ((gi (y2.g 20))) (bn (y2.g 20)= []/\7<=64) (λy4=>y4.g 20=y2.g 20/\y4.i 30=7) λy4=>(.an (y4.i 30≠0) (.cl ((gi (y4.g 20))) (bn (y4.g 20)= []) (λy5=>y5.g 20=y4.g 20) λy5=>(.cl ((0=0/\0=0/\ez (y5.g 20)=ez (y5.g 20)/\(false=true↔False)/\z.g 116=z.g 116/\z.g 115=z.g 115/\z.s 114=z.s 114/\z.i 113=z.i 113/\z.i 112=z.i 112/\z.i 111=z.i 111/\z.g 106=z.g 106/\z.g 105=z.g 105/\z.s 104=z.s 104/\z.i 103=z.i 103/\z.i 102=z.i 102/\z.i 101=z.i 101/\z.i 1=z.i 1/\True)) ((jt [G.node [G.int (z.i 101),G.int (z.i 102),G.int (z.i 103),G.str (z.s 104),G.node (z.g 105),G.node (z.g 106)]]/\jt [G.node [G.int (z.i 111),G.int (z.i 112),G.int (z.i 113),G.str (z.s 114),G.node (z.g 115),G.node (z.g 116)]])/\((0:Int)<=0/\(0:Int)<=20)/\mq (z.i 1) [] [] (y5.g 20) (y3.i 1) (y3.g 2)/\(↑0:Int)<=0) (λy6=>(↑(cB (bn (y6.g 20))):Int)<=z.i 1) λy6=>(.cl ((gi (y6.g 20))) (True) (λy7=>y7.g 20=y6.g 20/\y7.i 30= ↑(cB (bn (y6.g 20)))) λy7=>(.an (y7.i 30<=z.i 1) (NQ λy8=>(.ax (y8.p 50))))))))))))))))))))) by
 dsimp only [O5,vN,iv] at hA;have:=@NP (z.i 1);have v1:OY [.node [.int (z.i 101),.int (z.i 102),.int (z.i 103),.str (z.s 104),.node (z.g 105),.node (z.g 106)]]->Dl 2502 (z.i 102) (z.s 104) (z.g 105) (z.g 106)->J7 2502 (z.s 104) (z.g 105) (z.g 106)<=2500->jt [.node [.int (z.i 101),.int (z.i 102),.int (z.i 103),.str (z.s 104),.node (z.g 105),.node (z.g 106)]]:=λh a b=>@DJ z 100 h a b;have v2:OY [.node [.int (z.i 111),.int (z.i 112),.int (z.i 113),.str (z.s 114),.node (z.g 115),.node (z.g 116)]]->Dl 2502 (z.i 112) (z.s 114) (z.g 115) (z.g 116)->J7 2502 (z.s 114) (z.g 115) (z.g 116)<=2500->jt [.node [.int (z.i 111),.int (z.i 112),.int (z.i 113),.str (z.s 114),.node (z.g 115),.node (z.g 116)]]:=λh a b=>@DJ z 110 h a b;conv=>zeta
 repeat' with_reducible first|intro _|apply d_|apply ed|apply ef|apply eu|apply ew
 all_goals first|omega|grind [aA,aq,ao,cd,ce,cf,cg,ci,cj,ck,cm,co,aY,List.append_assoc,iu,ir]
end Go.Proofs.YtknhaomckfianaaGreatDoor
