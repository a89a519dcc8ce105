/- Part 12. -/
import Derived.Test.YthgjkeemmhcpfaaGreatDoorP11
set_option linter.all false
namespace Go.Sym
def Ko{P:Program}{f:Nat}{S:FSpec}(h:∀z,¬S.pre z):Ok P f S:=⟨λz=>⟨⟨λ_=>0,λ_=>[],λ_=>False,λ_=>[]⟩,λhp=>absurd hp (h z)⟩,λz hz=>absurd hz (h z)⟩
def ai{P:Program}{f:Nat}{S:FSpec}{l:List Ent}(h:Ok P f S)(hl:∀e∈l,ib P e):∀e∈(⟨f,S,Classical.choose h,false⟩:Ent)::l,ib P e:=eC (Classical.choose_spec h) hl
def jZ{P:Program}{f:Nat}{S:FSpec}{l:List Ent}(h:Ok P f S)(hl:∀e∈l,ib P e):∀e∈(⟨f,S,Classical.choose h,true⟩:Ent)::l,ib P e:=eC (Classical.choose_spec h) hl
def aF{P:Program}{fn id:Nat}{ptm:List (Nat×Sa)}{LS:Sy->LSpec}{l:List LEnt}(h:ZQ P fn id LS)(hl:∀e∈l,fG P e):∀e∈(⟨fn,id,iX P fn id,ptm,LS,Classical.choose h⟩:LEnt)::l,fG P e:=lC (Classical.choose_spec h) hl
def okF{P:Program}{m:List Memo}{c:List Ent}{l:List LEnt}{f:Nat}{S:FSpec}{T:Sy->Fm}{hn:Hn}(n:Nat)(hm:∀x∈m,mC P x)(hc:∀e∈c,ib P e)(hl:∀e∈l,fG P e)(hd:∀z,S.pre z->(T z).den)(he:∀z,S.callFm P (nQ m c l) n f z hn=T z:=by intro _;kernel_rfl):Ok P f S:=Rz (nR hm hc hl) λz hz=>⟨hn,by rw[he];exact hd z hz⟩
def okP{P:Program}{m:List Memo}{c:List Ent}{l:List LEnt}{f:Nat}{S:FSpec}{T:Sy->Fm}{hn:Hn}{t0:Nat}{D:Sy->Tm}(n:Nat)(hm:∀x∈m,mC P x)(hc:∀e∈c,ib P e)(hl:∀e∈l,fG P e)(hd:∀z,S.pre z->(T z).den)(hp:∀z,S.pre z->S.post z (aM [(t0,D z)]):=by intro _ _;rfl)(he:∀z,S.callFmP t0 D P (nQ m c l) n f z hn=T z:=by intro _;kernel_rfl):Ok P f S:=Mu (nR hm hc hl) hp λz hz=>⟨hn,by rw[he];exact hd z hz⟩
def okLF{P:Program}{m:List Memo}{c:List Ent}{l:List LEnt}{fn id:Nat}{LS:Sy->LSpec}{T:Sy->Sy->Fm}{hn:Hn}(n:Nat)(hm:∀x∈m,mC P x)(hc:∀e∈c,ib P e)(hl:∀e∈l,fG P e)(hd:∀p z,(LS p).inv z->(T p z).den)(he:∀p z,(LS p).roundFm P (nQ m c l) n fn id z hn=T p z:=by intro _ _;kernel_rfl)(hi:eU P fn id=true:=by kernel_rfl)(f9:∀p,Nat.ble (LS p).blk.length 64=true:=by intro _;rfl)(hgl:∀p g ty l,(LS p).gl=some (g,ty,l)->g<1048576:=by intro p g ty l h;cases h):ZQ P fn id LS:=WD (nR hm hc hl) hi (λp=>Nat.le_of_ble_eq_true (f9 p)) (λp z hz=>⟨hn,by rw[he];exact hd p z hz⟩) hgl
def hD:Nat->Nat->Hn×Nat
 |0,n=>(.nil,n)
 |k+1,n=>match n%4 with
  |0=>(.nil,n/4)
  |1=>(.both (hD k (n/4)).1 (hD k (hD k (n/4)).2).1,(hD k (hD k (n/4)).2).2)
  |2=>(.yes (hD k (n/4)).1,(hD k (n/4)).2)
  |_=>(.no (hD k (n/4)).1,(hD k (n/4)).2)
def hC(k n:Nat):Hn:=(hD k n).1
def bA{P:Program}{c:List Ent}{l:List LEnt}{f:Nat}{S:FSpec}{T:Sy->Fm}(i j:Nat)(hc:∀e∈c,ib P e)(hl:∀e∈l,fG P e)(hd:∀z,S.pre z->(T z).den)(he:∀z,S.callFm P (nQ [] c l) 1000 f z (hC i j)=T z:=by intro _;kernel_rfl):Ok P f S:=okF 1000 mN hc hl hd he
def bM{P:Program}{c:List Ent}{l:List LEnt}{fn id:Nat}{LS:Sy->LSpec}{T:Sy->Sy->Fm}(i j:Nat)(hc:∀e∈c,ib P e)(hl:∀e∈l,fG P e)(hd:∀p z,(LS p).inv z->(T p z).den)(he:∀p z,(LS p).roundFm P (nQ [] c l) 1000 fn id z (hC i j)=T p z:=by intro _ _;kernel_rfl)(hi:eU P fn id=true:=by kernel_rfl)(f9:∀p,Nat.ble (LS p).blk.length 64=true:=by intro _;rfl)(hgl:∀p g ty l,(LS p).gl=some (g,ty,l)->g<1048576:=by intro p g ty l h;cases h):ZQ P fn id LS:=okLF 1000 mN hc hl hd he hi f9 hgl
abbrev Fm.ax(q:Prop):Fm:=.an True (.at q)
abbrev Fm.ct(q:Prop)(r:Sy->Prop)(f:Sy->Fm):Fm:=.an (True/\q) (.al (λy=>q->r y) f)
abbrev Fm.cl(a q:Prop)(r:Sy->Prop)(f:Sy->Fm):Fm:=.an (a/\q) (.al (λy=>q->r y) f)
def kn{p:Prop}(h:p:=by(try conv=>zeta);(repeat' with_reducible first|intro _|apply bV|apply bW|apply bX|apply cy|apply cj);all_goals first|omega|grind [ao,am,ak]):p:=h
def i_{p:Prop}(h:p:=by(try conv=>zeta);(repeat' with_reducible first|intro _|apply bV|apply bW|apply bX|apply cy|apply cj);all_goals first|omega|grind [ao,am,ak,List.append_assoc]):p:=h
def Bb{p:Prop}(h:p:=by(try conv=>zeta);(repeat' with_reducible first|intro _|apply bV|apply bW|apply bX|apply cy|apply cj);all_goals first|omega|grind [ao,am,ak,List.append_assoc,List.length_append,List.length_cons,List.length_nil,List.append_cancel_left_eq,List.cons.injEq]):p:=h
end Go.Sym
