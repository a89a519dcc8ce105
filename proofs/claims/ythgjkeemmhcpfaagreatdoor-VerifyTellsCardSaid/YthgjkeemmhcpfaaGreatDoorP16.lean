/- Part 16. -/
import Derived.Test.YthgjkeemmhcpfaaGreatDoorProg
import Derived.KernelRfl
import Derived.Test.YthgjkeemmhcpfaaGreatDoorP12
import Derived.Test.YthgjkeemmhcpfaaGreatDoorP13
import Derived.Test.YthgjkeemmhcpfaaGreatDoorP14
import Derived.Test.YthgjkeemmhcpfaaGreatDoorP15
set_option linter.all false
namespace Go.Proofs.YthgjkeemmhcpfaaGreatDoor
open Go.Sym
set_option maxRecDepth 100000
noncomputable section
def br(n:Nat):Nat:=2 ^ (n-1).log2
def fY(n:Nat):0<br n:=aaQ _
def eX{n:Nat}(h:2<=n):br n<n:=by have:=Nat.log2_self_le (n:=n-1) (by omega);unfold br;omega
def DX{n:Nat}(h:2<=n):n<=2 * br n:=by have:n-1<2 ^ ((n-1).log2+1):=Nat.lt_log2_self;rw[aaX] at this;unfold br;omega
def NS{n j:Nat}(h1:2 ^ j<n)(h2:n<=2 * 2 ^ j):br n=2 ^ j:=by
 unfold br;congr 1;have h0:n-1≠0:=by have:=aaQ j;omega
 have a1:j<=(n-1).log2:=(Nat.le_log2 h0).2 (by omega);have a2:(n-1).log2<j+1:=(Nat.log2_lt h0).2 (by rw[aaX];omega);omega
def aO(l:List G):G:=
 if h:2<=l.length then aY (aO (l.take (br l.length))) (aO (l.drop (br l.length)))
 else match l with | []=>dJ []|r::_=>hX (aa r 0)
termination_by l.length
decreasing_by
 ·rw[aal];have:=eX h;omega
 ·rw[aao];have:=fY l.length;omega
def gg{l:List G}(h:2<=l.length):aO l=aY (aO (l.take (br l.length))) (aO (l.drop (br l.length))):=by rw[aO,dif_pos h]
def lP{l:List G}(h:l.length=1):aO l=hX (aa (aq l 0) 0):=by
 match l,h with
 | [r],_=>rw[aO];rfl
def pF{l:List G}(h:l.length=0):aO l=dJ []:=by
 match l,h with
 | [],_=>rw[aO];rfl
def RowsOk(l:List G):Prop:=∀r∈l,HOk (hX (aa r 0))
def RowsOk.take{l:List G}(h:RowsOk l)(n:Nat):RowsOk (l.take n):=λr hr=>h r (List.mem_of_mem_take hr)
def RowsOk.drop{l:List G}(h:RowsOk l)(n:Nat):RowsOk (l.drop n):=λr hr=>h r (List.mem_of_mem_drop hr)
def RowsOk.at{l:List G}(h:RowsOk l){i:Int}(h0:0<=i)(hi:i<l.length):HOk (hX (aa (aq l i.toNat) 0)):=h _ (dp h0 hi)
def cu(l:List G)(h:RowsOk l):HOk (aO l):=by
 rcases aaf l.length 2 with h2|h2
 ·match l,h2,h with
  | [],_,_=>rw[pF rfl];exact fW _
  | [r],_,h=>rw[lP rfl];exact h r (List.mem_singleton.2 rfl)
  |_::_::_,h2,_=>simp at h2;omega
 ·rw[gg h2];exact bR _ _
def drop_zero(l:List G):l.drop (0:Int).toNat=l:=rfl
def JH{l:List G}{k:Int}(h:2<=l.length)(hk:k=(br l.length:Nat)):aO l=aY (aO (List.drop (0:Int).toNat (List.take k.toNat l))) (aO (List.drop k.toNat (List.take (l.length:Int).toNat l))):=by subst hk;rw[gg h,drop_zero,aaq,aaq,aa7]
def a_(i:Int)(l:List G):List G:=
 if h:2<=l.length then
  if i<(br l.length:Nat) then a_ i (l.take (br l.length))++ [.node [aO (l.drop (br l.length))]]
  else a_ (i-(br l.length:Nat)) (l.drop (br l.length))++ [.node [aO (l.take (br l.length))]]
 else []
termination_by l.length
decreasing_by
 ·rw[aal];have:=eX h;omega
 ·rw[aao];have:=fY l.length;omega
def oz{i:Int}{l:List G}(h:2<=l.length)(hi:i<(br l.length:Nat)):a_ i l=a_ i (l.take (br l.length))++ [.node [aO (l.drop (br l.length))]]:=by rw[a_,dif_pos h,if_pos hi]
def oA{i:Int}{l:List G}(h:2<=l.length)(hi:¬i<(br l.length:Nat)):a_ i l=a_ (i-(br l.length:Nat)) (l.drop (br l.length))++ [.node [aO (l.take (br l.length))]]:=by rw[a_,dif_pos h,if_neg hi]
def gh{i:Int}{l:List G}(h:¬2<=l.length):a_ i l= []:=by rw[a_,dif_neg h]
def gP(h:G)(i n:Int)(p:List G):G×Prop:=
 if hn:2<=n then
  if p.length=0 then(hZ,False)
  else if i<(br n.toNat:Nat) then(aY (gP h i (br n.toNat:Nat) p.dropLast).1 (hX (aa (aq p (p.length-1)) 0)),(gP h i (br n.toNat:Nat) p.dropLast).2)
  else(aY (hX (aa (aq p (p.length-1)) 0)) (gP h (i-(br n.toNat:Nat)) (n-(br n.toNat:Nat)) p.dropLast).1,(gP h (i-(br n.toNat:Nat)) (n-(br n.toNat:Nat)) p.dropLast).2)
 else(h,p.length=0)
termination_by n.toNat
decreasing_by all_goals (have:=eX (n:=n.toNat) (by omega);have:=fY n.toNat;omega)
def lQ{h:G}{i n:Int}{p:List G}(hn:¬2<=n):gP h i n p=(h,p.length=0):=by rw[gP,dif_neg hn]
def yo{h:G}{i n:Int}{p:List G}(hn:2<=n)(hp:p.length=0):gP h i n p=(hZ,False):=by rw[gP,dif_pos hn,if_pos hp]
def yp{h:G}{i n:Int}{p:List G}(hn:2<=n)(hp:¬p.length=0)(hi:i<(br n.toNat:Nat)):gP h i n p=(aY (gP h i (br n.toNat:Nat) p.dropLast).1 (hX (aa (aq p (p.length-1)) 0)),(gP h i (br n.toNat:Nat) p.dropLast).2):=by rw[gP,dif_pos hn,if_neg hp,if_pos hi]
def yq{h:G}{i n:Int}{p:List G}(hn:2<=n)(hp:¬p.length=0)(hi:¬i<(br n.toNat:Nat)):gP h i n p=(aY (hX (aa (aq p (p.length-1)) 0)) (gP h (i-(br n.toNat:Nat)) (n-(br n.toNat:Nat)) p.dropLast).1,(gP h (i-(br n.toNat:Nat)) (n-(br n.toNat:Nat)) p.dropLast).2):=by rw[gP,dif_pos hn,if_neg hp,if_neg hi]
def ku(n:Int)(rows L:List G):Prop:=(L.length:Int)=n/\∀j p:Nat,(p+1) * 2 ^ j<=L.length->kg 0 rows [(j:Int),(p:Int)]/\hX (aa (eM 0 rows [(j:Int),(p:Int)]) 2)=aO ((L.drop (p * 2 ^ j)).take (2 ^ j))
def TrIn(lv:Int)(rows L:List G):Prop:=∀j p:Nat,(p+1) * 2 ^ j<=L.length->((p+1) * 2 ^ j<L.length∨(j:Int)<=lv)->kg 0 rows [(j:Int),(p:Int)]/\hX (aa (eM 0 rows [(j:Int),(p:Int)]) 2)=aO ((L.drop (p * 2 ^ j)).take (2 ^ j))
def BS{m:Nat}{l:List G}{k:List Int}{v:List G}(hk:k.length=(bJ m).ks.length):kg m (dk m l k v) k/\eM m (dk m l k v) k= .node (k.map G.int++v):=by
 have ag6:dA (bJ m).ks.length (.node (k.map G.int++v)) 0=k:=pk hk;unfold kg eM;by_cases h:cG m l k<l.length
 ·have e:dk m l k v=l.set (cG m l k) (.node (k.map G.int++v)):=by unfold dk;rw[if_pos h]
  have hi:cG m (l.set (cG m l k) (.node (k.map G.int++v))) k=cG m l k:=by
   unfold cG at h⊢;refine(List.findIdx_eq (by rw[aaY];exact h)).2 ⟨?_,λj hj=>?_⟩
   ·rw[List.getElem_set_self];simpa using ag6
   ·rw[List.getElem_set_ne (by omega)];exact abR hj
  rw[e,hi];refine⟨by rw[aaY];exact h, ?_⟩;unfold aq;rw[aag,abL h];rfl
 ·have e:dk m l k v=l++ [.node (k.map G.int++v)]:=by unfold dk;rw[if_neg h]
  have ad6:∀x∈l,¬dA (bJ m).ks.length x 0=k:=λx hx hc=>h (List.findIdx_lt_length_of_exists ⟨x,hx,by simpa using hc⟩);have hi:cG m (l++ [.node (k.map G.int++v)]) k=l.length:=by
   unfold cG;refine(List.findIdx_eq (by simp)).2 ⟨?_,λj hj=>?_⟩
   ·rw[List.getElem_append_right (by omega)];simpa using ag6
   ·rw[abS (by omega)];simpa using ad6 _ (abe _)
  rw[e,hi];refine⟨by simp, ?_⟩;unfold aq;rw[aag,aax (by omega)];simp
def tG{m:Nat}{l:List G}{k k':List Int}{v:List G}(hk:k.length=(bJ m).ks.length)(m8:k'≠k)(h':kg m l k'):kg m (dk m l k v) k'/\eM m (dk m l k v) k'=eM m l k':=by
 have ag6:dA (bJ m).ks.length (.node (k.map G.int++v)) 0=k:=pk hk;have h'':cG m l k'<l.length:=h';have q9:dA (bJ m).ks.length (l[cG m l k']) 0=k':=by have:=List.findIdx_getElem (w:=(show List.findIdx _ l<l.length from h''));exact of_decide_eq_true this
 unfold kg eM;by_cases h:cG m l k<l.length
 ·have e:dk m l k v=l.set (cG m l k) (.node (k.map G.int++v)):=by unfold dk;rw[if_pos h]
  have ae9:dA (bJ m).ks.length (l[cG m l k]) 0=k:=by have:=List.findIdx_getElem (w:=(show List.findIdx _ l<l.length from h));exact of_decide_eq_true this
  have hnn:cG m l k≠cG m l k':=λe=>m8 (by rw[←q9, ←ae9];simp only [e]);have hi:cG m (l.set (cG m l k) (.node (k.map G.int++v))) k'=cG m l k':=by
   refine(List.findIdx_eq (by rw[aaY];exact h'')).2 ⟨?_,λj hj=>?_⟩
   ·rw[List.getElem_set_ne hnn];simpa using q9
   ·by_cases ej:cG m l k=j
    ·subst ej;rw[List.getElem_set_self];simp only [ag6,decide_eq_false_iff_not];exact λe=>m8 e.symm
    ·rw[List.getElem_set_ne ej];exact abR hj
  rw[e,hi];refine⟨by rw[aaY];exact h'', ?_⟩;unfold aq;rw[aag,List.getElem?_set_ne hnn, ←aag]
 ·have e:dk m l k v=l++ [.node (k.map G.int++v)]:=by unfold dk;rw[if_neg h]
  have hi:cG m (l++ [.node (k.map G.int++v)]) k'=cG m l k':=by
   refine(List.findIdx_eq (by simp;omega)).2 ⟨?_,λj hj=>?_⟩
   ·rw[abS h''];simpa using q9
   ·rw[abS (by omega)];exact abR hj
  rw[e,hi];refine⟨by simp;omega, ?_⟩;unfold aq;rw[aag,aaA h'', ←aag]
def wo(h:G):aO [.node [h]]=hX h:=lP rfl
def NT{n:Int}{rows L:List G}{h:G}(ht:ku n rows L)(hh:hX h=h):TrIn 0 (dk 0 rows [0,n] [h]) (L++ [.node [h]]):=by
 obtain⟨e,ht⟩:=ht;intro j p h1 h2;rw[aah,aaL] at h1 h2;by_cases c8:(p+1) * 2 ^ j<=L.length
 ·obtain⟨a1,a2⟩:=ht j p c8;have m8: [(j:Int),(p:Int)]≠ [0,n]:=λee=>by
   injection ee with e1 ee;injection ee with e2 _;have:j=0:=by omega
   subst this;simp at c8;omega
  obtain⟨b1,b2⟩:=tG (m:=0) (v:=[h]) rfl m8 a1;refine⟨b1, ?_⟩;rw[b2,a2];have hb:p * 2 ^ j+2 ^ j<=L.length:=by rw[aaz,Nat.one_mul] at c8;exact c8
  generalize 2 ^ j=q at hb;rw[abB (by omega),abq (by rw[aao];omega)]
 ·have hj:j=0:=by
   rcases h2 with h2|h2
   ·omega
   ·omega
  subst hj;have hp:p=L.length:=by simp at c8 h1;omega
  subst hp;obtain⟨b1,b2⟩:=BS (m:=0) (l:=rows) (k:=[0,n]) (v:=[h]) rfl;rw[e];refine⟨b1, ?_⟩;rw[show((0:Nat):Int)=0 by rfl,b2];simp only [Nat.pow_zero,aaF,List.drop_left];rw[show List.take 1 [G.node [h]]= [.node [h]] by rfl,wo];rfl
def BU(L:List G)(lv pl:Int):G:=aO ((L.drop (pl.toNat * 2 ^ lv.toNat)).take (2 ^ lv.toNat))
def yr(L:List G)(lv pl:Int)(rows:List G)(h:G):Prop:=TrIn lv rows L/\0<=lv/\0<=pl/\(pl.toNat+1) * 2 ^ lv.toNat=L.length/\h=BU L lv pl
def BV{n:Int}{rows L:List G}{h:G}(ht:ku n rows L)(hh:hX h=h):yr (L++ [.node [h]]) 0 n (dk 0 rows [0,n] [h]) h:=by
 refine⟨NT ht hh,by decide,by have:=ht.1;omega, ?_, ?_⟩
 ·rw[aah,aaL];have:=ht.1;simp;omega
 ·unfold BU;have e:n.toNat=L.length:=by have:=ht.1;omega
  rw[e];simp only [show(0:Int).toNat=0 by rfl,Nat.pow_zero,aaF,List.drop_left];rw[show List.take 1 [G.node [h]]= [.node [h]] by rfl,wo,hh]
def DY{L:List G}{lv pl:Int}{rows:List G}{h:G}(hl:yr L lv pl rows h)(ho:pl%2=1):kg 0 rows [lv,pl-1]/\hX (aa (eM 0 rows [lv,pl-1]) 2)=aO ((L.drop ((pl.toNat-1) * 2 ^ lv.toNat)).take (2 ^ lv.toNat)):=by obtain⟨h1,h2,h3,h4,h5⟩:=hl;have hp:=aaQ lv.toNat;have:=h1 lv.toNat (pl.toNat-1) (by rw[←h4];exact aay _ (by omega)) (.inl (by rw[←h4];exact Nat.mul_lt_mul_of_pos_right (by omega) hp));rw[show((lv.toNat:Nat):Int)=lv by omega,show((pl.toNat-1:Nat):Int)=pl-1 by omega] at this;exact this
def GJ{L:List G}{lv pl:Int}{rows:List G}{h h':G}(hl:yr L lv pl rows h)(ho:pl%2=1)(hh:h'=aY (hX (aa (eM 0 rows [lv,pl-1]) 2)) h):yr L (lv+1) (pl/2) (dk 0 rows [lv+1,pl/2] [h']) h':=by
 obtain⟨_,a2⟩:=DY hl ho;obtain⟨h1,h2,h3,h4,h5⟩:=hl;have hp:=aaQ lv.toNat;have e1:(lv+1).toNat=lv.toNat+1:=by omega
 have e2:pl.toNat=2 * (pl/2).toNat+1:=by omega
 have e3:((pl/2).toNat+1) * 2 ^ (lv+1).toNat=L.length:=by rw[e1,aaX, ←h4,e2];rw[Nat.mul_comm (2 ^ lv.toNat) 2, ←Nat.mul_assoc];congr 1;omega
 have e4:h'=BU L (lv+1) (pl/2):=by
  rw[hh,a2,h5];unfold BU;have hlen:((L.drop ((pl/2).toNat * 2 ^ (lv+1).toNat)).take (2 ^ (lv+1).toNat)).length=2 ^ (lv.toNat+1):=by rw[aal,aao, ←e3,e1,aaz];omega
  have hb:(pl.toNat-1) * 2 ^ lv.toNat=(pl/2).toNat * 2 ^ (lv+1).toNat:=by rw[e1,aaX,e2,Nat.mul_comm (2 ^ lv.toNat) 2, ←Nat.mul_assoc];congr 1;omega
  have hb2:pl.toNat * 2 ^ lv.toNat=(pl/2).toNat * 2 ^ (lv+1).toNat+2 ^ lv.toNat:=by
   rw[←hb];generalize 2 ^ lv.toNat=q;obtain⟨x,hx⟩:∃x,pl.toNat=x+1:=⟨pl.toNat-1,by omega⟩
   rw[hx,Nat.add_sub_cancel,aaz,Nat.one_mul]
  have h2p:2<=2 ^ (lv.toNat+1):=by rw[aaX];omega
  have as4:br (2 ^ (lv.toNat+1))=2 ^ lv.toNat:=NS (by rw[aaX];omega) (by rw[aaX];omega);rw[gg (l:=(L.drop ((pl/2).toNat * 2 ^ (lv+1).toNat)).take (2 ^ (lv+1).toNat)) (by rw[hlen];exact h2p),hlen,as4,List.take_take,abp (by rw[e1,aaX];omega),abs,aa1,hb,hb2];congr 3;rw[e1,aaX];omega
 refine⟨λj p q1 q2=>?_,by omega,by omega,e3,e4⟩;by_cases ek: [(j:Int),(p:Int)]= [lv+1,pl/2]
 ·obtain⟨b1,b2⟩:=BS (m:=0) (l:=rows) (k:=[lv+1,pl/2]) (v:=[h']) rfl;rw[ek];refine⟨b1, ?_⟩;rw[b2];injection ek with k1 ek;injection ek with k2 _;have hr:hX h'=h':=by rw[hh];exact db (bR _ _)
  show hX h'=_;rw[hr,e4];unfold BU;rw[show(lv+1).toNat=j by omega,show(pl/2).toNat=p by omega]
 ·have:=h1 j p q1 (by
   rcases q2 with q2|q2
   ·exact .inl q2
   ·by_cases hj:(j:Int)<=lv
    ·exact .inr hj
    ·refine .inl (Nat.lt_of_le_of_ne q1 λe=>ek ?_);have ej:j=lv.toNat+1:=by omega
     subst ej;have:p+1=(pl/2).toNat+1:=Nat.eq_of_mul_eq_mul_right (aaQ (lv.toNat+1)) (by rw[e, ←e3,e1]);have ep:p=(pl/2).toNat:=by omega
     rw[ep,show((lv.toNat+1:Nat):Int)=lv+1 by omega,show(((pl/2).toNat:Nat):Int)=pl/2 by omega])
  obtain⟨b1,b2⟩:=tG (m:=0) (v:=[h']) rfl ek this.1;exact⟨b1,by rw[b2];exact this.2⟩
def W6{L:List G}{lv pl:Int}{rows:List G}{h:G}(hl:yr L lv pl rows h)(ho:¬pl%2=1):ku L.length rows L:=by
 obtain⟨h1,h2,h3,h4,h5⟩:=hl;refine⟨rfl,λj p q1=>h1 j p q1 ?_⟩;rcases aaf ((p+1) * 2 ^ j) L.length with q|q
 ·exact .inl q
 ·refine .inr ?_;have e:(p+1) * 2 ^ j=(pl.toNat+1) * 2 ^ lv.toNat:=by omega
  rcases aaf lv.toNat j with hj|hj
  ·exfalso;obtain⟨d,rfl⟩:∃d,j=lv.toNat+1+d:=⟨j-lv.toNat-1,by omega⟩
   rw[Nat.pow_add,aaX] at e;have:(pl.toNat+1)=(p+1) * 2 ^ d * 2:=Nat.eq_of_mul_eq_mul_right (aaQ lv.toNat) (by rw[←e];rw[Nat.mul_comm (2 ^ lv.toNat * 2) (2 ^ d), ←Nat.mul_assoc, ←Nat.mul_assoc,Nat.mul_right_comm]);omega
  ·omega
def Kp(fr n:Int):Prop:=∃j:Nat,n.toNat<=2 ^ j/\fr%(2 ^ j:Nat)=0
def W7{N fr n:Int}{rows L:List G}{i:Nat}(ht:ku N rows L)(h0:0<=fr)(hn:n=(2 ^ i:Nat))(hb:fr+n<=N)(ha:Kp fr n):kg 0 rows [(i:Int),fr/(2 ^ i:Nat)]/\hX (aa (eM 0 rows [(i:Int),fr/(2 ^ i:Nat)]) 2)=aO ((L.drop fr.toNat).take n.toNat):=by
 obtain⟨j,a1,a2⟩:=ha;have hp:=aaQ i;have hij:i<=j:=(Nat.pow_le_pow_iff_right (by decide:1<2)).1 (by omega);have hd:fr%(2 ^ i:Nat)=0:=by
  obtain⟨d,rfl⟩:∃d,j=i+d:=⟨j-i,by omega⟩
  rw[Nat.pow_add] at a2;have:=abG a2;exact Int.emod_eq_zero_of_dvd (Int.dvd_trans ⟨((2 ^ d:Nat):Int),by push_cast;rfl⟩ this)
 obtain⟨q,hq⟩:=abG hd;have hq0:0<=q:=by
  rcases Int.lt_or_le q 0 with h|h
  ·have:((2 ^ i:Nat):Int) * q<0:=Int.mul_neg_of_pos_of_neg (by omega) h;omega
  ·exact h
 have e1:fr/(2 ^ i:Nat)=q:=by rw[hq];exact Int.mul_ediv_cancel_left _ (by omega)
 have e2:fr.toNat=q.toNat * 2 ^ i:=by
  have:fr=((q.toNat * 2 ^ i:Nat):Int):=by rw[hq];push_cast;rw[Int.mul_comm];congr 1;omega
  omega
 have:=ht.2 i q.toNat (by rw[aaz,Nat.one_mul, ←e2];have:=ht.1;omega);rw[e1,show q=((q.toNat:Nat):Int) by omega,e2,show n.toNat=2 ^ i by omega];exact this
def al_lo{fr n k:Int}(hn:2<=n)(hk:k=(br n.toNat:Nat))(h:Kp fr n):Kp fr k:=by obtain⟨j,a1,a2⟩:=h;exact⟨j,by have:=eX (n:=n.toNat) (by omega);omega,a2⟩
def al_hi{fr n k:Int}(hn:2<=n)(h0:0<=fr)(hk:k=(br n.toNat:Nat))(h:Kp fr n):Kp (fr+k) (n-k):=by
 obtain⟨j,a1,a2⟩:=h;have hg:=DX (n:=n.toNat) (by omega);have hl:=eX (n:=n.toNat) (by omega);refine⟨(n.toNat-1).log2,by show(n-k).toNat<=br n.toNat;omega, ?_⟩;have hij:(n.toNat-1).log2<=j:=by
  rcases aaf j (n.toNat-1).log2 with h|h
  ·have:2 ^ j<2 ^ (n.toNat-1).log2:=Nat.pow_lt_pow_right (by decide) h;have:br n.toNat=2 ^ (n.toNat-1).log2:=rfl;omega
  ·exact h
 obtain⟨d,hd⟩:∃d,j=(n.toNat-1).log2+d:=⟨j-(n.toNat-1).log2,by omega⟩
 rw[hd,Nat.pow_add] at a2;have h1:=abG a2;have h2:((2 ^ (n.toNat-1).log2:Nat):Int) ∣ fr:=Int.dvd_trans ⟨((2 ^ d:Nat):Int),by push_cast;rfl⟩ h1;exact Int.emod_eq_zero_of_dvd (Int.dvd_add h2 ⟨1,by rw[hk];show((br n.toNat:Nat):Int)=_;rw[Int.mul_one];rfl⟩)
def DZ{L:List G}{fr n k:Int}(h0:0<=fr)(hn:2<=n)(hb:fr+n<=L.length)(hk:k=(br n.toNat:Nat)):aO ((L.drop fr.toNat).take n.toNat)=aY (aO ((L.drop fr.toNat).take k.toNat)) (aO ((L.drop (fr+k).toNat).take (n-k).toNat)):=by
 have hl:=eX (n:=n.toNat) (by omega);have hlen:((L.drop fr.toNat).take n.toNat).length=n.toNat:=by rw[aal,aao];omega
 rw[gg (l:=(L.drop fr.toNat).take n.toNat) (by rw[hlen];omega),hlen,List.take_take,abp (by omega),abs,aa1];congr 3
 ·omega
 ·congr 1;omega
 ·congr 1;omega
def lp_lv{L:List G}{lv pl:Int}{rows:List G}{h:G}(hl:yr L lv pl rows h)(hL:L.length<=2000000):(0<=lv/\lv<=30)/\0<=pl/\pl<=2000000:=by
 obtain⟨h1,h2,h3,h4,h5⟩:=hl;have hp:=aaQ lv.toNat;have a:2 ^ lv.toNat<=2000000:=by have:1 * 2 ^ lv.toNat<=(pl.toNat+1) * 2 ^ lv.toNat:=aay _ (by omega);omega
 have b:lv.toNat<31:=by
  rcases aaf lv.toNat 31 with h|h
  ·exact h
  ·have:=abv (n:=2) (by decide) h;omega
 have c:(pl.toNat+1) * 1<=(pl.toNat+1) * 2 ^ lv.toNat:=Nat.mul_le_mul_left _ hp;omega
def D0{n:Int}{rows L:List G}(h:ku n rows L):(L.length:Int)=n:=by exact h.1
def W8:ku 0 [] []:=by exact⟨rfl,λj p h=>by have:=aaQ j;have:1 * 2 ^ j<=(p+1) * 2 ^ j:=aay _ (by omega);simp at h;omega⟩
def al0(n:Int):Kp 0 n:=by exact⟨n.toNat,Nat.le_of_lt Nat.lt_two_pow_self,by simp⟩
def So(n:Nat):br n=2 ^ (n-1).log2:=rfl
attribute [irreducible] ku yr Kp br
end
noncomputable section
def dz(x:Int):Int:=if x<=0 then 0 else((x.toNat.log2+1:Nat):Int)
def NU:List Nat:=[0,1,2,2,3,3,3,3,4,4,4,4,4,4,4,4,5,5,5,5,5,5,5,5,5,5,5,5,5,5,5,5,6,6,6,6,6,6,6,6,6,6,6,6,6,6,6,6,6,6,6,6,6,6,6,6,6,6,6,6,6,6,6,6,7,7,7,7,7,7,7,7,7,7,7,7,7,7,7,7,7,7,7,7,7,7,7,7,7,7,7,7,7,7,7,7,7,7,7,7,7,7,7,7,7,7,7,7,7,7,7,7,7,7,7,7,7,7,7,7,7,7,7,7,7,7,7,7,8,8,8,8,8,8,8,8,8,8,8,8,8,8,8,8,8,8,8,8,8,8,8,8,8,8,8,8,8,8,8,8,8,8,8,8,8,8,8,8,8,8,8,8,8,8,8,8,8,8,8,8,8,8,8,8,8,8,8,8,8,8,8,8,8,8,8,8,8,8,8,8,8,8,8,8,8,8,8,8,8,8,8,8,8,8,8,8,8,8,8,8,8,8,8,8,8,8,8,8,8,8,8,8,8,8,8,8,8,8,8,8,8,8,8,8,8,8,8,8,8,8,8,8,8,8,8,8]
def fM:List Nat:=[0,1,56,2,57,49,28,3,61,58,42,50,38,29,17,4,62,47,59,36,45,43,51,22,53,39,33,30,24,18,12,5,63,55,48,27,60,41,37,16,46,35,44,21,52,32,23,11,54,26,40,15,34,20,31,10,25,14,19,9,13,8,7,6]
def Sp:∀i:Nat,i<256->((kA NU i:Nat):Int)=dz i:=by
 have h:∀i:Fin 256,kA NU i.1=if i.1=0 then 0 else i.1.log2+1:=by decide+kernel
 intro i hi;rw[h ⟨i,hi⟩];unfold dz;by_cases e:i=0
 ·subst e;rfl
 ·rw[if_neg e,if_neg (by omega),aaq]
def Sq(x:Int):Int:=IntKind.u64.wrap (Int.ofNat ((aC (aj .u64) x).land (aC (aj .u64) ((0-x)%18446744073709551616)))) * 285870213051353865%18446744073709551616/288230376151711744
def W9:∀j:Fin 41,(0<=Sq ((2 ^ j.1:Nat):Int)/\Sq ((2 ^ j.1:Nat):Int)<64)/\fM.getD (Sq ((2 ^ j.1:Nat):Int)).toNat 0=j.1:=by decide+kernel
def tz_ok{x:Int}{j:Nat}(hj:j<=40)(e:x=((2 ^ j:Nat):Int)):0<x/\(0<=Sq x/\Sq x<64)/\(((fM.getD (Sq x).toNat 0:Nat):Int)=(j:Int))/\x=((2 ^ (((fM.getD (Sq x).toNat 0:Nat):Int)).toNat:Nat):Int):=by subst e;obtain⟨h1,h2⟩:=W9 ⟨j,by omega⟩;refine⟨by have:=aaQ j;omega,h1,by rw[h2], ?_⟩;have h2:fM.getD (Sq ((2 ^ j:Nat):Int)).toNat 0=j:=h2;rw[h2,aaq]
def D1{x:Nat}{k:Nat}(h:2 ^ k<=x):x.log2=k+(x/2 ^ k).log2:=by
 have hp:=aaQ k;have hd:x/2 ^ k≠0:=by have:=Nat.div_pos h hp;omega
 have hx:x≠0:=by omega
 have a:=Nat.log2_self_le hd;have b:x/2 ^ k<2 ^ ((x/2 ^ k).log2+1):=Nat.lt_log2_self;have h1:2 ^ (k+(x/2 ^ k).log2)<=x:=by rw[Nat.pow_add,Nat.mul_comm];exact aaH (aay _ a) (Nat.div_mul_le_self _ _)
 have h2:x<2 ^ (k+(x/2 ^ k).log2+1):=by rw[abr,Nat.pow_add,Nat.mul_comm];exact(Nat.div_lt_iff_lt_mul hp).1 b
 have c1:=(Nat.le_log2 hx).2 h1;have c2:=(Nat.log2_lt hx).2 h2;omega
def mO{x:Int}(k:Nat)(h:((2 ^ k:Nat):Int)<=x):dz x=k+dz (x/((2 ^ k:Nat):Int)):=by
 obtain⟨n,rfl⟩:∃n:Nat,x=n:=⟨x.toNat,by have:=aaQ k;omega⟩
 have hn:2 ^ k<=n:=by omega
 have hp:=aaQ k;have hd:0<n/2 ^ k:=Nat.div_pos hn hp;have e:((n:Int)/((2 ^ k:Nat):Int))=((n/2 ^ k:Nat):Int):=by simp
 rw[e];unfold dz;rw[if_neg (by omega),if_neg (by omega),aaq,aaq,D1 hn];omega
def Ss{x:Int}(h:4294967296<=x):dz x=32+dz (x/4294967296):=mO 32 h
def GK{x:Int}(h:65536<=x):dz x=16+dz (x/65536):=mO 16 h
def yt{x:Int}(h:256<=x):dz x=8+dz (x/256):=mO 8 h
def fC{x:Int}(h0:0<=x)(h:x<256):((kA NU (x%256).toNat:Nat):Int)=dz x:=by rw[Sp _ (by omega)];congr 1;omega
def wp{n:Int}(h:2<=n)(h1:n<=1099511627776):(0<=dz (n-1)-1/\dz (n-1)-1<=40)/\((2 ^ min (dz (n-1)-1).toNat (bo .i64):Nat):Int)=(br n.toNat:Nat):=by
 have e:dz (n-1)-1=(((n.toNat-1).log2:Nat):Int):=by unfold dz;rw[if_neg (by omega),show(n-1).toNat=n.toNat-1 by omega];omega
 have hl:(n.toNat-1).log2<41:=(Nat.log2_lt (by omega)).2 (by omega);rw[e];refine⟨by omega, ?_⟩;rw[aaq,So];show((2 ^ min ((n.toNat-1).log2) 64:Nat):Int)=_;rw[abp (by omega)]
def eY{n:Int}(h:2<=n):1<=((br n.toNat:Nat):Int)/\((br n.toNat:Nat):Int)<n/\n<=2 * ((br n.toNat:Nat):Int):=by have a:=fY n.toNat;have b:=eX (n:=n.toNat) (by omega);have c:=DX (n:=n.toNat) (by omega);omega
def and1i{x:Int}(h0:0<=x)(h:x<9223372036854775808):IntKind.i64.wrap (Int.ofNat ((aC (aj .i64) x).land (aC (aj .i64) 1)))=x%2:=by
 obtain⟨n,rfl⟩:∃n:Nat,x=n:=⟨x.toNat,by omega⟩
 have e:(aC (aj .i64) n).land (aC (aj .i64) 1)=n%2:=by show(n%18446744073709551616) &&& 1=_;rw[aa9 (by omega),Nat.and_one_is_mod]
 rw[e];rcases abw n with h2|h2
 ·rw[h2];show(0:Int)=_;omega
 ·rw[h2];show(1:Int)=_;omega
def Su{n:Nat}(h:1<=n):n &&& (n-1)=0↔∃i,n=2 ^ i:=by
 constructor
 ·intro e;refine⟨n.log2, ?_⟩;have a:=Nat.log2_self_le (n:=n) (by omega);rcases aaf (2 ^ n.log2) n with c8|hge
  ·exfalso;have b:n<2 ^ (n.log2+1):=Nat.lt_log2_self;have t1:n.testBit n.log2=true:=Nat.testBit_log2 (by omega);have t2:(n-1).testBit n.log2=true:=by
    have:(n-1).log2=n.log2:=by have c1:=(Nat.le_log2 (n:=n-1) (k:=n.log2) (by omega)).2 (by omega);have c2:=(Nat.log2_lt (n:=n-1) (k:=n.log2+1) (by omega)).2 (by omega);omega
    rw[←this];exact Nat.testBit_log2 (by omega)
   have t3:(n &&& (n-1)).testBit n.log2=true:=by rw[Nat.testBit_and,t1,t2];rfl
   rw[e] at t3;simp at t3
  ·omega
 ·rintro⟨i,rfl⟩;refine Nat.eq_of_testBit_eq λj=>?_
  rw[Nat.testBit_and,Nat.testBit_two_pow_sub_one,Nat.testBit_two_pow,Nat.zero_testBit];by_cases e:i=j
  ·subst e;simp
  ·simp [e]
def NV{x y:Int}(hy:y=x-1)(h0:1<=x)(h:x<4611686018427387904):IntKind.i64.wrap (Int.ofNat ((aC (aj .i64) x).land (aC (aj .i64) y)))=0↔∃i:Nat,x=((2 ^ i:Nat):Int):=by
 subst hy;obtain⟨n,rfl⟩:∃n:Nat,x=n:=⟨x.toNat,by omega⟩
 obtain⟨m,hm⟩:∃m:Nat,n=m+1:=⟨n-1,by omega⟩
 subst hm;have e:(aC (aj .i64) ((m+1:Nat):Int)).land (aC (aj .i64) (((m+1:Nat):Int)-1))=(m+1) &&& m:=by rw[show((m+1:Nat):Int)-1=(m:Nat) by omega];show((m+1)%18446744073709551616) &&& (m%18446744073709551616)=_;rw[aa9 (by omega),aa9 (by omega)]
 rw[e,tw (Nat.lt_of_le_of_lt Nat.and_le_left (by omega)),show(m+1) &&& m=(m+1) &&& (m+1-1) by rfl,Su (by omega)];exact⟨λ⟨i,hi⟩=>⟨i,by omega⟩,λ⟨i,hi⟩=>⟨i,by omega⟩⟩
def NW{L:List G}{h:G}(hL:RowsOk L)(hh:HOk h):RowsOk (L++ [.node [h]]):=λr hr=>by
 rcases List.mem_append.1 hr with hr|hr
 ·exact hL r hr
 ·rw[List.mem_singleton.1 hr];show HOk (hX h);rw[db hh];exact hh
def lV(x:Int):Prop:=∃j:Nat,x=((2 ^ j:Nat):Int)
def NX:lV 1:=⟨0,rfl⟩
def W_{x:Int}(h:lV x):lV (2 * x):=by obtain⟨j,e⟩:=h;exact⟨j+1,by rw[e,aaX];push_cast;omega⟩
def NY{x:Int}(h:lV x):1<=x:=by obtain⟨j,e⟩:=h;have:=aaQ j;omega
def Xa{x n:Int}(h:lV x)(h1:x<n)(h2:n<=2 * x):x=(br n.toNat:Nat):=by obtain⟨j,e⟩:=h;rw[NS (n:=n.toNat) (j:=j) (by omega) (by omega)];exact e
def Xb{x y:Int}(hy:y=x-1)(h0:1<=x)(h:x<4611686018427387904):IntKind.i64.wrap (Int.ofNat ((aC (aj .i64) x).land (aC (aj .i64) y)))=0↔lV x:=NV hy h0 h
def p2_ex{x:Int}(h:lV x)(hx:x<=1000000):∃j:Nat,j<=40/\x=((2 ^ j:Nat):Int):=by
 obtain⟨j,e⟩:=h;refine⟨j, ?_,e⟩;rcases aaf 40 j with h|h
 ·have:=abv (n:=2) (by decide) h;omega
 ·exact h
def mP(lv pl:Int)(rows:List G)(h:G):Prop:=∃L,yr L lv pl rows h/\L.length<=2000000/\RowsOk L
def uA(lv pl:Int)(rows:List G)(h:G)(o7:List G):Prop:=∀L,yr L lv pl rows h->ku L.length o7 L
def dV(n:Int)(rows:List G):Prop:=∃L,ku n rows L/\RowsOk L
def BW(n:Int)(rows:List G)(h:G)(n':Int)(o7:List G):Prop:=∀L,ku n rows L->ku n' o7 (L++ [.node [h]])
def iD(n:Int)(rows:List G)(fr k:Int)(h:G):Prop:=∀L,ku n rows L->h=aO ((L.drop fr.toNat).take k.toNat)
def Xc{lv pl:Int}{rows:List G}{h:G}(hl:mP lv pl rows h):(0<=lv/\lv<=30)/\0<=pl/\pl<=2000000:=by obtain⟨L,h1,h2,_⟩:=hl;exact lp_lv h1 h2
def Sv{lv pl:Int}{rows:List G}{h:G}(hl:mP lv pl rows h)(ho:pl%2=1):kg 0 rows [lv,pl-1]:=by obtain⟨L,h1,h2⟩:=hl;exact(DY h1 ho).1
def Xd{lv pl:Int}{rows:List G}{h:G}(hl:mP lv pl rows h)(ho:pl%2=1):HOk (hX (aa (eM 0 rows [lv,pl-1]) 2)):=by obtain⟨L,h1,h2,h3⟩:=hl;rw[(DY h1 ho).2];exact cu _ ((h3.drop _).take _)
def NZ{lv pl:Int}{rows:List G}{h h':G}(hl:mP lv pl rows h)(ho:pl%2=1)(hh:h'=aY (hX (aa (eM 0 rows [lv,pl-1]) 2)) h):mP (lv+1) (pl/2) (dk 0 rows [lv+1,pl/2] [h']) h':=by obtain⟨L,h1,h2⟩:=hl;exact⟨L,GJ h1 ho hh,h2⟩
def N0{lv pl:Int}{rows o7:List G}{h h':G}(ho:pl%2=1)(hh:h'=aY (hX (aa (eM 0 rows [lv,pl-1]) 2)) h)(ht:uA (lv+1) (pl/2) (dk 0 rows [lv+1,pl/2] [h']) h' o7):uA lv pl rows h o7:=λL hl=>ht L (GJ hl ho hh)
def Sw{lv pl:Int}{rows:List G}{h:G}(ho:¬pl%2=1):uA lv pl rows h rows:=λL hl=>W6 hl ho
def JI{n:Int}{rows:List G}{h:G}(hl:dV n rows)(hn:n<=1000000)(hh:hX h=h)(ho:HOk h):mP 0 n (dk 0 rows [0,n] [h]) h:=by obtain⟨L,h1,h2⟩:=hl;exact⟨_,BV h1 hh,by have:=D0 h1;rw[aah,aaL];omega,NW h2 ho⟩
def JJ{n:Int}{rows o7:List G}{h:G}(hh:hX h=h)(ht:uA 0 n (dk 0 rows [0,n] [h]) h o7):BW n rows h (n+1) o7:=λL hl=>by have:=ht _ (BV hl hh);rw[aah,aaL] at this;have e:=D0 hl;rw[show((L.length+1:Nat):Int)=n+1 by omega] at this;exact this
def Sx{N fr n lv:Int}{rows:List G}(h0:0<=fr)(hlv:0<=lv)(hn:n=((2 ^ lv.toNat:Nat):Int))(hb:fr+n<=N)(ha:Kp fr n):(dV N rows->kg 0 rows [lv,fr/((2 ^ lv.toNat:Nat):Int)]/\HOk (hX (aa (eM 0 rows [lv,fr/((2 ^ lv.toNat:Nat):Int)]) 2)))/\iD N rows fr n (hX (aa (eM 0 rows [lv,fr/((2 ^ lv.toNat:Nat):Int)]) 2)):=by have key:=λL (hl:ku N rows L)=>W7 (i:=lv.toNat) hl h0 hn hb ha;rw[show((lv.toNat:Nat):Int)=lv by omega] at key;exact⟨λ⟨L,h1,h2⟩=>⟨(key L h1).1,by rw[(key L h1).2];exact cu _ ((h2.drop _).take _)⟩,λL hl=>(key L hl).2⟩
def Sz{N fr n k:Int}{rows:List G}{a b:G}(h0:0<=fr)(hn:2<=n)(hb:fr+n<=N)(hk:k=(br n.toNat:Nat))(h1:iD N rows fr k a)(h2:iD N rows (fr+k) (n-k) b):iD N rows fr n (aY a b):=λL hl=>by rw[DZ h0 hn (by have:=D0 hl;omega) hk,h1 L hl,h2 L hl]
def Xe{N fr n:Int}{rows:List G}{h:G}(he:dV N rows)(ht:iD N rows fr n h):HOk h:=by obtain⟨L,h1,h2⟩:=he;rw[ht L h1];exact cu _ ((h2.drop _).take _)
def SA{N:Int}{rows:List G}{n:Int}(hn:n=0):iD N rows 0 n (dJ []):=λL _=>by subst hn;show _=aO [];rw[pF rfl]
def N1:FSpec:=⟨[.c (.i .u64 1)],[],λz=>0<=z.i 1/\z.i 1<18446744073709551616,λ_=>.one (.c (.i .i64 10)),λ_=>[],λz y=>y.i 10=dz (z.i 1),none⟩
def GL:FSpec:=⟨[.c (.i .i64 1)],[],λz=>2<=z.i 1/\z.i 1<=1099511627776,λ_=>.one (.c (.i .i64 10)),λ_=>[],λz y=>y.i 10=(br (z.i 1).toNat:Nat),none⟩
def lk:Option (Nat×Nat×List Nat):=some (2,373,fM)
def Stz:FSpec:=⟨[.c (.i .u64 1)],[],λz=>lV (z.i 1)/\z.i 1<=1000000,λ_=>.one (.c (.i .i64 10)),λ_=>[],λz y=>(0<=y.i 10/\y.i 10<=40)/\z.i 1=((2 ^ (y.i 10).toNat:Nat):Int),lk⟩
def N2:List BSh:=[.cells 169 [.i .i64 1,.m 1],.sm 0 2]
def Xf:List BSh:=[.cells 169 [.i .i64 1,.m 1],.sm 0 2,.cells 28 (hs 100)]
def N3(p:Sy):LSpec:=⟨[(0,.c (.p 0)),(3,.c (.p 2)),(5,.c (.i .i64 5)),(6,.c (.i .i64 6)),(7,.c (.i .i64 7))],Xf,λz=>HOk (hT z 100)/\mP (z.i 6) (z.i 7) (z.g 2) (hT z 100),λz=>(z.i 7).toNat,[⟨.exit 0,[(0,.c (.p 0)),(5,.c (.i .i64 5))],Xf⟩],λz y=>y.i 5=z.i 5/\y.i 1=z.i 1/\uA (z.i 6) (z.i 7) (z.g 2) (hT z 100) (y.g 2),none,[]⟩
def Sadd:FSpec:=⟨[.c (.p 0),.ag (hs 100)],N2,λz=>HOk (hT z 100)/\(0<=z.i 1/\z.i 1<1000000)/\dV (z.i 1) (z.g 2),λ_=>.one (.c .o),λ_=>N2,λz y=>y.i 1=z.i 1+1/\BW (z.i 1) (z.g 2) (hT z 100) (y.i 1) (y.g 2),none⟩
def U_(k:Nat):FSpec:=⟨[.c (.p 0),.c (.i .i64 5),.c (.i .i64 6)],N2,λz=>(1<=z.i 6/\z.i 6<k)/\0<=z.i 5/\z.i 5+z.i 6<=z.i 1/\z.i 1<=1000000/\Kp (z.i 5) (z.i 6)/\dV (z.i 1) (z.g 2),λ_=>.one (.ag (hs 300)),λ_=>N2,λz y=>y.i 1=z.i 1/\y.g 2=z.g 2/\iD (z.i 1) (z.g 2) (z.i 5) (z.i 6) (hT y 300),lk⟩
def Va:FSpec:=⟨[.c (.p 0),.c (.i .i64 6)],N2,λz=>(0<=z.i 1/\z.i 1<=1000000)/\dV (z.i 1) (z.g 2),λ_=>.tu [.ag (hs 300),.c (.i .i64 50)],λ_=>N2,λz y=>y.i 1=z.i 1/\y.g 2=z.g 2/\(z.i 6<0∨z.i 1<z.i 6->y.i 50=1/\hT y 300=hZ)/\(0<=z.i 6/\z.i 6<=z.i 1->y.i 50=0/\iD (z.i 1) (z.g 2) 0 (z.i 6) (hT y 300)),lk⟩
def BX(p:Sy):LSpec:=⟨[(0,.c (.pi .i64 (p.i 1))),(3,.c (.i .i64 7))],[],λz=>(2<=p.i 1/\p.i 1<=1099511627776)/\z.i 7<p.i 1/\lV (z.i 7),λz=>(p.i 1-z.i 7).toNat,[⟨.exit 0,[(3,.c (.i .i64 7))],[]⟩],λz y=>y.i 7=(br (p.i 1).toNat:Nat),none,[]⟩
abbrev N4:=GL
def N5(k:Nat):FSpec:=⟨[.c (.v 6 1)],[],λz=>(z.g 1).length<k/\(z.g 1).length<=1000000/\RowsOk (z.g 1),λ_=>.one (.ag (hs 300)),λ_=>[],λz y=>hT y 300=aO (z.g 1),none⟩
def Vb(k:Nat):FSpec:=⟨[.c (.i .i64 3),.c (.v 6 1)],[],λz=>(z.g 1).length<k/\(z.g 1).length<=1000000/\RowsOk (z.g 1)/\0<=z.i 3/\z.i 3<=1000000,λ_=>.one (.c (.g 0 32 30)),λ_=>[.grow 6 28 30],λz y=>y.g 30=a_ (z.i 3) (z.g 1)/\(y.g 30).length<=(z.g 1).length,none⟩
def Sup(k:Nat):FSpec:=⟨[.ag (hs 100),.c (.i .i64 3),.c (.i .i64 4),.c (.v 6 1)],[],λz=>HOk (hT z 100)/\(0<=z.i 3/\z.i 3<z.i 4)/\z.i 4<k/\z.i 4<=1099511627776/\(z.g 1).length<=1000000/\RowsOk (z.g 1),λ_=>.tu [.ag (hs 300),.c (.b 50)],λ_=>[],λz y=>HOk (hT y 300)/\hT y 300=(gP (hT z 100) (z.i 3) (z.i 4) (z.g 1)).1/\(y.p 50↔(gP (hT z 100) (z.i 3) (z.i 4) (z.g 1)).2),none⟩
def GM{n n':Int}{rows o7:List G}{h:G}(ht:BW n rows h n' o7)(L:List G)(hl:ku n rows L):ku n' o7 (L++ [.node [h]]):=ht L hl
def N6{n:Int}{rows L:List G}(hl:ku n rows L)(hr:RowsOk L):dV n rows:=⟨L,hl,hr⟩
def Xg{n fr k:Int}{rows:List G}{h:G}(ht:iD n rows fr k h)(L:List G)(hl:ku n rows L):h=aO ((L.drop fr.toNat).take k.toNat):=ht L hl
attribute [irreducible] lV dz NU fM mP uA dV BW iD
end
set_option maxHeartbeats 4000000
abbrev mi(a:Int):=br a.toNat
def JK:bN 64 0 BX:=bM 10 53269 eN lN λp z hA=>show Fm.den (let v1:=(mi (p.i 1));let v2:=((-9223372036854775808)<=2 * z.i 7/\2 * z.i 7<=9223372036854775807);let v3:=(2<=p.i 1/\p.i 1<=1099511627776);let v4:=(2 * z.i 7);let v5:=(p.i 1-z.i 7);let v0:Fm:=(.an (p.i 1=p.i 1/\True) (.at ((v3/\IntKind.i64.wrap v4<p.i 1/\lV (dw v4))/\(p.i 1-IntKind.i64.wrap v4).toNat<v5.toNat/\∀(y:Sy),y.i 7= ↑v1->y.i 7= ↑v1)));(.two ((-9223372036854775808)<=p.i 1-z.i 7/\p.i 1-z.i 7<=9223372036854775807) (.two (z.i 7<p.i 1-z.i 7) (.two v2 (.an (p.i 1=p.i 1/\True) (.at ((v3/\2 * z.i 7<p.i 1/\lV v4)/\(p.i 1-2 * z.i 7).toNat<v5.toNat/\∀(y:Sy),y.i 7= ↑v1->y.i 7= ↑v1))) v0) (.ax (z.i 7= ↑v1))) (.two (z.i 7<IntKind.i64.wrap v5) (.an (¬v2) v0) (.ax (z.i 7= ↑v1))))) by dsimp only [BX] at hA;have:=@W_ (z.i 7);have:=@NY (z.i 7);have:=@Xa (z.i 7) (p.i 1);exact fx
def ri:bn 64 N4:=bA 1 0 eN (aF (ptm:=[(0,.c (.i .i64 1))]) JK lN) λz hA=>show Fm.den ((.cl ((z.i 1=z.i 1/\True)) ((2<=z.i 1/\z.i 1<=1099511627776)/\1<z.i 1/\lV 1) (λy0=>y0.i 7= ↑(mi (z.i 1))) λy0=>(.ax (y0.i 7= ↑(mi (z.i 1)))))) by dsimp only [N4,GL] at hA;have:=NX;exact fx
abbrev CM(a b:G):=Fm.ct (HOk a/\HOk b) (λy=>hT y 300=aY a b)
abbrev JL(a:Prop)(b c d e f:Int)(g)(h:G)(i:Int)(j:List G)(k:G):=a/\b.toNat<c.toNat/\∀(y:Sy),y.i 5=d/\y.i 1=e/\uA f b g h (y.g 2)->y.i 5=d/\y.i 1=e/\uA i c j k (y.g 2)
def SB:bN 136 0 N3:=bM 25 55304495116885 (ai qX eN) lN λp z hA=>show Fm.den (let v1:=((-9223372036854775808)<=z.i 6+1/\z.i 6+1<=9223372036854775807);let v3:=(z.i 7/2);let v4:=(z.i 6+1);let v2:=(dw v4);let v5:=(hT z 100);let v6:=(hX (aa (eM 0 (z.g 2) [z.i 6,IntKind.i64.wrap (z.i 7-1)]) 2));let v7:=(hX (aa (eM 0 (z.g 2) [z.i 6,z.i 7-1]) 2));let v0:Fm:=(.ct (HOk hZ/\HOk v5) (λy0=>hT y0 300=aY hZ v5) λy0=>(let v8:=(dk 0 (z.g 2) [IntKind.i64.wrap v4,z.i 7/2] [hT y0 300]);let v9:=(dk 0 (z.g 2) [z.i 6+1,z.i 7/2] [hT y0 300]);let v10:=(hT y0 300);(.two v1 (.an v1 (.ax (JL (HOk v10/\mP v4 v3 v9 v10) v3 (z.i 7) (z.i 5) (z.i 1) v4 v9 v10 (z.i 6) (z.g 2) v5))) (.an (¬v1) (.ax (JL (HOk v10/\mP v2 v3 v8 v10) v3 (z.i 7) (z.i 5) (z.i 1) v2 v8 v10 (z.i 6) (z.g 2) v5))))));(.two (IntKind.i64.wrap (Int.ofNat ((aC (j_) (z.i 7)).land (aC (j_) 1)))=1) (.two ((-9223372036854775808)<=z.i 7-1/\z.i 7-1<=9223372036854775807) (.two (kg 0 (z.g 2) [z.i 6,z.i 7-1]) (CM v7 v5 λy0=>(let v11:=(dk 0 (z.g 2) [IntKind.i64.wrap v4,z.i 7/2] [hT y0 300]);let i4:=(dk 0 (z.g 2) [z.i 6+1,z.i 7/2] [hT y0 300]);let i7:=(hT y0 300);(.two v1 (.an v1 (.ax (JL (HOk i7/\mP v4 v3 i4 i7) v3 (z.i 7) (z.i 5) (z.i 1) v4 i4 i7 (z.i 6) (z.g 2) v5))) (.an (¬v1) (.ax (JL (HOk i7/\mP v2 v3 v11 i7) v3 (z.i 7) (z.i 5) (z.i 1) v2 v11 i7 (z.i 6) (z.g 2) v5)))))) v0) (.two (kg 0 (z.g 2) [z.i 6,IntKind.i64.wrap (z.i 7-1)]) (CM v6 v5 λy0=>(let j6:=(dk 0 (z.g 2) [IntKind.i64.wrap v4,z.i 7/2] [hT y0 300]);let o8:=(dk 0 (z.g 2) [z.i 6+1,z.i 7/2] [hT y0 300]);let z':=(hT y0 300);(.two v1 (.an v1 (.ax (JL (HOk z'/\mP v4 v3 o8 z') v3 (z.i 7) (z.i 5) (z.i 1) v4 o8 z' (z.i 6) (z.g 2) v5))) (.an (¬v1) (.ax (JL (HOk z'/\mP v2 v3 j6 z') v3 (z.i 7) (z.i 5) (z.i 1) v2 j6 z' (z.i 6) (z.g 2) v5)))))) v0)) (.ax (z.i 5=z.i 5/\z.i 1=z.i 1/\uA (z.i 6) (z.i 7) (z.g 2) v5 (z.g 2))))) by
 dsimp only [N3,Xf,hs] at hA;have:=@Xc (z.i 6) (z.i 7) (z.g 2) (hT z 100);have:=@Sv (z.i 6) (z.i 7) (z.g 2) (hT z 100);have:=@Xd (z.i 6) (z.i 7) (z.g 2) (hT z 100);have:=λh' hl ho hh=>@NZ (z.i 6) (z.i 7) (z.g 2) (hT z 100) h' hl ho hh;have:=λo7 h' ho hh ht=>@N0 (z.i 6) (z.i 7) (z.g 2) o7 (hT z 100) h' ho hh ht;have:=@Sw (z.i 6) (z.i 7) (z.g 2) (hT z 100);have:=@and1i (z.i 7);conv=>zeta
 repeat' with_reducible first|intro _|apply bV|apply bW|apply bX|apply cy|apply cj
 all_goals first|omega|grind [ao,am,ak,aP,aQ,aR,aS,aT,aU,aV,aW,aX,az,bR]
def Vc:bn 136 Sadd:=bA 3 11 eN (aF (ptm:=[]) SB lN) λz hA=>show Fm.den (let v0:=(dk 0 (z.g 2) [0,z.i 1] [hT z 100]);let v1:=(hT z 100);(.an (¬(1048576<=z.i 1)) (.an ((-9223372036854775808)<=z.i 1+1/\z.i 1+1<=9223372036854775807) (.ct (HOk v1/\mP 0 (z.i 1) v0 v1) (λy0=>y0.i 5=z.i 1/\y0.i 1=z.i 1+1/\uA 0 (z.i 1) v0 v1 (y0.g 2)) λy0=>(.ax (y0.i 1=z.i 1+1/\BW (z.i 1) (z.g 2) v1 (y0.i 1) (y0.g 2))))))) by dsimp only [Sadd,hs,N2] at hA;have:=@JI (z.i 1) (z.g 2) (hT z 100);have:=@db (hT z 100);have:=λo7 hh ht=>@JJ (z.i 1) (z.g 2) o7 (hT z 100) hh ht;exact fx
def o_tz:bn 280 Stz:=bA 5 17 eN lN λz hA=>show Fm.den (let v1:=(Int.ofNat ((aC (nV) (z.i 1)).land (aC (nV) ((0-z.i 1)%18446744073709551616))));let v0:=(↑(fM.getD (IntKind.u64.wrap v1 * 285870213051353865%18446744073709551616/288230376151711744).toNat 0):Int);(.two (z.i 1=0) (.ax (((0:Int)<=64/\(64:Int)<=40)/\z.i 1= ↑(2 ^ Int.toNat 64))) (.an ((0:Int)<=IntKind.u64.wrap v1 * 285870213051353865%18446744073709551616/288230376151711744/\IntKind.u64.wrap v1 * 285870213051353865%18446744073709551616/288230376151711744<64) (.two ((-9223372036854775808:Int)<=v0/\v0<=9223372036854775807) (.ax (((0:Int)<=v0/\v0<=40)/\z.i 1=(↑(2 ^ v0.toNat):Int))) (.ax (((0:Int)<=IntKind.i64.wrap v0/\IntKind.i64.wrap v0<=40)/\z.i 1=(↑(2 ^ (dw v0).toNat):Int))))))) by
 have hB:True/\lV (z.i 1)/\z.i 1<=1000000:=⟨trivial,hA⟩
 obtain⟨j,hj,ej⟩:=p2_ex hB.2.1 hB.2.2;have t:=tz_ok hj ej;dsimp only [Sq] at t;exact fx
abbrev qs(a:Int):=kA NU a.toNat
def GN:bn 205 N1:=bA 31 732161104241009301 eN lN λz hA=>show Fm.den (let v0:=(↑(qs (z.i 1/4294967296/65536/256%256)):Int);let v1:=(↑(qs (z.i 1/4294967296/65536%256)):Int);let v2:=(↑(qs (z.i 1/4294967296/256%256)):Int);let v3:=(↑(qs (z.i 1/65536/256%256)):Int);let v4:=(↑(qs (z.i 1/4294967296%256)):Int);let v5:=(↑(qs (z.i 1/65536%256)):Int);let v6:=(↑(qs (z.i 1/256%256)):Int);let v7:=(↑(qs (z.i 1%256)):Int);(.two (4294967296<=z.i 1) (.two (65536<=z.i 1/4294967296) (.two (256<=z.i 1/4294967296/65536) (.an (0<=z.i 1/4294967296/65536/256%256/\z.i 1/4294967296/65536/256%256 < ↑256) (.an ((-9223372036854775808)<=v0/\v0<=9223372036854775807) (.an ((-9223372036854775808)<=56+v0/\56+v0<=9223372036854775807) (.ax (56+v0=dz (z.i 1)))))) (.an (0<=z.i 1/4294967296/65536%256/\z.i 1/4294967296/65536%256 < ↑256) (.an ((-9223372036854775808)<=v1/\v1<=9223372036854775807) (.an ((-9223372036854775808)<=48+v1/\48+v1<=9223372036854775807) (.ax (48+v1=dz (z.i 1))))))) (.two (256<=z.i 1/4294967296) (.an (0<=z.i 1/4294967296/256%256/\z.i 1/4294967296/256%256 < ↑256) (.an ((-9223372036854775808)<=v2/\v2<=9223372036854775807) (.an ((-9223372036854775808)<=40+v2/\40+v2<=9223372036854775807) (.ax (40+v2=dz (z.i 1)))))) (.an (0<=z.i 1/4294967296%256/\z.i 1/4294967296%256 < ↑256) (.an ((-9223372036854775808)<=v4/\v4<=9223372036854775807) (.an ((-9223372036854775808)<=32+v4/\32+v4<=9223372036854775807) (.ax (32+v4=dz (z.i 1)))))))) (.two (65536<=z.i 1) (.two (256<=z.i 1/65536) (.an (0<=z.i 1/65536/256%256/\z.i 1/65536/256%256 < ↑256) (.an ((-9223372036854775808)<=v3/\v3<=9223372036854775807) (.an ((-9223372036854775808)<=24+v3/\24+v3<=9223372036854775807) (.ax (24+v3=dz (z.i 1)))))) (.an (0<=z.i 1/65536%256/\z.i 1/65536%256 < ↑256) (.an ((-9223372036854775808)<=v5/\v5<=9223372036854775807) (.an ((-9223372036854775808)<=16+v5/\16+v5<=9223372036854775807) (.ax (16+v5=dz (z.i 1))))))) (.two (256<=z.i 1) (.an (0<=z.i 1/256%256/\z.i 1/256%256 < ↑256) (.an ((-9223372036854775808)<=v6/\v6<=9223372036854775807) (.an ((-9223372036854775808)<=8+v6/\8+v6<=9223372036854775807) (.ax (8+v6=dz (z.i 1)))))) (.an (0<=z.i 1%256/\z.i 1%256 < ↑256) (.an ((-9223372036854775808)<=v7/\v7<=9223372036854775807) (.an ((-9223372036854775808)<=0+v7/\0+v7<=9223372036854775807) (.ax (0+v7=dz (z.i 1)))))))))) by dsimp only [N1] at hA;have:=@Ss (z.i 1);have:=@GK (z.i 1);have:=@yt (z.i 1);have:=@GK (z.i 1/4294967296);have:=@yt (z.i 1/4294967296);have:=@yt (z.i 1/65536);have:=@yt (z.i 1/4294967296/65536);have:=@fC (z.i 1);have:=@fC (z.i 1/256);have:=@fC (z.i 1/65536);have:=@fC (z.i 1/65536/256);have:=@fC (z.i 1/4294967296);have:=@fC (z.i 1/4294967296/256);have:=@fC (z.i 1/4294967296/65536);have:=@fC (z.i 1/4294967296/65536/256);exact fx
abbrev Tq96(a:Int)(b):=Fm.ct ((0:Int)<=a%18446744073709551616/\a%18446744073709551616<18446744073709551616) (λy=>y.i 10=dz b)
abbrev Vd(a:Int):=(-9223372036854775808:Int)<=1 * a/\(1:Int) * a<=9223372036854775807
def N7:bn 148 GL:=bA 8 1046 (ai GN eN) lN λz hA=>show Fm.den (let v0:=(bo IntKind.i64);let v1:=(mi (z.i 1));(.an ((-9223372036854775808)<=z.i 1-1/\z.i 1-1<=9223372036854775807) (Tq96 (z.i 1-1) ((z.i 1-1)%18446744073709551616) λy0=>(let v2:=(↑(2 ^ Min.min (dw (y0.i 10-1)).toNat v0):Int);let v3:=(↑(2 ^ Min.min (y0.i 10-1).toNat v0):Int);(.two ((-9223372036854775808)<=y0.i 10-1/\y0.i 10-1<=9223372036854775807) (.an (0<=y0.i 10-1) (.two ((-9223372036854775808)<=1 * v3/\1 * v3<=9223372036854775807) (.ax (1 * v3=(↑v1:Int))) (.ax (IntKind.i64.wrap (1 * v3)= ↑v1)))) (.an ((0:Int)<=IntKind.i64.wrap (y0.i 10-1)) (.two (Vd v2) (.ax (1 * v2=(↑v1:Int))) (.ax (IntKind.i64.wrap (1 * v2)= ↑v1))))))))) by dsimp only [GL] at hA;have:=@wp (z.i 1);have:=@eY (z.i 1);exact fx
abbrev JM(a:Int)(b:Nat):=Fm.ct (2<=a/\a<=1099511627776) (λy=>y.i 10= ↑b)
def GO:∀k,bn 241 (U_ k)
 |0=>Ko λz h=>by have h:(1<=z.i 6/\z.i 6<((0:Nat):Int)):=h.1;omega
 |k+1=>bA 8 10262 (ai o_tz (ai N7 (ai (GO k) (ai qX eN)))) lN λz hA=>show Fm.den ((.an ((-9223372036854775808)<=z.i 6-1/\z.i 6-1<=9223372036854775807) (.two (IntKind.i64.wrap (Int.ofNat ((aC (j_) (z.i 6)).land (aC (j_) (z.i 6-1))))=0) (.ct (lV (z.i 6%18446744073709551616)/\z.i 6%18446744073709551616<=1000000) (λy0=>(0<=y0.i 10/\y0.i 10<=40)/\z.i 6%18446744073709551616= ↑(2 ^ (y0.i 10).toNat)) λy0=>(let v0:=(2 ^ Min.min (y0.i 10).toNat (bo IntKind.i64));(.an (0<=y0.i 10) (.two (kg 0 (z.g 2) [y0.i 10,z.i 5 / ↑v0]) (.ax (z.i 1=z.i 1/\z.g 2=z.g 2/\iD (z.i 1) (z.g 2) (z.i 5) (z.i 6) (hX (aa (eM 0 (z.g 2) [y0.i 10,z.i 5/(↑v0:Int)]) 2)))) (.ax (z.i 1=z.i 1/\z.g 2=z.g 2/\iD (z.i 1) (z.g 2) (z.i 5) (z.i 6) hZ)))))) (JM (z.i 6) (mi (z.i 6)) λy0=>(let v1:=(z.i 6-y0.i 10);(.ct ((1<=y0.i 10/\y0.i 10 < ↑k)/\0<=z.i 5/\z.i 5+y0.i 10<=z.i 1/\z.i 1<=1000000/\Kp (z.i 5) (y0.i 10)/\dV (z.i 1) (z.g 2)) (λy1=>y1.i 1=z.i 1/\y1.g 2=z.g 2/\iD (z.i 1) (z.g 2) (z.i 5) (y0.i 10) (hT y1 300)) λy1=>(.an ((-9223372036854775808)<=z.i 5+y0.i 10/\z.i 5+y0.i 10<=9223372036854775807) (.an ((-9223372036854775808)<=z.i 6-y0.i 10/\z.i 6-y0.i 10<=9223372036854775807) (.ct ((1<=z.i 6-y0.i 10/\z.i 6-y0.i 10 < ↑k)/\0<=z.i 5+y0.i 10/\z.i 5+y0.i 10+v1<=y1.i 1/\y1.i 1<=1000000/\Kp (z.i 5+y0.i 10) v1/\dV (y1.i 1) (y1.g 2)) (λy2=>y2.i 1=y1.i 1/\y2.g 2=y1.g 2/\iD (y1.i 1) (y1.g 2) (z.i 5+y0.i 10) v1 (hT y2 300)) λy2=>(CM (hT y1 300) (hT y2 300) λy3=>(.ax (y2.i 1=z.i 1/\y2.g 2=z.g 2/\iD (z.i 1) (z.g 2) (z.i 5) (z.i 6) (hT y3 300))))))))))))) by
  dsimp only [U_,N2,hs,lk] at hA;have:=NX;have m1:1<=z.i 6->z.i 6<=1000000->z.i 6%18446744073709551616=z.i 6:=λa b=>by omega
  have b2:∀v:Int,0<=v->v<=40->min v.toNat (bo .i64)=v.toNat:=λv h0 h=>by show min v.toNat 64=_;omega
  have:=@Xb (z.i 6) (z.i 6-1) rfl;have:=λlv h0 hlv hn hb ha=>@Sx (z.i 1) (z.i 5) (z.i 6) lv (z.g 2) h0 hlv hn hb ha;have:=λk a b h0 hn hb hk h1 h2=>@Sz (z.i 1) (z.i 5) (z.i 6) k (z.g 2) a b h0 hn hb hk h1 h2;have:=@al_lo (z.i 5) (z.i 6);have:=@al_hi (z.i 5) (z.i 6);have:=@eY (z.i 6);have:=λfr n h he ht=>@Xe (z.i 1) fr n (z.g 2) h he ht;have:=λh:lV (z.i 6)=>@NY (z.i 6) h;conv=>zeta
  repeat' with_reducible first|intro _|apply bV|apply bW|apply bX|apply cy|apply cj
  all_goals first|omega|grind [ao,am,ak,bR]
def Xh:bn 200 Va:=bA 7 273 (ai qh (ai (GO 1000001) eN)) lN λz hA=>show Fm.den (let v0:Fm:=(.ax (z.i 1=z.i 1/\z.g 2=z.g 2/\(z.i 6<0∨z.i 1<z.i 6->(1:Int)=1/\hZ=hZ)/\(0<=z.i 6/\z.i 6<=z.i 1->(1:Int)=0/\iD (z.i 1) (z.g 2) 0 (z.i 6) hZ)));(.two (z.i 6<0) v0 (.two (z.i 1<z.i 6) v0 (.two (z.i 6=0) (.ct (0<=1000000000) (λy0=>True) λy0=>(.ax (z.i 1=z.i 1/\z.g 2=z.g 2/\(z.i 6<0∨z.i 1<z.i 6->(0:Int)=1/\hG (eD [])=hZ)/\(0<=z.i 6/\z.i 6<=z.i 1->(0:Int)=0/\iD (z.i 1) (z.g 2) 0 (z.i 6) (hG (eD [])))))) (.ct ((1<=z.i 6/\z.i 6<1000001)/\(0:Int)<=0/\0+z.i 6<=z.i 1/\z.i 1<=1000000/\Kp 0 (z.i 6)/\dV (z.i 1) (z.g 2)) (λy0=>y0.i 1=z.i 1/\y0.g 2=z.g 2/\iD (z.i 1) (z.g 2) 0 (z.i 6) (hT y0 300)) λy0=>(.ax (y0.i 1=z.i 1/\y0.g 2=z.g 2/\(z.i 6<0∨z.i 1<z.i 6->(0:Int)=1/\hT y0 300=hZ)/\(0<=z.i 6/\z.i 6<=z.i 1->(0:Int)=0/\iD (z.i 1) (z.g 2) 0 (z.i 6) (hT y0 300))))))))) by dsimp only [Va,N2,hs,lk] at hA;have:=al0 (z.i 6);have:=@SA (z.i 1) (z.g 2) (z.i 6);have:=qy [];exact fx
noncomputable section
def oB{l:List G}:List.take (l.length:Int).toNat l=l:=by rw[aaq,aa7]
def N8{l:List G}{k:Int}(h:2<=l.length)(hk:k=(br ((l.length:Int)).toNat:Nat)):aO l=aY (aO (List.drop (0:Int).toNat (List.take k.toNat l))) (aO (List.drop k.toNat (List.take (l.length:Int).toNat l))):=JH h (by rw[hk,aaq])
def Xi{i:Int}{l:List G}{k:Int}(h:2<=l.length)(hk:k=(br ((l.length:Int)).toNat:Nat)):(i<k->a_ i l=a_ i (List.drop (0:Int).toNat (List.take k.toNat l))++ [.node [aO (List.drop k.toNat (List.take (l.length:Int).toNat l))]])/\(¬i<k->a_ i l=a_ (i-k) (List.drop k.toNat (List.take (l.length:Int).toNat l))++ [.node [aO (List.drop (0:Int).toNat (List.take k.toNat l))]]):=by subst hk;rw[oB,drop_zero,aaq,aaq];exact⟨λhi=>oz h hi,λhi=>oA h hi⟩
def cut_len{l:List G}{k:Int}(h0:0<=k)(hk:k<=l.length):((List.drop (0:Int).toNat (List.take k.toNat l)).length:Int)=k/\((List.drop k.toNat (List.take (l.length:Int).toNat l)).length:Int)=l.length-k:=by rw[oB,drop_zero,aal,aao];omega
def yu{l:List G}{k:Int}(h:RowsOk l):RowsOk (List.drop (0:Int).toNat (List.take k.toNat l))/\RowsOk (List.drop k.toNat (List.take (l.length:Int).toNat l)):=by rw[oB,drop_zero];exact⟨h.take _,h.drop _⟩
def wq{l:List G}(h:1<=l.length):List.drop (0:Int).toNat (List.take ((l.length:Int)-1).toNat l)=l.dropLast:=by rw[drop_zero,List.dropLast_eq_take];congr 1;omega
def mupI{h:G}{i n:Int}{p:List G}{k:Int}(hn:2<=n)(hp:¬(p.length:Int)=0)(hk:k=(br n.toNat:Nat)):(i<k->gP h i n p=(aY (gP h i k (List.drop (0:Int).toNat (List.take ((p.length:Int)-1).toNat p))).1 (hX (aa (aq p ((p.length:Int)-1).toNat) 0)),(gP h i k (List.drop (0:Int).toNat (List.take ((p.length:Int)-1).toNat p))).2))/\(¬i<k->gP h i n p=(aY (hX (aa (aq p ((p.length:Int)-1).toNat) 0)) (gP h (i-k) (n-k) (List.drop (0:Int).toNat (List.take ((p.length:Int)-1).toNat p))).1,(gP h (i-k) (n-k) (List.drop (0:Int).toNat (List.take ((p.length:Int)-1).toNat p))).2)):=by subst hk;rw[wq (by omega),show((p.length:Int)-1).toNat=p.length-1 by omega];exact⟨λhi=>yp hn (by omega) hi,λhi=>yq hn (by omega) hi⟩
def N9{l:List G}(h:1<=l.length):((List.drop (0:Int).toNat (List.take ((l.length:Int)-1).toNat l)).length:Int)=(l.length:Int)-1:=by rw[wq h,List.length_dropLast];omega
def Ve{l:List G}(h:RowsOk l):RowsOk (List.drop (0:Int).toNat (List.take ((l.length:Int)-1).toNat l))/\(1<=l.length->HOk (hX (aa (aq l ((l.length:Int)-1).toNat) 0))):=⟨(h.take _).drop _,λh1=>h.at (by omega) (by omega)⟩
end
abbrev pG(a:Int)(b:List G):=List.take a.toNat b
abbrev N_(a:Int)(b:List G):=(0:Int)<=0/\0<=a/\a<= ↑b.length
abbrev Vf(a:List G)(b:Nat):=Fm.ct (a.length<b/\a.length<=1000000/\RowsOk a) (λy=>hT y 300=aO a)
def ll:∀k,bn 27 (N5 k)
 |0=>Ko λz h=>Nat.not_lt_zero _ h.1
 |k+1=>bA 5 17 (ai vP (ai ri (ai (ll k) (ai oc eN)))) lN λz hA=>show Fm.den (let v0:=(↑(z.g 1).length:Int);let v1:=(pG v0 (z.g 1));let v2:=(ic);(.two (v0=0) (.ct (0<=1000000) (λy0=>True) λy0=>(.ax (hG (kZ [])=aO (z.g 1)))) (.two (v0=1) (.an (vM v0) (.ax (hX (aZ (aq (z.g 1) v2))=aO (z.g 1)))) (JM v0 (mi v0) λy0=>(let v3:=(List.drop v2 (pG (y0.i 10) (z.g 1)));let v4:=(List.drop (y0.i 10).toNat v1);(.an (N_ (y0.i 10) (z.g 1)) (Vf v3 k λy1=>(.an (0<=y0.i 10/\y0.i 10<= ↑(z.g 1).length/\v0<=v0) (Vf v4 k λy2=>(CM (hT y1 300) (hT y2 300) λy3=>(.ax (hT y3 300=aO (z.g 1))))))))))))) by dsimp only [N5,hs] at hA;have:=@N8 (z.g 1);have:=@cut_len (z.g 1);have:=@yu (z.g 1);have:=@eY (((z.g 1).length:Nat):Int);have:=@lP (z.g 1);have:=@pF (z.g 1);have:=eG [];have:=qy [];have:=λk h=>@cu _ (@yu (z.g 1) k h).1;have:=λk h=>@cu _ (@yu (z.g 1) k h).2;exact fx
abbrev Oa(a:List G):=Fm.ct (a.length<1000001/\a.length<=1000000/\RowsOk a) (λy=>hT y 300=aO a)
abbrev ws(a b:List G):=a.length=b.length+1/\True
def GP:∀k,bn 26 (Vb k)
 |0=>Ko λz h=>Nat.not_lt_zero _ h.1
 |k+1=>bA 6 529 (ai ri (ai (GP k) (ai (ll 1000001) eN))) lN λz hA=>show Fm.den (let v1:=(↑(z.g 1).length:Int);let v0:=(pG v1 (z.g 1));let v2:=(ic);(.two (v1<2) (.an (nX) (.at ([]=a_ (z.i 3) (z.g 1)/\0<=(z.g 1).length))) (JM v1 (mi v1) λy0=>(let v3:=(List.drop v2 (pG (y0.i 10) (z.g 1)));let v4:=(List.drop (y0.i 10).toNat v0);let v5:=(N_ (y0.i 10) (z.g 1));let v6:=(0<=y0.i 10/\y0.i 10<= ↑(z.g 1).length/\v1<=v1);(.two (z.i 3<y0.i 10) (.an v5 (.ct (v3.length<k/\v3.length<=1000000/\RowsOk v3/\0<=z.i 3/\z.i 3<=1000000) (λy1=>y1.g 30=a_ (z.i 3) v3/\(y1.g 30).length<=v3.length) λy1=>(.an v6 (Oa v4 λy2=>(let v7:=(y1.g 30++ [G.node [hT y2 300]]);(.an (ow (y1.g 30)) (.an (ws v7 (y1.g 30)) (.at (y1.g 30++ [G.node [hT y2 300]]=a_ (z.i 3) (z.g 1)/\v7.length<=(z.g 1).length))))))))) (.an ((-9223372036854775808)<=z.i 3-y0.i 10/\z.i 3-y0.i 10<=9223372036854775807) (.an v6 (.ct (v4.length<k/\v4.length<=1000000/\RowsOk v4/\0<=z.i 3-y0.i 10/\z.i 3-y0.i 10<=1000000) (λy1=>y1.g 30=a_ (z.i 3-y0.i 10) v4/\(y1.g 30).length<=v4.length) λy1=>(.an v5 (Oa v3 λy2=>(let v8:=(y1.g 30++ [G.node [hT y2 300]]);(.an (ow (y1.g 30)) (.an (ws v8 (y1.g 30)) (.at (y1.g 30++ [G.node [hT y2 300]]=a_ (z.i 3) (z.g 1)/\v8.length<=(z.g 1).length))))))))))))))) by dsimp only [Vb] at hA;have:=@N8 (z.g 1);have:=@cut_len (z.g 1);have:=@yu (z.g 1);have:=@eY (((z.g 1).length:Nat):Int);have:=@Xi (z.i 3) (z.g 1);have:=@gh (z.i 3) (z.g 1);exact fx
abbrev uB(a:Int):=0<=a-1/\a-1<a
abbrev Ob(a:G)(b:Prop)(c d:Int)(e:Nat)(f:List G):=HOk a/\b/\c-d < ↑e/\c-d<=1099511627776/\f.length<=1000000/\RowsOk f
abbrev Oc(a:G)(b:Prop)(c:Int)(d:Nat)(e:List G):=HOk a/\b/\c < ↑d/\c<=1099511627776/\e.length<=1000000/\RowsOk e
def Od:∀k,bn 72 (Sup k)
 |0=>Ko λz h=>by have a:0<=z.i 3/\z.i 3<z.i 4:=h.2.1;have b:z.i 4<((0:Nat):Int):=h.2.2.1;omega
 |k+1=>bA 12 2762257 (ai ri (ai (Od k) (ai oc eN))) lN λz hA=>show Fm.den (let vxn:=Int.toNat 0;let v0:=(↑(z.g 1).length:Int);let v1:=(List.drop (vxn) (pG (v0-1) (z.g 1)));let v3:=((-9223372036854775808)<=v0-1/\v0-1<=9223372036854775807);let v4:=(hX (aZ (aK (z.g 1) (v0-1))));let v5:=((0:Int)<=0/\0<=v0-1/\v0-1<=v0);let v6:=(hT z 100);let v2:=(gP v6 (z.i 3) (z.i 4) (z.g 1));(.two (z.i 4=1) (.ax (HOk v6/\hT z 100=v2.fst/\(v0=0↔v2.snd))) (.two (v0=0) (.ax (HOk hZ/\hZ=v2.fst/\(false=true↔v2.snd))) (.an v3 (.an (uB v0) (JM (z.i 4) (mi (z.i 4)) λy0=>(let v7:=(gP v6 (z.i 3-y0.i 10) (z.i 4-y0.i 10) v1);let v8:=(gP v6 (z.i 3) (y0.i 10) v1);(.two (z.i 3<y0.i 10) (.an v3 (.an v5 (.ct (Oc v6 (0<=z.i 3/\z.i 3<y0.i 10) (y0.i 10) k v1) (λy1=>HOk (hT y1 300)/\hT y1 300=v8.fst/\(y1.p 50↔v8.snd)) λy1=>(CM (hT y1 300) v4 λy2=>(.ax (HOk (hT y2 300)/\hT y2 300=v2.fst/\(y1.p 50↔v2.snd))))))) (.an ((-9223372036854775808)<=z.i 3-y0.i 10/\z.i 3-y0.i 10<=9223372036854775807) (.an ((-9223372036854775808)<=z.i 4-y0.i 10/\z.i 4-y0.i 10<=9223372036854775807) (.an v3 (.an v5 (.ct (Ob v6 (0<=z.i 3-y0.i 10/\z.i 3-y0.i 10<z.i 4-y0.i 10) (z.i 4) (y0.i 10) k v1) (λy1=>HOk (hT y1 300)/\hT y1 300=v7.fst/\(y1.p 50↔v7.snd)) λy1=>(CM v4 (hT y1 300) λy2=>(.ax (HOk (hT y2 300)/\hT y2 300=v2.fst/\(y1.p 50↔v2.snd))))))))))))))))) by
  dsimp only [Sup,hs] at hA;have:=@mupI (hT z 100) (z.i 3) (z.i 4) (z.g 1);have:=@lQ (hT z 100) (z.i 3) (z.i 4) (z.g 1);have:=@yo (hT z 100) (z.i 3) (z.i 4) (z.g 1);have:=@eY (z.i 4);have:=@N9 (z.g 1);have:=@Ve (z.g 1);have:=dh;conv=>zeta
  repeat' with_reducible first|intro _|apply bV|apply bW|apply bX|apply cy|apply cj
  all_goals first|omega|grind [ao,am,ak,aP,aQ,aR,aS,aT,aU,aV,aW,aX,az,bR]
noncomputable section
def Oe{es:List G}{i:Nat}(hi:i<es.length):(gG es 0)[i]? =some (.node [be (ui (aq es i))]):=by unfold gG aq lvR;show((es.drop 0).map _)[i]? =_;rw[aaR,aaI,aag,aai hi];rfl
def jR(es:List G):RowsOk (gG es 0):=λr hr=>by unfold gG at hr;obtain⟨e, -,rfl⟩:=List.mem_map.1 hr;show HOk (hX (be _));rw[db (gB _)];exact gB _
def CN(es:List G)(i:Int)(rows:List G):Prop:=ku i rows ((gG es 0).take i.toNat)
def yv(es:List G):CN es 0 []:=by unfold CN;rw[show(0:Int).toNat=0 by rfl,List.take_zero];exact W8
def Of{es:List G}{i n':Int}{rows o7:List G}{h:G}(h0:0<=i)(hi:i<es.length)(hl:CN es i rows)(hh:h=be (ui (aq es i.toNat)))(hn:n'=i+1)(ht:BW i rows h n' o7):CN es n' o7:=by
 subst hn;have e:(gG es 0).take (i+1).toNat=(gG es 0).take i.toNat++ [.node [h]]:=by rw[show(i+1).toNat=i.toNat+1 by omega,List.take_add_one,Oe (by omega),hh];rfl
 unfold CN;rw[e];exact GM ht _ hl
def yw{es:List G}{i:Int}{rows:List G}(hl:CN es i rows):dV i rows:=N6 hl ((jR es).take _)
def BY{es:List G}{n:Int}{rows:List G}{h:G}(hl:CN es n rows)(hn:n=es.length)(ht:iD n rows 0 n h):h=aO (gG es 0):=by have e:=Xg ht _ hl;subst hn;rw[e];congr 1;have a:=jQ es;show List.take (es.length:Int).toNat (List.drop 0 _)=_;rw[aaR,aaq, ←a,aa7,aa7]
def BZ(es:List G):(((gG es 0).length:Nat):Int)=es.length:=by rw[jQ]
def kz(ix tm tn:Int)(pv:G)(es:List G):G:=aY (dJ (lO ix tm tn pv)) (du (aO (gG es 0)) (aJ es.length))
def mQ(ix tm tn:Int)(pv:G)(es:List G):HOk (kz ix tm tn pv es):=bR _ _
def D2(ix tm tn:Int)(pv:G)(es:List G):kz ix tm tn pv es=aY (dJ (lO ix tm tn pv)) (du (aO (gG es 0)) (aJ es.length)):=rfl
def SNew:FSpec:=⟨[],[],λ_=>True,λ_=>.one (.c (.p 0)),λ_=>N2,λz y=>y.i 1=0/\y.g 2= [],none⟩
def jS:FSpec:=⟨[.ag (hs 100),.c (.i .i64 1)],[],λz=>HOk (hT z 100)/\0<=z.i 1/\z.i 1<=1000000,λ_=>.one (.ag (hs 300)),λ_=>[],λz y=>hT y 300=du (hT z 100) (aJ (z.i 1).toNat),none⟩
abbrev Vg:=xV
abbrev B0:=jS
def bHb(p:Sy):List BSh:=[.cells 75 (mY p),.cells 169 [.i .i64 1,.m 2],.sm 0 2,.cells 28 (hs 300)]
def B1(p:Sy):LSpec:=⟨[(1,.c (.p 0)),(2,.c (.p 3)),(5,.c (.p 1)),(20,.c (.pv 7 (p.g 24))),(21,.c (.pi .i64 (p.g 24).length)),(22,.c (.i .i64 9))],bHb p,λz=>jO (p.g 24)/\(0<=z.i 9/\z.i 9<=(p.g 24).length)/\z.i 1=z.i 9/\CN (p.g 24) (z.i 1) (z.g 2),λz=>((p.g 24).length-z.i 9).toNat,[⟨.exit 0,[(1,.c (.p 0)),(2,.c (.p 3)),(5,.c (.p 1))],bHb p⟩],λz y=>y.i 1=(p.g 24).length/\CN (p.g 24) (y.i 1) (y.g 2),none,[]⟩
def Og:FSpec:=⟨[.ag bk],[],CL,λ_=>.tu [.ag (hs 300),.c (.i .i64 50)],λ_=>[],λz y=>y.i 50=tC z/\(tC z=0->hT y 300=kz (z.i 21) (z.i 22) (z.i 23) (hT z 200) (z.g 24))/\(¬tC z=0->hT y 300=hZ),lk⟩
def GQ:FSpec:=⟨[.ag bk],[],CL,λ_=>.tu [.ag (hs 300),.c (.i .i64 50)],λ_=>[],λz y=>y.i 50=tC z/\(tC z=0->hT y 300=kz (z.i 21) (z.i 22) (z.i 23) (hT z 200) (z.g 24))/\(¬tC z=0->hT y 300=hZ),none⟩
attribute [irreducible] CN kz
end
def Vh:bn 36 SNew:=bA 1 0 eN lN λz hA=>show Fm.den ((.ax ((0:Int)=0/\xU))) by dsimp only [SNew,N2] at hA;exact fx
abbrev Vi(a:G)(b:List Nat):=Fm.ct (HOk a/\b.length<=900000) (λy=>hT y 300=du a b)
def wt:bn 73 B0:=bA 1 0 (ai da (ai M7 eN)) lN λz hA=>show Fm.den ((tq (z.i 1) (z.i 1%18446744073709551616) λy0=>(Vi (hT z 100) (y0.s 10) λy1=>(.ax (hT y1 300=du (hT z 100) (nW (z.i 1))))))) by
 dsimp only [B0,jS,hs] at hA;have m1:0<=z.i 1->z.i 1<=1000000->(z.i 1%18446744073709551616).toNat=(z.i 1).toNat:=λa b=>by omega
 have:=@bO (z.i 1%18446744073709551616) (by omega);exact fx
abbrev Xj(a:G)(b c d:Int)(e:List Nat):=Fm.ct (HOk a/\b<9223372036854775808/\c<9223372036854775808/\d<9223372036854775808) (λy=>hT y 300=dJ e)
abbrev Xk(a:G)(b:Int)(c:List Nat):=Fm.ct (HOk a/\0<=b/\b<=1000000) (λy=>hT y 300=du a c)
def Oh:bn 52 GQ:=bA 3 1 (ai pE (ai BP (ai BQ (ai (ll 1000001) (ai wt (ai oc eN)))))) lN λz hA=>show Fm.den (let v0:=(hT z 200);let v1:=(↑(z.g 24).length:Int);(JF (z.g 24) v0 (z.i 21) (z.i 22) (z.i 23) λy0=>(.two (y0.i 50≠0) (.ax (y0.i 50=bI (z.i 21) (z.i 22) (z.i 23) v0 (z.g 24)/\(bI (z.i 21) (z.i 22) (z.i 23) v0 (z.g 24)=(0:Int)->hZ=kz (z.i 21) (z.i 22) (z.i 23) v0 (z.g 24))/\(¬bI (z.i 21) (z.i 22) (z.i 23) v0 (z.g 24)=(0:Int)->hZ=hZ))) (Xj v0 (z.i 21) (z.i 22) (z.i 23) (lO (z.i 21) (z.i 22) (z.i 23) v0) λy1=>(.ct (qn (z.g 24)) (λy2=>y2.g 30=gG (z.g 24) 0) λy2=>(Oa (y2.g 30) λy3=>(Xk (hT y3 300) v1 (nW v1) λy4=>(CM (hT y1 300) (hT y4 300) λy5=>(.ax ((0:Int)=bI (z.i 21) (z.i 22) (z.i 23) v0 (z.g 24)/\(bI (z.i 21) (z.i 22) (z.i 23) v0 (z.g 24)=(0:Int)->hT y5 300=kz (z.i 21) (z.i 22) (z.i 23) v0 (z.g 24))/\(¬bI (z.i 21) (z.i 22) (z.i 23) v0 (z.g 24)=(0:Int)->hT y5 300=hZ))))))))))) by
 dsimp only [GQ,bk,hs,CL,tC] at hA;have:=@jM (z.i 21) (z.i 22) (z.i 23) (hT z 200) (z.g 24);have:=@jN (z.i 21) (z.i 22) (z.i 23) (hT z 200) (z.g 24);have:=@gE (z.i 21) (z.i 22) (z.i 23) (hT z 200) (z.g 24);have:=@mM (z.i 21) (z.i 22) (z.i 23) (hT z 200) (z.g 24);have:=@fi (z.i 21) (z.i 22) (z.i 23) (hT z 200) (z.g 24);have:=yv (z.g 24);have:=@yw (z.g 24);have:=@BY (z.g 24);have:=D2 (z.i 21) (z.i 22) (z.i 23) (hT z 200) (z.g 24);have:=cu _ (jR (z.g 24));have:=dh;have:=jR (z.g 24);have:=BZ (z.g 24);conv=>zeta
 repeat' with_reducible first|intro _|apply bV|apply bW|apply bX|apply cy|apply cj
 all_goals first|omega|grind [ao,am,ak,aP,aQ,aR,aS,aT,aU,aV,aW,aX,az,fW,jd,yh]
abbrev Xl(a:G)(b:Prop)(c:Int)(d:List G):=Fm.ct (HOk a/\b/\dV c d) (λy=>y.i 1=c+1/\BW c d a (y.i 1) (y.g 2))
def JN:bN 135 0 B1:=bM 4 9 (ai qq (ai Vc eN)) lN λp z hA=>show Fm.den (let v0:=(aK (p.g 24) (z.i 9));let v1:=(↑(p.g 24).length:Int);let v2:=(hX (aa v0 11));let v3:=(gI (aa v0 13));let v4:=(gI (aa v0 14));let v5:=(gS (aa v0 1));let v6:=(gI (aa v0 2));let v7:=(gI (aa v0 3));let v8:=(gI (aa v0 4));let v9:=(gL (aa v0 10));let v10:=(gI (aa v0 6));let v11:=(gS (aa v0 8));let i4:=(gL (aa v0 9));let i7:=(gI (aa v0 0));(.two (dq (z.i 9) (p.g 24)) (.an (cr (z.i 9) (p.g 24)) (.ct (ql v5 v6 v7 v8 v10 v11 i4 v9 v2 v3 v4) (λy0=>y0.i 50=dv i7 v5 v6 v7 v8 (gI (aa v0 5)) v10 (gI (aa v0 7)) v11 i4 v9 v2 (gI (aa v0 12)=1) v3 v4/\(dv i7 v5 v6 v7 v8 (gI (aa v0 5)) v10 (gI (aa v0 7)) v11 i4 v9 v2 (gI (aa v0 12)=(1:Int)) v3 v4=0->hT y0 300=be (gR i7 v5 v6 v7 v8 v2 v3 v4))/\(¬dv i7 v5 v6 v7 v8 (gI (aa v0 5)) v10 (gI (aa v0 7)) v11 i4 v9 v2 (gI (aa v0 12)=(1:Int)) v3 v4=0->hT y0 300=hZ)) λy0=>(Xl (hT y0 300) (0<=z.i 1/\z.i 1<1000000) (z.i 1) (z.g 2) λy1=>(.an ((-9223372036854775808)<=z.i 9+1/\z.i 9+1<=9223372036854775807) (.an (qC (p.g 24) (lK p 200) (DS (p.i 23) (p.i 22) (p.i 21) v1 (p.g 24))) (.at (((qn (p.g 24))/\(dU (z.i 9) (p.g 24))/\y1.i 1=z.i 9+1/\CN (p.g 24) (y1.i 1) (y1.g 2))/\(v1-(z.i 9+1)).toNat<(v1-z.i 9).toNat/\∀(y:Sy),y.i 1= ↑(p.g 24).length/\CN (p.g 24) (y.i 1) (y.g 2)->y.i 1= ↑(p.g 24).length/\CN (p.g 24) (y.i 1) (y.g 2)))))))) (.an (qC (p.g 24) (lK p 200) (je (p.i 23) (p.i 22) (p.i 21))) (.at (z.i 1= ↑(p.g 24).length/\CN (p.g 24) (z.i 1) (z.g 2)))))) by
 dsimp only [B1,bHb,mY,uz,hs,jO] at hA;have a6:=BL p z;have a7:=JE p z;dsimp only [wh,mL] at a6 a7;have v1:=λn r h a b c d e f=>@Of (p.g 24) (z.i 9) n (z.g 2) r h a b c d e f;have:=@yw (p.g 24) (z.i 1) (z.g 2);dsimp only [ui] at v1;conv=>zeta
 repeat' with_reducible first|intro _|apply bV|apply bW|apply bX|apply cy|apply cj
 all_goals first|omega|grind [ao,am,ak,aP,aQ,aR,aS,aT,aU,aV,aW,aX,az,gB]
def B2:bn 203 jS:=bA 1 0 (ai ge (ai M8 eN)) lN λz hA=>show Fm.den ((NF (z.i 1) (Max.max 0 (z.i 1)%18446744073709551616) λy0=>(Vi (hT z 100) (y0.s 10) λy1=>(.ax (hT y1 300=du (hT z 100) (nW (z.i 1))))))) by
 dsimp only [jS,hs] at hA;have m1:0<=z.i 1->z.i 1<=1000000->(max 0 (z.i 1)%18446744073709551616).toNat=(z.i 1).toNat:=λa b=>by omega
 have:=@bO (max 0 (z.i 1)%18446744073709551616) (by omega);exact fx
def Xm:bn 201 Vg:=bA 1 0 (ai qX eN) lN λz hA=>show Fm.den ((CM (hT z 100) (hT z 200) λy0=>(.ax (hT y0 300=aY (hT z 100) (hT z 200))))) by dsimp only [Vg,xV,hs] at hA;exact fx
abbrev Vj:=Fm.ct (True) (λy=>y.i 1=0/\y.g 2= [])
def SC:bn 135 Og:=bA 3 1 (ai tE (ai Vh (ai Xh (ai Sj (ai B2 (ai Xm eN)))))) (aF (ptm:=[(0,.ag bk)]) JN lN) λz hA=>show Fm.den (let v0:=(↑(z.g 24).length:Int);let v1:=(hT z 200);(JF (z.g 24) v1 (z.i 21) (z.i 22) (z.i 23) λy0=>(.two (y0.i 50≠0) (.ax (y0.i 50=bI (z.i 21) (z.i 22) (z.i 23) v1 (z.g 24)/\(bI (z.i 21) (z.i 22) (z.i 23) v1 (z.g 24)=(0:Int)->hZ=kz (z.i 21) (z.i 22) (z.i 23) v1 (z.g 24))/\(¬bI (z.i 21) (z.i 22) (z.i 23) v1 (z.g 24)=(0:Int)->hZ=hZ))) (Vj λy1=>(.cl ((qC (z.g 24) (lK z 200) (DS (z.i 23) (z.i 22) (z.i 21) v0 (z.g 24)))) ((qn (z.g 24))/\(fJ v0)/\y1.i 1=0/\CN (z.g 24) (y1.i 1) (y1.g 2)) (λy2=>y2.i 1= ↑(z.g 24).length/\CN (z.g 24) (y2.i 1) (y2.g 2)) λy2=>(.ct ((0<=y2.i 1/\y2.i 1<=1000000)/\dV (y2.i 1) (y2.g 2)) (λy3=>y3.i 1=y2.i 1/\y3.g 2=y2.g 2/\(v0<0∨y2.i 1 < ↑(z.g 24).length->y3.i 50=1/\hT y3 300=hZ)/\(0<=v0/\v0<=y2.i 1->y3.i 50=0/\iD (y2.i 1) (y2.g 2) 0 v0 (hT y3 300))) λy3=>(Xj v1 (z.i 21) (z.i 22) (z.i 23) (lO (z.i 21) (z.i 22) (z.i 23) v1) λy4=>(Xk (hT y3 300) v0 (nW v0) λy5=>(CM (hT y4 300) (hT y5 300) λy6=>(.ax ((0:Int)=bI (z.i 21) (z.i 22) (z.i 23) v1 (z.g 24)/\(bI (z.i 21) (z.i 22) (z.i 23) v1 (z.g 24)=(0:Int)->hT y6 300=kz (z.i 21) (z.i 22) (z.i 23) v1 (z.g 24))/\(¬bI (z.i 21) (z.i 22) (z.i 23) v1 (z.g 24)=(0:Int)->hT y6 300=hZ)))))))))))) by
 dsimp only [Og,bk,hs,CL,tC,lk] at hA;have:=@jM (z.i 21) (z.i 22) (z.i 23) (hT z 200) (z.g 24);have:=@jN (z.i 21) (z.i 22) (z.i 23) (hT z 200) (z.g 24);have:=@gE (z.i 21) (z.i 22) (z.i 23) (hT z 200) (z.g 24);have:=@mM (z.i 21) (z.i 22) (z.i 23) (hT z 200) (z.g 24);have:=@fi (z.i 21) (z.i 22) (z.i 23) (hT z 200) (z.g 24);have:=yv (z.g 24);have:=@yw (z.g 24);have:=@BY (z.g 24);have:=D2 (z.i 21) (z.i 22) (z.i 23) (hT z 200) (z.g 24);have:=cu _ (jR (z.g 24));have:=dh;have:=jR (z.g 24);have:=BZ (z.g 24);conv=>zeta
 repeat' with_reducible first|intro _|apply bV|apply bW|apply bX|apply cy|apply cj
 all_goals first|omega|grind [ao,am,ak,aP,aQ,aR,aS,aT,aU,aV,aW,aX,az,fW,jd,yh]
noncomputable section
def cT:List Nat:=[0,498536548,997073096,651767980,1994146192,1802195444,1303535960,1342533948,3988292384,4027552580,3604390888,3412177804,2607071920,2262029012,2685067896,3183342108]
def fN(c:Nat):Nat:=if c%2=1 then(c/2) ^^^ 3988292384 else c/2
def fI:Nat->Nat->Nat
 |0,c=>c
 |n+1,c=>fI n (fN c)
def yx(q:Nat):fN (2 * q)=q:=by unfold fN;rw[if_neg (by omega)];omega
def Xn(a b:Nat):fN (a ^^^ b)=fN a ^^^ fN b:=by
 have hd:(a ^^^ b)/2=(a/2) ^^^ (b/2):=Nat.xor_div_two;have hm:(a ^^^ b)%2=(a+b)%2:=by have:=Nat.xor_mod_two_pow (a:=a) (b:=b) (n:=1);rw[Nat.pow_one] at this;rw[this];rcases abw a with ha|ha <;> rcases abw b with hb|hb <;> rw[ha,hb] <;> simp <;> omega
 unfold fN;rw[hd,hm];generalize a/2=x;generalize b/2=y;generalize 3988292384=p;rcases abw a with ha|ha <;> rcases abw b with hb|hb
 ·rw[if_neg (by omega),if_neg (by omega),if_neg (by omega)]
 ·rw[if_pos (by omega),if_neg (by omega),if_pos (by omega),Nat.xor_assoc]
 ·rw[if_pos (by omega),if_pos (by omega),if_neg (by omega),Nat.xor_assoc,Nat.xor_assoc,Nat.xor_comm y p]
 ·rw[if_neg (by omega),if_pos (by omega),if_pos (by omega)];rw[show(x ^^^ p) ^^^ (y ^^^ p)=(x ^^^ y) ^^^ (p ^^^ p) by ac_rfl,Nat.xor_self,Nat.xor_zero]
def Xo(n a b:Nat):fI n (a ^^^ b)=fI n a ^^^ fI n b:=by
 induction n generalizing a b with
 |zero=>rfl
 |succ n ih=>show fI n (fN _)=fI n (fN _) ^^^ fI n (fN _);rw[Xn,ih]
def SD(c:Nat):c=(16 * (c/16)) ^^^ (c%16):=by
 refine Nat.eq_of_testBit_eq λi=>?_;rw[Nat.testBit_xor,show(16:Nat)=2 ^ 4 by rfl,Nat.testBit_two_pow_mul,Nat.testBit_div_two_pow,Nat.testBit_mod_two_pow];by_cases h:4<=i
 ·rw[show i-4+4=i by omega];simp [h,show ¬i<4 by omega]
 ·simp [h,show i<4 by omega]
def fI4(c:Nat):fI 4 c=(c/16) ^^^ cT.getD (c%16) 0:=by
 have h1:∀q,fI 4 (16 * q)=q:=λq=>by show fN (fN (fN (fN (16 * q))))=q;rw[show 16 * q=2 * (2 * (2 * (2 * q))) by omega,yx,yx,yx,yx]
 have h2:∀r:Fin 16,fI 4 r.1=cT.getD r.1 0:=by decide
 conv=>lhs;rw[SD c]
 rw[Xo,h1,h2 ⟨c%16,by omega⟩]
def CG:List G:=[.node [.int 0],.node [.int 498536548],.node [.int 997073096],.node [.int 651767980],.node [.int 1994146192],.node [.int 1802195444],.node [.int 1303535960],.node [.int 1342533948],.node [.int 3988292384],.node [.int 4027552580],.node [.int 3604390888],.node [.int 3412177804],.node [.int 2607071920],.node [.int 2262029012],.node [.int 2685067896],.node [.int 3183342108]]
def Xp:CG.length=16:=rfl
def Xq(c:Int):Int:=cO (c/16) (uv CG (ja c 15))
def QO(c:Int):Int:=if ja c 1=1 then cO (c/2) 3988292384 else c/2
def QP:Nat->Int->Int
 |0,c=>c
 |n+1,c=>QP n (QO c)
def crP(c b:Int):Int:=Xq (Xq (cO c (b%4294967296)))
def crL(c:Int):List Nat->Int
 | []=>c
 |b::s=>crL (crP c b) s
def GR(n:Nat)(h:n<4294967296):aC FL (n:Int)=n:=by show((n:Int)%(4294967296:Nat)).toNat=n;omega
def Oi(n:Nat)(h:n<4294967296):IntKind.u32.wrap (.ofNat n)=(n:Int):=by show((n:Nat):Int)%4294967296=_;omega
def B3(a b:Nat)(ha:a<4294967296)(hb:b<4294967296):cO a b=((a ^^^ b:Nat):Int)/\a ^^^ b<4294967296:=by have h:a ^^^ b<2 ^ 32:=Nat.xor_lt_two_pow ha hb;refine⟨?_,h⟩;unfold cO;rw[GR a ha,GR b hb];exact Oi _ h
def tH(a:Nat)(k:Nat)(ha:a<4294967296)(hk:k<=32):ja a ((2 ^ k-1:Nat):Int)=((a%2 ^ k:Nat):Int):=by unfold ja;have hp:2 ^ k<=2 ^ 32:=abv (by decide) hk;have h0:=aaQ k;rw[GR a ha,GR _ (by omega)];show IntKind.u32.wrap (.ofNat (a &&& (2 ^ k-1)))=_;rw[abP];exact Oi _ (Nat.lt_of_le_of_lt (Nat.mod_le _ _) ha)
def SE(a:Nat)(ha:a<4294967296):QO a=(fN a:Nat)/\fN a<4294967296:=by
 have h1:ja a 1=((a%2:Nat):Int):=tH a 1 ha (by decide);unfold QO fN;rw[h1,show((a:Int)/2)=((a/2:Nat):Int) by omega];obtain⟨e1,e2⟩:=B3 (a/2) 3988292384 (by omega) (by omega);by_cases h:a%2=1
 ·rw[if_pos (by omega),if_pos h];exact⟨e1,e2⟩
 ·rw[if_neg (by omega),if_neg h];exact⟨rfl,by omega⟩
def GS(n a:Nat)(ha:a<4294967296):QP n a=(fI n a:Nat)/\fI n a<4294967296:=by
 induction n generalizing a with
 |zero=>exact⟨rfl,ha⟩
 |succ n ih=>obtain⟨e1,e2⟩:=SE a ha;show QP n (QO a)=_/\_;rw[e1];exact ih _ e2
def CG_at(r:Nat)(h:r<16):uv CG r=(cT.getD r 0:Nat):=by
 have:∀i:Fin 16,uv CG i.1=(cT.getD i.1 0:Nat):=by decide
 exact this ⟨r,h⟩
def cT_lt(r:Nat)(h:r<16):cT.getD r 0<4294967296:=by
 have:∀i:Fin 16,cT.getD i.1 0<4294967296:=by decide
 exact this ⟨r,h⟩
def yy(a:Nat)(ha:a<4294967296):Xq a=(fI 4 a:Nat)/\fI 4 a<4294967296:=by have h1:ja a 15=((a%16:Nat):Int):=tH a 4 ha (by decide);refine⟨?_,(GS 4 a ha).2⟩;unfold Xq;rw[h1,CG_at _ (by omega),fI4,show((a:Int)/16)=((a/16:Nat):Int) by omega];exact(B3 _ _ (by omega) (cT_lt _ (by omega))).1
def B4(a b:Int):∃n:Nat,cO a b=n/\n<4294967296:=by
 have h:0<=cO a b/\cO a b<4294967296:=by unfold cO;generalize Nat.xor _ _=n;show 0<=((n:Nat):Int)%4294967296/\((n:Nat):Int)%4294967296<4294967296;omega
 exact⟨(cO a b).toNat,by omega,by omega⟩
def B5(a:Int)(h0:0<=a)(h:a<4294967296):0<=ja a 15/\ja a 15<16:=by
 obtain⟨n,rfl⟩:∃n:Nat,a=n:=⟨a.toNat,by omega⟩
 have:=tH n 4 (by omega) (by decide);rw[show((2 ^ 4-1:Nat):Int)=15 by rfl] at this;omega
def GT(a b:Int):0<=cO a b/\cO a b<4294967296:=by obtain⟨n,e,h⟩:=B4 a b;omega
def crN8(c b:Int):QP 8 (cO c (b%4294967296))=crP c b:=by unfold crP;obtain⟨n,e,h⟩:=B4 c (b%4294967296);rw[e,(GS 8 n h).1,(yy n h).1,(yy _ (yy n h).2).1];rfl
def Oj(i c:Int)(h:i<8):QP (8-i).toNat c=QP (8-(i+1)).toNat (QO c):=by rw[show(8-i).toNat=(8-(i+1)).toNat+1 by omega];rfl
def SF(i c:Int)(h:8<=i):QP (8-i).toNat c=c:=by rw[show(8-i).toNat=0 by omega];rfl
def Xr(c:Int):(ja c 1=1->QO c=cO (c/2) 3988292384)/\(¬ja c 1=1->QO c=c/2):=⟨λh=>by unfold QO;rw[if_pos h],λh=>by unfold QO;rw[if_neg h]⟩
def Kq(i c:Int):Int:=QP (8-i).toNat c
def Ol(i c:Int)(h:i<8):Kq i c=Kq (i+1) (QO c):=Oj i c h
def SG(i c:Int)(h:8<=i):Kq i c=c:=SF i c h
theorem crM_0(c:Int):Kq 0 c=QP 8 c:=rfl
def u32s:¬IntKind.u32.signed=true:=λh=>by cases h
def wv(s:List Nat)(i c:Int):Int:=crL c (s.drop i.toNat)
def B6(s:List Nat)(i c:Int)(h0:0<=i)(h:i<s.length):wv s i c=wv s (i+1) (Xq (Xq (cO c (kY s i%4294967296)))):=by
 unfold wv;have hi:i.toNat<s.length:=by omega
 rw[aa2 hi,show(i+1).toNat=i.toNat+1 by omega];show crL (crP c _) _=_;unfold crP kY;rw[aag,aai hi];rfl
def GU(s:List Nat)(i c:Int)(h:(s.length:Int)<=i):wv s i c=c:=by unfold wv;rw[aaO (by omega)];rfl
def JO(s:List Nat)(i c:Int)(h0:0<=i)(h:i<s.length):wv s i c=wv s (i+1) (QP 8 (cO c (kY s i%4294967296))):=by rw[B6 s i c h0 h,crN8];rfl
def D3(s:List Nat):Int:=Bd (wv s 0 4294967295)
def Om(s:List Nat):D3 s=Bd (wv s 0 4294967295):=rfl
def Xs:List BSh:=[.arr 9 307 2]
def ugB:List BSh:=[.growb 5 20]
def GV(p:Sy):LSpec:=⟨[(3,.c (.p 0)),(4,.c (.i .u32 5)),(8,.c (.vb 20)),(9,.c (.i .i64 7)),(10,.c (.i .i64 6))],Xs,λz=>z.g 2=CG/\z.i 7=(z.s 20).length/\0<=z.i 6/\(z.s 20).length<=1000000000,λz=>(z.i 7-z.i 6).toNat,[⟨.exit 0,[(3,.c (.p 0)),(4,.c (.i .u32 5))],Xs⟩],λz y=>y.i 5=wv (z.s 20) (z.i 6) (z.i 5),none,[]⟩
def GW:FSpec:=⟨[.c (.vb 20)],[],λz=>(z.s 20).length<=1000000000,λ_=>.one (.c (.i .u32 10)),λ_=>[],λz y=>y.i 10=D3 (z.s 20)/\0<=y.i 10/\y.i 10<4294967296,none⟩
def GX(p:Sy):LSpec:=⟨[(0,.c (.vb 20)),(3,.c (.i .u32 3)),(4,.c (.i .i64 4)),(5,.c (.i .i64 5))],[],λz=>0<=z.i 5/\z.i 5<=8,λz=>(8-z.i 5).toNat,[⟨.exit 2,[(0,.c (.vb 20)),(3,.c (.i .u32 3)),(4,.c (.i .i64 4))],[]⟩],λz y=>y.s 20=z.s 20/\y.i 4=z.i 4/\y.i 3=Kq (z.i 5) (z.i 3),none,[]⟩
def GY(p:Sy):LSpec:=⟨[(0,.c (.vb 20)),(3,.c (.i .u32 3)),(4,.c (.i .i64 4))],[],λz=>(z.s 20).length<=1000000000/\0<=z.i 4/\z.i 4<=(z.s 20).length,λz=>((z.s 20).length-z.i 4).toNat,[⟨.exit 0,[(0,.c (.vb 20)),(3,.c (.i .u32 3))],[]⟩],λz y=>y.s 20=z.s 20/\y.i 3=wv (z.s 20) (z.i 4) (z.i 3),none,[]⟩
abbrev Vk:=GW
def b4(c:Int):List Nat:=[(c/16777216%256).toNat,(c/65536%256).toNat,(c/256%256).toNat,(c%256).toNat]
def rj:FSpec:=⟨[.c (.i .u32 1)],[],λz=>0<=z.i 1,λ_=>.one (.c (.gb 0 20)),λ_=>ugB,λz y=>y.s 20=b4 (z.i 1),none⟩
abbrev GZ:=rj
def frH(n:Int):List Nat:=b4 n++b4 (D3 (b4 n))
def zF(s:List Nat):List Nat:=frH s.length++(s++b4 (D3 (frH s.length++s)))
def yz(s:List Nat):0<=D3 s/\D3 s<4294967296:=by unfold D3 Bd;generalize Nat.xor _ _=n;show 0<=((n:Nat):Int)%4294967296/\((n:Nat):Int)%4294967296<4294967296;omega
def D4(n:Nat)(h:n<18446744073709551616):aC (aj .u64) (n:Int)=n:=by have e:aC (aj .u64) (n:Int)=((n:Int)%((18446744073709551616:Nat):Int)).toNat:=rfl;rw[e];omega
def G0(n:Nat)(h:n<18446744073709551616):IntKind.u64.wrap (.ofNat n)=(n:Int):=by have e:IntKind.u64.wrap (.ofNat n)=((n:Nat):Int)%18446744073709551616:=rfl;rw[e];omega
def SH(a b:Nat)(h:b<4294967296):Nat.lor (4294967296 * a) b=4294967296 * a+b:=by have:=Nat.two_pow_add_eq_or_of_lt (i:=32) (b:=b) h a;rw[show(2:Nat) ^ 32=4294967296 by decide] at this;exact this.symm
def or64{x c:Int}(h0:0<=x)(h:x<4294967296)(c0:0<=c)(hc:c<4294967296):IntKind.u64.wrap (.ofNat (Nat.lor (aC (aj .u64) (x%18446744073709551616 * 4294967296%18446744073709551616)) (aC (aj .u64) (c%18446744073709551616))))=x * 4294967296+c:=by
 obtain⟨a,rfl⟩:∃n:Nat,x=n:=⟨x.toNat,by omega⟩
 obtain⟨b,rfl⟩:∃n:Nat,c=n:=⟨c.toNat,by omega⟩
 have e1:(a:Int)%18446744073709551616 * 4294967296%18446744073709551616=((4294967296 * a:Nat):Int):=by omega
 have e2:(b:Int)%18446744073709551616=((b:Nat):Int):=by omega
 rw[e1,e2,D4 _ (by omega),D4 _ (by omega),SH _ _ (by omega),G0 _ (by omega)];omega
def Xt{n c:Int}(a:0<=n)(b:n<4294967296)(h0:0<=c)(h1:c<4294967296):(n * 4294967296+c)/4294967296%4294967296=n/\(n * 4294967296+c)%4294967296=c/\0<=n * 4294967296+c/\n * 4294967296+c<18446744073709551616:=by omega
theorem tI(c:Int):(b4 c).length=4:=rfl
def SJ(n:Int):(frH n).length=8:=rfl
theorem dH(s:List Nat):(zF s).length=s.length+12:=by unfold zF;rw[aah,aah,SJ,tI];omega
def G1:FSpec:=⟨[.c (.i .u32 1)],[],λz=>0<=z.i 1/\z.i 1<4294967296,λ_=>.one (.c (.i .u64 10)),λ_=>[],λz y=>y.i 10/4294967296%4294967296=z.i 1/\y.i 10%4294967296=D3 (b4 (z.i 1))/\0<=y.i 10/\y.i 10<18446744073709551616,none⟩
def SBig:FSpec:=⟨[.c (.i .u64 1)],[],λz=>0<=z.i 1/\z.i 1<18446744073709551616,λ_=>.one (.c (.gb 0 20)),λ_=>ugB,λz y=>y.s 20=b4 (z.i 1/4294967296%4294967296)++b4 (z.i 1%4294967296),none⟩
def jg:FSpec:=⟨[.c (.vb 1)],[],λz=>(z.s 1).length<=100000000,λ_=>.tu [.c (.vb 10),.c (.i .i64 50)],λ_=>[],λz y=>((z.s 1).length<=524288->y.i 50=0/\y.s 10=zF (z.s 1))/\(524288<(z.s 1).length->y.i 50=5/\y.s 10= [])/\(y.s 10).length<=524300,none⟩
abbrev wy:=jg
attribute [irreducible] wv D3 Kq
end
abbrev Vl(a:Int):=0<=a/16777216%256/\0<=a/65536%256/\0<=a/256%256/\0<=a%256/\True
def On:bn 188 GZ:=bA 1 0 eN lN λz hA=>show Fm.den ((.an (Vl (z.i 1)) (.an (4=4) (.an (4=4/\True) (.at ([(z.i 1/16777216%256).toNat,(z.i 1/65536%256).toNat,(z.i 1/256%256).toNat,(z.i 1%256).toNat]=b4 (z.i 1))))))) by
 dsimp only [GZ,rj,ugB] at hA;repeat' with_reducible first|intro _|apply bV|apply bW|apply bX|apply cy|apply cj
 all_goals first|omega|grind [ao,am,ak,b4]
def Oo:bN 175 2 GX:=bM 7 549 eN lN λp z hA=>show Fm.den (let v0:=((-9223372036854775808)<=z.i 5+1/\z.i 5+1<=9223372036854775807);let v1:=(cg);let v2:=(0<=z.i 5+1/\z.i 5+1<=8);let v3:=(z.i 5+1);(.two (z.i 5<8) (.two (IntKind.u32.wrap (Int.ofNat ((aC v1 (z.i 3)).land (aC v1 1)))=1) (.an v0 (.ax (v2/\((8:Int)-v3).toNat<(8-z.i 5).toNat/\∀(y:Sy),y.s 20=z.s 20/\y.i 4=z.i 4/\y.i 3=Kq v3 (eL (Int.ofNat ((aC v1 (z.i 3/2)).xor (aC v1 3988292384))))->y.s 20=z.s 20/\y.i 4=z.i 4/\y.i 3=Kq (z.i 5) (z.i 3)))) (.an v0 (.ax (v2/\((8:Int)-v3).toNat<(8-z.i 5).toNat/\∀(y:Sy),y.s 20=z.s 20/\y.i 4=z.i 4/\y.i 3=Kq v3 (z.i 3/2)->y.s 20=z.s 20/\y.i 4=z.i 4/\y.i 3=Kq (z.i 5) (z.i 3))))) (.ax (z.s 20=z.s 20/\z.i 4=z.i 4/\z.i 3=Kq (z.i 5) (z.i 3))))) by dsimp only [GX] at hA;have:=Ol (z.i 5) (z.i 3);have:=SG (z.i 5) (z.i 3);have e3:=Xr (z.i 3);dsimp only [cO,ja,FL] at e3;exact kn
def Oq:bN 175 0 GY:=bM 4 9 eN (aF (ptm:=[]) Oo lN) λp z hA=>show Fm.den ((.two (z.i 4 < ↑(z.s 20).length) (.an (0<=z.i 4/\z.i 4 < ↑(z.s 20).length) (.ct ((0:Int)<=0/\(0:Int)<=8) (λy0=>y0.s 20=z.s 20/\y0.i 4=z.i 4/\y0.i 3=Kq 0 (eL (Int.ofNat ((aC (cg) (z.i 3)).xor (aC (cg) ((↑((z.s 20).getD (z.i 4).toNat 0):Int)%4294967296)))))) λy0=>(.an ((-9223372036854775808)<=y0.i 4+1/\y0.i 4+1<=9223372036854775807) (.ax (((y0.s 20).length<=1000000000/\0<=y0.i 4+1/\y0.i 4+1<= ↑(y0.s 20).length)/\((↑(y0.s 20).length:Int)-(y0.i 4+1)).toNat<((↑(z.s 20).length:Int)-z.i 4).toNat/\∀(y:Sy),y.s 20=y0.s 20/\y.i 3=wv (y0.s 20) (y0.i 4+1) (y0.i 3)->y.s 20=z.s 20/\y.i 3=wv (z.s 20) (z.i 4) (z.i 3)))))) (.ax (z.s 20=z.s 20/\z.i 3=wv (z.s 20) (z.i 4) (z.i 3))))) by
 dsimp only [GY] at hA;have e1:=@JO (z.s 20) (z.i 4) (z.i 3);have:=@GU (z.s 20) (z.i 4) (z.i 3);dsimp only [cO,kY,FL] at e1;repeat' with_reducible first|intro _|apply bV|apply bW|apply bX|apply cy|apply cj
 all_goals first|omega|grind [ao,am,ak,crM_0]
abbrev Vm(a:Int)(b:List Nat):=IntKind.u32.wrap a=D3 b/\(0:Int)<=IntKind.u32.wrap a/\IntKind.u32.wrap a<4294967296
def Xu:bn 175 Vk:=bA 1 0 eN (aF (ptm:=[]) Oq lN) λz hA=>show Fm.den (let v1:=(cg);let v0:=(aC v1 (RL (-1)));(.ct ((z.s 20).length<=1000000000/\(0:Int)<=0/\0<=(↑(z.s 20).length:Int)) (λy0=>y0.s 20=z.s 20/\y0.i 3=wv (z.s 20) 0 4294967295) λy0=>(let v2:=(Int.ofNat (v0.xor (aC v1 (y0.i 3))));(.ax (Vm v2 (z.s 20)))))) by dsimp only [Vk,GW] at hA;have:=u32s;have e1:=Om (z.s 20);dsimp only [Bd,FL] at e1;have:=yz (z.s 20);exact kn
def tJ:bn 198 rj:=bA 1 0 eN lN λz hA=>show Fm.den ((.an (Vl (z.i 1)) (.an (4=4) (.an (4=4/\True) (.at ([(z.i 1/16777216%256).toNat,(z.i 1/65536%256).toNat,(z.i 1/256%256).toNat,(z.i 1%256).toNat]=b4 (z.i 1))))))) by
 dsimp only [rj,ugB] at hA;repeat' with_reducible first|intro _|apply bV|apply bW|apply bX|apply cy|apply cj
 all_goals first|omega|grind [ao,am,ak,b4]
def Ot:bN 169 0 GV:=bM 4 9 eN lN λp z hA=>show Fm.den (let v1:=(Int.ofNat ((aC (cg) (eL (Int.ofNat ((aC (cg) (z.i 5)).xor (aC (cg) ((↑((z.s 20).getD (z.i 6).toNat 0):Int)%4294967296)))))).land (aC (cg) 15)));let v0:=(Int.ofNat ((aC (cg) (IntKind.u32.wrap (Int.ofNat ((aC (cg) (z.i 5)).xor (aC (cg) ((↑((z.s 20).getD (z.i 6).toNat 0):Int)%4294967296))))/16)).xor (aC (cg) (gI (aZ (aK (z.g 2) (eL v1)))))));let v2:=(Int.ofNat ((aC (cg) (eL v0)).land (aC (cg) 15)));let v3:=(sW (z.g 2));(.two (z.i 6<z.i 7) (.an (0<=z.i 6/\z.i 6 < ↑(z.s 20).length) (.an (0<=IntKind.u32.wrap v1/\IntKind.u32.wrap v1<16) (.an (mh (z.g 2)) (.an (eE (eL v1) (z.g 2)) (.an (0<=IntKind.u32.wrap v2/\IntKind.u32.wrap v2<16) (.an (mh (z.g 2)) (.an (eE (eL v2) (z.g 2)) (.an ((-9223372036854775808)<=z.i 6+1/\z.i 6+1<=9223372036854775807) (.an v3 (.at ((z.g 2=CG/\z.i 7= ↑(z.s 20).length/\0<=z.i 6+1/\(z.s 20).length<=1000000000)/\(z.i 7-(z.i 6+1)).toNat<(z.i 7-z.i 6).toNat/\∀(y:Sy),y.i 5=wv (z.s 20) (z.i 6+1) (sU (Int.ofNat ((aC (cg) (IntKind.u32.wrap v0/16)).xor (aC (cg) (gI (aZ (aK (z.g 2) (eL v2))))))))->y.i 5=wv (z.s 20) (z.i 6) (z.i 5)))))))))))) (.an v3 (.at (z.i 5=wv (z.s 20) (z.i 6) (z.i 5)))))) by
 dsimp only [GV,Xs] at hA;have e1:=@B6 (z.s 20) (z.i 6) (z.i 5);have:=@GU (z.s 20) (z.i 6) (z.i 5);have:=Xp;have e4:=GT (z.i 5) (kY (z.s 20) (z.i 6)%4294967296);have e5:=@B5 (cO (z.i 5) (kY (z.s 20) (z.i 6)%4294967296)) e4.1 e4.2;have e6:=(λe=>GT (cO (z.i 5) e/16) (uv CG (ja (cO (z.i 5) e) 15))) (kY (z.s 20) (z.i 6)%4294967296)
 have e7:=@B5 _ e6.1 e6.2;dsimp only [Xq,cO,ja,kY,uv,FL] at e1 e4 e5 e6 e7;exact kn
def Ou:bn 169 GW:=bA 1 0 eN (aF (ptm:=[]) Ot lN) λz hA=>show Fm.den (let v1:=(cg);let v0:=(aC v1 (RL (-1)));let v2:=(↑(z.s 20).length:Int);(.an (16=16/bq (cK 9)) (.cl ((0<16/\True)) ([G.node [G.int 0],G.node [G.int 498536548],G.node [G.int 997073096],G.node [G.int 651767980],G.node [G.int 1994146192],G.node [G.int 1802195444],G.node [G.int 1303535960],G.node [G.int 1342533948],G.node [G.int 3988292384],G.node [G.int 4027552580],G.node [G.int 3604390888],G.node [G.int 3412177804],G.node [G.int 2607071920],G.node [G.int 2262029012],G.node [G.int 2685067896],G.node [G.int 3183342108]]=CG/\v2=v2/\(0:Int)<=0/\(z.s 20).length<=1000000000) (λy0=>y0.i 5=wv (z.s 20) 0 4294967295) λy0=>(let v3:=(Int.ofNat (v0.xor (aC v1 (y0.i 5))));(.ax (Vm v3 (z.s 20))))))) by dsimp only [GW] at hA;have e2: [G.node [G.int 0],G.node [G.int 498536548],G.node [G.int 997073096],G.node [G.int 651767980],G.node [G.int 1994146192],G.node [G.int 1802195444],G.node [G.int 1303535960],G.node [G.int 1342533948],G.node [G.int 3988292384],G.node [G.int 4027552580],G.node [G.int 3604390888],G.node [G.int 3412177804],G.node [G.int 2607071920],G.node [G.int 2262029012],G.node [G.int 2685067896],G.node [G.int 3183342108]]=CG:=rfl;have:=u32s;have e4:bq (cK 9)=1:=rfl;have e1:=Om (z.s 20);dsimp only [Bd,FL] at e1;have:=yz (z.s 20);exact kn
abbrev SK(a:List Nat):=Fm.ct (a.length<=1000000000) (λy=>y.i 10=D3 a/\0<=y.i 10/\y.i 10<4294967296)
abbrev SL(a:Int):=Fm.ct (0<=a) (λy=>y.s 20=b4 a)
def Ov:bn 167 G1:=bA 1 0 (ai tJ (jZ Ou eN)) lN λz hA=>show Fm.den (let v1:=(nV);let v0:=(aC v1 (z.i 1%18446744073709551616 * 4294967296%18446744073709551616));(SL (z.i 1) λy0=>(.an (sX (y0.s 20)) (SK (y0.s 20) λy1=>(let v2:=(Int.ofNat (v0.lor (aC v1 (y1.i 10%18446744073709551616))));(.ax (IntKind.u64.wrap v2/4294967296%4294967296=z.i 1/\IntKind.u64.wrap v2%4294967296=D3 (b4 (z.i 1))/\(0:Int)<=IntKind.u64.wrap v2/\IntKind.u64.wrap v2<18446744073709551616))))))) by
 dsimp only [G1] at hA;have:=yz (b4 (z.i 1));have:=@or64 (z.i 1) (D3 (b4 (z.i 1)));have:=@Xt (z.i 1) (D3 (b4 (z.i 1)));conv=>zeta
 repeat' with_reducible first|intro _|apply bV|apply bW|apply bX|apply cy|apply cj
 all_goals first|omega|grind [ao,am,ak,tI]
def o_Big:bn 197 SBig:=bA 1 0 (ai tJ eN) lN λz hA=>show Fm.den (let v0:=(z.i 1/4294967296%4294967296);(.ct (0<=z.i 1/4294967296%4294967296) (λy0=>y0.s 20=b4 v0) λy0=>(.ct (0<=z.i 1%4294967296) (λy1=>y1.s 20=b4 (z.i 1%4294967296)) λy1=>(.an (sX (y1.s 20)) (.an (Gm (y0.s 20) (y1.s 20)) (.an (we (y0.s 20++y1.s 20) (y0.s 20) (y1.s 20)) (.at (y0.s 20++y1.s 20=b4 v0++b4 (z.i 1%4294967296))))))))) by
 dsimp only [SBig,ugB] at hA;conv=>zeta
 repeat' with_reducible first|intro _|apply bV|apply bW|apply bX|apply cy|apply cj
 all_goals first|omega|grind [ao,am,ak,tI]
noncomputable section
def D5(h:G)(i n:Int)(p:List G)(r:G):Prop:=(0<=i/\i<n)/\n<=1099511627776/\(gP h i n p).2/\(gP h i n p).1=r
def yA(h:G)(i n:Int)(p:List G)(r:G):D5 h i n p r↔(0<=i/\i<n)/\n<=1099511627776/\(gP h i n p).2/\(gP h i n p).1=r:=Iff.rfl
def B7:FSpec:=⟨[.ag (hs 100),.c (.i .i64 3),.c (.i .i64 4),.ag [.v 6 1],.ag (hs 200)],[],λz=>HOk (hT z 100)/\HOk (hT z 200)/\(z.g 1).length<=1000000/\RowsOk (z.g 1),λ_=>.one (.c (.b 50)),λ_=>[],λz y=>y.p 50↔D5 (hT z 100) (z.i 3) (z.i 4) (z.g 1) (hT z 200),none⟩
attribute [irreducible] D5
end
abbrev Xv(a:G)(b:Prop)(c:Int)(d:List G):=HOk a/\b/\c<1099511627777/\c<=1099511627776/\d.length<=1000000/\RowsOk d
def JP:bn 30 B7:=bA 9 4369 (ai (Od 1099511627777) eN) lN λz hA=>show Fm.den (let v1:=(gP (hT z 100) (z.i 3) (z.i 4) (z.g 1));let v0:Fm:=(.ax (false=true↔D5 (hT z 100) (z.i 3) (z.i 4) (z.g 1) (hT z 200)));(.two (z.i 3<0) v0 (.two (z.i 4<=z.i 3) v0 (.two (1099511627776<z.i 4) v0 (.ct (Xv (hT z 100) (0<=z.i 3/\z.i 3<z.i 4) (z.i 4) (z.g 1)) (λy0=>HOk (hT y0 300)/\hT y0 300=v1.fst/\(y0.p 50↔v1.snd)) λy0=>(.two (y0.p 50) (.ax (ky (hT y0 300) (hT z 200)↔D5 (hT z 100) (z.i 3) (z.i 4) (z.g 1) (hT z 200))) v0)))))) by dsimp only [B7,hs] at hA;have:=yA (hT z 100) (z.i 3) (z.i 4) (z.g 1) (hT z 200);exact fx
noncomputable section
end
noncomputable section
def Ow(p:List G):G:=hX (aa (aq p (p.length-1)) 0)
structure Bt where
 a:G
 b:G
 p:Prop
open Classical in
def bp(m n:Int)(c:Prop)(p:List G)(o:G):Bt:=
 if m=n then(if c then⟨o,o,p.length=0⟩ else if p.length=1 then⟨hX (aa (aq p 0) 0),hX (aa (aq p 0) 0),True⟩ else⟨hZ,hZ,False⟩)
 else if h:2<=n then
  if p.length=0 then⟨hZ,hZ,False⟩
  else if m<=(br n.toNat:Nat) then⟨(bp m (br n.toNat:Nat) c p.dropLast o).a,aY (bp m (br n.toNat:Nat) c p.dropLast o).b (Ow p),(bp m (br n.toNat:Nat) c p.dropLast o).p⟩
  else⟨aY (Ow p) (bp (m-(br n.toNat:Nat)) (n-(br n.toNat:Nat)) False p.dropLast o).a,aY (Ow p) (bp (m-(br n.toNat:Nat)) (n-(br n.toNat:Nat)) False p.dropLast o).b,(bp (m-(br n.toNat:Nat)) (n-(br n.toNat:Nat)) False p.dropLast o).p⟩
 else⟨hZ,hZ,False⟩
termination_by n.toNat
decreasing_by all_goals (have:=eY h;omega)
variable{m n k:Int}{c d:Prop}{p:List G}{o:G}
def pH(h:m=n)(hc:c):bp m n c p o=⟨o,o,p.length=0⟩:=by rw[bp,if_pos h,if_pos hc]
def pJ(h:m=n)(hc:¬c)(h1:p.length=1):bp m n c p o=⟨hX (aa (aq p 0) 0),hX (aa (aq p 0) 0),True⟩:=by rw[bp,if_pos h,if_neg hc,if_pos h1]
def wz(h:m=n)(hc:¬c)(h1:¬p.length=1):bp m n c p o=⟨hZ,hZ,False⟩:=by rw[bp,if_pos h,if_neg hc,if_neg h1]
def wA(h:¬m=n)(h1:p.length=0):bp m n c p o=⟨hZ,hZ,False⟩:=by
 rw[bp,if_neg h];by_cases h2:2<=n
 ·rw[dif_pos h2,if_pos h1]
 ·rw[dif_neg h2]
def yB(hd:¬d)(h:¬m=n)(hn:2<=n)(hp:¬(p.length:Int)=0)(hk:k=(br n.toNat:Nat)):
 (m<=k->bp m n c p o=⟨(bp m k c (List.drop (0:Int).toNat (List.take ((p.length:Int)-1).toNat p)) o).a,aY (bp m k c (List.drop (0:Int).toNat (List.take ((p.length:Int)-1).toNat p)) o).b (hX (aa (aq p ((p.length:Int)-1).toNat) 0)),(bp m k c (List.drop (0:Int).toNat (List.take ((p.length:Int)-1).toNat p)) o).p⟩)/\
 (¬m<=k->bp m n c p o=⟨aY (hX (aa (aq p ((p.length:Int)-1).toNat) 0)) (bp (m-k) (n-k) d (List.drop (0:Int).toNat (List.take ((p.length:Int)-1).toNat p)) o).a,aY (hX (aa (aq p ((p.length:Int)-1).toNat) 0)) (bp (m-k) (n-k) d (List.drop (0:Int).toNat (List.take ((p.length:Int)-1).toNat p)) o).b,(bp (m-k) (n-k) d (List.drop (0:Int).toNat (List.take ((p.length:Int)-1).toNat p)) o).p⟩):=by
 subst hk
 rw[wq (by omega),show((p.length:Int)-1).toNat=p.length-1 by omega,show d=False from propext ⟨hd,False.elim⟩]
 refine⟨λhi=>?_,λhi=>?_⟩
 ·conv=>lhs;rw[bp,if_neg h,dif_pos hn,if_neg (by omega),if_pos hi]
  rfl
 ·conv=>lhs;rw[bp,if_neg h,dif_pos hn,if_neg (by omega),if_neg hi]
  rfl
def Vn(k:Nat):FSpec:=⟨[.c (.i .i64 3),.c (.i .i64 4),.c (.b 5),.c (.v 6 1),.ag (hs 100)],[],λz=>HOk (hT z 100)/\(1<=z.i 3/\z.i 3<=z.i 4)/\z.i 4<k/\z.i 4<=1099511627776/\(z.g 1).length<=1000000/\RowsOk (z.g 1),λ_=>.tu [.ag (hs 300),.ag (hs 400),.c (.b 50)],λ_=>[],λz y=>(HOk (hT y 300)/\HOk (hT y 400))/\hT y 300=(bp (z.i 3) (z.i 4) (z.p 5) (z.g 1) (hT z 100)).a/\hT y 400=(bp (z.i 3) (z.i 4) (z.p 5) (z.g 1) (hT z 100)).b/\(y.p 50↔(bp (z.i 3) (z.i 4) (z.p 5) (z.g 1) (hT z 100)).p),none⟩
def uC(m n:Int)(p:List G)(o r:G):Prop:=(1<=m/\m<=n)/\n<=1099511627776/\(bp m n True p o).p/\(bp m n True p o).a=o/\(bp m n True p o).b=r
def G2(t:Prop)(ht:t)(m n:Int)(p:List G)(o r:G):uC m n p o r↔(1<=m/\m<=n)/\n<=1099511627776/\(bp m n t p o).p/\(bp m n t p o).a=o/\(bp m n t p o).b=r:=by rw[show t=True from propext ⟨λ_=>trivial,λ_=>ht⟩];exact Iff.rfl
def wB:FSpec:=⟨[.c (.i .i64 3),.c (.i .i64 4),.ag [.v 6 1],.ag (hs 100),.ag (hs 200)],[],λz=>HOk (hT z 100)/\HOk (hT z 200)/\(z.g 1).length<=1000000/\RowsOk (z.g 1),λ_=>.one (.c (.b 50)),λ_=>[],λz y=>y.p 50↔uC (z.i 3) (z.i 4) (z.g 1) (hT z 100) (hT z 200),none⟩
attribute [irreducible] uC
end
abbrev ke:=false=true
def G3:∀k,bn 79 (Vn k)
 |0=>Ko λz h=>by have a:1<=z.i 3/\z.i 3<=z.i 4:=h.2.1;have b:z.i 4<((0:Nat):Int):=h.2.2.1;omega
 |k+1=>bA 15 169480261 (ai ri (ai (G3 k) (ai oc eN))) lN λz hA=>show Fm.den (let vxn:=Int.toNat 0;let v1:=(↑(z.g 1).length:Int);let v3:=(List.drop (vxn) (pG (v1-1) (z.g 1)));let v4:=(hX (aZ (aK (z.g 1) (v1-1))));let v5:=(aZ (aq (z.g 1) (ic)));let v6:=(hT z 100);let v2:=(bp (z.i 3) (z.i 4) (z.p 5) (z.g 1) v6);let v7:=((-9223372036854775808)<=v1-1/\v1-1<=9223372036854775807);let v8:=(vM v1);let v9:=(ke);let v0:Fm:=(.ax ((HOk hZ/\HOk hZ)/\hZ=v2.a/\hZ=v2.b/\(false=true↔v2.p)));(.two (z.i 3=z.i 4) (.two (z.p 5) (.ax ((HOk v6/\HOk v6)/\hT z 100=v2.a/\hT z 100=v2.b/\(v1=0↔v2.p))) (.two (v1≠1) v0 (.an v8 (.an v8 (.ax ((HOk (hX v5)/\HOk (hX v5))/\hX v5=v2.a/\hX v5=v2.b/\(true=true↔v2.p))))))) (.two (v1=0) v0 (.an v7 (.an (uB v1) (.an v7 (.an ((0:Int)<=0/\0<=v1-1/\v1-1<=v1) (JM (z.i 4) (mi (z.i 4)) λy0=>(let v10:=(bp (z.i 3-y0.i 10) (z.i 4-y0.i 10) v9 v3 v6);let v11:=(bp (z.i 3) (y0.i 10) (z.p 5) v3 v6);(.two (z.i 3<=y0.i 10) (.ct (Oc v6 (1<=z.i 3/\z.i 3<=y0.i 10) (y0.i 10) k v3) (λy1=>(HOk (hT y1 300)/\HOk (hT y1 400))/\hT y1 300=v11.a/\hT y1 400=v11.b/\(y1.p 50↔v11.p)) λy1=>(CM (hT y1 400) v4 λy2=>(.ax ((HOk (hT y1 300)/\HOk (hT y2 300))/\hT y1 300=v2.a/\hT y2 300=v2.b/\(y1.p 50↔v2.p))))) (.an ((-9223372036854775808)<=z.i 3-y0.i 10/\z.i 3-y0.i 10<=9223372036854775807) (.an ((-9223372036854775808)<=z.i 4-y0.i 10/\z.i 4-y0.i 10<=9223372036854775807) (.ct (Ob v6 (1<=z.i 3-y0.i 10/\z.i 3-y0.i 10<=z.i 4-y0.i 10) (z.i 4) (y0.i 10) k v3) (λy1=>(HOk (hT y1 300)/\HOk (hT y1 400))/\hT y1 300=v10.a/\hT y1 400=v10.b/\(y1.p 50↔v10.p)) λy1=>(CM v4 (hT y1 300) λy2=>(CM v4 (hT y1 400) λy3=>(.ax ((HOk (hT y2 300)/\HOk (hT y3 300))/\hT y2 300=v2.a/\hT y3 300=v2.b/\(y1.p 50↔v2.p)))))))))))))))))) by
  dsimp only [Vn,hs] at hA;have:=@pH (z.i 3) (z.i 4) (z.p 5) (z.g 1) (hT z 100);have:=@pJ (z.i 3) (z.i 4) (z.p 5) (z.g 1) (hT z 100);have:=@wz (z.i 3) (z.i 4) (z.p 5) (z.g 1) (hT z 100);have:=@wA (z.i 3) (z.i 4) (z.p 5) (z.g 1) (hT z 100);have:=λk h hn hp hk=>@yB (z.i 3) (z.i 4) k (z.p 5) (false=true) (z.g 1) (hT z 100) (λe=>by cases e) h hn hp hk;have:=@eY (z.i 4);have:=@N9 (z.g 1);have:=@Ve (z.g 1);have:=dh;have:=λh h0 hi=>@RowsOk.at (z.g 1) h 0 h0 hi;conv=>zeta
  repeat' with_reducible first|intro _|apply bV|apply bW|apply bX|apply cy|apply cj
  all_goals first|omega|grind [ao,am,ak,aP,aQ,aR,aS,aT,aU,aV,aW,aX,az,bR]
def D6:bn 34 wB:=bA 11 20753 (ai (G3 1099511627777) eN) lN λz hA=>show Fm.den (let v2:=(hT z 100);let v1:=(bp (z.i 3) (z.i 4) (qp) (z.g 1) v2);let v0:Fm:=(.ax (false=true↔uC (z.i 3) (z.i 4) (z.g 1) v2 (hT z 200)));(.two (z.i 3<1) v0 (.two (z.i 4<z.i 3) v0 (.two (1099511627776<z.i 4) v0 (.ct (Xv v2 (1<=z.i 3/\z.i 3<=z.i 4) (z.i 4) (z.g 1)) (λy0=>(HOk (hT y0 300)/\HOk (hT y0 400))/\hT y0 300=v1.a/\hT y0 400=v1.b/\(y0.p 50↔v1.p)) λy0=>(.two (y0.p 50) (.two (ky (hT y0 300) v2) (.ax (ky (hT y0 400) (hT z 200)↔uC (z.i 3) (z.i 4) (z.g 1) v2 (hT z 200))) v0) v0)))))) by dsimp only [wB,hs] at hA;have:=@G2 (true=true) rfl (z.i 3) (z.i 4) (z.g 1) (hT z 100) (hT z 200);exact fx
end Go.Proofs.YthgjkeemmhcpfaaGreatDoor
