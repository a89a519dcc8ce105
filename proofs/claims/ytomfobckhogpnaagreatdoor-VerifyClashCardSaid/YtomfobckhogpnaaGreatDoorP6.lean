/- Part 6. -/
import Derived.Test.YtomfobckhogpnaaGreatDoorChecked
import Derived.WalkKit
import Derived.Maps.RangeWalk
import Derived.Maps.OwnSet
import Derived.WalkSpells
import Derived.Deep.QuietTactic
import Derived.BigQuiet
import Derived.RegionTactic
import Derived.ChangeAlike
import Derived.Deep.AppendLies
import Derived.Deep.RegionHeld
import Derived.Test.YtomfobckhogpnaaGreatDoorProg
import Derived.KernelRfl
import Derived.Test.YtomfobckhogpnaaGreatDoorP4
import Derived.Test.YtomfobckhogpnaaGreatDoorP5
set_option linter.all false
namespace Go.Proofs.YtomfobckhogpnaaGreatDoor
open Go.Sym
set_option maxRecDepth 100000
set_option maxHeartbeats 4000000
abbrev SE(a:Int)(b:Nat):=Fm.ct (2<=a/\a<=1099511627776) (λy=>y.i 10= ↑b)
def GL:∀k,bj 236 (Vh k)
 |0=>QO λz h=>by have h:(1<=z.i 6/\z.i 6<((0:Nat):Int)):=h.1;omega
 |k+1=>bB 8 10262 (ai o_tz (ai Xx (ai (GL k) (ai xS eN)))) lN λz hA=>show Fm.den ((.an ((-9223372036854775808)<=z.i 6-1/\z.i 6-1<=9223372036854775807) (.two (IntKind.i64.wrap (Int.ofNat ((aE (oo) (z.i 6)).land (aE (oo) (z.i 6-1))))=0) (.ct (lO (z.i 6%18446744073709551616)/\z.i 6%18446744073709551616<=1000000) (λy0=>(0<=y0.i 10/\y0.i 10<=40)/\z.i 6%18446744073709551616= ↑(2 ^ (y0.i 10).toNat)) λy0=>(let v0:=(2 ^ Min.min (y0.i 10).toNat (bh IntKind.i64));(.an (0<=y0.i 10) (.two (j_ 0 (z.g 2) [y0.i 10,z.i 5 / ↑v0]) (.ax (z.i 1=z.i 1/\z.g 2=z.g 2/\iB (z.i 1) (z.g 2) (z.i 5) (z.i 6) (hX (aa (eP 0 (z.g 2) [y0.i 10,z.i 5/(↑v0:Int)]) 2)))) (.ax (z.i 1=z.i 1/\z.g 2=z.g 2/\iB (z.i 1) (z.g 2) (z.i 5) (z.i 6) hZ)))))) (SE (z.i 6) (bN (z.i 6).toNat) λy1=>(let v1:=(z.i 6-y1.i 10);(.ct ((1<=y1.i 10/\y1.i 10 < ↑k)/\0<=z.i 5/\z.i 5+y1.i 10<=z.i 1/\z.i 1<=1000000/\Kq (z.i 5) (y1.i 10)/\dG (z.i 1) (z.g 2)) (λy2=>y2.i 1=z.i 1/\y2.g 2=z.g 2/\iB (z.i 1) (z.g 2) (z.i 5) (y1.i 10) (hT y2 300)) λy2=>(.an ((-9223372036854775808)<=z.i 5+y1.i 10/\z.i 5+y1.i 10<=9223372036854775807) (.an ((-9223372036854775808)<=z.i 6-y1.i 10/\z.i 6-y1.i 10<=9223372036854775807) (.ct ((1<=z.i 6-y1.i 10/\z.i 6-y1.i 10 < ↑k)/\0<=z.i 5+y1.i 10/\z.i 5+y1.i 10+v1<=y2.i 1/\y2.i 1<=1000000/\Kq (z.i 5+y1.i 10) v1/\dG (y2.i 1) (y2.g 2)) (λy3=>y3.i 1=y2.i 1/\y3.g 2=y2.g 2/\iB (y2.i 1) (y2.g 2) (z.i 5+y1.i 10) v1 (hT y3 300)) λy3=>(uE (hT y2 300) (hT y3 300) λy4=>(.ax (y3.i 1=z.i 1/\y3.g 2=z.g 2/\iB (z.i 1) (z.g 2) (z.i 5) (z.i 6) (hT y4 300))))))))))))) by
  dsimp only [Vh,N3,hs,kX] at hA;have:=NW;have m1:1<=z.i 6->z.i 6<=1000000->z.i 6%18446744073709551616=z.i 6:=λa b=>by omega
  have b2:∀v:Int,0<=v->v<=40->min v.toNat (bh .i64)=v.toNat:=λv h0 h=>by show min v.toNat 64=_;omega
  have:=@Xr (z.i 6) (z.i 6-1) rfl;have:=λlv h0 hlv hn hb ha=>@SA (z.i 1) (z.i 5) (z.i 6) lv (z.g 2) h0 hlv hn hb ha;have:=λk a b h0 hn hb hk h1 h2=>@SB (z.i 1) (z.i 5) (z.i 6) k (z.g 2) a b h0 hn hb hk h1 h2;have:=@al_lo (z.i 5) (z.i 6);have:=@al_hi (z.i 5) (z.i 6);have:=@mM (z.i 6);have:=λfr n h he ht=>@Xu (z.i 1) fr n (z.g 2) h he ht;have:=λh:lO (z.i 6)=>@NX (z.i 6) h;conv=>zeta
  repeat' with_reducible first|intro _|apply cd|apply ck|apply cg|apply cE|apply cr
  all_goals first|omega|grind [ao,ak,aj,co]
def Xy:bj 192 Vi:=bB 7 273 (ai sV (ai (GL 1000001) eN)) lN λz hA=>show Fm.den (let v0:=(z.i 1=z.i 1/\z.g 2=z.g 2/\(z.i 6<0∨z.i 1<z.i 6->(1:Int)=1/\hZ=hZ)/\(0<=z.i 6/\z.i 6<=z.i 1->(1:Int)=0/\iB (z.i 1) (z.g 2) 0 (z.i 6) hZ));(.two (z.i 6<0) (.ax v0) (.two (z.i 1<z.i 6) (.ax v0) (.two (z.i 6=0) (.ct (0<=1000000000) (λy0=>True) λy0=>(.ax (z.i 1=z.i 1/\z.g 2=z.g 2/\(z.i 6<0∨z.i 1<z.i 6->(0:Int)=1/\hG (eM [])=hZ)/\(0<=z.i 6/\z.i 6<=z.i 1->(0:Int)=0/\iB (z.i 1) (z.g 2) 0 (z.i 6) (hG (eM [])))))) (.ct ((1<=z.i 6/\z.i 6<1000001)/\(0:Int)<=0/\0+z.i 6<=z.i 1/\z.i 1<=1000000/\Kq 0 (z.i 6)/\dG (z.i 1) (z.g 2)) (λy1=>y1.i 1=z.i 1/\y1.g 2=z.g 2/\iB (z.i 1) (z.g 2) 0 (z.i 6) (hT y1 300)) λy1=>(.ax (y1.i 1=z.i 1/\y1.g 2=z.g 2/\(z.i 6<0∨z.i 1<z.i 6->(0:Int)=1/\hT y1 300=hZ)/\(0<=z.i 6/\z.i 6<=z.i 1->(0:Int)=0/\iB (z.i 1) (z.g 2) 0 (z.i 6) (hT y1 300))))))))) by dsimp only [Vi,N3,hs,kX] at hA;have:=al0 (z.i 6);have:=@SC (z.i 1) (z.g 2) (z.i 6);have:=mH [];exact gC
noncomputable section
def tE{l:List G}:List.take (l.length:Int).toNat l=l:=by rw[aar,aa9]
def N8{l:List G}{k:Int}(h:2<=l.length)(hk:k=(bN ((l.length:Int)).toNat:Nat)):aO l=bD (aO (List.drop (0:Int).toNat (List.take k.toNat l))) (aO (List.drop k.toNat (List.take (l.length:Int).toNat l))):=JI h (by rw[hk,aar])
def Xz{i:Int}{l:List G}{k:Int}(h:2<=l.length)(hk:k=(bN ((l.length:Int)).toNat:Nat)):(i<k->aR i l=aR i (List.drop (0:Int).toNat (List.take k.toNat l))++ [.node [aO (List.drop k.toNat (List.take (l.length:Int).toNat l))]])/\(¬i<k->aR i l=aR (i-k) (List.drop k.toNat (List.take (l.length:Int).toNat l))++ [.node [aO (List.drop (0:Int).toNat (List.take k.toNat l))]]):=by subst hk;rw[tE,drop_zero,aar,aar];exact⟨λhi=>ou h hi,λhi=>ow h hi⟩
def cut_len{l:List G}{k:Int}(h0:0<=k)(hk:k<=l.length):((List.drop (0:Int).toNat (List.take k.toNat l)).length:Int)=k/\((List.drop k.toNat (List.take (l.length:Int).toNat l)).length:Int)=l.length-k:=by rw[tE,drop_zero,aao,aas];omega
def yp{l:List G}{k:Int}(h:RowsOk l):RowsOk (List.drop (0:Int).toNat (List.take k.toNat l))/\RowsOk (List.drop k.toNat (List.take (l.length:Int).toNat l)):=by rw[tE,drop_zero];exact⟨h.take _,h.drop _⟩
def Vn{l:List G}(h:1<=l.length):List.drop (0:Int).toNat (List.take ((l.length:Int)-1).toNat l)=l.dropLast:=by rw[drop_zero,List.dropLast_eq_take];congr 1;omega
def mupI{h:G}{i n:Int}{p:List G}{k:Int}(hn:2<=n)(hp:¬(p.length:Int)=0)(hk:k=(bN n.toNat:Nat)):(i<k->gQ h i n p=(bD (gQ h i k (List.drop (0:Int).toNat (List.take ((p.length:Int)-1).toNat p))).1 (hX (aa (aq p ((p.length:Int)-1).toNat) 0)),(gQ h i k (List.drop (0:Int).toNat (List.take ((p.length:Int)-1).toNat p))).2))/\(¬i<k->gQ h i n p=(bD (hX (aa (aq p ((p.length:Int)-1).toNat) 0)) (gQ h (i-k) (n-k) (List.drop (0:Int).toNat (List.take ((p.length:Int)-1).toNat p))).1,(gQ h (i-k) (n-k) (List.drop (0:Int).toNat (List.take ((p.length:Int)-1).toNat p))).2)):=by subst hk;rw[Vn (by omega),show((p.length:Int)-1).toNat=p.length-1 by omega];exact⟨λhi=>yj hn (by omega) hi,λhi=>yl hn (by omega) hi⟩
def XA{l:List G}(h:1<=l.length):((List.drop (0:Int).toNat (List.take ((l.length:Int)-1).toNat l)).length:Int)=(l.length:Int)-1:=by rw[Vn h,List.length_dropLast];omega
def up_ok{l:List G}(h:RowsOk l):RowsOk (List.drop (0:Int).toNat (List.take ((l.length:Int)-1).toNat l))/\(1<=l.length->HOk (hX (aa (aq l ((l.length:Int)-1).toNat) 0))):=⟨(h.take _).drop _,λh1=>h.at (by omega) (by omega)⟩
end
abbrev mO(a:Int)(b:List G):=List.take a.toNat b
abbrev BQ(a:Int)(b:List G):=(0:Int)<=0/\0<=a/\a<= ↑b.length
abbrev Vo(a:List G)(b:Nat):=Fm.ct (a.length<b/\a.length<=1000000/\RowsOk a) (λy=>hT y 300=aO a)
def kY:∀k,bj 28 (N6 k)
 |0=>QO λz h=>Nat.not_lt_zero _ h.1
 |k+1=>bB 5 17 (ai vR (ai yo (ai (kY k) (ai qQ eN)))) lN λz hA=>show Fm.den (let v0:=(↑(z.g 1).length:Int);let v1:=(mO v0 (z.g 1));let v2:=(iZ);(.two (v0=0) (.ct (0<=1000000) (λy0=>True) λy0=>(.ax (hG (eD [])=aO (z.g 1)))) (.two (v0=1) (.an (Ba v0) (.ax (hX (aQ (aq (z.g 1) v2))=aO (z.g 1)))) (SE v0 (bN v0.toNat) λy1=>(let v3:=(List.drop v2 (mO (y1.i 10) (z.g 1)));let v4:=(List.drop (y1.i 10).toNat v1);(.an (BQ (y1.i 10) (z.g 1)) (Vo v3 k λy2=>(.an (0<=y1.i 10/\y1.i 10<= ↑(z.g 1).length/\v0<=v0) (Vo v4 k λy3=>(uE (hT y2 300) (hT y3 300) λy4=>(.ax (hT y4 300=aO (z.g 1))))))))))))) by dsimp only [N6,hs] at hA;have:=@N8 (z.g 1);have:=@cut_len (z.g 1);have:=@yp (z.g 1);have:=@mM (((z.g 1).length:Nat):Int);have:=@lG (z.g 1);have:=@pF (z.g 1);have:=fj [];have:=mH [];have:=λk h=>@cD _ (@yp (z.g 1) k h).1;have:=λk h=>@cD _ (@yp (z.g 1) k h).2;exact gC
abbrev N9(a:List G):=Fm.ct (a.length<1000001/\a.length<=1000000/\RowsOk a) (λy=>hT y 300=aO a)
abbrev wq(a b:List G):=a.length=b.length+1/\True
def GM:∀k,bj 27 (Vj k)
 |0=>QO λz h=>Nat.not_lt_zero _ h.1
 |k+1=>bB 6 529 (ai yo (ai (GM k) (ai (kY 1000001) eN))) lN λz hA=>show Fm.den (let v1:=(↑(z.g 1).length:Int);let v0:=(mO v1 (z.g 1));let v2:=(iZ);(.two (v1<2) (.an (nW) (.at ([]=aR (z.i 3) (z.g 1)/\0<=(z.g 1).length))) (SE v1 (bN v1.toNat) λy0=>(let v3:=(List.drop v2 (mO (y0.i 10) (z.g 1)));let v4:=(List.drop (y0.i 10).toNat v0);let v5:=(BQ (y0.i 10) (z.g 1));let v6:=(0<=y0.i 10/\y0.i 10<= ↑(z.g 1).length/\v1<=v1);(.two (z.i 3<y0.i 10) (.an v5 (.ct (v3.length<k/\v3.length<=1000000/\RowsOk v3/\0<=z.i 3/\z.i 3<=1000000) (λy1=>y1.g 30=aR (z.i 3) v3/\(y1.g 30).length<=v3.length) λy1=>(.an v6 (N9 v4 λy2=>(let v7:=(y1.g 30++ [G.node [hT y2 300]]);(.an (ot (y1.g 30)) (.an (wq v7 (y1.g 30)) (.at (y1.g 30++ [G.node [hT y2 300]]=aR (z.i 3) (z.g 1)/\v7.length<=(z.g 1).length))))))))) (.an ((-9223372036854775808)<=z.i 3-y0.i 10/\z.i 3-y0.i 10<=9223372036854775807) (.an v6 (.ct (v4.length<k/\v4.length<=1000000/\RowsOk v4/\0<=z.i 3-y0.i 10/\z.i 3-y0.i 10<=1000000) (λy3=>y3.g 30=aR (z.i 3-y0.i 10) v4/\(y3.g 30).length<=v4.length) λy3=>(.an v5 (N9 v3 λy4=>(let v8:=(y3.g 30++ [G.node [hT y4 300]]);(.an (ot (y3.g 30)) (.an (wq v8 (y3.g 30)) (.at (y3.g 30++ [G.node [hT y4 300]]=aR (z.i 3) (z.g 1)/\v8.length<=(z.g 1).length))))))))))))))) by dsimp only [Vj] at hA;have:=@N8 (z.g 1);have:=@cut_len (z.g 1);have:=@yp (z.g 1);have:=@mM (((z.g 1).length:Nat):Int);have:=@Xz (z.i 3) (z.g 1);have:=@gi (z.i 3) (z.g 1);exact gC
abbrev yq(a:Int):=0<=a-1/\a-1<a
def N_:∀k,bj 75 (Sup k)
 |0=>QO λz h=>by have a:0<=z.i 3/\z.i 3<z.i 4:=h.2.1;have b:z.i 4<((0:Nat):Int):=h.2.2.1;omega
 |k+1=>bB 12 2762257 (ai yo (ai (N_ k) (ai qQ eN))) lN λz hA=>show Fm.den (let vxn:=Int.toNat 0;let v0:=(↑(z.g 1).length:Int);let v1:=(List.drop (vxn) (mO (v0-1) (z.g 1)));let v3:=((-9223372036854775808)<=v0-1/\v0-1<=9223372036854775807);let v4:=(hX (aQ (aL (z.g 1) (v0-1))));let v5:=((0:Int)<=0/\0<=v0-1/\v0-1<=v0);let v6:=(hT z 100);let v2:=(gQ v6 (z.i 3) (z.i 4) (z.g 1));(.two (z.i 4=1) (.ax (HOk v6/\hT z 100=v2.fst/\(v0=0↔v2.snd))) (.two (v0=0) (.ax (HOk hZ/\hZ=v2.fst/\(false=true↔v2.snd))) (.an v3 (.an (yq v0) (SE (z.i 4) (bN (z.i 4).toNat) λy0=>(let v7:=(gQ v6 (z.i 3-y0.i 10) (z.i 4-y0.i 10) v1);let v8:=(gQ v6 (z.i 3) (y0.i 10) v1);(.two (z.i 3<y0.i 10) (.an v3 (.an v5 (.ct (HOk v6/\(0<=z.i 3/\z.i 3<y0.i 10)/\y0.i 10 < ↑k/\y0.i 10<=1099511627776/\v1.length<=1000000/\RowsOk v1) (λy1=>HOk (hT y1 300)/\hT y1 300=v8.fst/\(y1.p 50↔v8.snd)) λy1=>(uE (hT y1 300) v4 λy2=>(.ax (HOk (hT y2 300)/\hT y2 300=v2.fst/\(y1.p 50↔v2.snd))))))) (.an ((-9223372036854775808)<=z.i 3-y0.i 10/\z.i 3-y0.i 10<=9223372036854775807) (.an ((-9223372036854775808)<=z.i 4-y0.i 10/\z.i 4-y0.i 10<=9223372036854775807) (.an v3 (.an v5 (.ct (HOk v6/\(0<=z.i 3-y0.i 10/\z.i 3-y0.i 10<z.i 4-y0.i 10)/\z.i 4-y0.i 10 < ↑k/\z.i 4-y0.i 10<=1099511627776/\v1.length<=1000000/\RowsOk v1) (λy3=>HOk (hT y3 300)/\hT y3 300=v7.fst/\(y3.p 50↔v7.snd)) λy3=>(uE v4 (hT y3 300) λy4=>(.ax (HOk (hT y4 300)/\hT y4 300=v2.fst/\(y3.p 50↔v2.snd))))))))))))))))) by
  dsimp only [Sup,hs] at hA;have:=@mupI (hT z 100) (z.i 3) (z.i 4) (z.g 1);have:=@lH (hT z 100) (z.i 3) (z.i 4) (z.g 1);have:=@yi (hT z 100) (z.i 3) (z.i 4) (z.g 1);have:=@mM (z.i 4);have:=@XA (z.g 1);have:=@up_ok (z.g 1);have:=fy;conv=>zeta
  repeat' with_reducible first|intro _|apply cd|apply ck|apply cg|apply cE|apply cr
  all_goals first|omega|grind [ao,ak,aj,aT,aU,aV,aW,aX,aY,aZ,a_,ba,aC,co]
noncomputable section
def Oa{es:List G}{i:Nat}(hi:i<es.length):(gJ es 0)[i]? =some (.node [aA (uk (aq es i))]):=by unfold gJ aq lvR;show((es.drop 0).map _)[i]? =_;rw[aaT,aaO,aag,aak hi];rfl
def jQ(es:List G):RowsOk (gJ es 0):=λr hr=>by unfold gJ at hr;obtain⟨e, -,rfl⟩:=List.mem_map.1 hr;show HOk (hX (aA _));rw[cI (cm _)];exact cm _
def CK(es:List G)(i:Int)(rows:List G):Prop:=kn i rows ((gJ es 0).take i.toNat)
def yr(es:List G):CK es 0 []:=by unfold CK;rw[show(0:Int).toNat=0 by rfl,abz];exact Xn
def Ob{es:List G}{i n':Int}{rows n8:List G}{h:G}(h0:0<=i)(hi:i<es.length)(hl:CK es i rows)(hh:h=aA (uk (aq es i.toNat)))(hn:n'=i+1)(ht:BN i rows h n' n8):CK es n' n8:=by
 subst hn;have e:(gJ es 0).take (i+1).toNat=(gJ es 0).take i.toNat++ [.node [h]]:=by rw[show(i+1).toNat=i.toNat+1 by omega,List.take_add_one,Oa (by omega),hh];rfl
 unfold CK;rw[e];exact GJ ht _ hl
def yt{es:List G}{i:Int}{rows:List G}(hl:CK es i rows):dG i rows:=N7 hl ((jQ es).take _)
def BS{es:List G}{n:Int}{rows:List G}{h:G}(hl:CK es n rows)(hn:n=es.length)(ht:iB n rows 0 n h):h=aO (gJ es 0):=by have e:=Xw ht _ hl;subst hn;rw[e];congr 1;have a:=jP es;show List.take (es.length:Int).toNat (List.drop 0 _)=_;rw[aaT,aar, ←a,aa9,aa9]
def BU(es:List G):(((gJ es 0).length:Nat):Int)=es.length:=by rw[jP]
def jY(ix tm tn:Int)(pv:G)(es:List G):G:=bD (ci (kw ix tm tn pv)) (dz (aO (gJ es 0)) (aH es.length))
def mP(ix tm tn:Int)(pv:G)(es:List G):HOk (jY ix tm tn pv es):=co _ _
def D1(ix tm tn:Int)(pv:G)(es:List G):jY ix tm tn pv es=bD (ci (kw ix tm tn pv)) (dz (aO (gJ es 0)) (aH es.length)):=rfl
def SNew:FSpec:=⟨[],[],λ_=>True,λ_=>.one (.c (.p 0)),λ_=>N3,λz y=>y.i 1=0/\y.g 2= [],none⟩
def jR:FSpec:=⟨[.ag (hs 100),.c (.i .i64 1)],[],λz=>HOk (hT z 100)/\0<=z.i 1/\z.i 1<=1000000,λ_=>.one (.ag (hs 300)),λ_=>[],λz y=>hT y 300=dz (hT z 100) (aH (z.i 1).toNat),none⟩
abbrev Vp:=xQ
abbrev BV:=jR
def bHb(p:Sy):List BSh:=[.cells 79 (mZ p),.cells 162 [.i .i64 1,.m 2],.sm 0 2,.cells 28 (hs 300)]
def BW(p:Sy):LSpec:=⟨[(1,.c (.p 0)),(2,.c (.p 3)),(5,.c (.p 1)),(20,.c (.pv 7 (p.g 24))),(21,.c (.pi .i64 (p.g 24).length)),(22,.c (.i .i64 9))],bHb p,λz=>jN (p.g 24)/\(0<=z.i 9/\z.i 9<=(p.g 24).length)/\z.i 1=z.i 9/\CK (p.g 24) (z.i 1) (z.g 2),λz=>((p.g 24).length-z.i 9).toNat,[⟨.exit 0,[(1,.c (.p 0)),(2,.c (.p 3)),(5,.c (.p 1))],bHb p⟩],λz y=>y.i 1=(p.g 24).length/\CK (p.g 24) (y.i 1) (y.g 2),none,[]⟩
def Oc:FSpec:=⟨[.ag bk],[],CJ,λ_=>.tu [.ag (hs 300),.c (.i .i64 50)],λ_=>[],λz y=>y.i 50=tz z/\(tz z=0->hT y 300=jY (z.i 21) (z.i 22) (z.i 23) (hT z 200) (z.g 24))/\(¬tz z=0->hT y 300=hZ),kX⟩
def GN:FSpec:=⟨[.ag bk],[],CJ,λ_=>.tu [.ag (hs 300),.c (.i .i64 50)],λ_=>[],λz y=>y.i 50=tz z/\(tz z=0->hT y 300=jY (z.i 21) (z.i 22) (z.i 23) (hT z 200) (z.g 24))/\(¬tz z=0->hT y 300=hZ),none⟩
attribute [irreducible] CK jY
end
def Vq:bj 39 SNew:=bB 1 0 eN lN λz hA=>show Fm.den ((.ax ((0:Int)=0/\M3))) by dsimp only [SNew,N3] at hA;exact gC
abbrev Vr(a:G)(b:List Nat):=Fm.ct (HOk a/\b.length<=900000) (λy=>hT y 300=dz a b)
def ws:bj 76 BV:=bB 1 0 (ai dm (ai M7 eN)) lN λz hA=>show Fm.den ((uj (z.i 1) (z.i 1%18446744073709551616) λy0=>(Vr (hT z 100) (y0.s 10) λy1=>(.ax (hT y1 300=dz (hT z 100) (nV (z.i 1))))))) by
 dsimp only [BV,jR,hs] at hA;have m1:0<=z.i 1->z.i 1<=1000000->(z.i 1%18446744073709551616).toNat=(z.i 1).toNat:=λa b=>by omega
 have:=@bM (z.i 1%18446744073709551616) (by omega);exact gC
abbrev XB(a:G)(b c d:Int):=HOk a/\b<9223372036854775808/\c<9223372036854775808/\d<9223372036854775808
abbrev Od(a:G)(b:Int)(c:List Nat):=Fm.ct (HOk a/\0<=b/\b<=1000000) (λy=>hT y 300=dz a c)
def Oe:bj 55 GN:=bB 3 1 (ai pE (ai BI (ai BJ (ai (kY 1000001) (ai ws (ai qQ eN)))))) lN λz hA=>show Fm.den (let v0:=(hT z 200);let v1:=(↑(z.g 24).length:Int);(Sk (z.g 24) v0 (z.i 21) (z.i 22) (z.i 23) λy0=>(.two (y0.i 50≠0) (.ax (y0.i 50=bw (z.i 21) (z.i 22) (z.i 23) v0 (z.g 24)/\(bw (z.i 21) (z.i 22) (z.i 23) v0 (z.g 24)=(0:Int)->hZ=jY (z.i 21) (z.i 22) (z.i 23) v0 (z.g 24))/\(¬bw (z.i 21) (z.i 22) (z.i 23) v0 (z.g 24)=(0:Int)->hZ=hZ))) (.ct (XB v0 (z.i 21) (z.i 22) (z.i 23)) (λy1=>hT y1 300=ci (kw (z.i 21) (z.i 22) (z.i 23) v0)) λy1=>(.ct (oM (z.g 24)) (λy2=>y2.g 30=gJ (z.g 24) 0) λy2=>(N9 (y2.g 30) λy3=>(Od (hT y3 300) v1 (nV v1) λy4=>(uE (hT y1 300) (hT y4 300) λy5=>(.ax ((0:Int)=bw (z.i 21) (z.i 22) (z.i 23) v0 (z.g 24)/\(bw (z.i 21) (z.i 22) (z.i 23) v0 (z.g 24)=(0:Int)->hT y5 300=jY (z.i 21) (z.i 22) (z.i 23) v0 (z.g 24))/\(¬bw (z.i 21) (z.i 22) (z.i 23) v0 (z.g 24)=(0:Int)->hT y5 300=hZ))))))))))) by
 dsimp only [GN,bk,hs,CJ,tz] at hA;have:=@jL (z.i 21) (z.i 22) (z.i 23) (hT z 200) (z.g 24);have:=@jM (z.i 21) (z.i 22) (z.i 23) (hT z 200) (z.g 24);have:=@gH (z.i 21) (z.i 22) (z.i 23) (hT z 200) (z.g 24);have:=@mJ (z.i 21) (z.i 22) (z.i 23) (hT z 200) (z.g 24);have:=@fm (z.i 21) (z.i 22) (z.i 23) (hT z 200) (z.g 24);have:=yr (z.g 24);have:=@yt (z.g 24);have:=@BS (z.g 24);have:=D1 (z.i 21) (z.i 22) (z.i 23) (hT z 200) (z.g 24);have:=cD _ (jQ (z.g 24));have:=fy;have:=jQ (z.g 24);have:=BU (z.g 24);conv=>zeta
 repeat' with_reducible first|intro _|apply cd|apply ck|apply cg|apply cE|apply cr
 all_goals first|omega|grind [ao,ak,aj,aT,aU,aV,aW,aX,aY,aZ,a_,ba,aC,fX,i_,yd]
abbrev Of(a:G)(b:Prop)(c:Int)(d:List G):=Fm.ct (HOk a/\b/\dG c d) (λy=>y.i 1=c+1/\BN c d a (y.i 1) (y.g 2))
def JM:bH 134 0 BW:=bG 4 9 (ai qj (ai Vk eN)) lN λp z hA=>show Fm.den (let v0:=(aL (p.g 24) (z.i 9));let v1:=(↑(p.g 24).length:Int);let v2:=(hX (aa v0 11));let v3:=(gI (aa v0 13));let v4:=(gI (aa v0 14));let v5:=(gS (aa v0 1));let v6:=(gI (aa v0 2));let v7:=(gI (aa v0 3));let v8:=(gI (aa v0 4));let v9:=(gL (aa v0 10));let v10:=(gI (aa v0 6));let v11:=(gS (aa v0 8));let d7:=(gL (aa v0 9));let i9:=(gI (aa v0 0));(.two (bO (z.i 9) (p.g 24)) (.an (bS (z.i 9) (p.g 24)) (.ct (mX v5 v6 v7 v8 v10 v11 d7 v9 v2 v3 v4) (λy0=>y0.i 50=cR i9 v5 v6 v7 v8 (gI (aa v0 5)) v10 (gI (aa v0 7)) v11 d7 v9 v2 (gI (aa v0 12)=1) v3 v4/\(cR i9 v5 v6 v7 v8 (gI (aa v0 5)) v10 (gI (aa v0 7)) v11 d7 v9 v2 (gI (aa v0 12)=(1:Int)) v3 v4=0->hT y0 300=aA (cu i9 v5 v6 v7 v8 v2 v3 v4))/\(¬cR i9 v5 v6 v7 v8 (gI (aa v0 5)) v10 (gI (aa v0 7)) v11 d7 v9 v2 (gI (aa v0 12)=(1:Int)) v3 v4=0->hT y0 300=hZ)) λy0=>(Of (hT y0 300) (0<=z.i 1/\z.i 1<1000000) (z.i 1) (z.g 2) λy1=>(.an ((-9223372036854775808)<=z.i 9+1/\z.i 9+1<=9223372036854775807) (.an (qy (p.g 24) (kg p 200) (DQ (p.i 23) (p.i 22) (p.i 21) v1 (p.g 24))) (.at (((oM (p.g 24))/\(dF (z.i 9) (p.g 24))/\y1.i 1=z.i 9+1/\CK (p.g 24) (y1.i 1) (y1.g 2))/\(v1-(z.i 9+1)).toNat<(v1-z.i 9).toNat/\∀(y:Sy),y.i 1= ↑(p.g 24).length/\CK (p.g 24) (y.i 1) (y.g 2)->y.i 1= ↑(p.g 24).length/\CK (p.g 24) (y.i 1) (y.g 2)))))))) (.an (qy (p.g 24) (kg p 200) (ja (p.i 23) (p.i 22) (p.i 21))) (.at (z.i 1= ↑(p.g 24).length/\CK (p.g 24) (z.i 1) (z.g 2)))))) by
 dsimp only [BW,bHb,mZ,uC,hs,jN] at hA;have a6:=BE p z;have a7:=JF p z;dsimp only [wh,me] at a6 a7;have v1:=λn r h a b c d e f=>@Ob (p.g 24) (z.i 9) n (z.g 2) r h a b c d e f;have:=@yt (p.g 24) (z.i 1) (z.g 2);dsimp only [uk] at v1;conv=>zeta
 repeat' with_reducible first|intro _|apply cd|apply ck|apply cg|apply cE|apply cr
 all_goals first|omega|grind [ao,ak,aj,aT,aU,aV,aW,aX,aY,aZ,a_,ba,aC,cm]
def BX:bj 195 jR:=bB 1 0 (ai gf (ai M8 eN)) lN λz hA=>show Fm.den ((NE (z.i 1) (Max.max 0 (z.i 1)%18446744073709551616) λy0=>(Vr (hT z 100) (y0.s 10) λy1=>(.ax (hT y1 300=dz (hT z 100) (nV (z.i 1))))))) by
 dsimp only [jR,hs] at hA;have m1:0<=z.i 1->z.i 1<=1000000->(max 0 (z.i 1)%18446744073709551616).toNat=(z.i 1).toNat:=λa b=>by omega
 have:=@bM (max 0 (z.i 1)%18446744073709551616) (by omega);exact gC
def XC:bj 193 Vp:=bB 1 0 (ai xS eN) lN λz hA=>show Fm.den ((uE (hT z 100) (hT z 200) λy0=>(.ax (hT y0 300=bD (hT z 100) (hT z 200))))) by dsimp only [Vp,xQ,hs] at hA;exact gC
abbrev Vs:=Fm.ct (True) (λy=>y.i 1=0/\y.g 2= [])
def SF:bj 134 Oc:=bB 3 1 (ai tB (ai Vq (ai Xy (ai Sl (ai BX (ai XC eN)))))) (aG (ptm:=[(0,.ag bk)]) JM lN) λz hA=>show Fm.den (let v0:=(↑(z.g 24).length:Int);let v1:=(hT z 200);(Sk (z.g 24) v1 (z.i 21) (z.i 22) (z.i 23) λy0=>(.two (y0.i 50≠0) (.ax (y0.i 50=bw (z.i 21) (z.i 22) (z.i 23) v1 (z.g 24)/\(bw (z.i 21) (z.i 22) (z.i 23) v1 (z.g 24)=(0:Int)->hZ=jY (z.i 21) (z.i 22) (z.i 23) v1 (z.g 24))/\(¬bw (z.i 21) (z.i 22) (z.i 23) v1 (z.g 24)=(0:Int)->hZ=hZ))) (Vs λy1=>(.cl ((qy (z.g 24) (kg z 200) (DQ (z.i 23) (z.i 22) (z.i 21) v0 (z.g 24)))) ((oM (z.g 24))/\(fL v0)/\y1.i 1=0/\CK (z.g 24) (y1.i 1) (y1.g 2)) (λy2=>y2.i 1= ↑(z.g 24).length/\CK (z.g 24) (y2.i 1) (y2.g 2)) λy2=>(.ct ((0<=y2.i 1/\y2.i 1<=1000000)/\dG (y2.i 1) (y2.g 2)) (λy3=>y3.i 1=y2.i 1/\y3.g 2=y2.g 2/\(v0<0∨y2.i 1 < ↑(z.g 24).length->y3.i 50=1/\hT y3 300=hZ)/\(0<=v0/\v0<=y2.i 1->y3.i 50=0/\iB (y2.i 1) (y2.g 2) 0 v0 (hT y3 300))) λy3=>(.ct (XB v1 (z.i 21) (z.i 22) (z.i 23)) (λy4=>hT y4 300=ci (kw (z.i 21) (z.i 22) (z.i 23) v1)) λy4=>(Od (hT y3 300) v0 (nV v0) λy5=>(uE (hT y4 300) (hT y5 300) λy6=>(.ax ((0:Int)=bw (z.i 21) (z.i 22) (z.i 23) v1 (z.g 24)/\(bw (z.i 21) (z.i 22) (z.i 23) v1 (z.g 24)=(0:Int)->hT y6 300=jY (z.i 21) (z.i 22) (z.i 23) v1 (z.g 24))/\(¬bw (z.i 21) (z.i 22) (z.i 23) v1 (z.g 24)=(0:Int)->hT y6 300=hZ)))))))))))) by
 dsimp only [Oc,bk,hs,CJ,tz,kX] at hA;have:=@jL (z.i 21) (z.i 22) (z.i 23) (hT z 200) (z.g 24);have:=@jM (z.i 21) (z.i 22) (z.i 23) (hT z 200) (z.g 24);have:=@gH (z.i 21) (z.i 22) (z.i 23) (hT z 200) (z.g 24);have:=@mJ (z.i 21) (z.i 22) (z.i 23) (hT z 200) (z.g 24);have:=@fm (z.i 21) (z.i 22) (z.i 23) (hT z 200) (z.g 24);have:=yr (z.g 24);have:=@yt (z.g 24);have:=@BS (z.g 24);have:=D1 (z.i 21) (z.i 22) (z.i 23) (hT z 200) (z.g 24);have:=cD _ (jQ (z.g 24));have:=fy;have:=jQ (z.g 24);have:=BU (z.g 24);conv=>zeta
 repeat' with_reducible first|intro _|apply cd|apply ck|apply cg|apply cE|apply cr
 all_goals first|omega|grind [ao,ak,aj,aT,aU,aV,aW,aX,aY,aZ,a_,ba,aC,fX,i_,yd]
noncomputable section
def cT:List Nat:=[0,498536548,997073096,651767980,1994146192,1802195444,1303535960,1342533948,3988292384,4027552580,3604390888,3412177804,2607071920,2262029012,2685067896,3183342108]
def fN(c:Nat):Nat:=if c%2=1 then(c/2) ^^^ 3988292384 else c/2
def fI:Nat->Nat->Nat
 |0,c=>c
 |n+1,c=>fI n (fN c)
def yu(q:Nat):fN (2 * q)=q:=by unfold fN;rw[if_neg (by omega)];omega
def XD(a b:Nat):fN (a ^^^ b)=fN a ^^^ fN b:=by
 have hd:(a ^^^ b)/2=(a/2) ^^^ (b/2):=Nat.xor_div_two;have hm:(a ^^^ b)%2=(a+b)%2:=by have:=Nat.xor_mod_two_pow (a:=a) (b:=b) (n:=1);rw[Nat.pow_one] at this;rw[this];rcases aby a with ha|ha <;> rcases aby b with hb|hb <;> rw[ha,hb] <;> simp <;> omega
 unfold fN;rw[hd,hm];generalize a/2=x;generalize b/2=y;generalize 3988292384=p;rcases aby a with ha|ha <;> rcases aby b with hb|hb
 ·rw[if_neg (by omega),if_neg (by omega),if_neg (by omega)]
 ·rw[if_pos (by omega),if_neg (by omega),if_pos (by omega),Nat.xor_assoc]
 ·rw[if_pos (by omega),if_pos (by omega),if_neg (by omega),Nat.xor_assoc,Nat.xor_assoc,Nat.xor_comm y p]
 ·rw[if_neg (by omega),if_pos (by omega),if_pos (by omega)];rw[show(x ^^^ p) ^^^ (y ^^^ p)=(x ^^^ y) ^^^ (p ^^^ p) by ac_rfl,Nat.xor_self,Nat.xor_zero]
def XE(n a b:Nat):fI n (a ^^^ b)=fI n a ^^^ fI n b:=by
 induction n generalizing a b with
 |zero=>rfl
 |succ n ih=>show fI n (fN _)=fI n (fN _) ^^^ fI n (fN _);rw[XD,ih]
def SG(c:Nat):c=(16 * (c/16)) ^^^ (c%16):=by
 refine Nat.eq_of_testBit_eq λi=>?_;rw[Nat.testBit_xor,show(16:Nat)=2 ^ 4 by rfl,Nat.testBit_two_pow_mul,Nat.testBit_div_two_pow,Nat.testBit_mod_two_pow];by_cases h:4<=i
 ·rw[show i-4+4=i by omega];simp [h,show ¬i<4 by omega]
 ·simp [h,show i<4 by omega]
def fI4(c:Nat):fI 4 c=(c/16) ^^^ cT.getD (c%16) 0:=by
 have h1:∀q,fI 4 (16 * q)=q:=λq=>by show fN (fN (fN (fN (16 * q))))=q;rw[show 16 * q=2 * (2 * (2 * (2 * q))) by omega,yu,yu,yu,yu]
 have h2:∀r:Fin 16,fI 4 r.1=cT.getD r.1 0:=by decide
 conv=>lhs;rw[SG c]
 rw[XE,h1,h2 ⟨c%16,by omega⟩]
def CG:List G:=[.node [.int 0],.node [.int 498536548],.node [.int 997073096],.node [.int 651767980],.node [.int 1994146192],.node [.int 1802195444],.node [.int 1303535960],.node [.int 1342533948],.node [.int 3988292384],.node [.int 4027552580],.node [.int 3604390888],.node [.int 3412177804],.node [.int 2607071920],.node [.int 2262029012],.node [.int 2685067896],.node [.int 3183342108]]
def XF:CG.length=16:=rfl
def XG(c:Int):Int:=cY (c/16) (uy CG (iX c 15))
def QQ(c:Int):Int:=if iX c 1=1 then cY (c/2) 3988292384 else c/2
def QR:Nat->Int->Int
 |0,c=>c
 |n+1,c=>QR n (QQ c)
def crP(c b:Int):Int:=XG (XG (cY c (b%4294967296)))
def crL(c:Int):List Nat->Int
 | []=>c
 |b::s=>crL (crP c b) s
def GO(n:Nat)(h:n<4294967296):aE FH (n:Int)=n:=by show((n:Int)%(4294967296:Nat)).toNat=n;omega
def Og(n:Nat)(h:n<4294967296):IntKind.u32.wrap (.ofNat n)=(n:Int):=by show((n:Nat):Int)%4294967296=_;omega
def BY(a b:Nat)(ha:a<4294967296)(hb:b<4294967296):cY a b=((a ^^^ b:Nat):Int)/\a ^^^ b<4294967296:=by have h:a ^^^ b<2 ^ 32:=Nat.xor_lt_two_pow ha hb;refine⟨?_,h⟩;unfold cY;rw[GO a ha,GO b hb];exact Og _ h
def tF(a:Nat)(k:Nat)(ha:a<4294967296)(hk:k<=32):iX a ((2 ^ k-1:Nat):Int)=((a%2 ^ k:Nat):Int):=by unfold iX;have hp:2 ^ k<=2 ^ 32:=abx (by decide) hk;have h0:=aaP k;rw[GO a ha,GO _ (by omega)];show IntKind.u32.wrap (.ofNat (a &&& (2 ^ k-1)))=_;rw[abT];exact Og _ (Nat.lt_of_le_of_lt (Nat.mod_le _ _) ha)
def SH(a:Nat)(ha:a<4294967296):QQ a=(fN a:Nat)/\fN a<4294967296:=by
 have h1:iX a 1=((a%2:Nat):Int):=tF a 1 ha (by decide);unfold QQ fN;rw[h1,show((a:Int)/2)=((a/2:Nat):Int) by omega];obtain⟨e1,e2⟩:=BY (a/2) 3988292384 (by omega) (by omega);by_cases h:a%2=1
 ·rw[if_pos (by omega),if_pos h];exact⟨e1,e2⟩
 ·rw[if_neg (by omega),if_neg h];exact⟨rfl,by omega⟩
def GP(n a:Nat)(ha:a<4294967296):QR n a=(fI n a:Nat)/\fI n a<4294967296:=by
 induction n generalizing a with
 |zero=>exact⟨rfl,ha⟩
 |succ n ih=>obtain⟨e1,e2⟩:=SH a ha;show QR n (QQ a)=_/\_;rw[e1];exact ih _ e2
def CG_at(r:Nat)(h:r<16):uy CG r=(cT.getD r 0:Nat):=by
 have:∀i:Fin 16,uy CG i.1=(cT.getD i.1 0:Nat):=by decide
 exact this ⟨r,h⟩
def cT_lt(r:Nat)(h:r<16):cT.getD r 0<4294967296:=by
 have:∀i:Fin 16,cT.getD i.1 0<4294967296:=by decide
 exact this ⟨r,h⟩
def yv(a:Nat)(ha:a<4294967296):XG a=(fI 4 a:Nat)/\fI 4 a<4294967296:=by have h1:iX a 15=((a%16:Nat):Int):=tF a 4 ha (by decide);refine⟨?_,(GP 4 a ha).2⟩;unfold XG;rw[h1,CG_at _ (by omega),fI4,show((a:Int)/16)=((a/16:Nat):Int) by omega];exact(BY _ _ (by omega) (cT_lt _ (by omega))).1
def BZ(a b:Int):∃n:Nat,cY a b=n/\n<4294967296:=by
 have h:0<=cY a b/\cY a b<4294967296:=by unfold cY;generalize Nat.xor _ _=n;show 0<=((n:Nat):Int)%4294967296/\((n:Nat):Int)%4294967296<4294967296;omega
 exact⟨(cY a b).toNat,by omega,by omega⟩
def B0(a:Int)(h0:0<=a)(h:a<4294967296):0<=iX a 15/\iX a 15<16:=by
 obtain⟨n,rfl⟩:∃n:Nat,a=n:=⟨a.toNat,by omega⟩
 have:=tF n 4 (by omega) (by decide);rw[show((2 ^ 4-1:Nat):Int)=15 by rfl] at this;omega
def GQ(a b:Int):0<=cY a b/\cY a b<4294967296:=by obtain⟨n,e,h⟩:=BZ a b;omega
def crN8(c b:Int):QR 8 (cY c (b%4294967296))=crP c b:=by unfold crP;obtain⟨n,e,h⟩:=BZ c (b%4294967296);rw[e,(GP 8 n h).1,(yv n h).1,(yv _ (yv n h).2).1];rfl
def Oh(i c:Int)(h:i<8):QR (8-i).toNat c=QR (8-(i+1)).toNat (QQ c):=by rw[show(8-i).toNat=(8-(i+1)).toNat+1 by omega];rfl
def SJ(i c:Int)(h:8<=i):QR (8-i).toNat c=c:=by rw[show(8-i).toNat=0 by omega];rfl
def XH(c:Int):(iX c 1=1->QQ c=cY (c/2) 3988292384)/\(¬iX c 1=1->QQ c=c/2):=⟨λh=>by unfold QQ;rw[if_pos h],λh=>by unfold QQ;rw[if_neg h]⟩
def Kr(i c:Int):Int:=QR (8-i).toNat c
def Oi(i c:Int)(h:i<8):Kr i c=Kr (i+1) (QQ c):=Oh i c h
def SK(i c:Int)(h:8<=i):Kr i c=c:=SJ i c h
theorem crM_0(c:Int):Kr 0 c=QR 8 c:=rfl
def u32s:¬IntKind.u32.signed=true:=λh=>by cases h
def wt(s:List Nat)(i c:Int):Int:=crL c (s.drop i.toNat)
def B1(s:List Nat)(i c:Int)(h0:0<=i)(h:i<s.length):wt s i c=wt s (i+1) (XG (XG (cY c (kT s i%4294967296)))):=by
 unfold wt;have hi:i.toNat<s.length:=by omega
 rw[aaX hi,show(i+1).toNat=i.toNat+1 by omega];show crL (crP c _) _=_;unfold crP kT;rw[aag,aak hi];rfl
def GR(s:List Nat)(i c:Int)(h:(s.length:Int)<=i):wt s i c=c:=by unfold wt;rw[aaH (by omega)];rfl
def JN(s:List Nat)(i c:Int)(h0:0<=i)(h:i<s.length):wt s i c=wt s (i+1) (QR 8 (cY c (kT s i%4294967296))):=by rw[B1 s i c h0 h,crN8];rfl
def D2(s:List Nat):Int:=A7 (wt s 0 4294967295)
def Oj(s:List Nat):D2 s=A7 (wt s 0 4294967295):=rfl
def XI:List BSh:=[.arr 9 301 2]
def ugB:List BSh:=[.growb 5 20]
def GS(p:Sy):LSpec:=⟨[(3,.c (.p 0)),(4,.c (.i .u32 5)),(8,.c (.vb 20)),(9,.c (.i .i64 7)),(10,.c (.i .i64 6))],XI,λz=>z.g 2=CG/\z.i 7=(z.s 20).length/\0<=z.i 6/\(z.s 20).length<=1000000000,λz=>(z.i 7-z.i 6).toNat,[⟨.exit 0,[(3,.c (.p 0)),(4,.c (.i .u32 5))],XI⟩],λz y=>y.i 5=wt (z.s 20) (z.i 6) (z.i 5),none,[]⟩
def GT:FSpec:=⟨[.c (.vb 20)],[],λz=>(z.s 20).length<=1000000000,λ_=>.one (.c (.i .u32 10)),λ_=>[],λz y=>y.i 10=D2 (z.s 20)/\0<=y.i 10/\y.i 10<4294967296,none⟩
def GU(p:Sy):LSpec:=⟨[(0,.c (.vb 20)),(3,.c (.i .u32 3)),(4,.c (.i .i64 4)),(5,.c (.i .i64 5))],[],λz=>0<=z.i 5/\z.i 5<=8,λz=>(8-z.i 5).toNat,[⟨.exit 2,[(0,.c (.vb 20)),(3,.c (.i .u32 3)),(4,.c (.i .i64 4))],[]⟩],λz y=>y.s 20=z.s 20/\y.i 4=z.i 4/\y.i 3=Kr (z.i 5) (z.i 3),none,[]⟩
def GV(p:Sy):LSpec:=⟨[(0,.c (.vb 20)),(3,.c (.i .u32 3)),(4,.c (.i .i64 4))],[],λz=>(z.s 20).length<=1000000000/\0<=z.i 4/\z.i 4<=(z.s 20).length,λz=>((z.s 20).length-z.i 4).toNat,[⟨.exit 0,[(0,.c (.vb 20)),(3,.c (.i .u32 3))],[]⟩],λz y=>y.s 20=z.s 20/\y.i 3=wt (z.s 20) (z.i 4) (z.i 3),none,[]⟩
abbrev Vt:=GT
def b4(c:Int):List Nat:=[(c/16777216%256).toNat,(c/65536%256).toNat,(c/256%256).toNat,(c%256).toNat]
def rf:FSpec:=⟨[.c (.i .u32 1)],[],λz=>0<=z.i 1,λ_=>.one (.c (.gb 0 20)),λ_=>ugB,λz y=>y.s 20=b4 (z.i 1),none⟩
abbrev GW:=rf
def frH(n:Int):List Nat:=b4 n++b4 (D2 (b4 n))
def zB(s:List Nat):List Nat:=frH s.length++(s++b4 (D2 (frH s.length++s)))
def yw(s:List Nat):0<=D2 s/\D2 s<4294967296:=by unfold D2 A7;generalize Nat.xor _ _=n;show 0<=((n:Nat):Int)%4294967296/\((n:Nat):Int)%4294967296<4294967296;omega
def D3(n:Nat)(h:n<18446744073709551616):aE (am .u64) (n:Int)=n:=by have e:aE (am .u64) (n:Int)=((n:Int)%((18446744073709551616:Nat):Int)).toNat:=rfl;rw[e];omega
def GX(n:Nat)(h:n<18446744073709551616):IntKind.u64.wrap (.ofNat n)=(n:Int):=by have e:IntKind.u64.wrap (.ofNat n)=((n:Nat):Int)%18446744073709551616:=rfl;rw[e];omega
def SL(a b:Nat)(h:b<4294967296):Nat.lor (4294967296 * a) b=4294967296 * a+b:=by have:=Nat.two_pow_add_eq_or_of_lt (i:=32) (b:=b) h a;rw[show(2:Nat) ^ 32=4294967296 by decide] at this;exact this.symm
def or64{x c:Int}(h0:0<=x)(h:x<4294967296)(c0:0<=c)(hc:c<4294967296):IntKind.u64.wrap (.ofNat (Nat.lor (aE (am .u64) (x%18446744073709551616 * 4294967296%18446744073709551616)) (aE (am .u64) (c%18446744073709551616))))=x * 4294967296+c:=by
 obtain⟨a,rfl⟩:∃n:Nat,x=n:=⟨x.toNat,by omega⟩
 obtain⟨b,rfl⟩:∃n:Nat,c=n:=⟨c.toNat,by omega⟩
 have e1:(a:Int)%18446744073709551616 * 4294967296%18446744073709551616=((4294967296 * a:Nat):Int):=by omega
 have e2:(b:Int)%18446744073709551616=((b:Nat):Int):=by omega
 rw[e1,e2,D3 _ (by omega),D3 _ (by omega),SL _ _ (by omega),GX _ (by omega)];omega
def XJ{n c:Int}(a:0<=n)(b:n<4294967296)(h0:0<=c)(h1:c<4294967296):(n * 4294967296+c)/4294967296%4294967296=n/\(n * 4294967296+c)%4294967296=c/\0<=n * 4294967296+c/\n * 4294967296+c<18446744073709551616:=by omega
theorem tG(c:Int):(b4 c).length=4:=rfl
def SM(n:Int):(frH n).length=8:=rfl
theorem dI(s:List Nat):(zB s).length=s.length+12:=by unfold zB;rw[aai,aai,SM,tG];omega
def GY:FSpec:=⟨[.c (.i .u32 1)],[],λz=>0<=z.i 1/\z.i 1<4294967296,λ_=>.one (.c (.i .u64 10)),λ_=>[],λz y=>y.i 10/4294967296%4294967296=z.i 1/\y.i 10%4294967296=D2 (b4 (z.i 1))/\0<=y.i 10/\y.i 10<18446744073709551616,none⟩
def SBig:FSpec:=⟨[.c (.i .u64 1)],[],λz=>0<=z.i 1/\z.i 1<18446744073709551616,λ_=>.one (.c (.gb 0 20)),λ_=>ugB,λz y=>y.s 20=b4 (z.i 1/4294967296%4294967296)++b4 (z.i 1%4294967296),none⟩
def jd:FSpec:=⟨[.c (.vb 1)],[],λz=>(z.s 1).length<=100000000,λ_=>.tu [.c (.vb 10),.c (.i .i64 50)],λ_=>[],λz y=>((z.s 1).length<=524288->y.i 50=0/\y.s 10=zB (z.s 1))/\(524288<(z.s 1).length->y.i 50=5/\y.s 10= [])/\(y.s 10).length<=524300,none⟩
abbrev wv:=jd
attribute [irreducible] wt D2 Kr
end
abbrev Vu(a:Int):=0<=a/16777216%256/\0<=a/65536%256/\0<=a/256%256/\0<=a%256/\True
def Ol:bj 180 GW:=bB 1 0 eN lN λz hA=>show Fm.den ((.an (Vu (z.i 1)) (.an (4=4) (.an (4=4/\True) (.at ([(z.i 1/16777216%256).toNat,(z.i 1/65536%256).toNat,(z.i 1/256%256).toNat,(z.i 1%256).toNat]=b4 (z.i 1))))))) by
 dsimp only [GW,rf,ugB] at hA;repeat' with_reducible first|intro _|apply cd|apply ck|apply cg|apply cE|apply cr
 all_goals first|omega|grind [ao,ak,aj,b4]
def Om:bH 167 2 GU:=bG 7 549 eN lN λp z hA=>show Fm.den (let v0:=((-9223372036854775808)<=z.i 5+1/\z.i 5+1<=9223372036854775807);let v1:=(b_);let v2:=(0<=z.i 5+1/\z.i 5+1<=8);let v3:=(z.i 5+1);(.two (z.i 5<8) (.two (IntKind.u32.wrap (Int.ofNat ((aE v1 (z.i 3)).land (aE v1 1)))=1) (.an v0 (.ax (v2/\((8:Int)-v3).toNat<(8-z.i 5).toNat/\∀(y:Sy),y.s 20=z.s 20/\y.i 4=z.i 4/\y.i 3=Kr v3 (eO (Int.ofNat ((aE v1 (z.i 3/2)).xor (aE v1 3988292384))))->y.s 20=z.s 20/\y.i 4=z.i 4/\y.i 3=Kr (z.i 5) (z.i 3)))) (.an v0 (.ax (v2/\((8:Int)-v3).toNat<(8-z.i 5).toNat/\∀(y:Sy),y.s 20=z.s 20/\y.i 4=z.i 4/\y.i 3=Kr v3 (z.i 3/2)->y.s 20=z.s 20/\y.i 4=z.i 4/\y.i 3=Kr (z.i 5) (z.i 3))))) (.ax (z.s 20=z.s 20/\z.i 4=z.i 4/\z.i 3=Kr (z.i 5) (z.i 3))))) by dsimp only [GU] at hA;have:=Oi (z.i 5) (z.i 3);have:=SK (z.i 5) (z.i 3);have e3:=XH (z.i 3);dsimp only [cY,iX,FH] at e3;exact kf
def On:bH 167 0 GV:=bG 4 9 eN (aG (ptm:=[]) Om lN) λp z hA=>show Fm.den ((.two (z.i 4 < ↑(z.s 20).length) (.an (0<=z.i 4/\z.i 4 < ↑(z.s 20).length) (.ct ((0:Int)<=0/\(0:Int)<=8) (λy0=>y0.s 20=z.s 20/\y0.i 4=z.i 4/\y0.i 3=Kr 0 (eO (Int.ofNat ((aE (b_) (z.i 3)).xor (aE (b_) ((↑((z.s 20).getD (z.i 4).toNat 0):Int)%4294967296)))))) λy0=>(.an ((-9223372036854775808)<=y0.i 4+1/\y0.i 4+1<=9223372036854775807) (.ax (((y0.s 20).length<=1000000000/\0<=y0.i 4+1/\y0.i 4+1<= ↑(y0.s 20).length)/\((↑(y0.s 20).length:Int)-(y0.i 4+1)).toNat<((↑(z.s 20).length:Int)-z.i 4).toNat/\∀(y:Sy),y.s 20=y0.s 20/\y.i 3=wt (y0.s 20) (y0.i 4+1) (y0.i 3)->y.s 20=z.s 20/\y.i 3=wt (z.s 20) (z.i 4) (z.i 3)))))) (.ax (z.s 20=z.s 20/\z.i 3=wt (z.s 20) (z.i 4) (z.i 3))))) by
 dsimp only [GV] at hA;have e1:=@JN (z.s 20) (z.i 4) (z.i 3);have:=@GR (z.s 20) (z.i 4) (z.i 3);dsimp only [cY,kT,FH] at e1;repeat' with_reducible first|intro _|apply cd|apply ck|apply cg|apply cE|apply cr
 all_goals first|omega|grind [ao,ak,aj,crM_0]
abbrev Vv(a:Int)(b:List Nat):=IntKind.u32.wrap a=D2 b/\(0:Int)<=IntKind.u32.wrap a/\IntKind.u32.wrap a<4294967296
def XL:bj 167 Vt:=bB 1 0 eN (aG (ptm:=[]) On lN) λz hA=>show Fm.den (let v1:=(b_);let v0:=(aE v1 (RO (-1)));(.ct ((z.s 20).length<=1000000000/\(0:Int)<=0/\0<=(↑(z.s 20).length:Int)) (λy0=>y0.s 20=z.s 20/\y0.i 3=wt (z.s 20) 0 4294967295) λy0=>(let v2:=(Int.ofNat (v0.xor (aE v1 (y0.i 3))));(.ax (Vv v2 (z.s 20)))))) by dsimp only [Vt,GT] at hA;have:=u32s;have e1:=Oj (z.s 20);dsimp only [A7,FH] at e1;have:=yw (z.s 20);exact kf
def tH:bj 190 rf:=bB 1 0 eN lN λz hA=>show Fm.den ((.an (Vu (z.i 1)) (.an (4=4) (.an (4=4/\True) (.at ([(z.i 1/16777216%256).toNat,(z.i 1/65536%256).toNat,(z.i 1/256%256).toNat,(z.i 1%256).toNat]=b4 (z.i 1))))))) by
 dsimp only [rf,ugB] at hA;repeat' with_reducible first|intro _|apply cd|apply ck|apply cg|apply cE|apply cr
 all_goals first|omega|grind [ao,ak,aj,b4]
def Oo:bH 161 0 GS:=bG 4 9 eN lN λp z hA=>show Fm.den (let v1:=(Int.ofNat ((aE (b_) (eO (Int.ofNat ((aE (b_) (z.i 5)).xor (aE (b_) ((↑((z.s 20).getD (z.i 6).toNat 0):Int)%4294967296)))))).land (aE (b_) 15)));let v0:=(Int.ofNat ((aE (b_) (IntKind.u32.wrap (Int.ofNat ((aE (b_) (z.i 5)).xor (aE (b_) ((↑((z.s 20).getD (z.i 6).toNat 0):Int)%4294967296))))/16)).xor (aE (b_) (gI (aQ (aL (z.g 2) (eO v1)))))));let v2:=(Int.ofNat ((aE (b_) (eO v0)).land (aE (b_) 15)));let v3:=(sU (z.g 2));(.two (z.i 6<z.i 7) (.an (0<=z.i 6/\z.i 6 < ↑(z.s 20).length) (.an (0<=IntKind.u32.wrap v1/\IntKind.u32.wrap v1<16) (.an (mb (z.g 2)) (.an (eB (eO v1) (z.g 2)) (.an (0<=IntKind.u32.wrap v2/\IntKind.u32.wrap v2<16) (.an (mb (z.g 2)) (.an (eB (eO v2) (z.g 2)) (.an ((-9223372036854775808)<=z.i 6+1/\z.i 6+1<=9223372036854775807) (.an v3 (.at ((z.g 2=CG/\z.i 7= ↑(z.s 20).length/\0<=z.i 6+1/\(z.s 20).length<=1000000000)/\(z.i 7-(z.i 6+1)).toNat<(z.i 7-z.i 6).toNat/\∀(y:Sy),y.i 5=wt (z.s 20) (z.i 6+1) (sR (Int.ofNat ((aE (b_) (IntKind.u32.wrap v0/16)).xor (aE (b_) (gI (aQ (aL (z.g 2) (eO v2))))))))->y.i 5=wt (z.s 20) (z.i 6) (z.i 5)))))))))))) (.an v3 (.at (z.i 5=wt (z.s 20) (z.i 6) (z.i 5)))))) by
 dsimp only [GS,XI] at hA;have e1:=@B1 (z.s 20) (z.i 6) (z.i 5);have:=@GR (z.s 20) (z.i 6) (z.i 5);have:=XF;have e4:=GQ (z.i 5) (kT (z.s 20) (z.i 6)%4294967296);have e5:=@B0 (cY (z.i 5) (kT (z.s 20) (z.i 6)%4294967296)) e4.1 e4.2;have e6:=(λe=>GQ (cY (z.i 5) e/16) (uy CG (iX (cY (z.i 5) e) 15))) (kT (z.s 20) (z.i 6)%4294967296)
 have e7:=@B0 _ e6.1 e6.2;dsimp only [XG,cY,iX,kT,uy,FH] at e1 e4 e5 e6 e7;exact kf
def Oq:bj 161 GT:=bB 1 0 eN (aG (ptm:=[]) Oo lN) λz hA=>show Fm.den (let v1:=(b_);let v0:=(aE v1 (RO (-1)));let v2:=(↑(z.s 20).length:Int);(.an (16=16/bm (cU 9)) (.cl ((0<16/\True)) ([G.node [G.int 0],G.node [G.int 498536548],G.node [G.int 997073096],G.node [G.int 651767980],G.node [G.int 1994146192],G.node [G.int 1802195444],G.node [G.int 1303535960],G.node [G.int 1342533948],G.node [G.int 3988292384],G.node [G.int 4027552580],G.node [G.int 3604390888],G.node [G.int 3412177804],G.node [G.int 2607071920],G.node [G.int 2262029012],G.node [G.int 2685067896],G.node [G.int 3183342108]]=CG/\v2=v2/\(0:Int)<=0/\(z.s 20).length<=1000000000) (λy0=>y0.i 5=wt (z.s 20) 0 4294967295) λy0=>(let v3:=(Int.ofNat (v0.xor (aE v1 (y0.i 5))));(.ax (Vv v3 (z.s 20))))))) by dsimp only [GT] at hA;have e2: [G.node [G.int 0],G.node [G.int 498536548],G.node [G.int 997073096],G.node [G.int 651767980],G.node [G.int 1994146192],G.node [G.int 1802195444],G.node [G.int 1303535960],G.node [G.int 1342533948],G.node [G.int 3988292384],G.node [G.int 4027552580],G.node [G.int 3604390888],G.node [G.int 3412177804],G.node [G.int 2607071920],G.node [G.int 2262029012],G.node [G.int 2685067896],G.node [G.int 3183342108]]=CG:=rfl;have:=u32s;have e4:bm (cU 9)=1:=rfl;have e1:=Oj (z.s 20);dsimp only [A7,FH] at e1;have:=yw (z.s 20);exact kf
abbrev SN(a:List Nat):=Fm.ct (a.length<=1000000000) (λy=>y.i 10=D2 a/\0<=y.i 10/\y.i 10<4294967296)
abbrev GZ(a:Int):=Fm.ct (0<=a) (λy=>y.s 20=b4 a)
def Ot:bj 159 GY:=bB 1 0 (ai tH (jX Oq eN)) lN λz hA=>show Fm.den (let v1:=(nU);let v0:=(aE v1 (z.i 1%18446744073709551616 * 4294967296%18446744073709551616));(GZ (z.i 1) λy0=>(.an (sW (y0.s 20)) (SN (y0.s 20) λy1=>(let v2:=(Int.ofNat (v0.lor (aE v1 (y1.i 10%18446744073709551616))));(.ax (IntKind.u64.wrap v2/4294967296%4294967296=z.i 1/\IntKind.u64.wrap v2%4294967296=D2 (b4 (z.i 1))/\(0:Int)<=IntKind.u64.wrap v2/\IntKind.u64.wrap v2<18446744073709551616))))))) by
 dsimp only [GY] at hA;have:=yw (b4 (z.i 1));have:=@or64 (z.i 1) (D2 (b4 (z.i 1)));have:=@XJ (z.i 1) (D2 (b4 (z.i 1)));conv=>zeta
 repeat' with_reducible first|intro _|apply cd|apply ck|apply cg|apply cE|apply cr
 all_goals first|omega|grind [ao,ak,aj,tG]
def o_Big:bj 189 SBig:=bB 1 0 (ai tH eN) lN λz hA=>show Fm.den (let v0:=(z.i 1/4294967296%4294967296);(.ct (0<=z.i 1/4294967296%4294967296) (λy0=>y0.s 20=b4 v0) λy0=>(.ct (0<=z.i 1%4294967296) (λy1=>y1.s 20=b4 (z.i 1%4294967296)) λy1=>(.an (sW (y1.s 20)) (.an (DK (y0.s 20) (y1.s 20)) (.an (DL (y0.s 20++y1.s 20) (y0.s 20) (y1.s 20)) (.at (y0.s 20++y1.s 20=b4 v0++b4 (z.i 1%4294967296))))))))) by
 dsimp only [SBig,ugB] at hA;conv=>zeta
 repeat' with_reducible first|intro _|apply cd|apply ck|apply cg|apply cE|apply cr
 all_goals first|omega|grind [ao,ak,aj,tG]
noncomputable section
def D4(h:G)(i n:Int)(p:List G)(r:G):Prop:=(0<=i/\i<n)/\n<=1099511627776/\(gQ h i n p).2/\(gQ h i n p).1=r
def yx(h:G)(i n:Int)(p:List G)(r:G):D4 h i n p r↔(0<=i/\i<n)/\n<=1099511627776/\(gQ h i n p).2/\(gQ h i n p).1=r:=Iff.rfl
def B2:FSpec:=⟨[.ag (hs 100),.c (.i .i64 3),.c (.i .i64 4),.ag [.v 6 1],.ag (hs 200)],[],λz=>HOk (hT z 100)/\HOk (hT z 200)/\(z.g 1).length<=1000000/\RowsOk (z.g 1),λ_=>.one (.c (.b 50)),λ_=>[],λz y=>y.p 50↔D4 (hT z 100) (z.i 3) (z.i 4) (z.g 1) (hT z 200),none⟩
attribute [irreducible] D4
end
def JO:bj 35 B2:=bB 9 4369 (ai (N_ 1099511627777) eN) lN λz hA=>show Fm.den (let v0:=(false=true↔D4 (hT z 100) (z.i 3) (z.i 4) (z.g 1) (hT z 200));let v1:=(gQ (hT z 100) (z.i 3) (z.i 4) (z.g 1));(.two (z.i 3<0) (.ax v0) (.two (z.i 4<=z.i 3) (.ax v0) (.two (1099511627776<z.i 4) (.ax v0) (.ct (HOk (hT z 100)/\(0<=z.i 3/\z.i 3<z.i 4)/\z.i 4<1099511627777/\z.i 4<=1099511627776/\(z.g 1).length<=1000000/\RowsOk (z.g 1)) (λy0=>HOk (hT y0 300)/\hT y0 300=v1.fst/\(y0.p 50↔v1.snd)) λy0=>(.two (y0.p 50) (.ax (kr (hT y0 300) (hT z 200)↔D4 (hT z 100) (z.i 3) (z.i 4) (z.g 1) (hT z 200))) (.ax v0))))))) by dsimp only [B2,hs] at hA;have:=yx (hT z 100) (z.i 3) (z.i 4) (z.g 1) (hT z 200);exact gC
noncomputable section
end
noncomputable section
structure Bt where
 a:G
 b:G
 p:Prop
variable{m n k:Int}{c d:Prop}{p:List G}{o:G}
end
noncomputable section
structure Tk where
 a:G
 b:G
 r:List G
 ok:Prop
open Classical in
variable{m n k:Int}{c d ok:Prop}{r:List G}{o:G}
end
noncomputable section
open Classical in
def need(m n:Int)(c:Prop):Nat:=
 if m=n then(if c then 0 else 1)
 else if h:2<=n then
  if m<=(bN n.toNat:Nat) then need m (bN n.toNat:Nat) c+1 else need (m-(bN n.toNat:Nat)) (n-(bN n.toNat:Nat)) False+1
 else 0
termination_by n.toNat
decreasing_by all_goals (have:=mM h;omega)
end
noncomputable section
end
noncomputable section
def cF(i n:Int):List Prop:=
 if h:2<=n then
  if i<(bN n.toNat:Nat) then False::cF i (bN n.toNat:Nat)
  else True::cF (i-(bN n.toNat:Nat)) (n-(bN n.toNat:Nat))
 else []
termination_by n.toNat
decreasing_by all_goals (have:=fa (n:=n.toNat) (by omega);have:=f_ n.toNat;omega)
def kZ{i n:Int}(h:¬2<=n):cF i n= []:=by rw[cF,dif_neg h]
def oz{i n k:Int}(h:2<=n)(hk:k=(bN n.toNat:Nat))(hi:¬k<=i):cF i n=False::cF i k:=by subst hk;rw[cF,dif_pos h,if_pos (by omega)]
def oA{i n k:Int}(h:2<=n)(hk:k=(bN n.toNat:Nat))(hi:k<=i):cF i n=True::cF (i-k) (n-k):=by subst hk;rw[cF,dif_pos h,if_neg (by omega)]
def Ou:∀(j:Nat) (i n:Int),n<=(2 ^ j:Nat)->(cF i n).length<=j:=by
 intro j
 induction j with
 |zero=>intro i n h;rw[kZ (by have:n<=1:=h;omega)];exact aac _
 |succ j ih=>
  intro i n h;by_cases h2:2<=n
  ·have a1:=fa (n:=n.toNat) (by omega);have a2:=DW (n:=n.toNat) (by omega);have a3:bN n.toNat<=2 ^ j:=by unfold bN;refine abx (by decide) (Nat.lt_succ_iff.1 ((Nat.log2_lt (by omega)).2 ?_));omega
   by_cases hi:((bN n.toNat:Nat):Int)<=i
   ·rw[oA h2 rfl hi];have:=ih (i-(bN n.toNat:Nat)) (n-(bN n.toNat:Nat)) (by omega);simp only [aat];omega
   ·rw[oz h2 rfl hi];have:=ih i (bN n.toNat:Nat) (by omega);simp only [aat];omega
  ·rw[kZ h2];exact aaq _
def j2(s:Prop)(h x:G):G:=@ite _ s (Classical.propDecidable _) (bD x h) (bD h x)
def jB(s:Prop)(h x:G):List Nat:=@ite _ s (Classical.propDecidable _) (1::(hB x++hB h)) (1::(hB h++hB x))
def uF(h:G):List Prop->List G->G
 |s::ss,r::ps=>uF (j2 s h (hX (aa r 0))) ss ps
 |_,_=>h
def je(h:G):List Prop->List G->List G
 |s::ss,r::ps=>.node [.str (jB s h (hX (aa r 0))),j2 s h (hX (aa r 0))]::je (j2 s h (hX (aa r 0))) ss ps
 |_,_=>[]
def k_:∀(ss:List Prop) (ps:List G) (h:G) (s:Prop) (r:G),ps.length=ss.length->uF h (ss++ [s]) (ps++ [r])=j2 s (uF h ss ps) (hX (aa r 0))
 | [],[],_,_,_,_=>rfl
 |s0::ss,r0::ps,h,s,r,e=>k_ ss ps (j2 s0 h (hX (aa r0 0))) s r (by simpa using e)
 | [],_::_,_,_,_,e=>by simp at e
 |_::_,[],_,_,_,e=>by simp at e
def Ov(m:Nat):∀(h:G) (i n:Int) (p:List G),n.toNat<=m->((gQ h i n p).2↔p.length=(cF i n).length)/\(p.length=(cF i n).length->(gQ h i n p).1=uF h (cF i n).reverse p):=by
 induction m with
 |zero=>intro h i n p hm;rw[lH (by omega),kZ (by omega)];exact⟨Iff.rfl,λe=>by cases p with|nil=>rfl|cons _ _=>cases e⟩
 |succ m ih=>
  intro h i n p hm;by_cases h2:2<=n
  ·have a1:=fa (n:=n.toNat) (by omega);have a2:=f_ n.toNat;by_cases hp:p.length=0
   ·rw[yi h2 hp,hp];have:(cF i n).length≠0:=by
     by_cases hi:((bN n.toNat:Nat):Int)<=i
     ·rw[oA h2 rfl hi];simp
     ·rw[oz h2 rfl hi];simp
    exact⟨⟨False.elim,λe=>this e.symm⟩,λe=>absurd e.symm this⟩
   ·have m7:p≠ []:=λe=>hp (by rw[e];rfl);have ak3:p=p.dropLast++ [aq p (p.length-1)]:=by
     conv=>lhs;rw[←List.dropLast_concat_getLast m7]
     congr 2;unfold aq;rw[aag,aak (by omega),List.getLast_eq_getElem];rfl
    have hdl:p.dropLast.length=p.length-1:=List.length_dropLast;by_cases hi:i<(bN n.toNat:Nat)
    ·rw[yj h2 hp hi,oz h2 rfl (by omega)];obtain⟨q1,q2⟩:=ih h i (bN n.toNat:Nat) p.dropLast (by omega);refine⟨by rw[aat];exact q1.trans (by omega),λe=>?_⟩;rw[aat] at e;have e':p.dropLast.length=(cF i (bN n.toNat:Nat)).length:=by omega
     rw[List.reverse_cons];conv=>rhs;rw[ak3]
     rw[k_ _ _ _ _ _ (by rw[abj];exact e'), ←q2 e'];unfold j2;rw[if_neg id]
    ·rw[yl h2 hp hi,oA h2 rfl (by omega)];obtain⟨q1,q2⟩:=ih h (i-(bN n.toNat:Nat)) (n-(bN n.toNat:Nat)) p.dropLast (by omega);refine⟨by rw[aat];exact q1.trans (by omega),λe=>?_⟩;rw[aat] at e;have e':p.dropLast.length=(cF (i-(bN n.toNat:Nat)) (n-(bN n.toNat:Nat))).length:=by omega
     rw[List.reverse_cons];conv=>rhs;rw[ak3]
     rw[k_ _ _ _ _ _ (by rw[abj];exact e'), ←q2 e'];unfold j2;rw[if_pos trivial]
  ·rw[lH h2,kZ h2];exact⟨Iff.rfl,λe=>by cases p with|nil=>rfl|cons _ _=>cases e⟩
def D5{n m:Int}(hm:m=(n-1)%18446744073709551616)(h:2<=n)(h1:n<=1099511627776):(0<=dA m-1/\dA m-1<=40)/\((2 ^ min (dA m-1).toNat (bh .i64):Nat):Int)=(bN n.toNat:Nat):=by
 have e:m=n-1:=by omega
 rw[e];exact wp h h1
def rg(l:List G):List Prop:=l.map λr=>gI (aa r 0)=1
def im(l:List G):(rg l).length=l.length:=aaR ..
def yy(l:List G)(q:Prop):rg (l++ [.node [.int (pI q)]])=rg l++ [q]:=by unfold rg;rw[List.map_append];congr 1;show [pI q=1]= [q];congr 1;unfold pI;exact propext ⟨λh=>Classical.byContradiction λhn=>(by rw[if_neg hn] at h;cases h),λh=>(by rw[if_pos h])⟩
def tI(i n:Int)(l r:List G):Prop:=rg r=rg l++cF i n
def SO{i n:Int}{l:List G}(h:¬1<n):tI i n l l:=by unfold tI;rw[kZ (by omega),abb]
def Ow{i n k:Int}{l r:List G}{q:Prop}(h:1<n)(hk:k=(bN n.toNat:Nat))(hq:q↔k<=i):(q->tI (i-k) (n-k) (l++ [.node [.int (pI q)]]) r->tI i n l r)/\(¬q->tI i k (l++ [.node [.int (pI q)]]) r->tI i n l r):=by
 refine⟨λh1 h2=>?_,λh1 h2=>?_⟩
 ·unfold tI at h2⊢;rw[h2,oA (by omega) hk (hq.1 h1),yy,aaw,show q=True from propext ⟨λ_=>trivial,λ_=>h1⟩];rfl
 ·unfold tI at h2⊢;rw[h2,oz (by omega) hk (λh=>h1 (hq.2 h)),yy,aaw,show q=False from propext ⟨h1,False.elim⟩];rfl
def oN(i n:Int):Nat:=(cF i n).length
def yz{i n:Int}(h:n<=1099511627776):oN i n<=40:=Ou 40 i n h
def Ox{i n k:Int}(h:1<n)(hk:k=(bN n.toNat:Nat)):(k<=i->oN i n=oN (i-k) (n-k)+1)/\(¬k<=i->oN i n=oN i k+1):=⟨λhi=>by unfold oN;rw[oA (by omega) hk hi];rfl,λhi=>by unfold oN;rw[oz (by omega) hk hi];rfl⟩
def G0{i n:Int}{l r:List G}(h:tI i n l r):r.length=l.length+oN i n:=by
 have:=congrArg List.length h
 rwa [im,aai,im] at this
def Vw{α:Type}(a b:Int)(l:List α):List α:=l.take a.toNat++(((l.drop a.toNat).take (b+1-a).toNat).reverse++l.drop (b+1).toNat)
def SP{α:Type}{a b:Int}{l:List α}(h0:0<=a)(hab:a+b+1=l.length)(h1:a<=b+1)(h:¬a<b):Vw a b l=l:=by
 unfold Vw;have:((l.drop a.toNat).take (b+1-a).toNat).reverse=(l.drop a.toNat).take (b+1-a).toNat:=by
  have hl:((l.drop a.toNat).take (b+1-a).toNat).length<=1:=by rw[aao];omega
  match(l.drop a.toNat).take (b+1-a).toNat,hl with
  | [],_=>rfl
  | [_],_=>rfl
  |_::_::_,hl=>simp at hl
 rw[this];rcases(show b<a∨a<=b by omega) with hb|hb
 ·rw[show(b+1-a).toNat=0 by omega,abz,aa6];rw[show(b+1).toNat=a.toNat by omega,abl]
 ·rw[show(b+1).toNat=a.toNat+(b+1-a).toNat by omega, ←aa5,abl,abl]
def SQ{α:Type}{l:List α}:Vw 0 ((l.length:Int)-1) l=l.reverse:=by unfold Vw;rw[show(0:Int).toNat=0 by rfl,abz,aaT,show((l.length:Int)-1+1-0).toNat=l.length by omega,show((l.length:Int)-1+1).toNat=l.length by omega,aa9,List.drop_length,abb,aa6]
def Oy{α:Type}{a b:Int}{l:List α}{x y:α}(h0:0<=a)(hab:a+b+1=l.length)(h:a<b)(hx:l[a.toNat]? =some x)(hy:l[b.toNat]? =some y):Vw (a+1) (b-1) ((l.set a.toNat y).set b.toNat x)=Vw a b l:=by
 obtain⟨i,rfl⟩:∃i:Nat,a=i:=⟨a.toNat,by omega⟩
 obtain⟨k,rfl⟩:∃k:Nat,b=i+1+k:=⟨(b-i-1).toNat,by omega⟩
 unfold Vw;simp only [aar,show((i:Int)+1+k).toNat=i+1+k by omega,show((i:Int)+1).toNat=i+1 by omega,show((i:Int)+1+k-1+1-(i+1)).toNat=k by omega,show((i:Int)+1+k-1+1).toNat=i+1+k by omega,show((i:Int)+1+k+1-i).toNat=k+2 by omega,show((i:Int)+1+k+1).toNat=i+k+2 by omega] at hx hy⊢;have hi:i<l.length:=by omega
 have hk:i+1+k<l.length:=by omega
 rw[aak hi] at hx;rw[aak hk] at hy;injection hx with hx;injection hy with hy;subst hx;subst hy;refine List.ext_getElem (by simp;omega) λj h1 h2=>?_;simp only [List.getElem_append,List.getElem_take,List.getElem_drop,List.getElem_reverse,List.getElem_set,aao,aas,abj,aaZ,aai] at h1 h2⊢;split <;> split <;> (try split) <;> (try split) <;> (try split) <;> (try split) <;> first|rfl|omega|(congr 1;omega)
def G1(l:List G)(i:Nat)(q:Prop):rg (l.set i (.node [.int (pI q)]))=(rg l).set i q:=by have:=yy [] q;simp only [aa6] at this;unfold rg at this⊢;rw[List.map_set];congr 1;exact List.head_eq_of_cons_eq this
def Oz{l:List G}{i:Nat}(h:i<l.length):(rg l)[i]? =some (gI (aa (aq l i) 0)=1):=by unfold rg aq;rw[aaO,aag,aak h];rfl
def OA(a b:Int)(l r:List G):Prop:=rg r=Vw a b (rg l)/\r.length=l.length
def SR{a b:Int}{l:List G}(h0:0<=a)(hab:a+b+1=l.length)(h1:a<=b+1)(h:¬a<b):OA a b l l:=⟨(SP h0 (by rw[im];exact hab) h1 h).symm,rfl⟩
def OB{a b:Int}{l r:List G}(h0:0<=a)(hab:a+b+1=l.length)(h:a<b)(hr:OA (a+1) (b-1) ((l.set a.toNat (.node [.int (pI (gI (aa (aq l b.toNat) 0)=1))])).set b.toNat (.node [.int (pI (gI (aa (aq l a.toNat) 0)=1))])) r):OA a b l r:=by obtain⟨h1,h2⟩:=hr;refine⟨?_,by rw[h2,aaZ,aaZ]⟩;rw[h1,G1,G1];exact Oy h0 (by rw[im];exact hab) h (Oz (by omega)) (Oz (by omega))
def SS{i n:Int}{l r:List G}(hs:tI i n [] l)(h:OA 0 ((l.length:Int)-1) l r):rg r=(cF i n).reverse/\r.length=oN i n:=by
 have hl:=G0 hs;obtain⟨h1,h2⟩:=h;refine⟨?_,by rw[h2,hl];simp⟩;have e:(l.length:Int)=(rg l).length:=by rw[im]
 rw[h1,e,SQ];unfold tI at hs;rw[hs];rfl
attribute [irreducible] tI oN OA
def Stwo:FSpec:=⟨[.ag (hs 100),.ag (hs 200)],[],λz=>HOk (hT z 100)/\HOk (hT z 200),λ_=>.one (.ag ([.vb 10]++hs 300)),λ_=>[],λz y=>y.s 10=1::(hB (hT z 100)++hB (hT z 200))/\hT y 300=bD (hT z 100) (hT z 200),none⟩
def Ze:List BSh:=[.grow 4 4 20]
def B3(p:Sy):LSpec:=⟨[(0,.c (.i .i64 1)),(1,.c (.i .i64 2)),(5,.c (.g 0 1 20))],Ze,λz=>(0<=z.i 1/\z.i 1<z.i 2)/\z.i 2<=1099511627776/\(z.g 20).length+oN (z.i 1) (z.i 2)<=1000,λz=>(z.i 2).toNat,[⟨.exit 0,[(5,.c (.g 0 1 20))],Ze⟩],λz y=>tI (z.i 1) (z.i 2) (z.g 20) (y.g 20),none,[]⟩
def B4(p:Sy):LSpec:=⟨[(5,.c (.g 0 1 20)),(8,.c (.i .i64 1)),(9,.c (.i .i64 2))],Ze,λz=>(0<=z.i 1/\z.i 1<=z.i 2+1)/\z.i 1+z.i 2+1=(z.g 20).length/\(z.g 20).length<=1000,λz=>(z.i 2-z.i 1).toNat,[⟨.exit 2,[(5,.c (.g 0 1 20))],Ze⟩],λz y=>OA (z.i 1) (z.i 2) (z.g 20) (y.g 20),none,[]⟩
def OC:FSpec:=⟨[.c (.i .i64 1),.c (.i .i64 2)],[],λz=>(0<=z.i 1/\z.i 1<z.i 2)/\z.i 2<=1099511627776,λ_=>.one (.c (.v 4 10)),λ_=>[],λz y=>rg (y.g 10)=(cF (z.i 1) (z.i 2)).reverse/\(y.g 10).length=oN (z.i 1) (z.i 2),none⟩
def yA(i:Int)(h:G)(S p l r:List G):Prop:=r=l++je h ((rg S).drop i.toNat) (p.drop i.toNat)
def ST{i:Int}{h:G}{S p l:List G}(hi:¬i<S.length)(h0:0<=i):yA i h S p l l:=by unfold yA;rw[aaH (by rw[im];omega)];cases p.drop i.toNat <;> simp [je]
def OD{i:Int}{h x:G}{S p l r:List G}(h0:0<=i)(hi:i<S.length)(hp:S.length=p.length)(hx:x=hX (aa (aq p i.toNat) 0)):
 (gI (aa (aq S i.toNat) 0)=1->yA (i+1) (bD x h) S p (l++ [.node [.str (1::(hB x++hB h)),bD x h]]) r->yA i h S p l r)/\
 (¬gI (aa (aq S i.toNat) 0)=1->yA (i+1) (bD h x) S p (l++ [.node [.str (1::(hB h++hB x)),bD h x]]) r->yA i h S p l r):=by
 have e1:(rg S).drop i.toNat=(gI (aa (aq S i.toNat) 0)=1)::(rg S).drop (i+1).toNat:=by rw[aaX (by rw[im];omega),show(i+1).toNat=i.toNat+1 by omega];congr 1;unfold rg aq;rw[List.getElem_map,aag,aak (by omega)];rfl
 have e2:p.drop i.toNat=aq p i.toNat::p.drop (i+1).toNat:=by rw[aaX (by omega),show(i+1).toNat=i.toNat+1 by omega];congr 1;unfold aq;rw[aag,aak (by omega)];rfl
 subst hx
 refine⟨λhs h2=>?_,λhs h2=>?_⟩
 all_goals
  unfold yA at h2⊢
  rw[h2,e1,e2]
  show _=l++(.node [.str (jB _ h _),j2 _ h _]::je (j2 _ h _) _ _)
  unfold j2 jB
 ·rw[if_pos hs,if_pos hs,aaw];rfl
 ·rw[if_neg hs,if_neg hs,aaw];rfl
def yB:∀(h:G) (ss:List Prop) (ps:List G),(je h ss ps).length=min ss.length ps.length
 |h,s::ss,r::ps=>by simp only [je,aat,yB];omega
 |_,[],_=>by simp [je]
 |_,_::_,[]=>by simp [je]
def XM{i n:Int}{h:G}{S p r:List G}(hc:yA 0 h S p [] r)(hs:rg S=(cF i n).reverse):r=je h (cF i n).reverse p:=by unfold yA at hc;rw[hc,hs];rfl
def SU{h:G}{S p r:List G}(hc:yA 0 h S p [] r):r.length<=S.length:=by unfold yA at hc;rw[hc,aa6,yB,aas,im];omega
abbrev jf(i n:Int)(p:List G):Prop:=(0<=i/\i<n)/\n<=1099511627776/\p.length=oN i n
def clB(p:Sy):List BSh:=[.cells 28 (hs 100),.cells 43 [.pv 6 (p.g 3)],.grow 15 96 30]
def wy(p:Sy):LSpec:=⟨[(4,.c (.p 0)),(7,.c (.p 1)),(11,.c (.g 2 33 30)),(35,.c (.pv 4 (p.g 4))),(36,.c (.pi .i64 (p.g 4).length)),(37,.c (.i .i64 9))],clB p,λz=>HOk (hT z 100)/\RowsOk (p.g 3)/\(0<=z.i 9/\z.i 9<=(p.g 4).length)/\(p.g 4).length=(p.g 3).length/\(p.g 4).length<=1000/\(z.g 30).length<=z.i 9,λz=>((p.g 4).length-z.i 9).toNat,[⟨.exit 0,[(4,.c (.p 0)),(7,.c (.p 1)),(11,.c (.g 2 33 30))],clB p⟩],λz y=>yA (z.i 9) (hT z 100) (p.g 4) (p.g 3) (z.g 30) (y.g 30),none,[]⟩
def G2:FSpec:=⟨[.ag (hs 100),.c (.i .i64 1),.c (.i .i64 2),.ag [.v 6 3]],[],λz=>HOk (hT z 100)/\(z.g 3).length<=1000000/\RowsOk (z.g 3),λ_=>.tu [.c (.v 15 30),.c (.b 40)],λ_=>[],λz y=>(y.p 40↔jf (z.i 1) (z.i 2) (z.g 3))/\(y.g 30).length<=40/\(jf (z.i 1) (z.i 2) (z.g 3)->y.g 30=je (hT z 100) (cF (z.i 1) (z.i 2)).reverse (z.g 3)),none⟩
def B5:FSpec:=⟨[.ag en],[],wi,λ_=>.tu [.c (.vb 30),.c (.b 40)],λ_=>[],λz y=>(y.p 40↔ul z=0)/\(ul z=0->y.s 30=0::pD z),none⟩
attribute [irreducible] yA
end
def JP:bj 68 B5:=bB 5 17 (ai qj (ai gf eN)) lN λz hA=>show Fm.den (let v1:=(z.i 1%256);let v2:=(hT z 100);let v0:=(true=true↔cR (z.i 1) (z.s 2) (z.i 3) (z.i 4) (z.i 5) (z.i 6) (z.i 7) (z.i 8) (z.s 9) (z.g 10) (z.g 11) v2 (z.p 12) (z.i 13) (z.i 14)=(0:Int));let v3:=(↑(z.s 2).length:Int);(.ct (mX (z.s 2) (z.i 3) (z.i 4) (z.i 5) (z.i 7) (z.s 9) (z.g 10) (z.g 11) v2 (z.i 13) (z.i 14)) (λy0=>y0.i 50=cR (z.i 1) (z.s 2) (z.i 3) (z.i 4) (z.i 5) (z.i 6) (z.i 7) (z.i 8) (z.s 9) (z.g 10) (z.g 11) v2 (z.p 12) (z.i 13) (z.i 14)/\(cR (z.i 1) (z.s 2) (z.i 3) (z.i 4) (z.i 5) (z.i 6) (z.i 7) (z.i 8) (z.s 9) (z.g 10) (z.g 11) v2 (z.p 12) (z.i 13) (z.i 14)=(0:Int)->hT y0 300=aA (cu (z.i 1) (z.s 2) (z.i 3) (z.i 4) (z.i 5) v2 (z.i 13) (z.i 14)))/\(¬cR (z.i 1) (z.s 2) (z.i 3) (z.i 4) (z.i 5) (z.i 6) (z.i 7) (z.i 8) (z.s 9) (z.g 10) (z.g 11) v2 (z.p 12) (z.i 13) (z.i 14)=(0:Int)->hT y0 300=hZ)) λy0=>(.two (y0.i 50≠0) (.ax ((false=true↔cR (z.i 1) (z.s 2) (z.i 3) (z.i 4) (z.i 5) (z.i 6) (z.i 7) (z.i 8) (z.s 9) (z.g 10) (z.g 11) v2 (z.p 12) (z.i 13) (z.i 14)=(0:Int))/\(cR (z.i 1) (z.s 2) (z.i 3) (z.i 4) (z.i 5) (z.i 6) (z.i 7) (z.i 8) (z.s 9) (z.g 10) (z.g 11) v2 (z.p 12) (z.i 13) (z.i 14)=(0:Int)-> []=0::cu (z.i 1) (z.s 2) (z.i 3) (z.i 4) (z.i 5) v2 (z.i 13) (z.i 14)))) (uj (z.i 3) (z.i 3%18446744073709551616) λy1=>(.an ((0:Int)<=0/\0<=z.i 1%256/\True) (.an (2=2) (.an (2=2/\2<=1000000000/\(y1.s 10).length<=1000000) (uj (z.i 4) (z.i 4%18446744073709551616) λy2=>(.an (([Int.toNat 0,v1.toNat]++y1.s 10).length=2+(y1.s 10).length/\2+(y1.s 10).length<=1000000000/\(y2.s 10).length<=1000000) (uj (z.i 5) (z.i 5%18446744073709551616) λy3=>(.an (([Int.toNat 0,v1.toNat]++y1.s 10++y2.s 10).length=2+(y1.s 10).length+(y2.s 10).length/\2+(y1.s 10).length+(y2.s 10).length<=1000000000/\(y3.s 10).length<=1000000) (uj v3 (v3%18446744073709551616) λy4=>(.an (([Int.toNat 0,v1.toNat]++y1.s 10++y2.s 10++y3.s 10).length=2+(y1.s 10).length+(y2.s 10).length+(y3.s 10).length/\2+(y1.s 10).length+(y2.s 10).length+(y3.s 10).length<=1000000000/\(y4.s 10).length<=1000000) (.an (([Int.toNat 0,v1.toNat]++y1.s 10++y2.s 10++y3.s 10++y4.s 10).length=2+(y1.s 10).length+(y2.s 10).length+(y3.s 10).length+(y4.s 10).length/\2+(y1.s 10).length+(y2.s 10).length+(y3.s 10).length+(y4.s 10).length<=1000000000/\(z.s 2).length<=1000000) (uj (z.i 13) (z.i 13%18446744073709551616) λy5=>(.an (([Int.toNat 0,v1.toNat]++y1.s 10++y2.s 10++y3.s 10++y4.s 10++z.s 2).length=2+(y1.s 10).length+(y2.s 10).length+(y3.s 10).length+(y4.s 10).length+(z.s 2).length/\2+(y1.s 10).length+(y2.s 10).length+(y3.s 10).length+(y4.s 10).length+(z.s 2).length<=1000000000/\(y5.s 10).length<=1000000) (uj (z.i 14) (z.i 14%18446744073709551616) λy6=>(let v4:=([Int.toNat 0,v1.toNat]++y1.s 10++y2.s 10++y3.s 10++y4.s 10++z.s 2++y5.s 10++y6.s 10);(.an (([Int.toNat 0,v1.toNat]++y1.s 10++y2.s 10++y3.s 10++y4.s 10++z.s 2++y5.s 10).length=2+(y1.s 10).length+(y2.s 10).length+(y3.s 10).length+(y4.s 10).length+(z.s 2).length+(y5.s 10).length/\2+(y1.s 10).length+(y2.s 10).length+(y3.s 10).length+(y4.s 10).length+(z.s 2).length+(y5.s 10).length<=1000000000/\(y6.s 10).length<=1000000) (.two (z.i 1=2) (.an (v4.length=2+(y1.s 10).length+(y2.s 10).length+(y3.s 10).length+(y4.s 10).length+(z.s 2).length+(y5.s 10).length+(y6.s 10).length/\2+(y1.s 10).length+(y2.s 10).length+(y3.s 10).length+(y4.s 10).length+(z.s 2).length+(y5.s 10).length+(y6.s 10).length<=1000000000/\bp (kq z 100)) (.an (([Int.toNat 0,v1.toNat]++y1.s 10++y2.s 10++y3.s 10++y4.s 10++z.s 2++y5.s 10++y6.s 10++aI (kq z 100)).length=2+(y1.s 10).length+(y2.s 10).length+(y3.s 10).length+(y4.s 10).length+(z.s 2).length+(y5.s 10).length+(y6.s 10).length+32/\True) (.at (v0/\(cR (z.i 1) (z.s 2) (z.i 3) (z.i 4) (z.i 5) (z.i 6) (z.i 7) (z.i 8) (z.s 9) (z.g 10) (z.g 11) v2 (z.p 12) (z.i 13) (z.i 14)=(0:Int)-> [Int.toNat 0,v1.toNat]++y1.s 10++y2.s 10++y3.s 10++y4.s 10++z.s 2++y5.s 10++y6.s 10++aI (kq z 100)=0::cu (z.i 1) (z.s 2) (z.i 3) (z.i 4) (z.i 5) v2 (z.i 13) (z.i 14)))))) (.an (v4.length=2+(y1.s 10).length+(y2.s 10).length+(y3.s 10).length+(y4.s 10).length+(z.s 2).length+(y5.s 10).length+(y6.s 10).length/\True) (.at (v0/\(cR (z.i 1) (z.s 2) (z.i 3) (z.i 4) (z.i 5) (z.i 6) (z.i 7) (z.i 8) (z.s 9) (z.g 10) (z.g 11) v2 (z.p 12) (z.i 13) (z.i 14)=(0:Int)-> [Int.toNat 0,v1.toNat]++y1.s 10++y2.s 10++y3.s 10++y4.s 10++z.s 2++y5.s 10++y6.s 10=0::cu (z.i 1) (z.s 2) (z.i 3) (z.i 4) (z.i 5) v2 (z.i 13) (z.i 14))))))))))))))))))))))))) by
 dsimp only [B5,en,hs,wi,ul,pD] at hA;have:=br 0 0 0 [] [] [];have:=br (z.i 6) (z.i 7) (z.i 8) (z.s 9) (z.g 10) (z.g 11);have:=@cO (z.s 2) (z.i 3) (z.i 4) (z.i 5) (z.i 7) (z.s 9) (z.g 10) (z.g 11) (hT z 100) (z.i 13) (z.i 14);have:=@yb (z.i 1) (z.s 2) (z.i 3) (z.i 4) (z.i 5) (hT z 100) (z.i 13) (z.i 14);have:=@tr (z.i 1) (z.s 2) (z.i 3) (z.i 4) (z.i 5) (hT z 100) (z.i 13) (z.i 14);have:=@bM (z.i 3);have:=@bM (z.i 4);have:=@bM (z.i 5);have:=@bM (z.i 13);have:=@bM (z.i 14);have:=@fC (z.s 2).length;have:=cy z 100;have:=@aJ z 100;have:=bq z 100;have t1:(((z.s 2).length:Nat):Int).toNat=(z.s 2).length:=Int.toNat_natCast _;have:=@fA (z.i 1) (z.s 2) (z.i 3) (z.i 4) (z.i 5) (z.i 6) (z.i 7) (z.i 8) (z.s 9) (z.g 10) (z.g 11) (hT z 100) (z.p 12) (z.i 13) (z.i 14);have:=@fB (z.i 1) (z.s 2) (z.i 3) (z.i 4) (z.i 5) (z.i 6) (z.i 7) (z.i 8) (z.s 9) (z.g 10) (z.g 11) (hT z 100) (z.p 12) (z.i 13) (z.i 14);have:=@ig (z.i 1) (z.s 2) (z.i 3) (z.i 4) (z.i 5) (z.i 6) (z.i 7) (z.i 8) (z.s 9) (z.g 10) (z.g 11) (hT z 100) (z.p 12) (z.i 13) (z.i 14);have:=@jK (z.i 1) (z.s 2) (z.i 3) (z.i 4) (z.i 5) (z.i 6) (z.i 7) (z.i 8) (z.s 9) (z.g 10) (z.g 11) (hT z 100) (z.p 12) (z.i 13) (z.i 14);have:=@kU (z.i 1) (z.s 2) (z.i 3) (z.i 4) (z.i 5) (z.i 6) (z.i 7) (z.i 8) (z.s 9) (z.g 10) (z.g 11) (hT z 100) (z.p 12) (z.i 13) (z.i 14);have:=@da (z.i 1) (z.s 2) (z.i 3) (z.i 4) (z.i 5) (z.i 6) (z.i 7) (z.i 8) (z.s 9) (z.g 10) (z.g 11) (hT z 100) (z.p 12) (z.i 13) (z.i 14);have m3:0<=z.i 3->z.i 3<9223372036854775808->(z.i 3%18446744073709551616).toNat=(z.i 3).toNat:=λa b=>by omega
 have m4:0<=z.i 4->z.i 4<9223372036854775808->(z.i 4%18446744073709551616).toNat=(z.i 4).toNat:=λa b=>by omega
 have m5:0<=z.i 5->z.i 5<9223372036854775808->(z.i 5%18446744073709551616).toNat=(z.i 5).toNat:=λa b=>by omega
 have m13:0<=z.i 13->z.i 13<9223372036854775808->(z.i 13%18446744073709551616).toNat=(z.i 13).toNat:=λa b=>by omega
 have m14:0<=z.i 14->z.i 14<9223372036854775808->(z.i 14%18446744073709551616).toNat=(z.i 14).toNat:=λa b=>by omega
 have m2:(z.s 2).length<=1000000->(((z.s 2).length:Int)%18446744073709551616).toNat=(z.s 2).length:=λh=>by omega
 have:=@iA (z.i 1) (z.s 2) (z.i 3) (z.i 4) (z.i 5) (mK z) (hT z 100=hZ) (z.p 12) (z.i 13) (z.i 14);conv=>zeta
 repeat' with_reducible first|intro _|apply cd|apply ck|apply cg|apply cE|apply cr
 all_goals first|omega|grind [ao,ak,aj,aT,aU,aV,aW,aX,aY,aZ,a_,ba,aC,List.append_assoc,bq,bM,fC]
abbrev tJ(a:Prop)(b c d:Int)(e:List G)(f:Int)(g:List G):=a/\b.toNat<c.toNat/\∀(y:Sy),tI d b e (y.g 20)->tI f c g (y.g 20)
abbrev uG(a:Prop)(b:Int)(c:List G)(d:Int)(e):=a/\IntKind.i64.wrap b<=1099511627776/\c.length+oN d e<=1000
abbrev OE(a:Prop)(b c d:Int)(e f:List G):=a/\b.toNat<c.toNat/\∀(y:Sy),tI d b e (y.g 20)->tI d c f (y.g 20)
abbrev Vx(a b c:Int):=0<=a-IntKind.i64.wrap b/\a-IntKind.i64.wrap b<c-IntKind.i64.wrap b
def JQ:bH 141 0 B3:=bG 38 891510157746507617625 (ai GK eN) lN λp z hA=>show Fm.den (let v0:=(bh IntKind.i64);let v1:=(ot (z.g 20));(.two (1<z.i 2) (.an ((-9223372036854775808)<=z.i 2-1/\z.i 2-1<=9223372036854775807) (Vl (z.i 2-1) ((z.i 2-1)%18446744073709551616) λy0=>(let v2:=(↑(2 ^ Min.min (eI (y0.i 10-1)).toNat v0):Int);let v7:=(z.g 20++ [G.node [G.int (pI (1 * v2<=z.i 1))]]);let v9:=(z.i 2-IntKind.i64.wrap (1 * v2));let v10:=(2 ^ Min.min (y0.i 10-1).toNat v0);let v3:=(↑v10:Int);let v4:=(z.g 20++ [G.node [G.int (pI (IntKind.i64.wrap (1 * v3)<=z.i 1))]]);let v6:=(z.g 20++ [G.node [G.int (pI (1 * v3<=z.i 1))]]);let v8:=(z.i 2-IntKind.i64.wrap (1 * v3));let v11:=(z.i 1-IntKind.i64.wrap (1 * v3));let d7:=(z.g 20++ [G.node [G.int (pI (IntKind.i64.wrap (1 * v2)<=z.i 1))]]);let n7:=(z.i 1-IntKind.i64.wrap (1 * v2));let u0:=((-9223372036854775808)<=z.i 2-IntKind.i64.wrap (1 * v3)/\z.i 2-IntKind.i64.wrap (1 * v3)<=9223372036854775807);let o8:=((-9223372036854775808)<=z.i 2-IntKind.i64.wrap (1 * v2)/\z.i 2-IntKind.i64.wrap (1 * v2)<=9223372036854775807);let s8:=(wq v6 (z.g 20));let s9:=(wq v4 (z.g 20));let v20:=(wq v7 (z.g 20));let p9:=(eI v8);let v23:=(eI v9);let z':=(z.i 1-1 * v3);let v25:=(z.i 1-1 * v2);let v26:=((-9223372036854775808)<=z.i 2-1 * v3/\z.i 2-1 * ↑v10<=9223372036854775807);let v28:=((-9223372036854775808)<=z.i 2-1 * v2/\z.i 2-1 * v2<=9223372036854775807);let v29:=(z.i 2-1 * v2);let j8:=(eI v29);let v30:=(z.i 2-1 * v3);let i9:=(eI v30);let v31:=(eI (1 * v3));let v32:=(eI (1 * v2));let v33:=((1:Int) * v2);let v5:=(z.g 20++ [G.node [G.int (pI (IntKind.i64.wrap v33<=z.i 1))]]);let v21:=(wq v5 (z.g 20));let v27:=(z.i 1-IntKind.i64.wrap v33);(.two ((-9223372036854775808)<=y0.i 10-1/\y0.i 10-1<=9223372036854775807) (.an (0<=y0.i 10-1) (.two ((-9223372036854775808)<=1 * v3/\1 * v3<=9223372036854775807) (.an v1 (.two (1 * v3<=z.i 1) (.two ((-9223372036854775808)<=z.i 1-1 * v3/\z.i 1-1 * ↑v10<=9223372036854775807) (.two v26 (.an s8 (.at (((0<=z.i 1-1 * v3/\z.i 1-1 * ↑v10<z.i 2-1 * ↑v10)/\z.i 2-1 * ↑v10<=1099511627776/\v6.length+oN z' v30<=1000)/\(z.i 2-1 * ↑v10).toNat<(z.i 2).toNat/\∀(y:Sy),tI z' v30 v6 (y.g 20)->tI (z.i 1) (z.i 2) (z.g 20) (y.g 20)))) (.an s8 (.at (tJ (uG (0<=z.i 1-1 * v3/\z.i 1-1 * ↑v10<IntKind.i64.wrap v30) v30 v6 z' i9) i9 (z.i 2) z' v6 (z.i 1) (z.g 20))))) (.an (¬v26) (.an s8 (.at (tJ (uG (0<=IntKind.i64.wrap z'/\IntKind.i64.wrap z'<IntKind.i64.wrap v30) v30 v6 (eI z') i9) i9 (z.i 2) (eI z') v6 (z.i 1) (z.g 20)))))) (.an s8 (.at (OE ((0<=z.i 1/\z.i 1<1 * ↑v10)/\1 * v3<=1099511627776/\v6.length+oN (z.i 1) (1 * v3)<=1000) (1 * v3) (z.i 2) (z.i 1) v6 (z.g 20)))))) (.an v1 (.two (IntKind.i64.wrap (1 * v3)<=z.i 1) (.two ((-9223372036854775808)<=z.i 1-IntKind.i64.wrap (1 * v3)/\z.i 1-IntKind.i64.wrap (1 * v3)<=9223372036854775807) (.two u0 (.an s9 (.at (tJ ((Vx (z.i 1) (1 * v3) (z.i 2))/\z.i 2-IntKind.i64.wrap (1 * v3)<=1099511627776/\v4.length+oN v11 v8<=1000) v8 (z.i 2) v11 v4 (z.i 1) (z.g 20)))) (.an s9 (.at (tJ (uG (0<=z.i 1-IntKind.i64.wrap (1 * v3)/\z.i 1-IntKind.i64.wrap (1 * v3)<IntKind.i64.wrap v8) v8 v4 v11 p9) p9 (z.i 2) v11 v4 (z.i 1) (z.g 20))))) (.an (¬u0) (.an s9 (.at (tJ (uG (0<=IntKind.i64.wrap v11/\IntKind.i64.wrap v11<IntKind.i64.wrap v8) v8 v4 (eI v11) p9) p9 (z.i 2) (eI v11) v4 (z.i 1) (z.g 20)))))) (.an s9 (.at (OE (uG (0<=z.i 1/\z.i 1<IntKind.i64.wrap (1 * v3)) (1 * v3) v4 (z.i 1) v31) v31 (z.i 2) (z.i 1) v4 (z.g 20)))))))) (.an ((0:Int)<=IntKind.i64.wrap (y0.i 10-1)) (.two (Vm v2) (.an v1 (.two (1 * v2<=z.i 1) (.two ((-9223372036854775808)<=z.i 1-1 * v2/\z.i 1-1 * v2<=9223372036854775807) (.two v28 (.an v20 (.at (tJ ((0<=z.i 1-1 * v2/\z.i 1-1 * v2<z.i 2-1 * v2)/\z.i 2-1 * v2<=1099511627776/\v7.length+oN v25 v29<=1000) v29 (z.i 2) v25 v7 (z.i 1) (z.g 20)))) (.an v20 (.at (tJ (uG (0<=z.i 1-1 * v2/\z.i 1-1 * v2<IntKind.i64.wrap v29) v29 v7 v25 j8) j8 (z.i 2) v25 v7 (z.i 1) (z.g 20))))) (.an (¬v28) (.an v20 (.at (tJ (uG ((0:Int)<=IntKind.i64.wrap v25/\IntKind.i64.wrap v25<IntKind.i64.wrap v29) v29 v7 (eI v25) j8) j8 (z.i 2) (eI v25) v7 (z.i 1) (z.g 20)))))) (.an v20 (.at (OE ((0<=z.i 1/\z.i 1<1 * v2)/\(1:Int) * v2<=1099511627776/\v7.length+oN (z.i 1) (1 * v2)<=1000) v33 (z.i 2) (z.i 1) v7 (z.g 20)))))) (.an v1 (.two (IntKind.i64.wrap (1 * v2)<=z.i 1) (.two ((-9223372036854775808)<=z.i 1-IntKind.i64.wrap (1 * v2)/\z.i 1-IntKind.i64.wrap (1 * v2)<=9223372036854775807) (.two o8 (.an v21 (.at (tJ ((Vx (z.i 1) (1 * v2) (z.i 2))/\z.i 2-IntKind.i64.wrap (1 * v2)<=1099511627776/\v5.length+oN n7 v9<=1000) v9 (z.i 2) v27 d7 (z.i 1) (z.g 20)))) (.an v21 (.at (tJ (uG (0<=z.i 1-IntKind.i64.wrap (1 * v2)/\z.i 1-IntKind.i64.wrap (1 * v2)<IntKind.i64.wrap v9) v9 v5 n7 v23) v23 (z.i 2) v27 d7 (z.i 1) (z.g 20))))) (.an (¬o8) (.an v21 (.at (tJ (uG ((0:Int)<=IntKind.i64.wrap n7/\IntKind.i64.wrap n7<IntKind.i64.wrap v9) v9 v5 (eI n7) v23) v23 (z.i 2) (eI v27) d7 (z.i 1) (z.g 20)))))) (.an v21 (.at ((uG (0<=z.i 1/\z.i 1<IntKind.i64.wrap (1 * v2)) (1 * v2) v5 (z.i 1) v32)/\v32.toNat<(z.i 2).toNat/\∀(y:Sy),tI (z.i 1) (eI v33) d7 (y.g 20)->tI (z.i 1) (z.i 2) (z.g 20) (y.g 20)))))))))))) (.an (jb (z.g 20)) (.at (tI (z.i 1) (z.i 2) (z.g 20) (z.g 20)))))) by
 dsimp only [B3,Ze] at hA;have:=@D5 (z.i 2) ((z.i 2-1)%18446744073709551616) rfl;have:=@mM (z.i 2);have:=@Ox (z.i 1) (z.i 2) (1 * (↑(2 ^ Min.min (dA ((z.i 2-1)%18446744073709551616)-1).toNat (bh Go.IntKind.i64)):Int));have:=(λe=>λr h hk=>@Ow (z.i 1) (z.i 2) e (z.g 20) r (e<=z.i 1) h hk Iff.rfl) (1 * (↑(2 ^ Min.min (dA ((z.i 2-1)%18446744073709551616)-1).toNat (bh Go.IntKind.i64)):Int))
 have:=@SO (z.i 1) (z.i 2) (z.g 20);exact gC
def JR:bH 141 2 B4:=bG 5 41 eN lN λp z hA=>show Fm.den (let v0:=(sT (pI (gI (aQ (aL (z.g 20) (z.i 1)))=1)));let v1:=((z.g 20).set (z.i 1).toNat (sT (pI (gI (aQ (aL (z.g 20) (z.i 2)))=1))));let v2:=(((z.g 20).set (z.i 1).toNat (sT (pI (gI (aQ (aL (z.g 20) (z.i 2)))=(1:Int))))).set (z.i 2).toNat v0);let v3:=(bS (z.i 2) (z.g 20));let v4:=(bS (z.i 1) (z.g 20));(.two (z.i 1<z.i 2) (.an v3 (.an (eB (z.i 2) (z.g 20)) (.an v4 (.an (eB (z.i 1) (z.g 20)) (.an v4 (.an (uA (z.i 1) (z.g 20)) (.an v3 (.an ((z.i 2).toNat<v1.length/\True) (.an ((-9223372036854775808)<=z.i 1+1/\z.i 1+1<=9223372036854775807) (.an ((-9223372036854775808)<=z.i 2-1/\z.i 2-1<=9223372036854775807) (.an (v2.length=(z.g 20).length/\True) (.at (((0<=z.i 1+1/\z.i 1+1<=z.i 2-1+1)/\z.i 1+1+(z.i 2-1)+1=(↑(v1.set (z.i 2).toNat v0).length:Int)/\v2.length<=1000)/\(z.i 2-1-(z.i 1+1)).toNat<(z.i 2-z.i 1).toNat/\∀(y:Sy),OA (z.i 1+1) (z.i 2-1) (v1.set (z.i 2).toNat v0) (y.g 20)->OA (z.i 1) (z.i 2) (z.g 20) (y.g 20)))))))))))))) (.an (jb (z.g 20)) (.at (OA (z.i 1) (z.i 2) (z.g 20) (z.g 20)))))) by dsimp only [B4,Ze] at hA;have:=@SR (z.i 1) (z.i 2) (z.g 20);have:=@OB (z.i 1) (z.i 2) (z.g 20);exact gC
def SV:bj 141 OC:=bB 3 1 eN (aG (ptm:=[]) JQ (aG (ptm:=[]) JR lN)) λz hA=>show Fm.den ((.cl ((nW)) ((0<=z.i 1/\z.i 1<z.i 2)/\z.i 2<=1099511627776/\0+oN (z.i 1) (z.i 2)<=1000) (λy0=>tI (z.i 1) (z.i 2) [] (y0.g 20)) λy0=>(let v0:=(↑(y0.g 20).length:Int);let v1:=((jb (y0.g 20)));(.two ((-9223372036854775808)<=v0-1/\v0-1<=9223372036854775807) (.cl v1 (((0:Int)<=0/\0<=v0-1+1)/\0+(v0-1)+1=v0/\(y0.g 20).length<=1000) (λy1=>OA 0 (v0-1) (y0.g 20) (y1.g 20)) λy1=>(.an (jb (y1.g 20)) (.at (rg (y1.g 20)=(cF (z.i 1) (z.i 2)).reverse/\(y1.g 20).length=oN (z.i 1) (z.i 2))))) (.cl v1 (((0:Int)<=0/\0<=IntKind.i64.wrap (v0-1)+1)/\0+IntKind.i64.wrap (v0-1)+1=v0/\(y0.g 20).length<=1000) (λy2=>OA 0 (eI (v0-1)) (y0.g 20) (y2.g 20)) λy2=>(.an (jb (y2.g 20)) (.at (rg (y2.g 20)=(cF (z.i 1) (z.i 2)).reverse/\(y2.g 20).length=oN (z.i 1) (z.i 2))))))))) by dsimp only [OC] at hA;have:=@SS (z.i 1) (z.i 2);have:=@G0 (z.i 1) (z.i 2) [];have:=@yz (z.i 1) (z.i 2);exact gC
def Vy:bj 73 Stwo:=bB 1 0 (jX sV eN) lN λz hA=>show Fm.den (let v0:=((1:Int)::(kq z 100++kq z 200));(.an (bp v0) (.an (65=65) (.ct (65<=1000000000) (λy0=>True) λy0=>(.an (bp v0/\True) (.at (aI v0=1::(hB (hT z 100)++hB (hT z 200))/\hG (eM (aI v0))=bD (hT z 100) (hT z 200)))))))) by
 have hB:True/\HOk (hT z 100)/\HOk (hT z 200):=⟨trivial,hA⟩
 conv=>zeta
 repeat' with_reducible first|intro _|apply cd|apply ck|apply cg|apply cE|apply cr
 all_goals first|omega|((try simp only [←fj,cq,dK,bq,dr,cJ,dL,Dz,DA,DB,List.cons_append,List.nil_append,List.append_assoc,qe,mc,jJ,List.length_append,List.length_cons,List.length_nil,bQ,jH,jI,cy,fk]) <;> (repeat' first|rfl|trivial|refine And.intro ?_ ?_) <;> first|omega|exact aJ hB.2.1|exact aJ hB.2.2|exact aJ (by assumption)|exact dS (by assumption))|grind [ao,ak,aj,aT,aU,aV,aW,aX,aY,aZ,a_,ba,aC]
def D6:bH 71 0 wy:=bG 7 549 (ai Vy eN) lN λp z hA=>show Fm.den (let v0:=(hX (aQ (aL (p.g 3) (z.i 9))));let v1:=(↑(p.g 4).length:Int);let v2:=(ot (z.g 30));let v3:=((-9223372036854775808)<=z.i 9+1/\z.i 9+1<=9223372036854775807);let v4:=(hT z 100);let v5:=(dF (z.i 9) (p.g 4));let v6:=(bS (z.i 9) (p.g 3));let v7:=(z.i 9+1);(.two (bO (z.i 9) (p.g 4)) (.an (bS (z.i 9) (p.g 4)) (.an v6 (.ct (HOk v4/\HOk v0) (λy0=>y0.s 10=1::(hB v4++hB v0)/\hT y0 300=bD v4 v0) λy0=>(let v8:=(z.g 30++ [G.node [G.str (y0.s 10),hT y0 300]]);(.two (gI (aQ (aL (p.g 4) (z.i 9)))=1) (.an v6 (.ct (HOk v0/\HOk v4) (λy1=>y1.s 10=1::(hB v0++hB v4)/\hT y1 300=bD v0 v4) λy1=>(let v9:=(z.g 30++ [G.node [G.str (y1.s 10),hT y1 300]]);(.an v2 (.an v3 (.an (v9.length=(z.g 30).length+1/\p.g 3=p.g 3/\v1=v1/\p.g 4=p.g 4/\True) (.at ((HOk (hT y1 300)/\RowsOk (p.g 3)/\v5/\(p.g 4).length=(p.g 3).length/\(p.g 4).length<=1000/\(↑v9.length:Int)<=z.i 9+1)/\(v1-v7).toNat<(v1-z.i 9).toNat/\∀(y:Sy),yA v7 (hT y1 300) (p.g 4) (p.g 3) v9 (y.g 30)->yA (z.i 9) v4 (p.g 4) (p.g 3) (z.g 30) (y.g 30))))))))) (.an v2 (.an v3 (.an (v8.length=(z.g 30).length+1/\p.g 3=p.g 3/\v1=v1/\p.g 4=p.g 4/\True) (.at ((HOk (hT y0 300)/\RowsOk (p.g 3)/\v5/\(p.g 4).length=(p.g 3).length/\(p.g 4).length<=1000/\(↑v8.length:Int)<=z.i 9+1)/\(v1-v7).toNat<(v1-z.i 9).toNat/\∀(y:Sy),yA v7 (hT y0 300) (p.g 4) (p.g 3) v8 (y.g 30)->yA (z.i 9) v4 (p.g 4) (p.g 3) (z.g 30) (y.g 30))))))))))) (.an ((z.g 30).length=(z.g 30).length/\p.g 3=p.g 3/\True) (.at (yA (z.i 9) v4 (p.g 4) (p.g 3) (z.g 30) (z.g 30)))))) by
 dsimp only [wy,clB,hs] at hA;have:=λh h0 hi=>@RowsOk.at (p.g 3) h (z.i 9) h0 hi;have:=@ST (z.i 9) (hT z 100) (p.g 4) (p.g 3) (z.g 30);have:=λr h0 hi hp=>@OD (z.i 9) (hT z 100) (hX (aa (aq (p.g 3) (z.i 9).toNat) 0)) (p.g 4) (p.g 3) (z.g 30) r h0 hi hp rfl;conv=>zeta
 repeat' with_reducible first|intro _|apply cd|apply ck|apply cg|apply cE|apply cr
 all_goals first|omega|grind [ao,ak,aj,aT,aU,aV,aW,aX,aY,aZ,a_,ba,aC,co]
def OF:bj 71 G2:=bB 9 4369 (ai SV eN) (aG (ptm:=[(3,.ag [.v 6 3]),(35,.c (.v 4 4))]) D6 lN) λz hA=>show Fm.den (let v0:=((false=true↔jf (z.i 1) (z.i 2) (z.g 3))/\0<=40/\(jf (z.i 1) (z.i 2) (z.g 3)-> []=je (hT z 100) (cF (z.i 1) (z.i 2)).reverse (z.g 3)));(.two (z.i 1<0) (.ax v0) (.two (z.i 2<=z.i 1) (.ax v0) (.two (1099511627776<z.i 2) (.ax v0) (.ct ((0<=z.i 1/\z.i 1<z.i 2)/\z.i 2<=1099511627776) (λy0=>rg (y0.g 10)=(cF (z.i 1) (z.i 2)).reverse/\(y0.g 10).length=oN (z.i 1) (z.i 2)) λy0=>(let v1:=(↑(y0.g 10).length:Int);(.two (v1≠(↑(z.g 3).length:Int)) (.ax v0) (.cl ((0=0/\z.g 3=z.g 3/\v1=v1/\y0.g 10=y0.g 10/\True)) (HOk (hT z 100)/\RowsOk (z.g 3)/\(fL v1)/\(y0.g 10).length=(z.g 3).length/\(y0.g 10).length<=1000/\(↑0:Int)<=0) (λy1=>yA 0 (hT z 100) (y0.g 10) (z.g 3) [] (y1.g 30)) λy1=>(.an (jb (y1.g 30)) (.at ((true=true↔jf (z.i 1) (z.i 2) (z.g 3))/\(y1.g 30).length<=40/\(jf (z.i 1) (z.i 2) (z.g 3)->y1.g 30=je (hT z 100) (cF (z.i 1) (z.i 2)).reverse (z.g 3))))))))))))) by dsimp only [G2,hs] at hA;have:=λS r hc hs=>@XM (z.i 1) (z.i 2) (hT z 100) S (z.g 3) r hc hs;have:=λS r hc=>@SU (hT z 100) S (z.g 3) r hc;have:=@yz (z.i 1) (z.i 2);exact gC
noncomputable section
def hsR:Nat->Nat->List Sh
 |0,_=>[]
 |n+1,t=>.i .u8 t::hsR n (t+1)
def wz:Nat->List Int->List (Nat×Tm)->List (Nat×Tm)
 |_,[],l=>l
 |t,n::ns,l=>wz (t+1) ns ((t,.i n)::l)
def B6{H:T ABlk}:∀(ns:List Int) (avs:List AV) (s s':PS),iR H [] (ns.map λn=>.pi .u8 n) avs s=some s'->s'.pr->cM (λa n=>cw a=some (.u8,n)) avs ns/\s.pr/\s'.tm=s.tm/\s'.loc=s.loc/\s'.ln=s.ln/\s'.fz=s.fz
 | [],[],s,s',h,hp=>by injection h with h;subst h;exact⟨trivial,hp,rfl,rfl,rfl,rfl⟩
 | [],_::_,s,s',h,hp=>by cases h
 |n::ns,[],s,s',h,hp=>by cases h
 |n::ns,a::avs,s,s',h,hp=>by
  obtain⟨s1,h1,h2⟩:=az (show bx (nK H [] (.pi .u8 n) a s) (λs=>iR H [] (ns.map λn=>.pi .u8 n) avs s)=some s' from h);obtain⟨q1,q2,q3,q4,q5,q6⟩:=B6 ns avs s1 s' h2 hp;have h1:(match cw a with|some (k',n')=>ac (decide (IntKind.u8=k')) (s.must (n'=n)) none|none=>none)=some s1:=h1;split at h1
  ·rename_i k' n' hn
   obtain⟨hk,h1⟩:=bc h1
   have hk:=of_decide_eq_true hk
   injection h1 with h1
   subst h1
   cases s with
   |mk tm loc ln pr fz=>
   obtain⟨e,hpr⟩:n'=n/\pr:=q2
   subst hk;subst e
   exact⟨⟨hn,q1⟩,hpr,q3,q4,q5,q6⟩
  ·cases h1
def wA{H:T ABlk}:∀(ns:List Int) (avs:List AV) (t:Nat) (tm:List (Nat×Tm)),cM (λa n=>cw a=some (.u8,n)) avs ns->(∀j,t<=j->bC j tm=none)->iR H [] (hsR ns.length t) avs ⟨tm,[],[],True,[]⟩=some ⟨wz t ns tm,[],[],True,[]⟩
 | [],[],t,tm,h,hf=>rfl
 |n::ns,a::avs,t,tm,⟨h1,h2⟩,hf=>by
  have ht:bC t tm=none:=hf t (aac _);have e:nK H [] (.i .u8 t) a ⟨tm,[],[],True,[]⟩=some ⟨(t,.i n)::tm,[],[],True,[]⟩:=by show(match cw a with|some (k',n)=>ac (decide (IntKind.u8=k')) (PS.add ⟨tm,[],[],True,[]⟩ t (.i n)) none|none=>none)=_;rw[h1];show PS.add ⟨tm,[],[],True,[]⟩ t (.i n)=_;unfold PS.add;simp only [ht]
  show bx (nK H [] (.i .u8 t) a ⟨tm,[],[],True,[]⟩) (λs=>iR H [] (hsR ns.length (t+1)) avs s)=_;rw[e];exact wA ns avs (t+1) _ h2 λj hj=>by rw[dk,if_neg (by show ¬t=j;omega)];exact hf j (by omega)
 | [],_::_,_,_,h,_=>h.elim
 |_::_,[],_,_,h,_=>h.elim
def Vz:FSpec:=⟨[.c (.vb 1)],[],λz=>(z.s 1).length<=1000000000,λz=>.one (.ag (hs 300)),λ_=>[],λz y=>hT y 300=ci (z.s 1),none⟩
def Zg(v:V8):List Int:=(List.range 32).map (hb v)
def tm_hT(v:V8):hT (aN (wz 300 (Zg v) [])) 300=hG v:=by rfl
def XN(h:Ok Tryz.prog 69 W1):Ok Tryz.prog 69 Vz:=by
 obtain⟨zf,h⟩:=h
 refine⟨λz=>⟨aN (wz 300 (Zg (eM (z.s 1))) []),λ_=>show hT (aN (wz 300 (Zg (eM (z.s 1))) [])) 300=ci (z.s 1) by rw[tm_hT];unfold ci;rfl⟩,λz hz w ρ vs hG hl=>?_⟩
 obtain⟨h1,h2⟩:=h z hz w ρ vs hG hl
 refine⟨h1,h2.mono λe w' he=>?_⟩
 obtain⟨v,ρ',H',a,s,e1,e2,e3,e4,e5,e6,e7⟩:=he
 obtain⟨s1,q1,q2⟩:=az e5
 obtain⟨s2,r2,q3⟩:=az q2
 obtain⟨s3,r3,q4⟩:=az q3
 obtain⟨s4,r4,q5⟩:=az q4
 obtain⟨_,q6⟩:=bc q5
 obtain⟨_,q7⟩:=bc q6
 injection q7 with q7
 subst q7
 have hp:s1.pr:=((qN r2).1.trans ((qO (ρ:=ρ') r3).1.trans (d_ r4).1)).pr e6
 clear q2 q3 q4 q5 q6 r2 r3 r4 e5 e6 e7
 cases a with
 |agg avs=>obtain⟨p1,_⟩:=B6 (Zg (eM (z.s 1))) avs ji s1 q1 hp;have p2:=wA (H:=H') (Zg (eM (z.s 1))) avs 300 [] p1 (λ_ _=>rfl);refine⟨v,ρ',H',.agg avs,⟨wz 300 (Zg (eM (z.s 1))) [],[],[],True,[]⟩,e1,e2,e3,e4, ?_,trivial,rfl⟩;have p2:AF H' [] (.one (.ag (hs 300))) (.agg avs) ji=_:=p2;show bx (AF H' [] (.one (.ag (hs 300))) (.agg avs) ji) _=_;rw[p2];rfl
 |_=>cases q1
def QS(l:List G):G:=hX (aa (aq l ((l.length:Int)-1).toNat) 1)
def yC(l:List G)(r:G)(m:List G):QS (l++(r::m))=QS (r::m):=by unfold QS aq;rw[aag,aag];congr 3;rw[aaA (by simp;omega)];congr 1;simp;omega
def yD(b:List Nat){h:G}(hh:HOk h):QS [.node [.str b,h]]=h:=cI hh
def G3(s:Prop)(h x:G):HOk (j2 s h x):=by
 unfold j2;split
 ·exact co _ _
 ·exact co _ _
def OG:∀(ss:List Prop) (ps:List G) (h:G) (b:List Nat),HOk h->QS (.node [.str b,h]::je h ss ps)=uF h ss ps
 | [],_,h,b,hh=>by simp only [je,uF];exact yD b hh
 |_::_,[],h,b,hh=>by simp only [je,uF];exact yD b hh
 |s::ss,r::ps,h,b,hh=>by simp only [je,uF];rw[←OG ss ps _ (jB s h (hX (aa r 0))) (G3 _ _ _)];exact yC [_] _ _
def wB(h:G)(i n:Int)(p:List G):G:=(gQ h i n p).1
theorem tK{h:G}{i n:Int}{p:List G}(hh:HOk h):HOk (wB h i n p):=by
 have key:∀(m:Nat) (i n:Int) (p:List G),n.toNat<=m->HOk (gQ h i n p).1:=by
  intro m
  induction m with
  |zero=>intro i n p hm;rw[lH (by omega)];exact hh
  |succ m ih=>
   intro i n p hm;by_cases h2:2<=n
   ·by_cases hp:p.length=0
    ·rw[yi h2 hp];exact fy
    ·by_cases hi:i<(bN n.toNat:Nat)
     ·rw[yj h2 hp hi];exact co _ _
     ·rw[yl h2 hp hi];exact co _ _
   ·rw[lH h2];exact hh
 exact key _ _ _ _ (aac _)
def tL{h:G}{i n:Int}{p:List G}(hc:jf i n p):wB h i n p=uF h (cF i n).reverse p:=by unfold jf oN at hc;exact(Ov _ h i n p (aac _)).2 hc.2.2
def VA{h:G}{i n:Int}{p:List G}:(gQ h i n p).2↔p.length=oN i n:=by unfold oN;exact(Ov _ h i n p (aac _)).1
def OH{h:G}{i n:Int}{p:List G}(l:List G)(b:List Nat)(hc:jf i n p)(hh:HOk h):QS (l++(.node [.str b,h]::je h (cF i n).reverse p))=wB h i n p:=by rw[yC,OG _ _ _ _ hh,tL hc]
def B7(lh:G)(ae c:Int)(ip:List G):G:=dz (wB lh ae c ip) (aH c.toNat)
def tM(lh hd:G)(ae c:Int)(ip:List G):G:=bD hd (B7 lh ae c ip)
def cP(er:Int)(lh hd:G)(ab ae c n:Int)(ip op:List G)(r:G):Prop:=er=0/\(1<=c/\c<=200)/\jf ae c ip/\jf ab n op/\wB (tM lh hd ae c ip) ab n op=r
def JS(er:Int)(ab ae c n:Int)(ip op:List G):Prop:=er=0/\(1<=c/\c<=200)/\jf ae c ip/\jf ab n op
def qm(e:List Nat)(lh hd:G)(ab ae c n:Int)(ip op:List G):List G:=
 [.node [.str (0::e),lh]]++je lh (cF ae c).reverse ip++ [.node [.str (2::(hB (wB lh ae c ip)++aH c.toNat)),B7 lh ae c ip]]++ [.node [.str (1::(hB hd++hB (B7 lh ae c ip))),tM lh hd ae c ip]]++je (tM lh hd ae c ip) (cF ab n).reverse op
def lI(er:Int)(ab ae c n:Int)(ip op:List G):JS er ab ae c n ip op↔er=0/\(1<=c/\c<=200)/\jf ae c ip/\jf ab n op:=Iff.rfl
def fE(er:Int)(lh hd:G)(ab ae c n:Int)(ip op:List G)(r:G):cP er lh hd ab ae c n ip op r↔JS er ab ae c n ip op/\wB (tM lh hd ae c ip) ab n op=r:=⟨λ⟨a,b,c,d,e⟩=>⟨⟨a,b,c,d⟩,e⟩,λ⟨⟨a,b,c,d⟩,e⟩=>⟨a,b,c,d,e⟩⟩
def lc(e:List Nat)(lh hd:G)(ab ae c n:Int)(ip op:List G):qm e lh hd ab ae c n ip op=
 [.node [.str (0::e),lh]]++je lh (cF ae c).reverse ip++ [.node [.str (2::(hB (wB lh ae c ip)++aH c.toNat)),B7 lh ae c ip]]++ [.node [.str (1::(hB hd++hB (B7 lh ae c ip))),tM lh hd ae c ip]]++je (tM lh hd ae c ip) (cF ab n).reverse op:=rfl
def yE(lh:G)(ae c:Int)(ip:List G):B7 lh ae c ip=dz (wB lh ae c ip) (aH c.toNat):=rfl
def yF(lh hd:G)(ae c:Int)(ip:List G):tM lh hd ae c ip=bD hd (B7 lh ae c ip):=rfl
theorem mQ(lh hd:G)(ae c:Int)(ip:List G):HOk (tM lh hd ae c ip):=co _ _
theorem pG(lh:G)(ae c:Int)(ip:List G):HOk (B7 lh ae c ip):=i_ _ _
def B9{er:Int}{e:List Nat}{lh hd:G}{ab ae c n:Int}{ip op:List G}(h:JS er ab ae c n ip op):QS (qm e lh hd ab ae c n ip op)=wB (tM lh hd ae c ip) ab n op/\3<=(qm e lh hd ab ae c n ip op).length/\(qm e lh hd ab ae c n ip op).length<=100:=by
 obtain⟨_,hc,h1,h2⟩:=h;refine⟨?_, ?_, ?_⟩
 ·rw[lc,aaw,abE];exact OH _ _ h2 (mQ _ _ _ _ _)
 ·rw[lc];simp only [aai,aaI];omega
 ·have a1:=yz (i:=ae) (n:=c) h1.2.1;have a2:=yz (i:=ab) (n:=n) h2.2.1;have b1:=h1.2.2;have b2:=h2.2.2;rw[lc];simp only [aai,aaI,yB];omega
def ls_a{b:List Nat}{h:G}{r:List G}{i n:Int}{p:List G}(hh:HOk h)(hc:jf i n p)(hr:r=je h (cF i n).reverse p):hX (aa (aq ([.node [.str b,h]]++r) (((1+r.length:Nat):Int)-1).toNat) 1)=wB h i n p:=by have:=OH (h:=h) (i:=i) (n:=n) (p:=p) [] b hc hh;rw[aa6, ←hr] at this;rw[←this];unfold QS;simp only [abE,aat,Nat.add_comm]
def ls_c{A:List G}{s:List Nat}{h:G}{m:Nat}(hh:HOk h)(hl:A.length=m):hX (aa (aq (A++ [.node [.str s,h]]) (((m+1:Nat):Int)-1).toNat) 1)=h:=by
 have:=yC A (.node [.str s,h]) [];rw[yD s hh] at this;conv=>rhs;rw[←this]
 unfold QS;rw[aai,hl];rfl
def XO{g a:G}{s:List Nat}(hg:HOk (hX g))(ha:hX g=a):ci (aI (2::Js g)++s)=dz a s/\aI (2::Js g)++s=2::(hB a++s)/\bp (2::Js g):=by
 have e:aI (2::Js g)++s=2::(hB a++s):=by rw[cq,dr,ha];rfl
 refine⟨?_,e, ?_⟩
 ·rw[e];exact(mH _).symm.trans (jJ a s)
 ·rw[cJ];exact⟨by decide,dS hg⟩
theorem tn33(g:G)(s:List Nat):(aI (2::Js g)++s).length=33+s.length:=by rw[cq,dr];simp only [aai,aat,fk]
def VB(s:List Nat):ci (0::s)=aA s:=(mH _).symm.trans (qe s)
def rv:List Sh:=[.i .i64 61,.i .i64 62]++en++hs 400++ [.v 6 63]++ [.i .i64 64]++ [.v 6 65]
def dg(t u:Nat):List Sh:=[.i .i64 t]++hs u
def yG(z:Sy):Prop:=wi z/\HOk (hT z 400)/\RowsOk (z.g 63)/\(z.g 63).length<=1000000/\RowsOk (z.g 65)/\(z.g 65).length<=1000000
def OI:FSpec:=⟨[.ag rv,.c (.i .i64 66)],[],yG,λ_=>.tu [.c (.v 15 30),.c (.b 40)],λ_=>[],λz y=>(y.p 40↔JS (ul z) (z.i 61) (z.i 62) (z.i 64) (z.i 66) (z.g 63) (z.g 65))/\(y.p 40->y.g 30=qm (pD z) (aA (pD z)) (hT z 400) (z.i 61) (z.i 62) (z.i 64) (z.i 66) (z.g 63) (z.g 65)),none⟩
attribute [irreducible] JS cP qm B7 tM wB
def G4:FSpec:=⟨[.ag rv,.ag (dg 66 500)],[],λz=>yG z/\HOk (hT z 500),λ_=>.one (.c (.b 40)),λ_=>[],λz y=>y.p 40↔cP (ul z) (aA (pD z)) (hT z 400) (z.i 61) (z.i 62) (z.i 64) (z.i 66) (z.g 63) (z.g 65) (hT z 500),none⟩
end
def XP:bj 69 Vz:=XN sV
def G5:bj 31 OI:=bB 12 2756881 (ai JP (jX XP (ai OF (ai gf (ai Vy eN))))) lN λz hA=>show Fm.den (let v2:=(hT z 100);let v1:=(cu (z.i 1) (z.s 2) (z.i 3) (z.i 4) (z.i 5) v2 (z.i 13) (z.i 14));let v3:=(hT z 400);let v0:=((false=true↔JS (cR (z.i 1) (z.s 2) (z.i 3) (z.i 4) (z.i 5) (z.i 6) (z.i 7) (z.i 8) (z.s 9) (z.g 10) (z.g 11) v2 (z.p 12) (z.i 13) (z.i 14)) (z.i 61) (z.i 62) (z.i 64) (z.i 66) (z.g 63) (z.g 65))/\(false=true-> []=qm v1 (aA v1) v3 (z.i 61) (z.i 62) (z.i 64) (z.i 66) (z.g 63) (z.g 65)));(.ct (mX (z.s 2) (z.i 3) (z.i 4) (z.i 5) (z.i 7) (z.s 9) (z.g 10) (z.g 11) v2 (z.i 13) (z.i 14)) (λy0=>(y0.p 40↔cR (z.i 1) (z.s 2) (z.i 3) (z.i 4) (z.i 5) (z.i 6) (z.i 7) (z.i 8) (z.s 9) (z.g 10) (z.g 11) v2 (z.p 12) (z.i 13) (z.i 14)=(0:Int))/\(cR (z.i 1) (z.s 2) (z.i 3) (z.i 4) (z.i 5) (z.i 6) (z.i 7) (z.i 8) (z.s 9) (z.g 10) (z.g 11) v2 (z.p 12) (z.i 13) (z.i 14)=(0:Int)->y0.s 30=0::cu (z.i 1) (z.s 2) (z.i 3) (z.i 4) (z.i 5) v2 (z.i 13) (z.i 14))) λy0=>(.two (¬y0.p 40) (.ax v0) (.two (z.i 64<1) (.ax v0) (.two (200<z.i 64) (.ax v0) (.ct (qf (y0.s 30)) (λy1=>hT y1 300=ci (y0.s 30)) λy1=>(.ct (HOk (hT y1 300)/\(z.g 63).length<=1000000/\RowsOk (z.g 63)) (λy2=>(y2.p 40↔jf (z.i 62) (z.i 64) (z.g 63))/\(y2.g 30).length<=40/\(jf (z.i 62) (z.i 64) (z.g 63)->y2.g 30=je (hT y1 300) (cF (z.i 62) (z.i 64)).reverse (z.g 63))) λy2=>(let v5:=(↑(1+(y2.g 30).length+1):Int);let v6:=(↑(1+(y2.g 30).length+1+1):Int);let v7:=(↑(1+(y2.g 30).length):Int);let v8:=([G.node [G.str (y0.s 30),hT y1 300]]++y2.g 30);let v4:=(2::Js (aa (aL v8 (v7-1)) 1));(.two (¬y2.p 40) (.ax v0) (.an (1=1) (.an (1=1/\1<=1000000000/\(y2.g 30).length<=1000000) (.an ((-9223372036854775808)<=v7-1/\v7-1<=9223372036854775807) (.an (yq v7) (.an (eB (v7-1) v8) (uj (z.i 64) (z.i 64%18446744073709551616) λy3=>(let v9:=(aI v4++y3.s 10);let v10:=(v9.length=33+(y3.s 10).length);(.an (bp v4) (.an (33=33) (.an (M6 (y3.s 10)) (.an v10 (.ct (qf v9) (λy4=>hT y4 300=ci v9) λy4=>(let v11:=([G.node [G.str (y0.s 30),hT y1 300]]++y2.g 30++ [G.node [G.str v9,hT y4 300]]);let d7:=(hX (aa (aL v11 (v5-1)) 1));(.an v10 (.an (v8.length=1+(y2.g 30).length/\1+(y2.g 30).length<=1000000000/\True) (.an ((-9223372036854775808)<=v5-1/\v5-1<=9223372036854775807) (.an (yq v5) (.an (eB (v5-1) v11) (.ct (HOk v3/\HOk d7) (λy5=>y5.s 10=1::(hB v3++hB d7)/\hT y5 300=bD v3 d7) λy5=>(let i9:=([G.node [G.str (y0.s 30),hT y1 300]]++y2.g 30++ [G.node [G.str v9,hT y4 300]]++ [G.node [G.str (y5.s 10),hT y5 300]]);let j8:=(hX (aa (aL i9 (v6-1)) 1));(.an (v11.length=1+(y2.g 30).length+1/\1+(y2.g 30).length+1<=1000000000/\True) (.an ((-9223372036854775808)<=v6-1/\v6-1<=9223372036854775807) (.an (yq v6) (.an (eB (v6-1) i9) (.ct (HOk j8/\(z.g 65).length<=1000000/\RowsOk (z.g 65)) (λy6=>(y6.p 40↔jf (z.i 61) (z.i 66) (z.g 65))/\(y6.g 30).length<=40/\(jf (z.i 61) (z.i 66) (z.g 65)->y6.g 30=je j8 (cF (z.i 61) (z.i 66)).reverse (z.g 65))) λy6=>(.an (i9.length=1+(y2.g 30).length+1+1/\1+(y2.g 30).length+1+1<=1000000000/\(y6.g 30).length<=1000000) (.an (([G.node [G.str (y0.s 30),hT y1 300]]++y2.g 30++ [G.node [G.str v9,hT y4 300]]++ [G.node [G.str (y5.s 10),hT y5 300]]++y6.g 30).length=1+(y2.g 30).length+1+1+(y6.g 30).length/\True) (.at ((y6.p 40↔JS (cR (z.i 1) (z.s 2) (z.i 3) (z.i 4) (z.i 5) (z.i 6) (z.i 7) (z.i 8) (z.s 9) (z.g 10) (z.g 11) v2 (z.p 12) (z.i 13) (z.i 14)) (z.i 61) (z.i 62) (z.i 64) (z.i 66) (z.g 63) (z.g 65))/\(y6.p 40-> [G.node [G.str (y0.s 30),hT y1 300]]++y2.g 30++ [G.node [G.str v9,hT y4 300]]++ [G.node [G.str (y5.s 10),hT y5 300]]++y6.g 30=qm v1 (aA v1) v3 (z.i 61) (z.i 62) (z.i 64) (z.i 66) (z.g 63) (z.g 65)))))))))))))))))))))))))))))))))))))))) by
 dsimp only [OI,rv,en,hs,yG,wi,ul,pD] at hA;have:=br 0 0 0 [] [] [];have:=br (z.i 6) (z.i 7) (z.i 8) (z.s 9) (z.g 10) (z.g 11);have:=@cO (z.s 2) (z.i 3) (z.i 4) (z.i 5) (z.i 7) (z.s 9) (z.g 10) (z.g 11) (hT z 100) (z.i 13) (z.i 14);have:=@fA (z.i 1) (z.s 2) (z.i 3) (z.i 4) (z.i 5) (z.i 6) (z.i 7) (z.i 8) (z.s 9) (z.g 10) (z.g 11) (hT z 100) (z.p 12) (z.i 13) (z.i 14);have:=@fB (z.i 1) (z.s 2) (z.i 3) (z.i 4) (z.i 5) (z.i 6) (z.i 7) (z.i 8) (z.s 9) (z.g 10) (z.g 11) (hT z 100) (z.p 12) (z.i 13) (z.i 14);have:=@ig (z.i 1) (z.s 2) (z.i 3) (z.i 4) (z.i 5) (z.i 6) (z.i 7) (z.i 8) (z.s 9) (z.g 10) (z.g 11) (hT z 100) (z.p 12) (z.i 13) (z.i 14);have:=@jK (z.i 1) (z.s 2) (z.i 3) (z.i 4) (z.i 5) (z.i 6) (z.i 7) (z.i 8) (z.s 9) (z.g 10) (z.g 11) (hT z 100) (z.p 12) (z.i 13) (z.i 14);have:=@kU (z.i 1) (z.s 2) (z.i 3) (z.i 4) (z.i 5) (z.i 6) (z.i 7) (z.i 8) (z.s 9) (z.g 10) (z.g 11) (hT z 100) (z.p 12) (z.i 13) (z.i 14);have:=@da (z.i 1) (z.s 2) (z.i 3) (z.i 4) (z.i 5) (z.i 6) (z.i 7) (z.i 8) (z.s 9) (z.g 10) (z.g 11) (hT z 100) (z.p 12) (z.i 13) (z.i 14);have:=@iA (z.i 1) (z.s 2) (z.i 3) (z.i 4) (z.i 5) (mK z) (hT z 100=hZ) (z.p 12) (z.i 13) (z.i 14);have:=@fZ (z.i 1) (z.s 2) (z.i 3) (z.i 4) (z.i 5) (hT z 100) (z.i 13) (z.i 14);have:=lI (cR (z.i 1) (z.s 2) (z.i 3) (z.i 4) (z.i 5) (z.i 6) (z.i 7) (z.i 8) (z.s 9) (z.g 10) (z.g 11) (hT z 100) (z.p 12) (z.i 13) (z.i 14)) (z.i 61) (z.i 62) (z.i 64) (z.i 66) (z.g 63) (z.g 65);have:=(λe=>lc e (aA e) (hT z 400) (z.i 61) (z.i 62) (z.i 64) (z.i 66) (z.g 63) (z.g 65)) (cu (z.i 1) (z.s 2) (z.i 3) (z.i 4) (z.i 5) (hT z 100) (z.i 13) (z.i 14))
 have:=VB (cu (z.i 1) (z.s 2) (z.i 3) (z.i 4) (z.i 5) (hT z 100) (z.i 13) (z.i 14));have:=yE (aA (cu (z.i 1) (z.s 2) (z.i 3) (z.i 4) (z.i 5) (hT z 100) (z.i 13) (z.i 14))) (z.i 62) (z.i 64) (z.g 63);have:=yF (aA (cu (z.i 1) (z.s 2) (z.i 3) (z.i 4) (z.i 5) (hT z 100) (z.i 13) (z.i 14))) (hT z 400) (z.i 62) (z.i 64) (z.g 63);have:=λb h r hh hc hr=>@ls_a b h r (z.i 62) (z.i 64) (z.g 63) hh hc hr;have:=@ls_c;have:=λg a s hg ha=>(@XO g a s hg ha).1;have:=λg a s hg ha=>(@XO g a s hg ha).2.1;have:=λg a hg ha=>(@XO g a [] hg ha).2.2;have m1:1<=z.i 64->z.i 64<=200->z.i 64%18446744073709551616=z.i 64:=λa b=>by omega
 conv=>zeta
 repeat' with_reducible first|intro _|apply cd|apply ck|apply cg|apply cE|apply cr
 all_goals first|omega|grind [ao,ak,aj,aT,aU,aV,aW,aX,aY,aZ,a_,ba,aC,cm,bM,tK,i_,pG,co,tn33,List.length_append,List.length_cons,List.length_nil]
abbrev D7(a:List Nat)(b c d e:Int)(f:List Nat)(g h:List G)(i:G)(j k:Int)(l:G)(m n:List G):=mX a b c d e f g h i j k/\HOk l/\RowsOk m/\m.length<=1000000/\RowsOk n/\n.length<=1000000
def OJ:bj 30 G4:=bB 32 4611682353355073961 (ai G5 eN) lN λz hA=>show Fm.den (let v0:=(cR (z.i 1) (z.s 2) (z.i 3) (z.i 4) (z.i 5) (z.i 6) (z.i 7) (z.i 8) (z.s 9) (z.g 10) (z.g 11) (hT z 100) (z.p 12) (z.i 13) (z.i 14));let v1:=(cu (z.i 1) (z.s 2) (z.i 3) (z.i 4) (z.i 5) (hT z 100) (z.i 13) (z.i 14));let v2:=(hT z 400);let v3:=(hT z 500);let v4:=(aA v1);(.ct (D7 (z.s 2) (z.i 3) (z.i 4) (z.i 5) (z.i 7) (z.s 9) (z.g 10) (z.g 11) (hT z 100) (z.i 13) (z.i 14) v2 (z.g 63) (z.g 65)) (λy0=>(y0.p 40↔JS v0 (z.i 61) (z.i 62) (z.i 64) (z.i 66) (z.g 63) (z.g 65))/\(y0.p 40->y0.g 30=qm v1 v4 v2 (z.i 61) (z.i 62) (z.i 64) (z.i 66) (z.g 63) (z.g 65))) λy0=>(let v5:=(↑(y0.g 30).length:Int);let v6:=(¬(y0.p 40));(.two (y0.p 40) (.an (y0.p 40) (.an (y0.p 40) (.an (y0.p 40) (.two ((-9223372036854775808)<=v5-1/\v5-1<=9223372036854775807) (.an (y0.p 40) (.an (yq v5) (.an (y0.p 40) (.an (y0.p 40) (.an (y0.p 40) (.an (y0.p 40) (.an (y0.p 40) (.an (y0.p 40) (.ax (kr (hX (aa (aL (y0.g 30) (v5-1)) 1)) v3↔cP v0 v4 v2 (z.i 61) (z.i 62) (z.i 64) (z.i 66) (z.g 63) (z.g 65) v3)))))))))) (.an (y0.p 40) (.an (0<=IntKind.i64.wrap (v5-1)/\IntKind.i64.wrap (v5-1) < ↑(y0.g 30).length) (.an (y0.p 40) (.an (y0.p 40) (.an (y0.p 40) (.an (y0.p 40) (.an (y0.p 40) (.an (y0.p 40) (.ax (kr (hX (aa (aL (y0.g 30) (eI (v5-1))) 1)) v3↔cP v0 v4 v2 (z.i 61) (z.i 62) (z.i 64) (z.i 66) (z.g 63) (z.g 65) v3)))))))))))))) (.an v6 (.an v6 (.an v6 (.an v6 (.an v6 (.an v6 (.an v6 (.an v6 (.an v6 (.an v6 (.ax (false=true↔cP v0 v4 v2 (z.i 61) (z.i 62) (z.i 64) (z.i 66) (z.g 63) (z.g 65) v3)))))))))))))))) by
 dsimp only [G4,rv,en,hs,dg,yG,wi,ul,pD] at hA;have:=fE (cR (z.i 1) (z.s 2) (z.i 3) (z.i 4) (z.i 5) (z.i 6) (z.i 7) (z.i 8) (z.s 9) (z.g 10) (z.g 11) (hT z 100) (z.p 12) (z.i 13) (z.i 14)) (aA (cu (z.i 1) (z.s 2) (z.i 3) (z.i 4) (z.i 5) (hT z 100) (z.i 13) (z.i 14))) (hT z 400) (z.i 61) (z.i 62) (z.i 64) (z.i 66) (z.g 63) (z.g 65) (hT z 500);have s2:=(λe=>@B9 (cR (z.i 1) (z.s 2) (z.i 3) (z.i 4) (z.i 5) (z.i 6) (z.i 7) (z.i 8) (z.s 9) (z.g 10) (z.g 11) (hT z 100) (z.p 12) (z.i 13) (z.i 14)) e (aA e) (hT z 400) (z.i 61) (z.i 62) (z.i 64) (z.i 66) (z.g 63) (z.g 65)) (cu (z.i 1) (z.s 2) (z.i 3) (z.i 4) (z.i 5) (hT z 100) (z.i 13) (z.i 14))
 dsimp only [QS] at s2;exact gC
noncomputable section
def D8(h:G)(i n:Int)(p:List G):wB h i n p=(gQ h i n p).1:=by unfold wB;rfl
def G6(er:Int)(lh hd:G)(ab ae c n:Int)(ip op:List G)(r:G):cP er lh hd ab ae c n ip op r↔(er=0/\(1<=c/\c<=200)/\(0<=ae/\ae<c)/\(gQ lh ae c ip).2)/\D4 (tM lh hd ae c ip) ab n op r:=by
 rw[yx,fE,lI,VA,VA,D8];constructor
 ·rintro⟨⟨a,b,⟨c1,c2,c3⟩,⟨d1,d2,d3⟩⟩,e⟩;exact⟨⟨a,b,c1,c3⟩,d1,d2,d3,e⟩
 ·rintro⟨⟨a,b,c1,c3⟩,d1,d2,d3,e⟩;exact⟨⟨a,b,⟨c1,by omega,c3⟩,⟨d1,d2,d3⟩⟩,e⟩
def JT(er:Int)(lh:G)(ae c:Int)(ip:List G):Prop:=er=0/\(1<=c/\c<=200)/\(0<=ae/\ae<c)/\(gQ lh ae c ip).2
def B_(er:Int)(lh:G)(ae c:Int)(ip:List G):JT er lh ae c ip↔er=0/\(1<=c/\c<=200)/\(0<=ae/\ae<c)/\(gQ lh ae c ip).2:=Iff.rfl
def OK:FSpec:=⟨[.ag rv],[],yG,λ_=>.tu [.ag (hs 300),.c (.b 40)],λ_=>[],λz y=>HOk (hT y 300)/\(y.p 40↔JT (ul z) (aA (pD z)) (z.i 62) (z.i 64) (z.g 63))/\(y.p 40->hT y 300=tM (aA (pD z)) (hT z 400) (z.i 62) (z.i 64) (z.g 63)),none⟩
abbrev VC:=G4
attribute [irreducible] JT
end
def SW:bj 34 OK:=bB 11 69905 (ai yh (ai (N_ 1000001) (ai ws (ai qQ eN)))) lN λz hA=>show Fm.den (let v2:=(hT z 100);let v1:=(cu (z.i 1) (z.s 2) (z.i 3) (z.i 4) (z.i 5) v2 (z.i 13) (z.i 14));let v0:=(HOk hZ/\(false=true↔JT (cR (z.i 1) (z.s 2) (z.i 3) (z.i 4) (z.i 5) (z.i 6) (z.i 7) (z.i 8) (z.s 9) (z.g 10) (z.g 11) v2 (z.p 12) (z.i 13) (z.i 14)) (aA v1) (z.i 62) (z.i 64) (z.g 63))/\(false=true->hZ=tM (aA v1) (hT z 400) (z.i 62) (z.i 64) (z.g 63)));(.ct (mX (z.s 2) (z.i 3) (z.i 4) (z.i 5) (z.i 7) (z.s 9) (z.g 10) (z.g 11) v2 (z.i 13) (z.i 14)) (λy0=>y0.i 50=cR (z.i 1) (z.s 2) (z.i 3) (z.i 4) (z.i 5) (z.i 6) (z.i 7) (z.i 8) (z.s 9) (z.g 10) (z.g 11) v2 (z.p 12) (z.i 13) (z.i 14)/\(cR (z.i 1) (z.s 2) (z.i 3) (z.i 4) (z.i 5) (z.i 6) (z.i 7) (z.i 8) (z.s 9) (z.g 10) (z.g 11) v2 (z.p 12) (z.i 13) (z.i 14)=(0:Int)->hT y0 300=aA v1)/\(¬cR (z.i 1) (z.s 2) (z.i 3) (z.i 4) (z.i 5) (z.i 6) (z.i 7) (z.i 8) (z.s 9) (z.g 10) (z.g 11) v2 (z.p 12) (z.i 13) (z.i 14)=(0:Int)->hT y0 300=hZ)) λy0=>(let v3:=(gQ (hT y0 300) (z.i 62) (z.i 64) (z.g 63));(.two (y0.i 50≠0) (.ax v0) (.two (z.i 64<1) (.ax v0) (.two (200<z.i 64) (.ax v0) (.two (z.i 62<0) (.ax v0) (.two (z.i 64<=z.i 62) (.ax v0) (.ct (HOk (hT y0 300)/\(0<=z.i 62/\z.i 62<z.i 64)/\z.i 64<1000001/\z.i 64<=1099511627776/\(z.g 63).length<=1000000/\RowsOk (z.g 63)) (λy1=>HOk (hT y1 300)/\hT y1 300=v3.fst/\(y1.p 50↔v3.snd)) λy1=>(Od (hT y1 300) (z.i 64) (nV (z.i 64)) λy2=>(uE (hT z 400) (hT y2 300) λy3=>(.ax (HOk (hT y3 300)/\(y1.p 50↔JT (cR (z.i 1) (z.s 2) (z.i 3) (z.i 4) (z.i 5) (z.i 6) (z.i 7) (z.i 8) (z.s 9) (z.g 10) (z.g 11) v2 (z.p 12) (z.i 13) (z.i 14)) (aA v1) (z.i 62) (z.i 64) (z.g 63))/\(y1.p 50->hT y3 300=tM (aA v1) (hT z 400) (z.i 62) (z.i 64) (z.g 63))))))))))))))) by
 dsimp only [OK,rv,en,hs,yG,wi,ul,pD] at hA;have:=br 0 0 0 [] [] [];have:=br (z.i 6) (z.i 7) (z.i 8) (z.s 9) (z.g 10) (z.g 11);have:=@cO (z.s 2) (z.i 3) (z.i 4) (z.i 5) (z.i 7) (z.s 9) (z.g 10) (z.g 11) (hT z 100) (z.i 13) (z.i 14);have:=@fA (z.i 1) (z.s 2) (z.i 3) (z.i 4) (z.i 5) (z.i 6) (z.i 7) (z.i 8) (z.s 9) (z.g 10) (z.g 11) (hT z 100) (z.p 12) (z.i 13) (z.i 14);have:=@fB (z.i 1) (z.s 2) (z.i 3) (z.i 4) (z.i 5) (z.i 6) (z.i 7) (z.i 8) (z.s 9) (z.g 10) (z.g 11) (hT z 100) (z.p 12) (z.i 13) (z.i 14);have:=@ig (z.i 1) (z.s 2) (z.i 3) (z.i 4) (z.i 5) (z.i 6) (z.i 7) (z.i 8) (z.s 9) (z.g 10) (z.g 11) (hT z 100) (z.p 12) (z.i 13) (z.i 14);have:=@jK (z.i 1) (z.s 2) (z.i 3) (z.i 4) (z.i 5) (z.i 6) (z.i 7) (z.i 8) (z.s 9) (z.g 10) (z.g 11) (hT z 100) (z.p 12) (z.i 13) (z.i 14);have:=@kU (z.i 1) (z.s 2) (z.i 3) (z.i 4) (z.i 5) (z.i 6) (z.i 7) (z.i 8) (z.s 9) (z.g 10) (z.g 11) (hT z 100) (z.p 12) (z.i 13) (z.i 14);have:=@da (z.i 1) (z.s 2) (z.i 3) (z.i 4) (z.i 5) (z.i 6) (z.i 7) (z.i 8) (z.s 9) (z.g 10) (z.g 11) (hT z 100) (z.p 12) (z.i 13) (z.i 14);have:=@iA (z.i 1) (z.s 2) (z.i 3) (z.i 4) (z.i 5) (mK z) (hT z 100=hZ) (z.p 12) (z.i 13) (z.i 14);have:=@fZ (z.i 1) (z.s 2) (z.i 3) (z.i 4) (z.i 5) (hT z 100) (z.i 13) (z.i 14);have s1:=lI (cR (z.i 1) (z.s 2) (z.i 3) (z.i 4) (z.i 5) (z.i 6) (z.i 7) (z.i 8) (z.s 9) (z.g 10) (z.g 11) (hT z 100) (z.p 12) (z.i 13) (z.i 14)) (z.i 61) (z.i 62) (z.i 64) (z.i 66) (z.g 63) (z.g 65);have s1:=B_ (cR (z.i 1) (z.s 2) (z.i 3) (z.i 4) (z.i 5) (z.i 6) (z.i 7) (z.i 8) (z.s 9) (z.g 10) (z.g 11) (hT z 100) (z.p 12) (z.i 13) (z.i 14)) (aA (cu (z.i 1) (z.s 2) (z.i 3) (z.i 4) (z.i 5) (hT z 100) (z.i 13) (z.i 14))) (z.i 62) (z.i 64) (z.g 63);have:=yF (aA (cu (z.i 1) (z.s 2) (z.i 3) (z.i 4) (z.i 5) (hT z 100) (z.i 13) (z.i 14))) (hT z 400) (z.i 62) (z.i 64) (z.g 63);have:=yE (aA (cu (z.i 1) (z.s 2) (z.i 3) (z.i 4) (z.i 5) (hT z 100) (z.i 13) (z.i 14))) (z.i 62) (z.i 64) (z.g 63);have:=D8 (aA (cu (z.i 1) (z.s 2) (z.i 3) (z.i 4) (z.i 5) (hT z 100) (z.i 13) (z.i 14))) (z.i 62) (z.i 64) (z.g 63);conv=>zeta
 repeat' with_reducible first|intro _|apply cd|apply ck|apply cg|apply cE|apply cr
 all_goals first|omega|grind [ao,ak,aj,aT,aU,aV,aW,aX,aY,aZ,a_,ba,aC,cm,i_,co,tK,mQ,fy]
def XQ:bj 11 VC:=bB 3 1 (ai SW (ai JO eN)) lN λz hA=>show Fm.den (let v0:=(cR (z.i 1) (z.s 2) (z.i 3) (z.i 4) (z.i 5) (z.i 6) (z.i 7) (z.i 8) (z.s 9) (z.g 10) (z.g 11) (hT z 100) (z.p 12) (z.i 13) (z.i 14));let v1:=(aA (cu (z.i 1) (z.s 2) (z.i 3) (z.i 4) (z.i 5) (hT z 100) (z.i 13) (z.i 14)));let v2:=(hT z 400);let v3:=(hT z 500);(.ct (D7 (z.s 2) (z.i 3) (z.i 4) (z.i 5) (z.i 7) (z.s 9) (z.g 10) (z.g 11) (hT z 100) (z.i 13) (z.i 14) v2 (z.g 63) (z.g 65)) (λy0=>HOk (hT y0 300)/\(y0.p 40↔JT v0 v1 (z.i 62) (z.i 64) (z.g 63))/\(y0.p 40->hT y0 300=tM v1 v2 (z.i 62) (z.i 64) (z.g 63))) λy0=>(.two (y0.p 40) (.ct (HOk (hT y0 300)/\HOk v3/\(z.g 65).length<=1000000/\RowsOk (z.g 65)) (λy1=>(y1.p 50↔D4 (hT y0 300) (z.i 61) (z.i 66) (z.g 65) v3)) λy1=>(.ax (y1.p 50↔cP v0 v1 v2 (z.i 61) (z.i 62) (z.i 64) (z.i 66) (z.g 63) (z.g 65) v3))) (.ax (false=true↔cP v0 v1 v2 (z.i 61) (z.i 62) (z.i 64) (z.i 66) (z.g 63) (z.g 65) v3))))) by
 dsimp only [VC,G4,rv,en,hs,dg,yG,wi,ul,pD] at hA;have:=G6 (cR (z.i 1) (z.s 2) (z.i 3) (z.i 4) (z.i 5) (z.i 6) (z.i 7) (z.i 8) (z.s 9) (z.g 10) (z.g 11) (hT z 100) (z.p 12) (z.i 13) (z.i 14)) (aA (cu (z.i 1) (z.s 2) (z.i 3) (z.i 4) (z.i 5) (hT z 100) (z.i 13) (z.i 14))) (hT z 400) (z.i 61) (z.i 62) (z.i 64) (z.i 66) (z.g 63) (z.g 65) (hT z 500);have:=B_ (cR (z.i 1) (z.s 2) (z.i 3) (z.i 4) (z.i 5) (z.i 6) (z.i 7) (z.i 8) (z.s 9) (z.g 10) (z.g 11) (hT z 100) (z.p 12) (z.i 13) (z.i 14)) (aA (cu (z.i 1) (z.s 2) (z.i 3) (z.i 4) (z.i 5) (hT z 100) (z.i 13) (z.i 14))) (z.i 62) (z.i 64) (z.g 63);conv=>zeta
 repeat' with_reducible first|intro _|apply cd|apply ck|apply cg|apply cE|apply cr
 all_goals first|omega|grind [ao,ak,aj,aT,aU,aV,aW,aX,aY,aZ,a_,ba,aC,mQ]
noncomputable section
def iC(n:Nat):List Nat:=if n<10 then [48+n] else [48+n/10,48+n%10]
def G7{n:Nat}(h:n<10):iC n= [48+n]:=if_pos h
def G8{n:Nat}(h:¬n<10):iC n= [48+n/10,48+n%10]:=if_neg h
def Ca(n:Nat):1<=(iC n).length/\(iC n).length<=2:=by unfold iC;split <;> simp
def cW(i:Int):List Nat:=100::(List.replicate (8-(iC i.toNat).length) 48++iC i.toNat)
def yH{i:Int}(h0:0<=i)(h:i<10):cW i= [100,48,48,48,48,48,48,48,48+i.toNat]:=by unfold cW;rw[G7 (by omega)];rfl
def yI{i:Int}(h0:¬i<10):cW i= [100,48,48,48,48,48,48,48+i.toNat/10,48+i.toNat%10]:=by unfold cW;rw[G8 (by omega)];rfl
def yJ(i:Int):(cW i).length=9:=by have:=Ca i.toNat;unfold cW;rw[aat,aai,abA];omega
def G9{i k:Int}(hi:0<=i)(hk:0<=k)(au_:i<100)(av0:k<100)(h:cW i=cW k):i=k:=by
 by_cases a:i<10 <;> by_cases b:k<10
 ·rw[yH hi a,yH hk b] at h;simp at h;omega
 ·rw[yH hi a,yI b] at h;simp at h;omega
 ·rw[yI a,yH hk b] at h;simp at h;omega
 ·rw[yI a,yI b] at h;simp at h;omega
def fF:List Nat:=[106,111,117,114,110,97,108]
def OL(i:Int):cW i≠fF:=λh=>by have:=congrArg List.length h;rw[yJ] at this;cases this
def SX:List Nat:=[48,49,50,51,52,53,54,55,56,57,97,98,99,100,101,102,103,104,105,106,107,108,109,110,111,112,113,114,115,116,117,118,119,120,121,122]
def smS:List Nat:=(List.range 100).flatMap λi=>[48+i/10,48+i%10]
def XR{i:Int}(h0:0<=i)(h:i<10):(SX.take (i+1).toNat).drop i.toNat=iC i.toNat:=by
 have:∀k:Fin 10,(SX.take (k.1+1)).drop k.1=iC k.1:=by decide
 have:=this ⟨i.toNat,by omega⟩;rw[show(i+1).toNat=i.toNat+1 by omega];exact this
def sm_at{i:Int}(h0:10<=i)(h:i<100):(smS.take (i * 2+2).toNat).drop (i * 2).toNat=iC i.toNat:=by
 have:∀k:Fin 100,10<=k.1->(smS.take (k.1 * 2+2)).drop (k.1 * 2)=iC k.1:=by decide
 have:=this ⟨i.toNat,by omega⟩ (by show 10<=i.toNat;omega);rw[show(i * 2+2).toNat=i.toNat * 2+2 by omega,show(i * 2).toNat=i.toNat * 2 by omega];exact this
def VD:FSpec:=⟨[.c (.i .i64 1)],[],λz=>0<=z.i 1/\z.i 1<100,λ_=>.one (.c (.s 10)),λ_=>[],λz y=>y.s 10=iC (z.i 1).toNat/\1<=(y.s 10).length/\(y.s 10).length<=2,none⟩
def SDec:FSpec:=⟨[.c (.i .u64 1)],[],λz=>0<=z.i 1/\z.i 1<100,λ_=>.one (.c (.s 10)),λ_=>[],λz y=>y.s 10=iC (z.i 1).toNat/\1<=(y.s 10).length/\(y.s 10).length<=2,none⟩
def G_:FSpec:=⟨[.c (.i .i64 1)],[],λz=>0<=z.i 1/\z.i 1<100,λ_=>.one (.c (.s 10)),λ_=>[],λz y=>y.s 10=cW (z.i 1),none⟩
abbrev wC:=G_
def CL(s:List Nat):List Nat:=List.replicate (8-s.length) 48++s
def SY{s:List Nat}(h:¬(s.length:Int)<8):CL s=s:=by unfold CL;rw[show 8-s.length=0 by omega];rfl
def OM{s:List Nat}(h:(s.length:Int)<8):CL ([48]++s)=CL s:=by unfold CL;rw[aai,aaI,show 8-s.length=(8-(1+s.length))+1 by omega,List.replicate_succ',aaw]
def ON(i:Int):cW i= [100]++CL (iC i.toNat):=rfl
def Ha(p:Sy):LSpec:=⟨[(3,.c (.s 1))],[],λz=>(z.s 1).length<=8,λz=>8-(z.s 1).length,[⟨.exit 0,[(3,.c (.s 1))],[]⟩],λz y=>y.s 1=CL (z.s 1),none,[]⟩
def OO{n:Int}(h0:0<=n)(h:n<4294967296):IntKind.u64.wrap (Int.ofNat ((aE (am .u64) n).land (aE (am .u64) 4294967295)))=n:=by
 obtain⟨a,rfl⟩:∃a:Nat,n=a:=⟨n.toNat,by omega⟩
 have e:aE (am .u64) (4294967295:Int)=2 ^ 32-1:=by decide
 have e2:(a.land (2 ^ 32-1))=a:=by show a &&& (2 ^ 32-1)=a;rw[abT];omega
 rw[D3 a (by omega),e,e2,GX a (by omega)]
def SMul:FSpec:=⟨[.c (.pi .u64 1),.c (.i .u64 2)],[],λz=>0<=z.i 2/\z.i 2<=100,λ_=>.tu [.c (.i .u64 10),.c (.i .u64 11)],λ_=>[],λz y=>y.i 10=0/\y.i 11=z.i 2,none⟩
def OP:List Nat:=[48,48,48,48,48,48,48,48,48,48,48,48,48,48,48,48,48,48,48,48,48,48,48,48,48,48,48,48,48,48,48,48,48,48,48,48,48,48,48,48,48,48,48,48,48,48,48,48,48,48,48,48,48,48,48,48,48,48,48,48,48,48,48,48]
def zr_at{n:Int}{s:List Nat}(hs:n=8-(s.length:Int))(h:s.length<=8):OP.take n.toNat++s=CL s:=by have e:OP=List.replicate 64 48:=rfl;rw[e,List.take_replicate];unfold CL;congr 2;omega
theorem XS(n:Int):(OP.take n.toNat).length<=64:=by rw[aao];exact Nat.min_le_right _ _
theorem inB1{x:Int}(h:0<=x)(h1:x<256):Go.Sym.inB [x]:=by simp [Go.Sym.inB];omega
theorem SZ(s:List Nat):(CL s).length<=8+s.length:=by unfold CL;rw[aai,abA];omega
def wrap1:IntKind.u64.wrap 1=1:=rfl
attribute [irreducible] cW iC CL OP SX smS
end
def o_Dec:bj 179 SDec:=bB 8 10778 eN lN λz hA=>show Fm.den (let v0:=(0<=z.i 1/10%18446744073709551616/\(0:Int)<10);let v1:=((10:Int)≠0);let v2:=((48+z.i 1%10)%18446744073709551616%256);let v3:=(48+z.i 1/10%18446744073709551616%10);let v4:=(0<=z.i 1/\(0:Int)<10);(.an v1 (.an v4 (.an (inB [(48+z.i 1%10)%18446744073709551616%256]) (.an (1<=1000000000) (.an v1 (.an v4 (.two (z.i 1/10%18446744073709551616=0) (.ax ([v2.toNat]++ []=iC (z.i 1).toNat/\1<=1/\1<=2)) (.an v1 (.an v0 (.an (inB [v3%18446744073709551616%256]) (.an (2<=1000000000) (.an v1 (.an v0 (.an (z.i 1/10%18446744073709551616/10%18446744073709551616=0) (.ax ([(v3%18446744073709551616%256).toNat]++([v2.toNat]++ [])=iC (z.i 1).toNat/\1<=2/\2<=2))))))))))))))))) by
 dsimp only [SDec] at hA;have:=@G7 (z.i 1).toNat;have:=@G8 (z.i 1).toNat;conv=>zeta
 repeat' with_reducible first|intro _|apply cd|apply ck|apply cg|apply cE|apply cr
 all_goals first|omega|grind [ao,ak,aj,List.append_assoc,inB1]
def OQ:bH 115 0 Ha:=bG 3 1 eN lN λp z hA=>show Fm.den (let v0:=([48]++z.s 1);(.two ((↑(z.s 1).length:Int)<8) (.an (qf v0) (.ax (v0.length<=8/\8-v0.length<8-(z.s 1).length/\∀(y:Sy),y.s 1=CL v0->y.s 1=CL (z.s 1)))) (.ax (z.s 1=CL (z.s 1))))) by dsimp only [Ha] at hA;have:=@SY (z.s 1);have:=@OM (z.s 1);exact iy
def XT:bj 115 G_:=bB 1 0 (ai o_Dec eN) (aG (ptm:=[]) OQ lN) λz hA=>show Fm.den ((.ct (0<=z.i 1%18446744073709551616/\z.i 1%18446744073709551616<100) (λy0=>y0.s 10=iC (z.i 1%18446744073709551616).toNat/\1<=(y0.s 10).length/\(y0.s 10).length<=2) λy0=>(.ct ((y0.s 10).length<=8) (λy1=>y1.s 1=CL (y0.s 10)) λy1=>(.an (qf ([100]++y1.s 1)) (.ax ([100]++y1.s 1=cW (z.i 1))))))) by
 dsimp only [G_] at hA;have:=ON (z.i 1);repeat' with_reducible first|intro _|apply cd|apply ck|apply cg|apply cE|apply cr
 all_goals first|omega|grind [ao,ak,aj,List.append_assoc,SZ,List.length_append,List.length_cons,List.length_nil]
def XU:bj 156 VD:=bB 9 43162 eN lN λz hA=>show Fm.den (let v0:=((-9223372036854775808)<=z.i 1 * 2/\z.i 1 * 2<=9223372036854775807);let v1:=(List.take (z.i 1 * 2+2).toNat smS);let v2:=(List.take (z.i 1+1).toNat SX);let v3:=(List.drop (z.i 1 * 2).toNat v1);let v4:=(List.drop (z.i 1).toNat v2);(.an (0<=z.i 1) (.an (z.i 1<100) (.two (z.i 1<10) (.an ((-9223372036854775808)<=z.i 1+1/\z.i 1+1<=9223372036854775807) (.an (0<=z.i 1/\z.i 1<=z.i 1+1/\z.i 1+1<= ↑36) (.ax (List.drop (z.i 1).toNat v2=iC (z.i 1).toNat/\1<=v4.length/\v4.length<=2)))) (.an v0 (.an v0 (.an ((-9223372036854775808)<=z.i 1 * 2+2/\z.i 1 * 2+2<=9223372036854775807) (.an (0<=z.i 1 * 2/\z.i 1 * 2<=z.i 1 * 2+2/\z.i 1 * 2+2<= ↑200) (.ax (List.drop (z.i 1 * 2).toNat v1=iC (z.i 1).toNat/\1<=v3.length/\v3.length<=2)))))))))) by dsimp only [VD] at hA;have:=@XR (z.i 1);have:=@sm_at (z.i 1);have:=Ca (z.i 1).toNat;exact iy
def o_Mul:bj 210 SMul:=bB 1 0 eN lN λz hA=>show Fm.den (let v0:=((1/4294967296:Int) * IntKind.u64.wrap (Int.ofNat ((aE (nU) (z.i 2)).land (aE (nU) 4294967295)))%18446744073709551616+IntKind.u64.wrap 1 * IntKind.u64.wrap (Int.ofNat ((aE (nU) (z.i 2)).land (aE (nU) 4294967295)))%18446744073709551616/4294967296);(.ax ((((1/4294967296:Int) * (z.i 2/4294967296)%18446744073709551616+v0%18446744073709551616/4294967296)%18446744073709551616+(IntKind.u64.wrap (Int.ofNat ((aE (nU) (v0%18446744073709551616)).land (aE (nU) 4294967295)))+IntKind.u64.wrap 1 * (z.i 2/4294967296)%18446744073709551616)%18446744073709551616/4294967296)%18446744073709551616=0/\1 * z.i 2%18446744073709551616=z.i 2))) by dsimp only [SMul] at hA;have:=@OO (z.i 2);have:=@OO 0 (by omega) (by omega);have:=wrap1;exact iy
def D9:bj 91 wC:=bB 11 700414 (ai XU (ai o_Mul eN)) lN λz hA=>show Fm.den ((.ct (0<=z.i 1/\z.i 1<100) (λy0=>y0.s 10=iC (z.i 1).toNat/\1<=(y0.s 10).length/\(y0.s 10).length<=2) λy0=>(let v0:=(↑(y0.s 10).length:Int);(.an ((-9223372036854775808)<=8-v0/\8-v0<=9223372036854775807) (.an (¬(Max.max 0 (8-v0)=0)) (.an (¬(Max.max 0 (8-v0)=1)) (.an (¬(Max.max 0 (8-v0)<0)) (.cl (((1:Int)=1/\True)) (0<=Max.max 0 (8-v0)%18446744073709551616/\Max.max 0 (8-v0)%18446744073709551616<=100) (λy1=>y1.i 10=0/\y1.i 11=Max.max 0 (8-v0)%18446744073709551616) λy1=>(let v1:=(List.take (y1.i 11).toNat OP);(.an (¬(0<y1.i 10)) (.an (¬(9223372036854775807<y1.i 11)) (.an ((-9223372036854775808)<=y1.i 11/\y1.i 11<=9223372036854775807) (.an (y1.i 11<=128) (.an (y1.i 11<=128) (.an (y1.i 11<=64) (.an ((0:Int)<=0/\0<=y1.i 11/\y1.i 11<= ↑64) (.an (([100]++List.drop (iZ) v1).length<=1000000000) (.an (qf ([100]++List.drop (iZ) v1++y0.s 10)) (.ax ([100]++List.drop (iZ) v1++y0.s 10=cW (z.i 1))))))))))))))))))))) by
 dsimp only [wC,G_] at hA;have:=ON (z.i 1);have:=@zr_at;conv=>zeta
 repeat' with_reducible first|intro _|apply cd|apply ck|apply cg|apply cE|apply cr
 all_goals first|omega|grind [ao,ak,aj,List.append_assoc,XS,Int.toNat_zero,List.length_append,List.length_cons,List.length_nil]
noncomputable section
def cQ(nm:List Nat):List G->Nat
 | []=>0
 |r::l=>bif mV (gS (aa r 0)) nm then cQ nm l+1 else 0
def Zh(l:List G)(i:Nat):List Nat:=gS (aa (aq l i) 0)
def bW(nm:List Nat)(l:List G):Prop:=cQ nm l<l.length/\Zh l (cQ nm l)=nm
def pH(nm:List Nat):∀l,cQ nm l<=l.length
 | []=>aac _
 |r::l=>by
  unfold cQ;cases mV (gS (aa r 0)) nm
  ·exact aaq _
  ·exact Nat.succ_le_succ (pH nm l)
def D_(i:Int)(nm:List Nat)(l:List G)(k:Int):Prop:=k=i+(cQ nm (l.drop i.toNat):Nat)
def mR{l:List G}{i:Int}(h0:0<=i)(h:i<l.length):l.drop i.toNat=aq l i.toNat::l.drop (i+1).toNat:=by rw[aaX (by omega),show(i+1).toNat=i.toNat+1 by omega];congr 1;unfold aq;rw[aag,aak (by omega)];rfl
def OS{i k:Int}{nm:List Nat}{l:List G}(h0:0<=i)(h:i<l.length)(hl:mV (gS (aa (aq l i.toNat) 0)) nm=true)(hs:D_ (i+1) nm l k):D_ i nm l k:=by unfold D_ at hs⊢;rw[mR h0 h];show k=i+((bif mV (gS (aa (aq l i.toNat) 0)) nm then cQ nm (l.drop (i+1).toNat)+1 else 0:Nat):Int);rw[hl,hs];show _=i+((cQ nm (l.drop (i+1).toNat)+1:Nat):Int);omega
def S0{i:Int}{nm:List Nat}{l:List G}(h0:0<=i)(h:i<l.length)(hl:¬mV (gS (aa (aq l i.toNat) 0)) nm=true):D_ i nm l i:=by unfold D_;rw[mR h0 h];show i=i+((bif mV (gS (aa (aq l i.toNat) 0)) nm then cQ nm (l.drop (i+1).toNat)+1 else 0:Nat):Int);rw[show mV (gS (aa (aq l i.toNat) 0)) nm=false by simpa using hl];show i=i+((0:Nat):Int);omega
def S1{i:Int}{nm:List Nat}{l:List G}(h:(l.length:Int)<=i):D_ i nm l i:=by unfold D_;rw[aaH (by omega)];show i=i+((0:Nat):Int);omega
def XV{nm:List Nat}{l:List G}{k:Int}(h:D_ 0 nm l k):k=(cQ nm l:Nat):=by unfold D_ at h;rw[h];simp
def dH(nm:List Nat)(l:List G):bW nm l↔cQ nm l<l.length/\gS (aa (aq l (cQ nm l)) 0)=nm:=Iff.rfl
def cj:List G->Nat
 | []=>0
 |r::l=>(gS (aa r 1)).length+cj l
def yK:cj []=0:=rfl
def Ea(i n:Int)(l:List G)(m:Int):Prop:=m=n+(cj (l.drop i.toNat):Nat)
def OT{i n m:Int}{l:List G}(h0:0<=i)(h:i<l.length)(hs:Ea (i+1) (n+((gS (aa (aq l i.toNat) 1)).length:Nat)) l m):Ea i n l m:=by unfold Ea at hs⊢;rw[mR h0 h,hs];show _=n+(((gS (aa (aq l i.toNat) 1)).length+cj (l.drop (i+1).toNat):Nat):Int);omega
def S2{i n:Int}{l:List G}(h:(l.length:Int)<=i):Ea i n l n:=by unfold Ea;rw[aaH (by omega)];show n=n+((0:Nat):Int);omega
def XW{l:List G}{m:Int}(h:Ea 0 0 l m):m=(cj l:Nat):=by unfold Ea at h;rw[h];simp
def OU:∀(l:List G) (i:Nat),i<l.length->(gS (aa (aq l i) 1)).length<=cj l
 | [],i,h=>by simp at h
 |r::l,0,_=>by show _<=_+_;unfold aq;simp
 |r::l,i+1,h=>by have:=OU l i (by simpa using h);show(gS (aa (aq l i) 1)).length<=_+_;omega
def XX{i:Int}{l:List G}(h0:0<=i)(h:i<l.length):cj (l.drop (i+1).toNat)+(gS (aa (aq l i.toNat) 1)).length<=cj (l.drop i.toNat):=by rw[mR h0 h];show _<=_+_;omega
def fiN(nm:List Nat):G:=.node [.str nm,.str [],.int 0]
def S3(r:G)(b:List Nat):G:=.node [.str (gS (aa r 0)),.str (gS (aa r 1)++b),.int (gI (aa r 2))]
def fiS(r:G):G:=.node [.str (gS (aa r 0)),.str (gS (aa r 1)),.int ((gS (aa r 1)).length:Nat)]
def Eb(nm:List Nat)(l:List G):List G:=l.take (cQ nm l)++fiN nm::l.drop (cQ nm l)
def ga(nm b:List Nat)(l:List G):List G:=(@ite _ (bW nm l) (Classical.propDecidable _) l (Eb nm l)).set (cQ nm l) (S3 (aq (@ite _ (bW nm l) (Classical.propDecidable _) l (Eb nm l)) (cQ nm l)) b)
def mf(nm:List Nat)(l:List G):List G:=l.set (cQ nm l) (fiS (aq l (cQ nm l)))
def dn(room:Int)(nm:List Nat)(n:Nat)(l:List G):Prop:=(cj l:Int)+n<=room/\(bW nm l∨l.length<4096)
def Hb{l:List G}{i:Nat}{r:G}(h:i<=l.length):aq (l.take i++r::l.drop i) i=r:=by unfold aq;rw[aag,aaA (by rw[aao];omega),aao,show i-min i l.length=0 by omega];rfl
def XY{nm:List Nat}{l m:List G}{k:Int}(hm:m=Eb nm l)(hk:k=(cQ nm l:Nat)):gS (aa (aq m k.toNat) 1)= []:=by subst hm;subst hk;rw[aar];unfold Eb;rw[Hb (pH nm l)];rfl
def JU(room:Int)(nm:List Nat)(n:Nat)(l:List G):dn room nm n l↔(cj l:Int)+n<=room/\(bW nm l∨l.length<4096):=Iff.rfl
def XZ{nm b:List Nat}{l:List G}{k:Int}(hk:k=(cQ nm l:Nat))(h:bW nm l):l.set k.toNat (.node [.str (gS (aa (aq l k.toNat) 0)),.str (gS (aa (aq l k.toNat) 1)++b),.int (gI (aa (aq l k.toNat) 2))])=ga nm b l:=by subst hk;unfold ga S3;rw[if_pos h,aar]
def S4{nm b:List Nat}{l m:List G}{k:Int}(hm:m=Eb nm l)(hk:k=(cQ nm l:Nat))(h:¬bW nm l):m.set k.toNat (.node [.str (gS (aa (aq m k.toNat) 0)),.str (gS (aa (aq m k.toNat) 1)++b),.int (gI (aa (aq m k.toNat) 2))])=ga nm b l:=by subst hk;subst hm;unfold ga S3;rw[if_neg h,aar]
def S5{nm:List Nat}{l:List G}(h:l.length=0):l++ [.node [.str nm,.str [],.int 0]]++l=Eb nm l:=by have e:l= []:=List.length_eq_zero_iff.1 h;subst e;rfl
def S6{nm:List Nat}{l:List G}{k:Int}(hk:k=(cQ nm l:Nat)):List.take k.toNat l++ [.node [.str nm,.str [],.int 0]]++List.take ((l.length:Int)-k).toNat (List.drop (k.toNat * 3/3) l)=Eb nm l:=by subst hk;rw[aar,Nat.mul_div_cancel _ (by decide),abm (l:=l.drop (cQ nm l)) (by rw[aas];omega),aaw];rfl
def X1{nm:List Nat}{l:List G}{k:Int}(hk:k=(cQ nm l:Nat)):l.set k.toNat (.node [.str (gS (aa (aq l k.toNat) 0)),.str (gS (aa (aq l k.toNat) 1)),.int ((gS (aa (aq l k.toNat) 1)).length:Nat)])=mf nm l:=by subst hk;unfold mf fiS;rw[aar]
def OV{nm:List Nat}{l:List G}{k:Int}(hk:k=(cQ nm l:Nat)):gS (aa (aq l k.toNat) 1)=gS (aa (aq l (cQ nm l)) 1)/\(gS (aa (aq l k.toNat) 1)).length<=cj l∨(l.length:Int)<=k:=by
 subst hk;rw[aar];rcases aah (cQ nm l) l.length with h|h
 ·exact .inl ⟨rfl,OU l _ h⟩
 ·exact .inr (by omega)
def fQ(l:List G):List (List Nat):=l.map λr=>gS (aa r 0)
def Hc(nm:List Nat):∀(l m:List G),fQ l=fQ m->cQ nm l=cQ nm m
 | [],[],_=>rfl
 |r::l,r'::m,h=>by have h:gS (aa r 0)::fQ l=gS (aa r' 0)::fQ m:=h;injection h with h1 h2;unfold cQ;rw[h1,Hc nm l m h2]
 | [],_::_,h=>by cases h
 |_::_,[],h=>by cases h
def rh{l:List G}{i:Nat}(h:i<l.length):(fQ l)[i]? =some (Zh l i):=by unfold fQ Zh aq;rw[aaO,aag,aak h];rfl
def Hd(l:List G):(fQ l).length=l.length:=aaR ..
def OW{nm:List Nat}{l m:List G}(h:fQ l=fQ m):bW nm l↔bW nm m:=by
 have hl:l.length=m.length:=by rw[←Hd l, ←Hd m,h]
 have e:=Hc nm l m h;rw[dH,dH,e,hl];constructor
 ·rintro⟨h1,h2⟩;refine⟨h1, ?_⟩;have a:=rh (l:=l) (i:=cQ nm m) (by omega);have b:=rh (l:=m) h1;rw[h] at a;rw[a] at b;injection b with b;exact b.symm.trans h2
 ·rintro⟨h1,h2⟩;refine⟨h1, ?_⟩;have a:=rh (l:=l) (i:=cQ nm m) (by omega);have b:=rh (l:=m) h1;rw[h] at a;rw[a] at b;injection b with b;exact b.trans h2
def OX{nm:List Nat}{l:List G}(h:bW nm l):∃r∈l,gS (aa r 0)=nm:=by obtain⟨h1,h2⟩:=(dH nm l).1 h;exact⟨aq l (cQ nm l),by unfold aq;rw[aag,aak h1];exact abd h1,h2⟩
def He{l:List G}{i:Nat}{r:G}(h:gS (aa r 0)=Zh l i):fQ (l.set i r)=fQ l:=by
 unfold fQ;rw[List.map_set];refine List.ext_getElem (by simp) λj h1 h2=>?_;rw[List.getElem_set];split
 ·rename_i e;subst e;rw[List.getElem_map,h];unfold Zh aq;rw[aag,aak (by simpa using h2)];rfl
 ·rfl
def yL:∀(l m:List G),cj (l++m)=cj l+cj m
 | [],m=>by simp [cj]
 |r::l,m=>by show _+cj (l++m)=_;rw[yL l m];show _=(_+cj l)+cj m;omega
def yM:∀(l:List G) (i:Nat) (r:G),i<l.length->cj (l.set i r)+(gS (aa (aq l i) 1)).length=cj l+(gS (aa r 1)).length
 | [],i,r,h=>by simp at h
 |a::l,0,r,_=>by show((gS (aa r 1)).length+cj l)+(gS (aa a 1)).length=((gS (aa a 1)).length+cj l)+_;omega
 |a::l,i+1,r,h=>by have:=yM l i r (by simpa using h);show((gS (aa a 1)).length+cj (l.set i r))+(gS (aa (aq l i) 1)).length=((gS (aa a 1)).length+cj l)+_;omega
def Hg{nm:List Nat}:∀(l:List G) (r:G),gS (aa r 0)=nm->cQ nm (l.take (cQ nm l)++r::l.drop (cQ nm l))=cQ nm l
 | [],r,h=>by show(bif mV (gS (aa r 0)) nm then _ else 0)=0;rw[h,ltL_irr];rfl
 |a::l,r,h=>by
  cases ha:mV (gS (aa a 0)) nm with
  |true=>
   have e:cQ nm (a::l)=cQ nm l+1:=by show(bif mV (gS (aa a 0)) nm then _ else _)=_;rw[ha];rfl
   rw[e];show(bif mV (gS (aa a 0)) nm then cQ nm (l.take (cQ nm l)++r::l.drop (cQ nm l))+1 else 0)=_;rw[ha,Hg l r h];rfl
  |false=>
   have e:cQ nm (a::l)=0:=by show(bif mV (gS (aa a 0)) nm then _ else _)=_;rw[ha];rfl
   rw[e];show(bif mV (gS (aa r 0)) nm then _ else 0)=0;rw[h,ltL_irr];rfl
where
 ltL_irr:∀{s:List Nat},mV s s=false:=by
  intro s
  induction s with
  |nil=>rfl
  |cons x s ih=>show ac (Nat.ble (Nat.succ x) x) true (ac (Nat.beq x x) (mV s s) false)=false;rw[show Nat.ble (Nat.succ x) x=false by cases h:Nat.ble (Nat.succ x) x with|false=>rfl|true=>exact absurd (aay h) (by omega),abo];exact ih
def jg(nm b:List Nat)(l:List G):bW nm (ga nm b l)/\cj (ga nm b l)=cj l+b.length/\(ga nm b l).length<=l.length+1/\∀r∈ga nm b l,gS (aa r 0)=nm∨∃r'∈l,gS (aa r' 0)=gS (aa r 0):=by
 unfold ga;have hle:=pH nm l;have key:∀m:List G,cQ nm m=cQ nm l->cQ nm l<m.length->gS (aa (aq m (cQ nm l)) 0)=nm->bW nm (m.set (cQ nm l) (S3 (aq m (cQ nm l)) b))/\cj (m.set (cQ nm l) (S3 (aq m (cQ nm l)) b))=cj m+b.length/\(∀r∈m.set (cQ nm l) (S3 (aq m (cQ nm l)) b),gS (aa r 0)=nm∨∃r'∈m,gS (aa r' 0)=gS (aa r 0)):=λm h1 h2 h3=>by
  have hn:gS (aa (S3 (aq m (cQ nm l)) b) 0)=Zh m (cQ nm l):=rfl;refine⟨(OW (He hn)).2 ((dH nm m).2 ⟨by rw[h1];exact h2,by rw[h1];exact h3⟩), ?_,λr hr=>?_⟩
  ·have:=yM m (cQ nm l) (S3 (aq m (cQ nm l)) b) h2;have e:(gS (aa (S3 (aq m (cQ nm l)) b) 1)).length=(gS (aa (aq m (cQ nm l)) 1)).length+b.length:=by show(gS (aa (aq m (cQ nm l)) 1)++b).length=_;rw[aai]
   omega
  ·rcases List.mem_or_eq_of_mem_set hr with h|h
   ·exact .inr ⟨r,h,rfl⟩
   ·subst h;exact .inl (hn.trans h3)
 by_cases hs:bW nm l
 ·rw[if_pos hs];obtain⟨h1,h2⟩:=(dH nm l).1 hs;obtain⟨q1,q2,q3⟩:=key l rfl h1 h2;exact⟨q1,q2,by rw[aaZ];omega,q3⟩
 ·rw[if_neg hs];have e1:cQ nm (Eb nm l)=cQ nm l:=Hg l (fiN nm) rfl;have hlen:(Eb nm l).length=l.length+1:=by unfold Eb;simp;omega
  have e2:aq (Eb nm l) (cQ nm l)=fiN nm:=Hb hle;obtain⟨q1,q2,q3⟩:=key (Eb nm l) e1 (by omega) (by rw[e2];rfl);have e3:cj (Eb nm l)=cj l:=by
   unfold Eb;rw[yL];show cj (l.take (cQ nm l))+(0+cj (l.drop (cQ nm l)))=_;conv=>rhs;rw[←abl (cQ nm l) l,yL]
   omega
  refine⟨q1,by rw[q2,e3],by rw[aaZ];omega,λr hr=>?_⟩;rcases q3 r hr with h|⟨r',h1,h2⟩
  ·exact .inl h
  ·unfold Eb at h1;rcases List.mem_append.1 h1 with h|h
   ·exact .inr ⟨r',List.mem_of_mem_take h,h2⟩
   ·rcases List.mem_cons.1 h with h|h
    ·subst h;exact .inl h2.symm
    ·exact .inr ⟨r',List.mem_of_mem_drop h,h2⟩
def pJ(nm:List Nat)(l:List G)(h:bW nm l):fQ (mf nm l)=fQ l/\cj (mf nm l)=cj l/\(mf nm l).length=l.length:=by obtain⟨h1,h2⟩:=(dH nm l).1 h;unfold mf;refine⟨He rfl, ?_,aaZ⟩;have:=yM l (cQ nm l) (fiS (aq l (cQ nm l))) h1;have e:gS (aa (fiS (aq l (cQ nm l))) 1)=gS (aa (aq l (cQ nm l)) 1):=rfl;rw[e] at this;omega
def QT:List Sh:=[.i .i64 1,.v 12 20,.i .i64 2]
def S7:List BSh:=[.cells 121 [.i .i64 1,.g 1 3 20,.i .i64 2],.grow 12 191 20]
def oB(z:Sy):Prop:=(z.g 20).length<=5000/\cj (z.g 20)<=1000000/\0<=z.i 1/\z.i 1<=1073741824/\z.i 2= -1
def yN(z y:Sy):Prop:=y.i 1=z.i 1/\y.i 2=z.i 2
def Hh(p:Sy):LSpec:=⟨[(0,.cp QT),(1,.c (.s 5)),(6,.c (.i .i64 9))],[],λz=>0<=z.i 9/\z.i 9<=(z.g 20).length/\(z.g 20).length<=5000,λz=>((z.g 20).length-z.i 9).toNat,[⟨.exit 0,[(0,.cp QT),(1,.c (.s 5)),(6,.c (.i .i64 9))],[]⟩],λz y=>y.g 20=z.g 20/\y.s 5=z.s 5/\(0<=y.i 9/\y.i 9<=(z.g 20).length)/\D_ (z.i 9) (z.s 5) (z.g 20) (y.i 9),none,[]⟩
def VE:FSpec:=⟨[.cp QT,.c (.s 5)],[],λz=>(z.g 20).length<=5000,λ_=>.tu [.c (.i .i64 30),.c (.b 40)],λ_=>[],λz y=>y.i 30=(cQ (z.s 5) (z.g 20):Nat)/\(y.p 40↔bW (z.s 5) (z.g 20)),none⟩
def Hi(p:Sy):LSpec:=⟨[(0,.cp QT),(3,.c (.i .i64 8)),(4,.c (.i .i64 9))],[],λz=>0<=z.i 9/\(z.g 20).length<=5000/\(0<=z.i 8/\z.i 8+cj ((z.g 20).drop (z.i 9).toNat)<=1073741824),λz=>((z.g 20).length-z.i 9).toNat,[⟨.exit 0,[(0,.cp QT),(3,.c (.i .i64 8))],[]⟩],λz y=>Ea (z.i 9) (z.i 8) (z.g 20) (y.i 8),none,[]⟩
def VF:FSpec:=⟨[.cp QT],[],oB,λ_=>.one (.c (.i .i64 30)),λ_=>[],λz y=>y.i 30=(cj (z.g 20):Nat),none⟩
def oC:FSpec:=⟨[.c (.p 0),.c (.s 5),.c (.vb 6)],S7,λz=>oB z/\(1<=(z.s 5).length/\(z.s 5).length<=64)/\(z.s 6).length<=1000000,λ_=>.one (.c (.i .i64 30)),λ_=>S7,λz y=>yN z y/\(dn (z.i 1) (z.s 5) (z.s 6).length (z.g 20)->y.i 30=0/\y.g 20=ga (z.s 5) (z.s 6) (z.g 20))/\(¬dn (z.i 1) (z.s 5) (z.s 6).length (z.g 20)->y.i 30=6/\y.g 20=z.g 20),none⟩
def yO:FSpec:=⟨[.c (.p 0),.c (.s 5)],S7,λz=>oB z/\(1<=(z.s 5).length/\(z.s 5).length<=64),λ_=>.one (.c (.i .i64 30)),λ_=>S7,λz y=>yN z y/\(bW (z.s 5) (z.g 20)->y.i 30=0/\y.g 20=mf (z.s 5) (z.g 20))/\(¬bW (z.s 5) (z.g 20)->y.i 30=7/\y.g 20=z.g 20),none⟩
def yP:FSpec:=⟨[.c (.p 0),.c (.s 5)],S7,oB,λ_=>.tu [.c (.vb 31),.c (.i .i64 30)],λ_=>S7,λz y=>y.g 20=z.g 20/\yN z y/\(bW (z.s 5) (z.g 20)->y.i 30=0/\y.s 31=gS (aa (aq (z.g 20) (cQ (z.s 5) (z.g 20))) 1))/\(¬bW (z.s 5) (z.g 20)->y.i 30=7/\y.s 31= []),none⟩
attribute [irreducible] cQ bW D_ Ea cj ga mf dn
end
abbrev Cb(a:Int)(b:List G):=0<=a/\a<= ↑b.length
def OY:bH 97 0 Hh:=bG 6 37 eN lN λp z hA=>show Fm.den (let v0:=(z.g 20=z.g 20/\z.s 5=z.s 5/\(Cb (z.i 9) (z.g 20))/\D_ (z.i 9) (z.s 5) (z.g 20) (z.i 9));let v1:=(↑(z.g 20).length:Int);(.two (bO (z.i 9) (z.g 20)) (.an (bS (z.i 9) (z.g 20)) (.two (mV (gS (aQ (aL (z.g 20) (z.i 9)))) (z.s 5)=true) (.an ((-9223372036854775808)<=z.i 9+1/\z.i 9+1<=9223372036854775807) (.ax ((0<=z.i 9+1/\z.i 9+1<= ↑(z.g 20).length/\(z.g 20).length<=5000)/\(v1-(z.i 9+1)).toNat<(v1-z.i 9).toNat/\∀(y:Sy),y.g 20=z.g 20/\y.s 5=z.s 5/\(0<=y.i 9/\y.i 9<= ↑(z.g 20).length)/\D_ (z.i 9+1) (z.s 5) (z.g 20) (y.i 9)->y.g 20=z.g 20/\y.s 5=z.s 5/\(0<=y.i 9/\y.i 9<= ↑(z.g 20).length)/\D_ (z.i 9) (z.s 5) (z.g 20) (y.i 9)))) (.ax v0))) (.ax v0))) by dsimp only [Hh,QT] at hA;have:=λk h0 h hl hs=>@OS (z.i 9) k (z.s 5) (z.g 20) h0 h hl hs;have:=@S0 (z.i 9) (z.s 5) (z.g 20);have:=@S1 (z.i 9) (z.s 5) (z.g 20);exact iy
def Ec:bj 97 VE:=bB 23 17592172063401 eN (aG (ptm:=[]) OY lN) λz hA=>show Fm.den ((.ct ((0:Int)<=0/\0<=(↑(z.g 20).length:Int)/\(z.g 20).length<=5000) (λy0=>y0.g 20=z.g 20/\y0.s 5=z.s 5/\(Cb (y0.i 9) (z.g 20))/\D_ 0 (z.s 5) (z.g 20) (y0.i 9)) λy0=>(let v0:=(bO (y0.i 9) (y0.g 20));(.two v0 (.an v0 (.an v0 (.an v0 (.an v0 (.an v0 (.an (bS (y0.i 9) (y0.g 20)) (.an v0 (.an v0 (.an v0 (.an v0 (.an v0 (.ax (y0.i 9= ↑(cQ (z.s 5) (z.g 20))/\(gS (aQ (aL (y0.g 20) (y0.i 9)))=y0.s 5↔bW (z.s 5) (z.g 20))))))))))))))) (.an (¬v0) (.an (¬v0) (.an (¬v0) (.an (¬v0) (.an (¬v0) (.an (¬v0) (.an (¬v0) (.an (¬v0) (.an (¬v0) (.an (¬v0) (.ax (y0.i 9= ↑(cQ (z.s 5) (z.g 20))/\(false=true↔bW (z.s 5) (z.g 20)))))))))))))))))) by dsimp only [VE,QT] at hA;have:=@XV (z.s 5) (z.g 20);have:=dH (z.s 5) (z.g 20);exact iy
abbrev yQ(a:List G):=a.length=a.length
def S8:bj 43 yP:=bB 3 1 (jX Ec eN) lN λz hA=>show Fm.den (let v0:=(aa (aq (z.g 20) (cQ (z.s 5) (z.g 20))) 1);let v1:=(z.i 1=z.i 1/\z.i 2=z.i 2);(.an (yQ (z.g 20)) (.ct ((z.g 20).length<=5000) (λy0=>y0.i 30= ↑(cQ (z.s 5) (z.g 20))/\(y0.p 40↔bW (z.s 5) (z.g 20))) λy0=>(let v2:=(aa (aL (z.g 20) (y0.i 30)) 1);(.two (¬y0.p 40) (.an (jb (z.g 20)) (.at (z.g 20=z.g 20/\v1/\(bW (z.s 5) (z.g 20)->(7:Int)=0/\ []=gS v0)/\(¬bW (z.s 5) (z.g 20)->(7:Int)=7/\mG)))) (.an (bS (y0.i 30) (z.g 20)) (.an (eB (y0.i 30) (z.g 20)) (.an (Dy (gS v2)) (.an ((z.g 20).length=(z.g 20).length/\([]++gS v2).length=0+(gS v2).length/\True) (.at (z.g 20=z.g 20/\v1/\(bW (z.s 5) (z.g 20)->(0:Int)=0/\ []++gS v2=gS v0)/\(¬bW (z.s 5) (z.g 20)->(0:Int)=7/\ []++gS v2= [])))))))))))) by dsimp only [yP,S7,oB,yN] at hA;have:=dH (z.s 5) (z.g 20);have:=pH (z.s 5) (z.g 20);have:=@OV (z.s 5) (z.g 20);exact iy
def OZ:bH 181 0 Hi:=bG 7 549 eN lN λp z hA=>show Fm.den (let v0:=(↑(gS (aa (aL (z.g 20) (z.i 9)) 1)).length:Int);let v1:=((-9223372036854775808)<=z.i 9+1/\z.i 9+1<=9223372036854775807);let v2:=(↑(z.g 20).length:Int);let v4:=(z.i 8+v0);let v5:=(z.i 9+1);let v3:=(↑(cj (List.drop v5.toNat (z.g 20))):Int);(.two (bO (z.i 9) (z.g 20)) (.an (bS (z.i 9) (z.g 20)) (.two ((-9223372036854775808)<=z.i 8+v0/\z.i 8+v0<=9223372036854775807) (.an v1 (.ax ((0<=z.i 9+1/\(z.g 20).length<=5000/\0<=z.i 8+v0/\z.i 8+v0+v3<=1073741824)/\(v2-v5).toNat<(v2-z.i 9).toNat/\∀(y:Sy),Ea v5 v4 (z.g 20) (y.i 8)->Ea (z.i 9) (z.i 8) (z.g 20) (y.i 8)))) (.an v1 (.ax ((0<=z.i 9+1/\(z.g 20).length<=5000/\(0:Int)<=IntKind.i64.wrap v4/\IntKind.i64.wrap v4+v3<=1073741824)/\(v2-v5).toNat<(v2-z.i 9).toNat/\∀(y:Sy),Ea v5 (eI v4) (z.g 20) (y.i 8)->Ea (z.i 9) (z.i 8) (z.g 20) (y.i 8)))))) (.ax (Ea (z.i 9) (z.i 8) (z.g 20) (z.i 8))))) by dsimp only [Hi,QT] at hA;have:=λm h0 h hs=>@OT (z.i 9) (z.i 8) m (z.g 20) h0 h hs;have:=@S2 (z.i 9) (z.i 8) (z.g 20);have:=@XX (z.i 9) (z.g 20);exact iy
def X3:bj 181 VF:=bB 1 0 eN (aG (ptm:=[]) OZ lN) λz hA=>show Fm.den ((.ct ((0:Int)<=0/\(z.g 20).length<=5000/\(0:Int)<=0/\(0:Int)+(↑(cj (List.drop (iZ) (z.g 20))):Int)<=1073741824) (λy0=>Ea 0 0 (z.g 20) (y0.i 8)) λy0=>(.ax (y0.i 8= ↑(cj (z.g 20)))))) by dsimp only [VF,QT,oB] at hA;have:=@XW (z.g 20);exact iy
abbrev O0(a:List G):=0=0/\0<=1000000000/\a.length<=1000000
def JV:bj 118 oC:=bB 44 77371196226073830408497599 (jX Ec (jX X3 eN)) lN λz hA=>show Fm.den (let v0:=([]++z.g 20++ [G.node [G.str (z.s 5),G.str [],G.int 0]]++z.g 20);let v1:=(List.drop (Int.toNat 0 * 3/3) (z.g 20));let v2:=(↑(z.g 20).length:Int);let v4:=((z.g 20).length=0);let v5:=(z.i 1=z.i 1/\z.i 2=z.i 2);let v3:=(v5/\(dn (z.i 1) (z.s 5) (z.s 6).length (z.g 20)->(6:Int)=0/\z.g 20=ga (z.s 5) (z.s 6) (z.g 20))/\(¬dn (z.i 1) (z.s 5) (z.s 6).length (z.g 20)->(6:Int)=6/\z.g 20=z.g 20));let v6:=(jb (z.g 20));let v7:=(0+(z.g 20).length+1+(z.g 20).length);let v8:=(yQ (z.g 20));let v9:=(¬(0<z.i 2));(.an (¬(z.i 2=0)) (.an (¬((↑(z.s 5).length:Int)<1)) (.an (¬(64<(↑(z.s 5).length:Int))) (.an v8 (.ct ((z.g 20).length<=5000) (λy0=>y0.i 30= ↑(cQ (z.s 5) (z.g 20))/\(y0.p 40↔bW (z.s 5) (z.g 20))) λy0=>(let v10:=([]++List.take (y0.i 30-0).toNat v1++ [G.node [G.str (z.s 5),G.str [],G.int 0]]++List.take (v2-y0.i 30).toNat (List.drop ((y0.i 30).toNat * 3/3) (z.g 20)));let v11:=(aL (z.g 20) (y0.i 30));let j8:=(mO (v2-y0.i 30) (List.drop ((y0.i 30).toNat * 3/3) (z.g 20)));let n7:=(mO (y0.i 30-0) v1);let o8:=(aa (aL v10 (y0.i 30)) 1);let d7:=(G.node [G.str (gS (aQ (aL v10 (y0.i 30)))),G.str ([]++gS o8++z.s 6),G.int (gI (aa (aL v10 (y0.i 30)) 2))]);let s8:=(aa (aL v0 (y0.i 30)) 1);let i9:=(G.node [G.str (gS (aQ (aL v0 (y0.i 30)))),G.str ([]++gS s8++z.s 6),G.int (gI (aa (aL v0 (y0.i 30)) 2))]);let s9:=(¬y0.p 40);let v20:=(0<=y0.i 30/\y0.i 30<(↑(0+n7.length+1+j8.length):Int));let v21:=(bS (y0.i 30) (z.g 20));let p9:=(aa v11 1);let u0:=(G.node [G.str (gS (aa v11 0)),G.str ([]++gS p9++z.s 6),G.int (gI (aa v11 2))]);let v23:=(0<=y0.i 30/\y0.i 30 < ↑v7);(.an v8 (.ct ((z.g 20).length<=5000/\cj (z.g 20)<=1000000/\0<=z.i 1/\z.i 1<=1073741824/\z.i 2=(-1)) (λy1=>y1.i 30= ↑(cj (z.g 20))) λy1=>(let z':=(z.i 1<y1.i 30+ ↑(z.s 6).length);(.an ((-9223372036854775808)<=y1.i 30+(↑(z.s 6).length:Int)/\y1.i 30+ ↑(z.s 6).length<=9223372036854775807) (.two z' (.an z' (.an z' (.an z' (.an z' (.an v6 (.at v3)))))) (.an (¬z') (.an (¬z') (.two s9 (.an s9 (.an s9 (.an s9 (.an s9 (.an s9 (.an (¬z') (.an s9 (.an (¬z') (.two (4096<=v2) (.an v6 (.at v3)) (.an s9 (.two v4 (.an ((0:Int)=0/\y0.i 30=0) (.an v4 (.an (O0 (z.g 20)) (.an (([]++z.g 20).length=0+(z.g 20).length/\0+(z.g 20).length<=1000000000/\True) (.an v4 (.an (y0.i 30=0/\v2=0) (.an v4 (.an (([]++z.g 20++ [G.node [G.str (z.s 5),G.str [],G.int 0]]).length=0+(z.g 20).length+1/\0+(z.g 20).length+1<=1000000000/\(z.g 20).length<=1000000) (.an v23 (.an (eB (y0.i 30) v0) (.an (Dy (gS s8)) (.an (([]++gS s8).length=0+(gS s8).length/\0+(gS s8).length<=1000000000/\(z.s 6).length<=1000000) (.an v23 (.an (([]++gS s8++z.s 6).length=0+(gS s8).length+(z.s 6).length) (.an (uA (y0.i 30) v0) (.an v9 (.an ((v0.set (y0.i 30).toNat i9).length=0+(z.g 20).length+1+(z.g 20).length/\True) (.at (v5/\(dn (z.i 1) (z.s 5) (z.s 6).length (z.g 20)->(0:Int)=0/\v0.set (y0.i 30).toNat i9=ga (z.s 5) (z.s 6) (z.g 20))/\(¬dn (z.i 1) (z.s 5) (z.s 6).length (z.g 20)->(0:Int)=6/\v0.set (y0.i 30).toNat i9=z.g 20)))))))))))))))))))) (.an (BQ (y0.i 30) (z.g 20)) (.an (Int.toNat 0 * 3=Int.toNat 0 * 3/3 * 3/\Int.toNat 0 * 3/3+(y0.i 30-0).toNat<=(z.g 20).length) (.an (O0 n7) (.an (([]++List.take (y0.i 30-0).toNat v1).length=0+n7.length/\0+n7.length<=1000000000/\True) (.an (¬v4) (.an (0<=y0.i 30/\y0.i 30<= ↑(z.g 20).length/\v2<=v2) (.an ((y0.i 30).toNat * 3=(y0.i 30).toNat * 3/3 * 3/\(y0.i 30).toNat * 3/3+(↑(z.g 20).length-y0.i 30).toNat<=(z.g 20).length) (.an (([]++List.take (y0.i 30-0).toNat v1++ [G.node [G.str (z.s 5),G.str [],G.int 0]]).length=0+n7.length+1/\0+n7.length+1<=1000000000/\j8.length<=1000000) (.an v20 (.an (eB (y0.i 30) v10) (.an (Dy (gS o8)) (.an (([]++gS o8).length=0+(gS o8).length/\0+(gS o8).length<=1000000000/\(z.s 6).length<=1000000) (.an v20 (.an (([]++gS o8++z.s 6).length=0+(gS o8).length+(z.s 6).length) (.an (uA (y0.i 30) v10) (.an v9 (.an ((v10.set (y0.i 30).toNat d7).length=0+n7.length+1+j8.length/\True) (.at (v5/\(dn (z.i 1) (z.s 5) (z.s 6).length (z.g 20)->(0:Int)=0/\v10.set (y0.i 30).toNat d7=ga (z.s 5) (z.s 6) (z.g 20))/\(¬dn (z.i 1) (z.s 5) (z.s 6).length (z.g 20)->(0:Int)=6/\v10.set (y0.i 30).toNat d7=z.g 20))))))))))))))))))))))))))))))) (.an (¬s9) (.an (¬s9) (.an (¬s9) (.an (¬s9) (.an (¬s9) (.an (¬z') (.an (¬s9) (.an (¬z') (.an (¬s9) (.an v21 (.an (eB (y0.i 30) (z.g 20)) (.an (Dy (gS p9)) (.an (([]++gS p9).length=0+(gS p9).length/\0+(gS p9).length<=1000000000/\(z.s 6).length<=1000000) (.an v21 (.an (([]++gS p9++z.s 6).length=0+(gS p9).length+(z.s 6).length) (.an (uA (y0.i 30) (z.g 20)) (.an v9 (.an (((z.g 20).set (y0.i 30).toNat u0).length=(z.g 20).length/\True) (.at (v5/\(dn (z.i 1) (z.s 5) (z.s 6).length (z.g 20)->(0:Int)=0/\(z.g 20).set (y0.i 30).toNat u0=ga (z.s 5) (z.s 6) (z.g 20))/\(¬dn (z.i 1) (z.s 5) (z.s 6).length (z.g 20)->(0:Int)=6/\(z.g 20).set (y0.i 30).toNat u0=z.g 20)))))))))))))))))))))))))))))))))))) by dsimp only [oC,S7,oB,yN] at hA;have:=dH (z.s 5) (z.g 20);have:=pH (z.s 5) (z.g 20);have:=@OV (z.s 5) (z.g 20);have:=JU (z.i 1) (z.s 5) (z.s 6).length (z.g 20);have:=@XZ (z.s 5) (z.s 6) (z.g 20);have:=@S4 (z.s 5) (z.s 6) (z.g 20);have:=@S5 (z.s 5) (z.g 20);have:=@S6 (z.s 5) (z.g 20);have:=@XY (z.s 5) (z.g 20);exact iy
def S9:bj 46 yO:=bB 7 3199 (jX Ec eN) lN λz hA=>show Fm.den (let v0:=(z.i 1=z.i 1/\z.i 2=z.i 2);(.an (¬(z.i 2=0)) (.an (¬((↑(z.s 5).length:Int)<1)) (.an (¬(64<(↑(z.s 5).length:Int))) (.an (yQ (z.g 20)) (.ct ((z.g 20).length<=5000) (λy0=>y0.i 30= ↑(cQ (z.s 5) (z.g 20))/\(y0.p 40↔bW (z.s 5) (z.g 20))) λy0=>(let v1:=(G.node [G.str (gS (aQ (aL (z.g 20) (y0.i 30)))),G.str (gS (aa (aL (z.g 20) (y0.i 30)) 1)),G.int (↑(gS (aa (aL (z.g 20) (y0.i 30)) 1)).length:Int)]);let v2:=(bS (y0.i 30) (z.g 20));(.two (¬y0.p 40) (.an (jb (z.g 20)) (.at (v0/\(bW (z.s 5) (z.g 20)->(7:Int)=0/\z.g 20=mf (z.s 5) (z.g 20))/\(¬bW (z.s 5) (z.g 20)->(7:Int)=7/\z.g 20=z.g 20)))) (.an v2 (.an (eB (y0.i 30) (z.g 20)) (.an v2 (.an (uA (y0.i 30) (z.g 20)) (.an (¬(0<z.i 2)) (.an (((z.g 20).set (y0.i 30).toNat v1).length=(z.g 20).length/\True) (.at (v0/\(bW (z.s 5) (z.g 20)->(0:Int)=0/\(z.g 20).set (y0.i 30).toNat v1=mf (z.s 5) (z.g 20))/\(¬bW (z.s 5) (z.g 20)->(0:Int)=7/\(z.g 20).set (y0.i 30).toNat v1=z.g 20))))))))))))))))) by dsimp only [yO,S7,oB,yN] at hA;have:=dH (z.s 5) (z.g 20);have:=pH (z.s 5) (z.g 20);have:=@OV (z.s 5) (z.g 20);have:=@X1 (z.s 5) (z.g 20);exact iy
noncomputable section
def X4(i:Nat)(e:G):List Nat:=@ite _ (gI (aa e 0)=2/\¬gI (aa e 12)=1) (Classical.propDecidable _) (aH i++(aH (kj e).length++kj e)) []
def oD{i:Nat}{e:G}(h:¬gI (aa e 0)=2∨gI (aa e 12)=1):X4 i e= []:=if_neg λ⟨a,b⟩=>h.elim (λc=>c a) b
def tN{i:Nat}{e:G}(h:gI (aa e 0)=2)(h1:¬gI (aa e 12)=1):X4 i e=aH i++(aH (kj e).length++kj e):=if_pos ⟨h,h1⟩
def dtL:Nat->List G->List Nat
 |_,[]=>[]
 |i,e::es=>X4 i e++dtL (i+1) es
def gj(es:List G)(i:Int):List Nat:=dtL i.toNat (es.drop i.toNat)
def tO{es:List G}{i:Int}(h0:0<=i)(h:i<es.length):gj es i=X4 i.toNat (aq es i.toNat)++gj es (i+1):=by unfold gj;rw[mR h0 h,show(i+1).toNat=i.toNat+1 by omega];rfl
def yR{es:List G}{i:Int}(h:(es.length:Int)<=i):gj es i= []:=by unfold gj;rw[aaH (by omega)];rfl
def O1{i:Nat}{e:G}(hi:i<200):(X4 i e).length<=(zA True e).length+10:=by
 by_cases h:gI (aa e 0)=2
 ·by_cases h1:gI (aa e 12)=1
  ·rw[oD (.inr h1)];exact aaq _
  ·rw[tN h h1,kV h (λq=>q.elim h1 (λq=>q trivial))];have:=fC (n:=i) (by omega);simp only [aai,aat,List.length_nil];omega
 ·rw[oD (.inl h)];exact aaq _
def S_{i:Nat}{e:G}(h:me e=0)(hi:wh e)(h2:i<200):(X4 i e).length<=70010:=by have:=ye (d:=True) h hi;have:=@O1 i e h2;omega
def Hj:∀(es:List G) (i:Nat),(∀e∈es,me e=0/\wh e)->i+es.length<=200->(dtL i es).length<=es.length * 70010
 | [],_,_,_=>aaq _
 |e::es,i,h,hi=>by have h1:=h e aan;have a:=S_ (i:=i) h1.1 h1.2 (by simp at hi;omega);have b:=Hj es (i+1) (λx hx=>h x (aal _ hx)) (by simp at hi⊢;omega);rw[dtL,aai,aat];omega
def Hk{es:List G}(h:jN es):(gj es 0).length<=14002000:=by
 obtain⟨h1,h2,h3⟩:=h;have hm:∀e∈es,me e=0/\wh e:=λe he=>by
  obtain⟨i,hi,e2⟩:=abI he;have:=lF (i:=(i:Int)) h1 (by omega) (by omega);have e3:aq es (i:Int).toNat=e:=by unfold aq;rw[aar,aag,aak hi, ←e2];rfl
  rw[e3] at this;exact⟨this,by unfold qY at h2;exact h2 e he⟩
 have:=Hj es 0 hm (by omega);unfold gj;show(dtL 0 (es.drop 0)).length<=_;rw[aaT];have:es.length * 70010<=200 * 70010:=aaB _ h3;omega
theorem Ta{n:Nat}(h:n<18446744073709551616):((n:Int)%18446744073709551616).toNat=n:=by omega
def JW(p:Sy):List BSh:=[.cells 79 (mZ p),.growb 5 20]
def Hl(p:Sy):LSpec:=⟨[(1,.c (.p 0)),(4,.c (.gb 1 20)),(5,.c (.i .i64 9))],JW p,λz=>jN (p.g 24)/\(0<=z.i 9/\z.i 9<=(p.g 24).length)/\(z.s 20).length+(gj (p.g 24) (z.i 9)).length<=20000000,λz=>((p.g 24).length-z.i 9).toNat,[⟨.exit 0,[(1,.c (.p 0)),(4,.c (.gb 1 20))],JW p⟩],λz y=>y.s 20=z.s 20++gj (p.g 24) (z.i 9),none,[]⟩
def wD(p:Sy):LSpec:=⟨[(1,.c (.p 0)),(4,.c (.gb 1 20)),(10,.c (.pv 7 (p.g 24))),(11,.c (.pi .i64 (p.g 24).length)),(12,.c (.i .i64 9))],JW p,λz=>jN (p.g 24)/\(0<=z.i 9/\z.i 9<=(p.g 24).length)/\(z.s 20).length+(gj (p.g 24) (z.i 9)).length<=20000000,λz=>((p.g 24).length-z.i 9).toNat,[⟨.exit 0,[(1,.c (.p 0)),(4,.c (.gb 1 20))],JW p⟩],λz y=>y.s 20=z.s 20++gj (p.g 24) (z.i 9),none,[]⟩
def VG:FSpec:=⟨[.ag bk],[],λz=>jN (z.g 24),λ_=>.tu [.c (.vb 30),.c (.b 40)],λ_=>[],λz y=>(y.p 40↔0<(gj (z.g 24) 0).length)/\((gj (z.g 24) 0).length<=524288->y.s 30=zB (gj (z.g 24) 0))/\(y.s 30).length<=524300,none⟩
def Hm:FSpec:=⟨[.ag bk],[],λz=>jN (z.g 24),λ_=>.tu [.c (.vb 30),.c (.b 40)],λ_=>[],λz y=>(y.p 40↔0<(gj (z.g 24) 0).length)/\y.s 30=gj (z.g 24) 0,none⟩
attribute [irreducible] gj X4
end
abbrev X5(a b c d e:List Nat):=a.length=b.length+c.length+d.length/\b.length+c.length+d.length<=1000000000/\e.length<=1000000
def tP:bj 117 wv:=bB 3 1 (ai Ol (jX XL eN)) lN λz hA=>show Fm.den (let v0:=(↑(z.s 1).length:Int);(.two (524288<v0) (.ax (((z.s 1).length<=524288->(5:Int)=0/\ []=zB (z.s 1))/\(524288<(z.s 1).length->(5:Int)=5/\mG)/\0<=524300)) (.ct (0<=v0%4294967296) (λy0=>y0.s 20=b4 (v0%4294967296)) λy0=>(.an (sW (y0.s 20)) (SN (y0.s 20) λy1=>(GZ (y1.i 10) λy2=>(let v1:=(y0.s 20++y2.s 20++z.s 1);(.an (sW (y2.s 20)) (.an (DK (y0.s 20) (y2.s 20)) (.an (Nr (y0.s 20++y2.s 20) (y0.s 20) (y2.s 20) (z.s 1)) (.an (v1.length=(y0.s 20).length+(y2.s 20).length+(z.s 1).length) (SN v1 λy3=>(GZ (y3.i 10) λy4=>(let v2:=(y0.s 20++y2.s 20++z.s 1++y4.s 20);(.an (sW (y4.s 20)) (.an (X5 v1 (y0.s 20) (y2.s 20) (z.s 1) (y4.s 20)) (.an (v2.length=(y0.s 20).length+(y2.s 20).length+(z.s 1).length+(y4.s 20).length/\True) (.at (((z.s 1).length<=524288->(0:Int)=0/\y0.s 20++y2.s 20++z.s 1++y4.s 20=zB (z.s 1))/\(524288<(z.s 1).length->(0:Int)=5/\y0.s 20++y2.s 20++z.s 1++y4.s 20= [])/\v2.length<=524300))))))))))))))))))) by
 dsimp only [wv,jd] at hA;have m1:(z.s 1).length<=524288->((z.s 1).length:Int)%4294967296=(z.s 1).length:=λh=>by omega
 have:=dI (z.s 1);conv=>zeta
 repeat' with_reducible first|intro _|apply cd|apply ck|apply cg|apply cE|apply cr
 all_goals first|omega|grind [ao,ak,aj,List.append_assoc,zB,frH,tG]
def wE:bj 131 jd:=bB 3 1 (ai Ot (ai o_Big (jX Oq (ai tH eN)))) lN λz hA=>show Fm.den (let v0:=(↑(z.s 1).length:Int);(.two (524288<v0) (.ax (((z.s 1).length<=524288->(5:Int)=0/\ []=zB (z.s 1))/\(524288<(z.s 1).length->(5:Int)=5/\mG)/\0<=524300)) (.ct (0<=v0%4294967296/\v0%4294967296<4294967296) (λy0=>y0.i 10/4294967296%4294967296= ↑(z.s 1).length%4294967296/\y0.i 10%4294967296=D2 (b4 (v0%4294967296))/\0<=y0.i 10/\y0.i 10<18446744073709551616) λy0=>(.ct (FG (y0.i 10)) (λy1=>y1.s 20=b4 (y0.i 10/4294967296%4294967296)++b4 (y0.i 10%4294967296)) λy1=>(let v1:=(y1.s 20++z.s 1);(.an (DK (y1.s 20) (z.s 1)) (.an (v1.length=(y1.s 20).length+(z.s 1).length) (SN v1 λy2=>(GZ (y2.i 10) λy3=>(let v2:=(y1.s 20++z.s 1++y3.s 20);(.an (sW (y3.s 20)) (.an (Nr v1 (y1.s 20) (z.s 1) (y3.s 20)) (.an (v2.length=(y1.s 20).length+(z.s 1).length+(y3.s 20).length/\True) (.at (((z.s 1).length<=524288->(0:Int)=0/\y1.s 20++z.s 1++y3.s 20=zB (z.s 1))/\(524288<(z.s 1).length->(0:Int)=5/\y1.s 20++z.s 1++y3.s 20= [])/\v2.length<=524300))))))))))))))) by
 dsimp only [jd] at hA;have m1:(z.s 1).length<=524288->((z.s 1).length:Int)%4294967296=(z.s 1).length:=λh=>by omega
 have:=dI (z.s 1);conv=>zeta
 repeat' with_reducible first|intro _|apply cd|apply ck|apply cg|apply cE|apply cr
 all_goals first|omega|grind [ao,ak,aj,List.append_assoc,zB,frH,tG]
abbrev Tb(a:Prop)(b c:Int)(d:List Nat)(e:List G)(f g:Int):=a/\b.toNat<c.toNat/\∀(y:Sy),y.s 20=d++gj e f->y.s 20=d++gj e g
def O2:bH 113 0 Hl:=bG 10 35109 (ai pC (ai dm eN)) lN λp z hA=>show Fm.den (let v0:=(aL (p.g 24) (z.i 9));let v1:=(GD (z.s 20) (p.g 24) (kg p 200) (ja (p.i 23) (p.i 22) (p.i 21)));let v3:=((-9223372036854775808)<=z.i 9+1/\z.i 9+1<=9223372036854775807);let v4:=(↑(p.g 24).length:Int);let v5:=(gL (aa v0 10));let v6:=(gS (aa v0 8));let v7:=(gI (aa v0 6));let v8:=(gL (aa v0 9));let v9:=(z.i 9+1);let v2:=(qx (oM (p.g 24)) (dF (z.i 9) (p.g 24)) (z.s 20) (gj (p.g 24) v9));let v10:=(gI (aa v0 5));let v11:=(gI (aa v0 7));(.two (bO (z.i 9) (p.g 24)) (.an (bS (z.i 9) (p.g 24)) (.two (gI (aa v0 0)≠2) (.an v3 (.an v1 (.at (Tb v2 (v4-v9) (v4-z.i 9) (z.s 20) (p.g 24) v9 (z.i 9))))) (.two (gI (aa v0 12)=1) (.an v3 (.an v1 (.at (Tb v2 (v4-v9) (v4-z.i 9) (z.s 20) (p.g 24) v9 (z.i 9))))) (Zd v7 v6 v8 v5 v10 v11 (dM 16 v10 v7 v11 v6 v8 v5) λy0=>(let d7:=(↑(y0.s 10).length:Int);(uj (z.i 9) (z.i 9%18446744073709551616) λy1=>(.an (DK (z.s 20) (y1.s 10)) (uj d7 (d7%18446744073709551616) λy2=>(let i9:=(z.s 20++y1.s 10++y2.s 10++y0.s 10);(.an (Nr (z.s 20++y1.s 10) (z.s 20) (y1.s 10) (y2.s 10)) (.an (X5 (z.s 20++y1.s 10++y2.s 10) (z.s 20) (y1.s 10) (y2.s 10) (y0.s 10)) (.an v3 (.an (i9.length=(z.s 20).length+(y1.s 10).length+(y2.s 10).length+(y0.s 10).length/\p.g 24=p.g 24/\fW (kg p 200) (kg p 200) (ja (p.i 23) (p.i 22) (p.i 21))) (.at ((qx (oM (p.g 24)) (dF (z.i 9) (p.g 24)) i9 (gj (p.g 24) v9))/\(v4-v9).toNat<(v4-z.i 9).toNat/\∀(y:Sy),y.s 20=z.s 20++y1.s 10++y2.s 10++y0.s 10++gj (p.g 24) v9->y.s 20=z.s 20++gj (p.g 24) (z.i 9)))))))))))))))) (.an v1 (.at (z.s 20=z.s 20++gj (p.g 24) (z.i 9)))))) by
 dsimp only [Hl,JW,mZ,uC,jN] at hA;have:=@tO (p.g 24) (z.i 9);have:=@yR (p.g 24) (z.i 9);have a3:=@oD (z.i 9).toNat (aq (p.g 24) (z.i 9).toNat);have a4:=@tN (z.i 9).toNat (aq (p.g 24) (z.i 9).toNat);have a6:=BE p z;have a7:=JF p z;dsimp only [kj,wh,me] at a3 a4 a6 a7;have m9:0<=z.i 9->z.i 9<=200->(z.i 9%18446744073709551616).toNat=(z.i 9).toNat:=λa b=>by omega
 have:=NH p z;have:=NI p z;have q1:=Sn p z;dsimp only [me] at q1;conv=>zeta
 repeat' with_reducible first|intro _|apply cd|apply ck|apply cg|apply cE|apply cr
 all_goals first|omega|grind [ao,ak,aj,aT,aU,aV,aW,aX,aY,aZ,a_,ba,aC,List.append_assoc,fC,bM,Ta]
abbrev Tc(a:List Nat):=Fm.ct (a.length<=100000000) (λy=>(a.length<=524288->y.i 50=0/\y.s 10=zB a)/\(524288<a.length->y.i 50=5/\y.s 10= [])/\(y.s 10).length<=524300)
def X6:bj 113 VG:=bB 1 0 (ai tP eN) (aG (ptm:=[(0,.ag bk)]) O2 lN) λz hA=>show Fm.den (let v0:=(gj (z.g 24) 0);(.cl ((GF (z.g 24) (kg z 200) (ja (z.i 23) (z.i 22) (z.i 21)))) ((oM (z.g 24))/\(fL (↑(z.g 24).length:Int))/\0+v0.length<=20000000) (λy0=>y0.s 20= []++gj (z.g 24) 0) λy0=>(let v1:=(sW (y0.s 20));(.an v1 (Tc (y0.s 20) λy1=>(.an v1 (.ax ((0<(↑(y0.s 20).length:Int)↔0<v0.length)/\(v0.length<=524288->y1.s 10=zB v0)/\(y1.s 10).length<=524300)))))))) by
 dsimp only [VG,bk,hs,jN] at hA;have:=@Hk (z.g 24);conv=>zeta
 repeat' with_reducible first|intro _|apply cd|apply ck|apply cg|apply cE|apply cr
 all_goals first|omega|grind [ao,ak,aj,aT,aU,aV,aW,aX,aY,aZ,a_,ba,aC,List.append_assoc,fC,bM,Ta]
def Ed:bH 128 0 wD:=bG 10 35109 (ai tl (ai gf eN)) lN λp z hA=>show Fm.den (let v0:=(aL (p.g 24) (z.i 9));let v3:=((-9223372036854775808)<=z.i 9+1/\z.i 9+1<=9223372036854775807);let v4:=(↑(p.g 24).length:Int);let v1:=(DQ (p.i 23) (p.i 22) (p.i 21) v4 (p.g 24));let v5:=(GD (z.s 20) (p.g 24) (kg p 200) v1);let v6:=(gL (aa v0 10));let v7:=(gS (aa v0 8));let v8:=(gI (aa v0 6));let v9:=(gL (aa v0 9));let v10:=(z.i 9+1);let v2:=(qx (oM (p.g 24)) (dF (z.i 9) (p.g 24)) (z.s 20) (gj (p.g 24) v10));let v11:=(gI (aa v0 5));let d7:=(gI (aa v0 7));(.two (bO (z.i 9) (p.g 24)) (.an (bS (z.i 9) (p.g 24)) (.two (gI (aa v0 0)≠2) (.an v3 (.an v5 (.at (Tb v2 (v4-v10) (v4-z.i 9) (z.s 20) (p.g 24) v10 (z.i 9))))) (.two (gI (aa v0 12)=1) (.an v3 (.an v5 (.at (Tb v2 (v4-v10) (v4-z.i 9) (z.s 20) (p.g 24) v10 (z.i 9))))) (Zd v8 v7 v9 v6 v11 d7 (dM 16 v11 v8 d7 v7 v9 v6) λy0=>(let i9:=(↑(y0.s 10).length:Int);(uj (z.i 9) (z.i 9%18446744073709551616) λy1=>(.an (DK (z.s 20) (y1.s 10)) (uj i9 (i9%18446744073709551616) λy2=>(let j8:=(z.s 20++y1.s 10++y2.s 10++y0.s 10);(.an (Nr (z.s 20++y1.s 10) (z.s 20) (y1.s 10) (y2.s 10)) (.an (X5 (z.s 20++y1.s 10++y2.s 10) (z.s 20) (y1.s 10) (y2.s 10) (y0.s 10)) (.an v3 (.an (j8.length=(z.s 20).length+(y1.s 10).length+(y2.s 10).length+(y0.s 10).length/\p.g 24=p.g 24/\fW (kg p 200) (kg p 200) v1) (.at ((qx (oM (p.g 24)) (dF (z.i 9) (p.g 24)) j8 (gj (p.g 24) v10))/\(v4-v10).toNat<(v4-z.i 9).toNat/\∀(y:Sy),y.s 20=z.s 20++y1.s 10++y2.s 10++y0.s 10++gj (p.g 24) v10->y.s 20=z.s 20++gj (p.g 24) (z.i 9)))))))))))))))) (.an (GD (z.s 20) (p.g 24) (kg p 200) (ja (p.i 23) (p.i 22) (p.i 21))) (.at (z.s 20=z.s 20++gj (p.g 24) (z.i 9)))))) by
 dsimp only [wD,JW,mZ,uC,jN] at hA;have:=@tO (p.g 24) (z.i 9);have:=@yR (p.g 24) (z.i 9);have a3:=@oD (z.i 9).toNat (aq (p.g 24) (z.i 9).toNat);have a4:=@tN (z.i 9).toNat (aq (p.g 24) (z.i 9).toNat);have a6:=BE p z;have a7:=JF p z;dsimp only [kj,wh,me] at a3 a4 a6 a7;have m9:0<=z.i 9->z.i 9<=200->(z.i 9%18446744073709551616).toNat=(z.i 9).toNat:=λa b=>by omega
 have:=NH p z;have:=NI p z;have q1:=Sn p z;dsimp only [me] at q1;conv=>zeta
 repeat' with_reducible first|intro _|apply cd|apply ck|apply cg|apply cE|apply cr
 all_goals first|omega|grind [ao,ak,aj,aT,aU,aV,aW,aX,aY,aZ,a_,ba,aC,List.append_assoc,fC,bM,Ta]
def O3:bj 128 Hm:=bB 1 0 eN (aG (ptm:=[(0,.ag bk)]) Ed lN) λz hA=>show Fm.den (let v0:=(↑(z.g 24).length:Int);(.cl ((GF (z.g 24) (kg z 200) (DQ (z.i 23) (z.i 22) (z.i 21) v0 (z.g 24)))) ((oM (z.g 24))/\(fL v0)/\0+(gj (z.g 24) 0).length<=20000000) (λy0=>y0.s 20= []++gj (z.g 24) 0) λy0=>(.an (pu (y0.s 20)) (.at ((0<(↑(y0.s 20).length:Int)↔0<(gj (z.g 24) 0).length)/\y0.s 20=gj (z.g 24) 0))))) by
 dsimp only [Hm,bk,hs,jN] at hA;have:=@Hk (z.g 24);conv=>zeta
 repeat' with_reducible first|intro _|apply cd|apply ck|apply cg|apply cE|apply cr
 all_goals first|omega|grind [ao,ak,aj,aT,aU,aV,aW,aX,aY,aZ,a_,ba,aC,List.append_assoc,fC,bM,Ta]
noncomputable section
def Ho(k:Int)(n:Nat)(l:List G):Prop:=(∀r∈l,gS (aa r 0)=fF∨∃i:Int,0<=i/\i<k/\gS (aa r 0)=cW i)/\(l.length:Int)<=2 * k/\cj l<=n
def Td:Ho 0 0 []:=⟨λr h=>absurd h aaS,by simp,by rw[yK];exact aac _⟩
def Te{k:Int}{n:Nat}{l:List G}(h:Ho k n l)(h0:0<=k)(h1:k<100):¬bW (cW k) l:=λhs=>by
 obtain⟨r,hr,e⟩:=OX hs;rcases h.1 r hr with h2|⟨i,i0,ik,h2⟩
 ·exact OL k (e.symm.trans h2)
 ·have:=G9 h0 i0 h1 (by omega) (e.symm.trans h2);omega
def Hq{k:Int}{n:Nat}{l:List G}{room:Int}{nm b:List Nat}(h:Ho k n l)(h1:k<100)(hr:(n:Int)+b.length<=room):dn room nm b.length l:=by obtain⟨_,h2,h3⟩:=h;unfold dn;exact⟨by omega,.inr (by omega)⟩
def O4{k:Int}{n:Nat}{l:List G}{b:List Nat}(h:Ho k n l)(h0:0<=k):bW (cW k) (ga (cW k) b l)/\(∀r∈mf (cW k) (ga (cW k) b l),gS (aa r 0)=fF∨∃i:Int,0<=i/\i<k+1/\gS (aa r 0)=cW i)/\((mf (cW k) (ga (cW k) b l)).length:Int)<=2 * k+1/\cj (mf (cW k) (ga (cW k) b l))<=n+b.length:=by
 obtain⟨q1,q2,q3,q4⟩:=jg (cW k) b l;obtain⟨s1,s2,s3⟩:=pJ _ _ q1;obtain⟨h1,h2,h3⟩:=h;refine⟨q1,λr hr=>?_,by omega,by omega⟩;have hm:gS (aa r 0)∈fQ (mf (cW k) (ga (cW k) b l)):=List.mem_map.2 ⟨r,hr,rfl⟩;rw[s1] at hm;obtain⟨r2,hr2,e2⟩:=List.mem_map.1 hm;rcases q4 r2 hr2 with h|⟨r',hr',e'⟩
 ·exact .inr ⟨k,h0,by omega,e2.symm.trans h⟩
 ·rcases h1 r' hr' with h|⟨i,i0,ik,h⟩
  ·exact .inl (e2.symm.trans (e'.symm.trans h))
  ·exact .inr ⟨i,i0,by omega,e2.symm.trans (e'.symm.trans h)⟩
def Hr{k:Int}{n:Nat}{l:List G}{b:List Nat}(h1:∀r∈l,gS (aa r 0)=fF∨∃i:Int,0<=i/\i<k+1/\gS (aa r 0)=cW i)(h2:(l.length:Int)<=2 * k+1)(h3:cj l<=n):bW fF (ga fF b l)/\Ho (k+1) (n+b.length) (mf fF (ga fF b l)):=by
 obtain⟨q1,q2,q3,q4⟩:=jg fF b l;obtain⟨s1,s2,s3⟩:=pJ _ _ q1;refine⟨q1,λr hr=>?_,by omega,by omega⟩;have hm:gS (aa r 0)∈fQ (mf fF (ga fF b l)):=List.mem_map.2 ⟨r,hr,rfl⟩;rw[s1] at hm;obtain⟨r2,hr2,e2⟩:=List.mem_map.1 hm;rcases q4 r2 hr2 with h|⟨r',hr',e'⟩
 ·exact .inl (e2.symm.trans h)
 ·rcases h1 r' hr' with h|⟨i,i0,ik,h⟩
  ·exact .inl (e2.symm.trans (e'.symm.trans h))
  ·exact .inr ⟨i,i0,ik,e2.symm.trans (e'.symm.trans h)⟩
attribute [irreducible] Ho
end
noncomputable section
def zD:Nat->List G->List G
 |0,l=>l
 |k+1,l=>l.map λg=>.node [.int (gI (aa g 0)),.int (gI (aa g 1)),.int (gI (aa g 2)),.str (gS (aa g 3)),.node (gL (aa g 4)),.node (zD k (gL (aa g 5)))]
def Zi(k:Nat)(g:G):G:=.node [.int (gI (aa g 0)),.int (gI (aa g 1)),.int (gI (aa g 2)),.str (gS (aa g 3)),.node (gL (aa g 4)),.node (zD k (gL (aa g 5)))]
def O5(k:Nat)(g:G):Zi k g= .node [.int (gI (aa g 0)),.int (gI (aa g 1)),.int (gI (aa g 2)),.str (gS (aa g 3)),.node (gL (aa g 4)),.node (zD k (gL (aa g 5)))]:=rfl
def CM(k:Nat)(l:List G)(i:Int):List G:=(l.drop i.toNat).map (Zi k)
def Cc{k:Nat}{l:List G}{i:Int}(h0:0<=i)(h:i<l.length):CM k l i=Zi k (aq l i.toNat)::CM k l (i+1):=by unfold CM;rw[mR h0 h];rfl
def Hs{k:Nat}{l:List G}{i:Int}(h:(l.length:Int)<=i):CM k l i= []:=by unfold CM;rw[aaH (by omega)];rfl
def Cd(k:Nat)(l:List G):zD (k+1) l=CM k l 0:=rfl
def JX(ns ks:List G):Prop:=ns.length=0/\ks.length=0
def X7(p:Sy):List BSh:=[.cells 26 [.pi .i64 (p.i 1),.pi .i64 (p.i 2),.pi .i64 (p.i 3),.ps (p.s 4),.v 1 15,.pv 2 (p.g 6)],.grow 2 26 20,.cells 26 [.i .i64 51,.i .i64 52,.i .i64 53,.s 54,.v 1 55,.v 2 56]]
def Ce(k:Nat)(p:Sy):LSpec:=⟨[(1,.c (.p 0)),(2,.c (.p 2)),(3,.c (.g 1 6 20)),(4,.c (.i .i64 9))],X7 p,λz=>eE k (p.g 6) 0=0/\(p.g 6).length<=1000/\(0<=z.i 9/\z.i 9<=(p.g 6).length)/\(z.g 20).length<=z.i 9,λz=>((p.g 6).length-z.i 9).toNat,[⟨.exit 0,[(1,.c (.p 0)),(2,.c (.p 2)),(3,.c (.g 1 6 20))],X7 p⟩],λz y=>y.g 15=z.g 15/\y.g 20=z.g 20++CM k (p.g 6) (z.i 9),none,[]⟩
def va':List Sh:=[.i .i64 11,.i .i64 12,.i .i64 13,.s 14,.v 1 15,.v 2 16]
def tQ(k:Nat):FSpec:=⟨[.ag va],[],λz=>vX k z=0∨(k=16/\JX (z.g 5) (z.g 6)),λ_=>.one (.ag va'),λ_=>[],λz y=>y.i 11=z.i 1/\y.i 12=z.i 2/\y.i 13=z.i 3/\y.s 14=z.s 4/\y.g 15=z.g 5/\y.g 16=zD k (z.g 6),none⟩
def X8{kd i sc:Int}{t:List Nat}{ns ks:List G}(h:pz kd i sc t ns ks=0):ns.length<=200:=by
 obtain⟨h1,h2,h3,h4⟩:=oa h;have hd:(kd<1∨9<kd)∨kd=1∨kd=2∨kd=3∨kd=4∨kd=5∨kd=6∨kd=7∨kd=8∨kd=9:=by omega
 rcases hd with e|e|e|e|e|e|e|e|e|e
 ·exact absurd h1 (Nc e)
 ·have:=(F4 e).1 h1;omega
 ·have:=(F5 e).1 h1;omega
 ·have:=(Bg e).1 h1;omega
 ·have:=(F6 e).1 h1;omega
 ·have:=(Na e).1 h1;omega
 ·have:=(F7 e).1 h1;omega
 ·have:=(F8 e).1 h1;omega
 ·have:=(F9 e).1 h1;omega
 ·have:=(h4 e).2;omega
def O6{k:Nat}{kd i sc:Int}{t:List Nat}{ns ks:List G}(h:eG (k+1) kd i sc t ns ks=0∨(k+1=16/\JX ns ks)):eE k ks 0=0/\ks.length<=1000/\ns.length<=1000:=by
 rcases h with h|⟨_,h1,h2⟩
 ·by_cases hv:pz kd i sc t ns ks=0
  ·obtain⟨h1,h2,h3,h4⟩:=oa hv;have h5:=X8 hv;rw[ta hv] at h;exact⟨h,by omega,by omega⟩
  ·rw[qR hv] at h;exact absurd h hv
 ·rw[List.length_eq_zero_iff] at h2;subst h2;exact⟨qS (by simp),by simp,by omega⟩
def VH(e:G):G:=.node [.int (gI (aa e 0)),.str (gS (aa e 1)),.int (gI (aa e 2)),.int (gI (aa e 3)),.int (gI (aa e 4)),.int (gI (aa e 5)),.int (gI (aa e 6)),.int (gI (aa e 7)),.str (gS (aa e 8)),.node (gL (aa e 9)),.node (zD 16 (gL (aa e 10))),hX (aa e 11),.int (pI (gI (aa e 12)=1)),.int (gI (aa e 13)),.int (gI (aa e 14))]
def O7(e:G):VH e= .node [.int (gI (aa e 0)),.str (gS (aa e 1)),.int (gI (aa e 2)),.int (gI (aa e 3)),.int (gI (aa e 4)),.int (gI (aa e 5)),.int (gI (aa e 6)),.int (gI (aa e 7)),.str (gS (aa e 8)),.node (gL (aa e 9)),.node (zD 16 (gL (aa e 10))),hX (aa e 11),.int (pI (gI (aa e 12)=1)),.int (gI (aa e 13)),.int (gI (aa e 14))]:=rfl
def ld(l:List G)(i:Int):List G:=(l.drop i.toNat).map VH
def JY{l:List G}{i:Int}(h0:0<=i)(h:i<l.length):ld l i=VH (aq l i.toNat)::ld l (i+1):=by unfold ld;rw[mR h0 h];rfl
def O8{l:List G}{i:Int}(h:(l.length:Int)<=i):ld l i= []:=by unfold ld;rw[aaH (by omega)];rfl
def X9{kd i sc:Int}{t:List Nat}{ns ks:List G}(h:iz kd i sc t ns ks):JX ns ks:=by obtain⟨_,_,_,_,h1,h2⟩:=(br kd i sc t ns ks).1 h;exact⟨h1,h2⟩
def X_{kd:Int}{tx:List Nat}{tb dc vr:Int}{bl hz gn:Prop}{ab ae:Int}(h:ic kd tx tb dc vr bl hz gn ab ae)(hk:¬(kd=2/\¬gn)):bl:=by
 obtain⟨h1,h2⟩:=NA h;have hd:kd=1∨kd=2∨kd=3∨kd=4∨kd=5∨kd=6∨kd=7:=by omega
 rcases hd with e|e|e|e|e|e|e
 ·exact((Bz e).1 h).2.2.2.2.1
 ·exact((BA e).1 h).2.2.2.2.2.2 (Classical.not_not.1 λq=>hk ⟨e,q⟩)
 ·exact((Gp e).1 h).2.2.2.2.1
 ·exact((Gq e).1 h).2.2.2.2.2.2.1
 ·exact((Gr e).1 h).2.2.2.2.1
 ·exact((Gt e).1 h).2.2.2.2.1
 ·exact((Gs e).1 h).2.2.2.2.1
def er_ch{e:G}(h:me e=0):eG 16 (gI (aa e 5)) (gI (aa e 6)) (gI (aa e 7)) (gS (aa e 8)) (gL (aa e 9)) (gL (aa e 10))=0∨JX (gL (aa e 9)) (gL (aa e 10)):=by
 obtain⟨h1,h2⟩:=da h;by_cases hk:gI (aa e 0)=2/\¬gI (aa e 12)=1
 ·exact .inl (ya (h2 hk)).1
 ·exact .inr (X9 (X_ h1 hk))
def Ht{es:List G}{i:Int}(h:jN es)(h0:0<=i)(hi:i<es.length):eG 16 (gI (aa (aq es i.toNat) 5)) (gI (aa (aq es i.toNat) 6)) (gI (aa (aq es i.toNat) 7)) (gS (aa (aq es i.toNat) 8)) (gL (aa (aq es i.toNat) 9)) (gL (aa (aq es i.toNat) 10))=0∨((16:Nat)=16/\JX (gL (aa (aq es i.toNat) 9)) (gL (aa (aq es i.toNat) 10))):=
 (er_ch (lF h.1 h0 hi)).imp id λh=>⟨rfl,h⟩
def Hu{es:List G}(h:jN es):es.length<=200:=h.2.2
def bkC:List Sh:=[.i .i64 31,.i .i64 32,.i .i64 33]++hs 400++ [.v 7 34]
def Ya(p:Sy):List BSh:=[.cells 79 (mZ p),.grow 7 32 20,.cells 79 ([.i .i64 61,.i .i64 62,.i .i64 63]++hs 500++ [.v 7 64])]
def wF(p:Sy):LSpec:=⟨[(1,.c (.p 0)),(2,.c (.p 2)),(3,.c (.g 1 46 20)),(4,.c (.i .i64 9))],Ya p,λz=>jN (p.g 24)/\(0<=z.i 9/\z.i 9<=(p.g 24).length)/\(z.g 20).length<=z.i 9,λz=>((p.g 24).length-z.i 9).toNat,[⟨.exit 0,[(1,.c (.p 0)),(2,.c (.p 2)),(3,.c (.g 1 46 20))],Ya p⟩],λz y=>y.g 20=z.g 20++ld (p.g 24) (z.i 9),none,[]⟩
def Hv:FSpec:=⟨[.ag bk],[],λz=>jN (z.g 24),λ_=>.one (.ag bkC),λ_=>[],λz y=>y.i 31=z.i 21/\y.i 32=z.i 22/\y.i 33=z.i 23/\hT y 400=hT z 200/\y.g 34=ld (z.g 24) 0,none⟩
end
def JZ(k:Nat)(am1:bj 119 (tQ k)):bH 119 0 (Ce k):=bG 4 9 (ai am1 eN) lN λp z hA=>show Fm.den (let v0:=(aL (p.g 6) (z.i 9));let v1:=(gL (aa v0 5));let v2:=(gL (aa v0 4));(.two (bO (z.i 9) (p.g 6)) (.an (bS (z.i 9) (p.g 6)) (.an (True/\(eG k (gI (aa v0 0)) (gI (aa v0 1)) (gI (aa v0 2)) (gS (aa v0 3)) v2 v1=(0:Int)∨k=16/\JX v2 v1)) (.al (λy0=>eG k (gI (aa v0 0)) (gI (aa v0 1)) (gI (aa v0 2)) (gS (aa v0 3)) v2 v1=(0:Int)∨k=16/\JX v2 v1->y0.i 11=gI (aa v0 0)/\y0.i 12=gI (aa v0 1)/\y0.i 13=gI (aa v0 2)/\y0.s 14=gS (aa v0 3)/\y0.g 15=gL (aa v0 4)/\y0.g 16=zD k v1) λy0=>(let v3:=(z.g 20++ [G.node [G.int (y0.i 11),G.int (y0.i 12),G.int (y0.i 13),G.str (y0.s 14),G.node (y0.g 15),G.node (y0.g 16)]]);(.an (ot (z.g 20)) (.an ((-9223372036854775808)<=z.i 9+1/\z.i 9+1<=9223372036854775807) (.an (v3.length=(z.g 20).length+1/\p.g 6=p.g 6/\p.s 4=p.s 4/\p.i 3=p.i 3/\p.i 2=p.i 2/\p.i 1=p.i 1/\True) (.at ((eE k (p.g 6) 0=0/\(p.g 6).length<=1000/\(dF (z.i 9) (p.g 6))/\(↑v3.length:Int)<=z.i 9+1)/\((↑(p.g 6).length:Int)-(z.i 9+1)).toNat<((↑(p.g 6).length:Int)-z.i 9).toNat/\∀(y:Sy),y.g 15=z.g 15/\y.g 20=z.g 20++ [G.node [G.int (y0.i 11),G.int (y0.i 12),G.int (y0.i 13),G.str (y0.s 14),G.node (y0.g 15),G.node (y0.g 16)]]++CM k (p.g 6) (z.i 9+1)->y.g 15=z.g 15/\y.g 20=z.g 20++CM k (p.g 6) (z.i 9)))))))))) (.an ((z.g 20).length=(z.g 20).length/\p.g 6=p.g 6/\p.s 4=p.s 4/\p.i 3=p.i 3/\p.i 2=p.i 2/\p.i 1=p.i 1/\True) (.at (z.g 15=z.g 15/\z.g 20=z.g 20++CM k (p.g 6) (z.i 9)))))) by dsimp only [Ce,X7] at hA;have:=@Cc k (p.g 6) (z.i 9);have:=@Hs k (p.g 6) (z.i 9);have:=hv4 k p z;have:=gE k (aq (p.g 6) (z.i 9).toNat);have:=O5 k (aq (p.g 6) (z.i 9).toNat);exact cZ
def Cf:∀k,bj 119 (tQ k)
 |0=>QO λz h=>h.elim (λh=>absurd ((gG _ _ _ _ _ _).symm.trans h) (by decide)) λh=>absurd h.1 (by decide)
 |k+1=>bB 1 0 eN (aG (ptm:=[(0,.ag va)]) (JZ k (Cf k)) lN) λz hA=>show Fm.den ((.an (O0 (z.g 5)) (.an (([]++z.g 5).length=0+(z.g 5).length) (.cl ((0=0/\z.g 6=z.g 6/\z.s 4=z.s 4/\z.i 3=z.i 3/\z.i 2=z.i 2/\z.i 1=z.i 1/\True)) (eE k (z.g 6) 0=0/\(z.g 6).length<=1000/\(fL (↑(z.g 6).length:Int))/\(↑0:Int)<=0) (λy0=>y0.g 15= []++z.g 5/\y0.g 20= []++CM k (z.g 6) 0) λy0=>(.an (jb (y0.g 20)) (.at (z.i 1=z.i 1/\z.i 2=z.i 2/\z.i 3=z.i 3/\z.s 4=z.s 4/\y0.g 15=z.g 5/\y0.g 20=zD (k+1) (z.g 6)))))))) by dsimp only [tQ,va,vX,va'] at hA;have:=@O6 k (z.i 1) (z.i 2) (z.i 3) (z.s 4) (z.g 5) (z.g 6);have:=Cd k (z.g 6);exact cZ
def Ee:bH 56 0 wF:=bG 4 9 (ai (Cf 16) eN) lN λp z hA=>show Fm.den (let v0:=(aL (p.g 24) (z.i 9));let v1:=(ja (p.i 23) (p.i 22) (p.i 21));let v2:=(pI (gI (aa v0 12)=(1:Int)));let v3:=(gL (aa v0 10));let v4:=(gL (aa v0 9));let v5:=(gI (aa v0 13));let v6:=(gI (aa v0 14));let v7:=(kg p 200);let v8:=(gI (aa v0 0));let v9:=(gS (aa v0 1));(.two (bO (z.i 9) (p.g 24)) (.an (bS (z.i 9) (p.g 24)) (.an (True/\(eG 16 (gI (aa v0 5)) (gI (aa v0 6)) (gI (aa v0 7)) (gS (aa v0 8)) v4 v3=(0:Int)∨16=16/\JX v4 v3)) (.al (λy0=>eG 16 (gI (aa v0 5)) (gI (aa v0 6)) (gI (aa v0 7)) (gS (aa v0 8)) v4 v3=(0:Int)∨16=16/\JX v4 v3->y0.i 11=gI (aa v0 5)/\y0.i 12=gI (aa v0 6)/\y0.i 13=gI (aa v0 7)/\y0.s 14=gS (aa v0 8)/\y0.g 15=gL (aa v0 9)/\y0.g 16=zD 16 v3) λy0=>(let v10:=(z.g 20++ [G.node [G.int v8,G.str v9,G.int (gI (aa v0 2)),G.int (gI (aa v0 3)),G.int (gI (aa v0 4)),G.int (y0.i 11),G.int (y0.i 12),G.int (y0.i 13),G.str (y0.s 14),G.node (y0.g 15),G.node (y0.g 16),hX (aa v0 11),G.int v2,G.int v5,G.int v6]]);(.an (ot (z.g 20)) (.an ((-9223372036854775808)<=z.i 9+1/\z.i 9+1<=9223372036854775807) (.an (v10.length=(z.g 20).length+1/\p.g 24=p.g 24/\fW v7 v7 v1) (.at (((oM (p.g 24))/\(dF (z.i 9) (p.g 24))/\(↑v10.length:Int)<=z.i 9+1)/\((↑(p.g 24).length:Int)-(z.i 9+1)).toNat<((↑(p.g 24).length:Int)-z.i 9).toNat/\∀(y:Sy),y.g 20=z.g 20++ [G.node [G.int v8,G.str v9,G.int (gI (aa v0 2)),G.int (gI (aa v0 3)),G.int (gI (aa v0 4)),G.int (y0.i 11),G.int (y0.i 12),G.int (y0.i 13),G.str (y0.s 14),G.node (y0.g 15),G.node (y0.g 16),hX (aa v0 11),G.int v2,G.int v5,G.int v6]]++ld (p.g 24) (z.i 9+1)->y.g 20=z.g 20++ld (p.g 24) (z.i 9)))))))))) (.an (NQ (z.g 20) (p.g 24) v7 v1) (.at (z.g 20=z.g 20++ld (p.g 24) (z.i 9)))))) by dsimp only [wF,Ya,mZ,uC,hs,jN] at hA;have:=@JY (p.g 24) (z.i 9);have:=@O8 (p.g 24) (z.i 9);have:=@Ht (p.g 24) (z.i 9);have:=O7 (aq (p.g 24) (z.i 9).toNat);exact cZ
def Cg:bj 56 Hv:=bB 1 0 eN (aG (ptm:=[(0,.ag bk)]) Ee lN) λz hA=>show Fm.den ((.cl ((GF (z.g 24) (kg z 200) (ja (z.i 23) (z.i 22) (z.i 21)))) ((oM (z.g 24))/\(fL (↑(z.g 24).length:Int))/\(↑0:Int)<=0) (λy0=>y0.g 20= []++ld (z.g 24) 0) λy0=>(.an (jb (y0.g 20)) (.at (z.i 21=z.i 21/\z.i 22=z.i 22/\z.i 23=z.i 23/\hT z 200=hT z 200/\y0.g 20=ld (z.g 24) 0))))) by dsimp only [Hv,bk,hs,jN,bkC] at hA;have:=@Hu (z.g 24);exact cZ
noncomputable section
def O9(es:List G):Prop:=∀e∈es,VH e=e
def Yb{es:List G}{i:Int}(h:O9 es)(h0:0<=i)(hi:i<es.length):VH (aq es i.toNat)=aq es i.toNat:=h _ (bY h0 hi)
def Tf{es:List G}{i:Int}{g:G}(h0:0<=i)(hi:i<es.length)(e:g=aq es i.toNat):es.set i.toNat g=es:=by
 subst e;have h1:i.toNat<es.length:=by omega
 unfold aq;rw[aag,aak h1];exact List.set_getElem_self h1
def Tg{es:List G}{i:Int}(h:O9 es)(h0:0<=i)(hi:i<es.length):es.set i.toNat (VH (aq es i.toNat))=es:=Tf h0 hi (Yb h h0 hi)
def Hw{es:List G}(h:O9 es):ld es 0=es:=by unfold ld;show(es.drop 0).map VH=es;rw[aaT];exact(List.map_congr_left h).trans (List.map_id' es)
def Hx:FSpec:=⟨[.c (.v 1 5)],[],λz=>(z.g 5).length<=1000000,λ_=>.one (.c (.v 1 20)),λ_=>[],λz y=>y.g 20=z.g 5,none⟩
def Hy:FSpec:=⟨[.c (.v 7 24)],[],λz=>(z.g 24).length<=1000000,λ_=>.one (.c (.g 0 46 20)),λ_=>[.grow 7 32 20],λz y=>y.g 20=z.g 24,none⟩
def Hz(k:Nat)(p:Sy):LSpec:=⟨[(1,.c (.p 0)),(3,.c (.g 1 6 20)),(11,.c (.pv 2 (p.g 6))),(12,.c (.pi .i64 (p.g 6).length)),(13,.c (.i .i64 9))],[.cells 26 [.pi .i64 (p.i 1),.pi .i64 (p.i 2),.pi .i64 (p.i 3),.ps (p.s 4),.v 1 15,.pv 2 (p.g 6)],.grow 2 26 20],λz=>eE k (p.g 6) 0=0/\(p.g 6).length<=1000/\(0<=z.i 9/\z.i 9<=(p.g 6).length)/\(z.g 20).length<=z.i 9,λz=>((p.g 6).length-z.i 9).toNat,[⟨.exit 0,[(1,.c (.p 0)),(3,.c (.g 1 6 20))],[.cells 26 [.pi .i64 (p.i 1),.pi .i64 (p.i 2),.pi .i64 (p.i 3),.ps (p.s 4),.v 1 15,.pv 2 (p.g 6)],.grow 2 26 20]⟩],λz y=>y.g 15=z.g 15/\y.g 20=z.g 20++CM k (p.g 6) (z.i 9),none,[2]⟩
def O_(k:Nat):FSpec:=tQ k
def wG(p:Sy):List BSh:=[.cells 79 ([.pi .i64 (p.i 21),.pi .i64 (p.i 22),.pi .i64 (p.i 23)]++uC p 200++ [.g 1 46 20]),.grow 7 32 20]
def Pa(p:Sy):LSpec:=⟨[(1,.c (.p 0)),(10,.c (.pi .i64 (p.g 24).length)),(11,.c (.i .i64 9))],wG p,λz=>z.g 20=p.g 24/\jN (p.g 24)/\O9 (p.g 24)/\(0<=z.i 9/\z.i 9<=(p.g 24).length),λz=>((p.g 24).length-z.i 9).toNat,[⟨.exit 0,[(1,.c (.p 0))],wG p⟩],λz y=>y.g 20=p.g 24,none,[2]⟩
def Sown:FSpec:=⟨[.ag bk],[],λz=>jN (z.g 24)/\O9 (z.g 24),λ_=>.one (.ag bkC),λ_=>[],λz y=>y.i 31=z.i 21/\y.i 32=z.i 22/\y.i 33=z.i 23/\hT y 400=hT z 200/\y.g 34=z.g 24,none⟩
end
def Pb:bj 123 Hy:=okP 1000 (t0:=20) (D:=λz=>.g (z.g 24)) mN eN lN (hn:=hC 5 5) λz hA=>show Fm.den (let v0:=(O0 (z.g 24));let v1:=(([]++z.g 24).length=0+(z.g 24).length/\True);(.two (rD (jy bI z (Sa.c (Sh.v 7 24)))=0) (.al (λy0=>True) λy0=>(.two (y0.p 0) (.an (nW) (.at ([]=z.g 24))) (.an v0 (.an v1 (.at ([]++z.g 24=z.g 24)))))) (.an v0 (.an v1 (.at ([]++z.g 24=z.g 24)))))) by dsimp only [Hy] at hA;have a1:rD (jy bI z (Sa.c (Sh.v 7 24)))=(z.g 24).length:=rfl;have a2:(z.g 24).length=0-> []=z.g 24:=λh=>(List.length_eq_zero_iff.1 h).symm;exact cZ
def Pc:bj 185 Hx:=okP 1000 (t0:=20) (D:=λz=>.g (z.g 5)) mN eN lN (hn:=hC 5 5) λz hA=>show Fm.den (let v0:=(O0 (z.g 5));let v1:=(([]++z.g 5).length=0+(z.g 5).length/\True);(.two (rD (jy bI z (Sa.c (Sh.v 1 5)))=0) (.al (λy0=>True) λy0=>(.two (y0.p 0) (.ax ([]=z.g 5)) (.an v0 (.an v1 (.at ([]++z.g 5=z.g 5)))))) (.an v0 (.an v1 (.at ([]++z.g 5=z.g 5)))))) by dsimp only [Hx] at hA;have a1:rD (jy bI z (Sa.c (Sh.v 1 5)))=(z.g 5).length:=rfl;have a2:(z.g 5).length=0-> []=z.g 5:=λh=>(List.length_eq_zero_iff.1 h).symm;exact cZ
def Pd(k:Nat)(ap6:bj 124 (O_ k)):bH 124 0 (Hz k):=bG 4 9 (ai ap6 eN) lN λp z hA=>show Fm.den (let v0:=(aL (p.g 6) (z.i 9));let v1:=(↑(p.g 6).length:Int);let v2:=(gL (aa v0 5));let v3:=(gL (aa v0 4));(.two (bO (z.i 9) (p.g 6)) (.an (bS (z.i 9) (p.g 6)) (.an (True/\(eG k (gI (aa v0 0)) (gI (aa v0 1)) (gI (aa v0 2)) (gS (aa v0 3)) v3 v2=(0:Int)∨k=16/\JX v3 v2)) (.al (λy0=>eG k (gI (aa v0 0)) (gI (aa v0 1)) (gI (aa v0 2)) (gS (aa v0 3)) v3 v2=(0:Int)∨k=16/\JX v3 v2->y0.i 11=gI (aa v0 0)/\y0.i 12=gI (aa v0 1)/\y0.i 13=gI (aa v0 2)/\y0.s 14=gS (aa v0 3)/\y0.g 15=gL (aa v0 4)/\y0.g 16=zD k v2) λy0=>(let v4:=(z.g 20++ [G.node [G.int (y0.i 11),G.int (y0.i 12),G.int (y0.i 13),G.str (y0.s 14),G.node (y0.g 15),G.node (y0.g 16)]]);(.an (ot (z.g 20)) (.an ((-9223372036854775808)<=z.i 9+1/\z.i 9+1<=9223372036854775807) (.an (v4.length=(z.g 20).length+1/\p.g 6=p.g 6/\p.s 4=p.s 4/\p.i 3=p.i 3/\p.i 2=p.i 2/\p.i 1=p.i 1/\v1=v1/\p.g 6=p.g 6/\True) (.at ((eE k (p.g 6) 0=0/\(p.g 6).length<=1000/\(dF (z.i 9) (p.g 6))/\(↑v4.length:Int)<=z.i 9+1)/\(v1-(z.i 9+1)).toNat<(v1-z.i 9).toNat/\∀(y:Sy),y.g 15=z.g 15/\y.g 20=z.g 20++ [G.node [G.int (y0.i 11),G.int (y0.i 12),G.int (y0.i 13),G.str (y0.s 14),G.node (y0.g 15),G.node (y0.g 16)]]++CM k (p.g 6) (z.i 9+1)->y.g 15=z.g 15/\y.g 20=z.g 20++CM k (p.g 6) (z.i 9)))))))))) (.an ((z.g 20).length=(z.g 20).length/\p.g 6=p.g 6/\p.s 4=p.s 4/\p.i 3=p.i 3/\p.i 2=p.i 2/\p.i 1=p.i 1/\True) (.at (z.g 15=z.g 15/\z.g 20=z.g 20++CM k (p.g 6) (z.i 9)))))) by dsimp only [Hz] at hA;have:=@Cc k (p.g 6) (z.i 9);have:=@Hs k (p.g 6) (z.i 9);have:=hv4 k p z;have:=gE k (aq (p.g 6) (z.i 9).toNat);have:=O5 k (aq (p.g 6) (z.i 9).toNat);exact cZ
def HA:∀k,bj 124 (O_ k)
 |0=>QO λz h=>h.elim (λh=>absurd ((gG _ _ _ _ _ _).symm.trans h) (by decide)) λh=>absurd h.1 (by decide)
 |k+1=>bB 1 0 (ai Pc eN) (aG (ptm:=[(0,.ag va)]) (Pd k (HA k)) lN) λz hA=>show Fm.den (let v0:=(↑(z.g 6).length:Int);(.ct ((z.g 5).length<=1000000) (λy0=>y0.g 20=z.g 5) λy0=>(.cl ((0=0/\z.g 6=z.g 6/\z.s 4=z.s 4/\z.i 3=z.i 3/\z.i 2=z.i 2/\z.i 1=z.i 1/\v0=v0/\z.g 6=z.g 6/\True)) (eE k (z.g 6) 0=0/\(z.g 6).length<=1000/\(fL v0)/\(↑0:Int)<=0) (λy1=>y1.g 15=y0.g 20/\y1.g 20= []++CM k (z.g 6) 0) λy1=>(.an (jb (y1.g 20)) (.at (z.i 1=z.i 1/\z.i 2=z.i 2/\z.i 3=z.i 3/\z.s 4=z.s 4/\y1.g 15=z.g 5/\y1.g 20=zD (k+1) (z.g 6))))))) by dsimp only [O_,tQ,va,vX,va'] at hA;have:=@O6 k (z.i 1) (z.i 2) (z.i 3) (z.s 4) (z.g 5) (z.g 6);have:=Cd k (z.g 6);exact cZ
def Th:bH 59 0 Pa:=bG 4 9 (ai (HA 16) eN) lN λp z hA=>show Fm.den (let v0:=(aL (z.g 20) (z.i 9));let v1:=(↑(p.g 24).length:Int);let v2:=(gL (aa v0 10));let v3:=(bS (z.i 9) (z.g 20));let v4:=(gL (aa v0 9));let v5:=(pI (gI (aa v0 12)=(1:Int)));let v6:=(kg p 200);(.two (bO (z.i 9) (p.g 24)) (.an v3 (.an (eB (z.i 9) (z.g 20)) (.an (True/\(eG 16 (gI (aa v0 5)) (gI (aa v0 6)) (gI (aa v0 7)) (gS (aa v0 8)) v4 v2=(0:Int)∨16=16/\JX v4 v2)) (.al (λy0=>eG 16 (gI (aa v0 5)) (gI (aa v0 6)) (gI (aa v0 7)) (gS (aa v0 8)) v4 v2=(0:Int)∨16=16/\JX v4 v2->y0.i 11=gI (aa v0 5)/\y0.i 12=gI (aa v0 6)/\y0.i 13=gI (aa v0 7)/\y0.s 14=gS (aa v0 8)/\y0.g 15=gL (aa v0 9)/\y0.g 16=zD 16 v2) λy0=>(let v7:=(G.node [G.int (gI (aa v0 0)),G.str (gS (aa v0 1)),G.int (gI (aa v0 2)),G.int (gI (aa v0 3)),G.int (gI (aa v0 4)),G.int (y0.i 11),G.int (y0.i 12),G.int (y0.i 13),G.str (y0.s 14),G.node (y0.g 15),G.node (y0.g 16),hX (aa v0 11),G.int v5,G.int (gI (aa v0 13)),G.int (gI (aa v0 14))]);(.an v3 (.an (uA (z.i 9) (z.g 20)) (.an ((-9223372036854775808)<=z.i 9+1/\z.i 9+1<=9223372036854775807) (.an (((z.g 20).set (z.i 9).toNat v7).length=(z.g 20).length/\fW v6 v6 (p.i 23=p.i 23/\p.i 22=p.i 22/\p.i 21=p.i 21/\v1=v1/\True)) (.at (((z.g 20).set (z.i 9).toNat v7=p.g 24/\(oM (p.g 24))/\O9 (p.g 24)/\0<=z.i 9+1/\z.i 9+1<= ↑(p.g 24).length)/\(v1-(z.i 9+1)).toNat<(v1-z.i 9).toNat/\∀(y:Sy),y.g 20=p.g 24->y.g 20=p.g 24))))))))))) (.an ((z.g 20).length=(z.g 20).length/\fW v6 v6 (ja (p.i 23) (p.i 22) (p.i 21))) (.at (z.g 20=p.g 24))))) by dsimp only [Pa,wG,uC,jN] at hA;have:=@Tg (p.g 24) (z.i 9);have:=@Ht (p.g 24) (z.i 9);have:=O7 (aq (p.g 24) (z.i 9).toNat);exact cZ
def o_own:bj 59 Sown:=bB 1 0 (ai Pb eN) (aG (ptm:=[(0,.ag bk)]) Th lN) λz hA=>show Fm.den (let v0:=(↑(z.g 24).length:Int);(.ct ((z.g 24).length<=1000000) (λy0=>y0.g 20=z.g 24) λy0=>(.cl (((y0.g 20).length=(y0.g 20).length/\fW (kg z 200) (kg z 200) (z.i 23=z.i 23/\z.i 22=z.i 22/\z.i 21=z.i 21/\(↑(y0.g 20).length:Int)=v0/\True))) (y0.g 20=z.g 24/\(oM (z.g 24))/\O9 (z.g 24)/\(0:Int)<=0/\0<=v0) (λy1=>y1.g 20=z.g 24) λy1=>(.an (jb (y1.g 20)) (.at (z.i 21=z.i 21/\z.i 22=z.i 22/\z.i 23=z.i 23/\hT z 200=hT z 200/\y1.g 20=z.g 24)))))) by dsimp only [Sown,bk,hs,jN,bkC] at hA;have:=@Hu (z.g 24);exact cZ
noncomputable section
abbrev Zj(i:Int)(t:List Nat)(ns ks:List G):Prop:=(-9223372036854775808<=i/\i<9223372036854775808)/\t.length<=1125899906842624/\ns.length<=1125899906842624/\ks.length<=1125899906842624
def QU:Nat->G->Prop
 |0,g=>Zj (gI (aa g 1)) (gS (aa g 3)) (gL (aa g 4)) (gL (aa g 5))
 |k+1,g=>Zj (gI (aa g 1)) (gS (aa g 3)) (gL (aa g 4)) (gL (aa g 5))/\∀x∈gL (aa g 5),QU k x
def wH(k:Nat)(ks:List G):Prop:=∀x∈ks,QU k x
def QV(k:Nat)(i:Int)(t:List Nat)(ns ks:List G):Prop:=match k with
 |0=>Zj i t ns ks
 |k+1=>Zj i t ns ks/\wH k ks
def yS(k:Nat)(g:G):QV k (gI (aa g 1)) (gS (aa g 3)) (gL (aa g 4)) (gL (aa g 5))=QU k g:=by cases k <;> rfl
def Ti{k:Nat}{i:Int}{t:List Nat}{ns ks:List G}(h:QV (k+1) i t ns ks):Zj i t ns ks/\wH k ks:=h
def Pe{k:Nat}{ks:List G}{i:Int}(h:wH k ks)(h0:0<=i)(hi:i<ks.length):QU k (aq ks i.toNat):=h _ (bY h0 hi)
def oO:Nat->G->Nat
 |0,_=>0
 |k+1,g=>1+(gS (aa g 3)).length/20+(gL (aa g 4)).length+((gL (aa g 5)).map (oO k)).sum
def jk(k:Nat)(ks:List G)(i:Int):Nat:=((ks.drop i.toNat).map (oO k)).sum
def lg{k:Nat}{ks:List G}{i:Int}(h0:0<=i)(h:i<ks.length):jk k ks i=oO k (aq ks i.toNat)+jk k ks (i+1):=by unfold jk;rw[eH h0 h];rfl
def oE{k:Nat}{ks:List G}{i:Int}(h:(ks.length:Int)<=i):jk k ks i=0:=by unfold jk;rw[aaH (by omega)];rfl
def QW(k:Nat)(t:List Nat)(ns ks:List G):Nat:=match k with
 |0=>0
 |k+1=>1+t.length/20+ns.length+jk k ks 0
def Ef(k:Nat)(g:G):QW k (gS (aa g 3)) (gL (aa g 4)) (gL (aa g 5))=oO k g:=by cases k <;> rfl
def Pf(k:Nat)(t:List Nat)(ns ks:List G):QW (k+1) t ns ks=1+t.length/20+ns.length+jk k ks 0:=rfl
def Eg(k:Nat):FSpec:=⟨[.ag va,.c (.p 0)],[.cells 3 [.i .i64 20]],λz=>QV k (z.i 2) (z.s 4) (z.g 5) (z.g 6)/\(0<=z.i 20/\z.i 20<=3000000000000000)/\1001<=z.i 20+k/\1<=k,λ_=>.one (.c (.b 10)),λ_=>[.cells 3 [.i .i64 21]],λz y=>(y.p 10↔1000<y.i 21)/\z.i 20<y.i 21/\y.i 21<=5000000000000000/\(y.i 21<=1000->y.i 21=z.i 20+QW k (z.s 4) (z.g 5) (z.g 6)),none⟩
def Ch(k:Nat)(p:Sy):LSpec:=⟨[(1,.c (.p 1)),(2,.c (.p 0)),(5,.c (.i .i64 9))],[.cells 26 (vp p),.cells 3 [.i .i64 20]],λz=>wH k (p.g 6)/\(p.g 6).length<=1125899906842624/\(0<=z.i 9/\z.i 9<=(p.g 6).length)/\(0<=z.i 20/\z.i 20<=5000000000000000)/\1001<=z.i 20+k,λz=>((p.g 6).length-z.i 9).toNat,[⟨.exit 0,[(1,.c (.p 1))],[.cells 26 (vp p),.cells 3 [.i .i64 21]]⟩],λz y=>(z.i 20<=y.i 21/\y.i 21<=5000000000000000)/\(y.i 21<=1000->y.i 21=z.i 20+jk k (p.g 6) (z.i 9)),none,[]⟩
def Eh(l:List G):Prop:=∀r∈l,wH 1002 (gL (aa r 0))/\(gL (aa r 0)).length<=1125899906842624
def Ei{l:List G}{i:Int}(h:Eh l)(h0:0<=i)(hi:i<l.length):wH 1002 (gL (aa (aq l i.toNat) 0))/\(gL (aa (aq l i.toNat) 0)).length<=1125899906842624:=h _ (bY h0 hi)
def m_(l:List G)(i:Int):Nat:=((l.drop i.toNat).map λr=>2+jk 1002 (gL (aa r 0)) 0).sum
def gM{l:List G}{i:Int}(h0:0<=i)(h:i<l.length):m_ l i=2+jk 1002 (gL (aa (aq l i.toNat) 0)) 0+m_ l (i+1):=by unfold m_;rw[eH h0 h];rfl
def yT{l:List G}{i:Int}(h:(l.length:Int)<=i):m_ l i=0:=by unfold m_;rw[aaH (by omega)];rfl
def Ci(p:Sy):LSpec:=⟨[(0,.c (.pv 13 (p.g 1))),(3,.c (.p 0)),(4,.c (.pi .i64 (p.i 8))),(5,.c (.i .i64 9))],[.cells 3 [.i .i64 20]],λz=>Eh (p.g 1)/\(0<=p.i 8/\p.i 8<(p.g 1).length)/\(0<=z.i 9/\z.i 9<=(gL (aa (aq (p.g 1) (p.i 8).toNat) 0)).length)/\(0<=z.i 20/\z.i 20<=3000000000000000),λz=>((gL (aa (aq (p.g 1) (p.i 8).toNat) 0)).length-z.i 9).toNat,[⟨.exit 2,[(0,.c (.pv 13 (p.g 1))),(3,.c (.p 0)),(4,.c (.pi .i64 (p.i 8)))],[.cells 3 [.i .i64 21]]⟩,⟨.ret,[(2,.c (.b 10))],[.cells 3 [.i .i64 21]]⟩],λz y=>(y.i 999=0->y.i 21=z.i 20+jk 1002 (gL (aa (aq (p.g 1) (p.i 8).toNat) 0)) (z.i 9)/\(y.i 21=z.i 20∨y.i 21<=1000))/\(¬y.i 999=0->y.p 10),none,[]⟩
def Cj(p:Sy):LSpec:=⟨[(0,.c (.pv 13 (p.g 1))),(3,.c (.p 0)),(4,.c (.i .i64 9))],[.cells 3 [.i .i64 20]],λz=>Eh (p.g 1)/\(p.g 1).length<=1125899906842624/\(0<=z.i 9/\z.i 9<=(p.g 1).length)/\(0<=z.i 20/\z.i 20<=1000+2 * z.i 9),λz=>((p.g 1).length-z.i 9).toNat,[⟨.exit 0,[(0,.c (.pv 13 (p.g 1))),(3,.c (.p 0))],[.cells 3 [.i .i64 21]]⟩,⟨.ret,[(2,.c (.b 10))],[.cells 3 [.i .i64 21]]⟩],λz y=>(y.i 999=0->y.i 21=z.i 20+m_ (p.g 1) (z.i 9))/\(¬y.i 999=0->y.p 10),none,[]⟩
def Pg:FSpec:=⟨[.c (.v 13 1)],[],λz=>Eh (z.g 1)/\(z.g 1).length<=1125899906842624,λ_=>.one (.c (.b 10)),λ_=>[],λz y=>¬y.p 10->(z.g 1).length<=30/\m_ (z.g 1) 0<=1000,none⟩
def yU{f:G->Nat}:∀{l:List G} {x:G},x∈l->f x<=(l.map f).sum
 |y::l,x,h=>by
  rw[aax,abh];rcases List.mem_cons.1 h with rfl|h
  ·omega
  ·have:=yU (f:=f) h;omega
def yV{f:G->Nat}:∀{l:List G},(∀x∈l,1<=f x)->l.length<=(l.map f).sum
 | [],_=>aaq _
 |y::l,h=>by rw[aax,abh,aat];have h1:=h y aan;have:=yV (f:=f) (l:=l) λx hx=>h x (aal _ hx);omega
def oF(k:Nat)(g:G):1<=oO (k+1) g:=by show 1<=1+_+_+_;omega
def Ph{w f:G->Nat}{ks:List G}(h:∀x∈ks,w x+50<=93 * f x):∀(n:Nat) (i:Int),0<=i->i+n=ks.length->Zb w ks n i<=93 * ((ks.drop i.toNat).map f).sum
 |0,i,_,_=>aaq _
 |n+1,i,h0,hn=>by
  have c9:i<ks.length:=by omega
  have h1:=h _ (bY h0 c9);have h2:=Ph h n (i+1) (by omega) (by omega);rw[eH h0 c9,aax,abh];show 50+w (aq ks i.toNat)+Zb w ks n (i+1)<=_;omega
def VI(g:G):ku 0 g=0:=by with_unfolding_all rfl
def weG_s(k:Nat)(g:G):ku (k+1) g=24+(gS (aa g 3)).length+qV (ku k) (gL (aa g 5)) 0:=by with_unfolding_all rfl
def Ej:∀(k j:Nat) (g:G),k<=j->ku k g+50<=93 * oO (j+1) g+50/\(1<=k->ku k g+50<=93 * oO (j+1) g)
 |0,j,g,_=>⟨by rw[VI];omega,λh=>by omega⟩
 |k+1,j,g,hj=>by
  obtain⟨j,rfl⟩:∃j',j=j'+1:=⟨j-1,by omega⟩
  have key:qV (ku k) (gL (aa g 5)) 0<=93 * ((gL (aa g 5)).map (oO (j+1))).sum:=by
   unfold qV;refine Ph (λx hx=>?_) _ 0 (by omega) (by omega);have h1:=Ej k j x (by omega);by_cases hk:1<=k
   ·exact h1.2 hk
   ·have:k=0:=by omega
    subst this;have:=oF j x;rw[VI];omega
  have e1:ku (k+1) g=24+(gS (aa g 3)).length+qV (ku k) (gL (aa g 5)) 0:=weG_s k g;have e2:oO (j+1+1) g=1+(gS (aa g 3)).length/20+(gL (aa g 4)).length+((gL (aa g 5)).map (oO (j+1))).sum:=rfl;have:ku (k+1) g+50<=93 * oO (j+1+1) g:=by omega
  exact⟨by omega,λ_=>this⟩
def viG_0(g:G):Nf 0 g:=by with_unfolding_all exact True.intro
def Yc{k:Nat}{g:G}(h:((-9223372036854775808<=gI (aa g 1)/\gI (aa g 1)<9223372036854775808)/\(gS (aa g 3)).length<=1000000/\(gL (aa g 4)).length<=1000000/\(gL (aa g 5)).length<=1000000)/\∀x∈gL (aa g 5),Nf k x):Nf (k+1) g:=by with_unfolding_all exact h
def Pi:∀(k j:Nat) (g:G),k<=j->QU j g->oO (j+1) g<=1000->Nf k g
 |0,_,_,_,_,_=>viG_0 _
 |k+1,j,g,hj,hn,hw=>by
  obtain⟨j,rfl⟩:∃j',j=j'+1:=⟨j-1,by omega⟩
  have e2:oO (j+1+1) g=1+(gS (aa g 3)).length/20+(gL (aa g 4)).length+((gL (aa g 5)).map (oO (j+1))).sum:=rfl;have hl:=yV (f:=oO (j+1)) (l:=gL (aa g 5)) λx _=>oF j x;obtain⟨⟨h1,h2,h3,h4⟩,h5⟩:=hn;refine Yc ⟨⟨h1,by omega,by omega,by omega⟩,λx hx=>?_⟩;have:=yU (f:=oO (j+1)) hx;exact Pi k j x (by omega) (h5 x hx) (by omega)
def Ck{l:List G}{i:Int}(hn:wH 1002 l)(hw:jk 1002 l 0<=1000)(h0:0<=i)(hi:i<l.length):
 ti 16 (gI (aa (aq l i.toNat) 1)) (gS (aa (aq l i.toNat) 3)) (gL (aa (aq l i.toNat) 4)) (gL (aa (aq l i.toNat) 5))/\xW 16 (gS (aa (aq l i.toNat) 3)) (gL (aa (aq l i.toNat) 5))<=100000:=by
 have hm:=bY h0 hi
 have h1:oO 1002 (aq l i.toNat)<=1000:=by
  have:=yU (f:=oO 1002) hm;have:jk 1002 l 0=(l.map (oO 1002)).sum:=by unfold jk;show((l.drop 0).map _).sum=_;rw[aaT]
  omega
 have h2:QU 1002 (aq l i.toNat):=hn _ hm
 have down:∀(j:Nat) (g:G),QU (j+1) g->QU j g:=by
  intro j
  induction j with
  |zero=>intro g h;exact h.1
  |succ j ih=>intro g h;exact⟨h.1,λx hx=>ih x (h.2 x hx)⟩
 have h3:=Pi 16 1001 _ (by omega) (down _ _ h2) h1
 have h4:ku 16 (aq l i.toNat)+50<=93 * oO 1002 (aq l i.toNat):=(Ej 16 1001 (aq l i.toNat) (by omega)).2 (by omega)
 refine⟨by rw[mI];exact h3, ?_⟩
 rw[pB];omega
def wI{l:List G}(hw:jk 1002 l 0<=1000):l.length<=1000:=by
 have:=yV (f:=oO 1002) (l:=l) λx _=>oF 1001 x;have:jk 1002 l 0=(l.map (oO 1002)).sum:=by unfold jk;show((l.drop 0).map _).sum=_;rw[aaT]
 omega
attribute [irreducible] wH Eh jk QW m_ QV
end
def J0(k:Nat)(am2:bj 5 (Eg k)):bH 5 0 (Ch k):=bG 6 37 (ai am2 eN) lN λp z hA=>show Fm.den (let v0:=(DI (p.g 6) (p.g 5) (p.s 4) (p.i 3) (p.i 2) (p.i 1));let v1:=(aL (p.g 6) (z.i 9));let v2:=((z.i 20<=z.i 20/\z.i 20<=5000000000000000)/\(z.i 20<=1000->z.i 20=z.i 20+ ↑(jk k (p.g 6) (z.i 9))));(.two (bO (z.i 9) (p.g 6)) (.two (z.i 20<=1000) (.an (bS (z.i 9) (p.g 6)) (.ct (QV k (gI (aa v1 1)) (gS (aa v1 3)) (gL (aa v1 4)) (gL (aa v1 5))/\(0<=z.i 20/\z.i 20<=3000000000000000)/\1001<=z.i 20+(↑k:Int)/\1<=k) (λy0=>(y0.p 10↔1000<y0.i 21)/\z.i 20<y0.i 21/\y0.i 21<=5000000000000000/\(y0.i 21<=1000->y0.i 21=z.i 20+(↑(QW k (gS (aa v1 3)) (gL (aa v1 4)) (gL (aa v1 5))):Int))) λy0=>(.an ((-9223372036854775808)<=z.i 9+1/\z.i 9+1<=9223372036854775807) (.an v0 (.at ((wH k (p.g 6)/\(p.g 6).length<=1125899906842624/\(dF (z.i 9) (p.g 6))/\(0<=y0.i 21/\y0.i 21<=5000000000000000)/\1001<=y0.i 21+(↑k:Int))/\((↑(p.g 6).length:Int)-(z.i 9+1)).toNat<((↑(p.g 6).length:Int)-z.i 9).toNat/\∀(y:Sy),(y0.i 21<=y.i 21/\y.i 21<=5000000000000000)/\(y.i 21<=1000->y.i 21=y0.i 21+ ↑(jk k (p.g 6) (z.i 9+1)))->(z.i 20<=y.i 21/\y.i 21<=5000000000000000)/\(y.i 21<=1000->y.i 21=z.i 20+ ↑(jk k (p.g 6) (z.i 9))))))))) (.an v0 (.at v2))) (.an v0 (.at v2)))) by dsimp only [Ch,vp] at hA;have:=@Pe k (p.g 6) (z.i 9);have:=@lg k (p.g 6) (z.i 9);have:=@oE k (p.g 6) (z.i 9);have:=yS k (aq (p.g 6) (z.i 9).toNat);have:=Ef k (aq (p.g 6) (z.i 9).toNat);exact iy
abbrev Tj(a:Prop)(b:Nat)(c:List G)(d e:Prop)(f g:Int)(h:Nat):=Fm.cl a (wH b c/\c.length<=1125899906842624/\d/\e/\1001<=IntKind.i64.wrap f+g) (λy=>(IntKind.i64.wrap f<=y.i 21/\y.i 21<=5000000000000000)/\(y.i 21<=1000->y.i 21=IntKind.i64.wrap f+ ↑h))
abbrev Tl(a:Int):=0<=IntKind.i64.wrap a/\IntKind.i64.wrap a<=5000000000000000
abbrev Cl(a:Prop)(b c:Int)(d:Prop):=a/\b<c/\c<=5000000000000000/\d
abbrev qn(a:Int):=1000<a↔1000<a
abbrev VJ(a:Prop)(b:Nat)(c:List G)(d e:Prop)(f g h:Int)(i:List G)(j:Nat):=Fm.cl a (wH b c/\c.length<=1125899906842624/\d/\e/\1001<=IntKind.i64.wrap f+g+h) (λy=>(IntKind.i64.wrap f+ ↑i.length<=y.i 21/\y.i 21<=5000000000000000)/\(y.i 21<=1000->y.i 21=IntKind.i64.wrap f+ ↑i.length+ ↑j))
abbrev qp(a b:Int)(c:Nat):=a<=1000->a=b+ ↑c
def tS:∀k,bj 5 (Eg k)
 |0=>QO λz h=>absurd h.2.2.2 (by decide)
 |k+1=>bB 17 273695066 eN (aG (ptm:=[(0,.ag va)]) (J0 k (tS k)) lN) λz hA=>show Fm.den (let zw:=(0:Int)<=0;let v0:=(↑(z.s 4).length:Int);let v1:=((DI (z.g 6) (z.g 5) (z.s 4) (z.i 3) (z.i 2) (z.i 1)));let v2:=(↑(z.g 5).length:Int);let v3:=(z.i 20+1+IntKind.i64.wrap (v0/20));let v4:=(zw/\0<=(↑(z.g 6).length:Int));let v5:=(QW (k+1) (z.s 4) (z.g 5) (z.g 6));let v6:=(z.i 20+1+v0/20);let v7:=(z.i 20+1+IntKind.i64.wrap (v0/20)+v2);let v8:=(IntKind.i64.wrap v6+v2);let v9:=(IntKind.i64.wrap v3+v2);let v10:=(jk k (z.g 6) 0);let v11:=(z.i 20+1+v0/20+v2);let d7:=(↑k:Int);(.an ((-9223372036854775808)<=z.i 20+1/\z.i 20+1<=9223372036854775807) (.an ((20:Int)≠0) (.an (0<=v0/\(0:Int)<20) (.two ((-9223372036854775808)<=v0/20/\v0/20<=9223372036854775807) (.two ((-9223372036854775808)<=z.i 20+1+v0/20/\z.i 20+1+ ↑(z.s 4).length/20<=9223372036854775807) (.two ((-9223372036854775808)<=z.i 20+1+v0/20+v2/\z.i 20+1+ ↑(z.s 4).length/20+ ↑(z.g 5).length<=9223372036854775807) (.cl v1 (wH k (z.g 6)/\(z.g 6).length<=1125899906842624/\v4/\(0<=z.i 20+1+v0/20+v2/\z.i 20+1+ ↑(z.s 4).length/20+ ↑(z.g 5).length<=5000000000000000)/\1001<=z.i 20+1+v0/20+v2+d7) (λy0=>(z.i 20+1+ ↑(z.s 4).length/20+ ↑(z.g 5).length<=y0.i 21/\y0.i 21<=5000000000000000)/\(y0.i 21<=1000->y0.i 21=z.i 20+1+ ↑(z.s 4).length/20+ ↑(z.g 5).length+ ↑v10)) λy0=>(.ax (Cl (qn (y0.i 21)) (z.i 20) (y0.i 21) (qp (y0.i 21) (z.i 20) v5)))) (Tj v1 k (z.g 6) v4 (Tl v11) v11 d7 v10 λy1=>(.ax (Cl (qn (y1.i 21)) (z.i 20) (y1.i 21) (qp (y1.i 21) (z.i 20) v5))))) (.two ((-9223372036854775808)<=IntKind.i64.wrap v6+v2/\IntKind.i64.wrap v6+ ↑(z.g 5).length<=9223372036854775807) (VJ v1 k (z.g 6) v4 (0<=IntKind.i64.wrap v6+v2/\IntKind.i64.wrap v6+ ↑(z.g 5).length<=5000000000000000) v6 v2 d7 (z.g 5) v10 λy2=>(.ax (Cl (qn (y2.i 21)) (z.i 20) (y2.i 21) (qp (y2.i 21) (z.i 20) v5)))) (Tj v1 k (z.g 6) v4 (Tl v8) v8 d7 v10 λy3=>(.ax (Cl (qn (y3.i 21)) (z.i 20) (y3.i 21) (qp (y3.i 21) (z.i 20) v5)))))) (.two ((-9223372036854775808)<=z.i 20+1+IntKind.i64.wrap (v0/20)/\z.i 20+1+IntKind.i64.wrap (v0/20)<=9223372036854775807) (.two ((-9223372036854775808)<=z.i 20+1+IntKind.i64.wrap (v0/20)+v2/\z.i 20+1+IntKind.i64.wrap (v0/20)+ ↑(z.g 5).length<=9223372036854775807) (.cl v1 (wH k (z.g 6)/\(z.g 6).length<=1125899906842624/\v4/\(0<=z.i 20+1+IntKind.i64.wrap (v0/20)+v2/\z.i 20+1+IntKind.i64.wrap (v0/20)+ ↑(z.g 5).length<=5000000000000000)/\1001<=z.i 20+1+IntKind.i64.wrap (v0/20)+v2+d7) (λy4=>(z.i 20+1+IntKind.i64.wrap (v0/20)+ ↑(z.g 5).length<=y4.i 21/\y4.i 21<=5000000000000000)/\(y4.i 21<=1000->y4.i 21=z.i 20+1+IntKind.i64.wrap (v0/20)+ ↑(z.g 5).length+ ↑v10)) λy4=>(.ax (Cl (qn (y4.i 21)) (z.i 20) (y4.i 21) (qp (y4.i 21) (z.i 20) v5)))) (Tj v1 k (z.g 6) v4 (Tl v7) v7 d7 v10 λy5=>(.ax (Cl (qn (y5.i 21)) (z.i 20) (y5.i 21) (qp (y5.i 21) (z.i 20) v5))))) (.two ((-9223372036854775808)<=IntKind.i64.wrap v3+v2/\IntKind.i64.wrap v3+ ↑(z.g 5).length<=9223372036854775807) (VJ v1 k (z.g 6) v4 (0<=IntKind.i64.wrap v3+v2/\IntKind.i64.wrap v3+ ↑(z.g 5).length<=5000000000000000) v3 v2 d7 (z.g 5) v10 λy6=>(.ax (Cl (qn (y6.i 21)) (z.i 20) (y6.i 21) (qp (y6.i 21) (z.i 20) v5)))) (Tj v1 k (z.g 6) v4 (Tl v9) v9 d7 v10 λy7=>(.ax (Cl (qn (y7.i 21)) (z.i 20) (y7.i 21) (qp (y7.i 21) (z.i 20) v5))))))))))) by dsimp only [Eg,va] at hA;have:=@Ti k (z.i 2) (z.s 4) (z.g 5) (z.g 6);have:=Pf k (z.s 4) (z.g 5) (z.g 6);exact iy
abbrev Ek(a:Int)(b:List G):=a=a/\b=b/\True
abbrev VK(a:Prop)(b c d e f g:Int):=a/\b.toNat<c.toNat/\∀(y:Sy),(y.i 999=0->y.i 21=d+e/\(y.i 21=d∨y.i 21<=1000))/\(¬y.i 999=0->y.p 10)->(y.i 999=0->y.i 21=f+g/\(y.i 21=f∨y.i 21<=1000))/\(¬y.i 999=0->y.p 10)
def J1:bH 4 2 Ci:=bG 7 69 (ai (tS 1002) eN) lN λp z hA=>show Fm.den (let v0:=(gL (aQ (aL (p.g 1) (p.i 8))));let v1:=(↑v0.length:Int);let v2:=(bS (p.i 8) (p.g 1));let v3:=(aL v0 (z.i 9));let v4:=(↑(jk 1002 v0 (z.i 9)):Int);let v5:=(Ek (p.i 8) (p.g 1));let v6:=(z.i 9+1);(.an v2 (.two (z.i 9<v1) (.an v2 (.an (0<=z.i 9/\z.i 9<v1) (.ct (QV 1002 (gI (aa v3 1)) (gS (aa v3 3)) (gL (aa v3 4)) (gL (aa v3 5))/\(0<=z.i 20/\z.i 20<=3000000000000000)/\1001<=z.i 20+1002/\1<=1002) (λy0=>(y0.p 10↔1000<y0.i 21)/\z.i 20<y0.i 21/\y0.i 21<=5000000000000000/\(y0.i 21<=1000->y0.i 21=z.i 20+(↑(QW 1002 (gS (aa v3 3)) (gL (aa v3 4)) (gL (aa v3 5))):Int))) λy0=>(.two (y0.p 10) (.ax (((1:Int)=0->y0.i 21=z.i 20+v4/\(y0.i 21=z.i 20∨y0.i 21<=1000))/\(¬(1:Int)=0->true=true))) (.two ((-9223372036854775808)<=z.i 9+1/\z.i 9+1<=9223372036854775807) (.an v5 (.at (VK (Eh (p.g 1)/\v2/\(0<=z.i 9+1/\z.i 9+1<=v1)/\0<=y0.i 21/\y0.i 21<=3000000000000000) (v1-v6) (v1-z.i 9) (y0.i 21) (↑(jk 1002 v0 v6):Int) (z.i 20) v4))) (.an v5 (.at (VK (Eh (p.g 1)/\v2/\((0:Int)<=IntKind.i64.wrap v6/\IntKind.i64.wrap v6<=v1)/\0<=y0.i 21/\y0.i 21<=3000000000000000) (v1-IntKind.i64.wrap v6) (v1-z.i 9) (y0.i 21) (↑(jk 1002 v0 (eI v6)):Int) (z.i 20) v4)))))))) (.an v5 (.at (((0:Int)=0->z.i 20=z.i 20+v4/\(z.i 20=z.i 20∨z.i 20<=1000))/\(¬(0:Int)=0->(aN (PS.mk [(21,Tm.i (z.i 20)),(999,Tm.i (Int.ofNat (nat_lit 0)))] ((0,(bI 0).fst,0)::ji.loc) ji.ln (p.i 8=p.i 8/\p.g 1=p.g 1/\ji.pr) ji.fz).tm).p 10))))))) by dsimp only [Ci] at hA;have:=@Ei (p.g 1) (p.i 8);have:=@Pe 1002 (gL (aa (aq (p.g 1) (p.i 8).toNat) 0)) (z.i 9);have:=@lg 1002 (gL (aa (aq (p.g 1) (p.i 8).toNat) 0)) (z.i 9);have:=@oE 1002 (gL (aa (aq (p.g 1) (p.i 8).toNat) 0)) (z.i 9);have:=yS 1002 (aq (gL (aa (aq (p.g 1) (p.i 8).toNat) 0)) (z.i 9).toNat);have:=Ef 1002 (aq (gL (aa (aq (p.g 1) (p.i 8).toNat) 0)) (z.i 9).toNat);exact iy
def J2:bH 4 0 Cj:=bG 7 153 eN (aG (ptm:=[(0,.c (.v 13 1)),(4,.c (.i .i64 8))]) J1 lN) λp z hA=>show Fm.den (let v0:=(gL (aQ (aL (p.g 1) (z.i 9))));let v1:=(m_ (p.g 1) (z.i 9));(.two (bO (z.i 9) (p.g 1)) (.an ((-9223372036854775808)<=z.i 20+2/\z.i 20+2<=9223372036854775807) (.cl ((Ek (z.i 9) (p.g 1))) (Eh (p.g 1)/\(bS (z.i 9) (p.g 1))/\((0:Int)<=0/\(0:Int)<=(↑v0.length:Int))/\0<=z.i 20+2/\z.i 20+2<=3000000000000000) (λy0=>(y0.i 999=0->y0.i 21=z.i 20+2+(↑(jk 1002 v0 0):Int)/\(y0.i 21=z.i 20+2∨y0.i 21<=1000))/\(¬y0.i 999=0->y0.p 10)) λy0=>(.two (y0.i 999=0) (.an ((-9223372036854775808)<=z.i 9+1/\z.i 9+1<=9223372036854775807) (.an (p.g 1=p.g 1/\True) (.at ((Eh (p.g 1)/\(p.g 1).length<=1125899906842624/\(dF (z.i 9) (p.g 1))/\0<=y0.i 21/\y0.i 21<=1000+2 * (z.i 9+1))/\((↑(p.g 1).length:Int)-(z.i 9+1)).toNat<((↑(p.g 1).length:Int)-z.i 9).toNat/\∀(y:Sy),(y.i 999=0->y.i 21=y0.i 21+ ↑(m_ (p.g 1) (z.i 9+1)))/\(¬y.i 999=0->y.p 10)->(y.i 999=0->y.i 21=z.i 20+ ↑v1)/\(¬y.i 999=0->y.p 10))))) (.ax (((1:Int)=0->y0.i 21=z.i 20+ ↑v1)/\(¬(1:Int)=0->y0.p 10)))))) (.an (p.g 1=p.g 1/\True) (.at (((0:Int)=0->z.i 20=z.i 20+ ↑v1)/\(¬(0:Int)=0->(aN (PS.mk [(21,Tm.i (z.i 20)),(999,Tm.i (Int.ofNat (nat_lit 0)))] ((0,(bI 0).fst,0)::ji.loc) ji.ln (p.g 1=p.g 1/\ji.pr) ji.fz).tm).p 10)))))) by dsimp only [Cj] at hA;have:=@Ei (p.g 1) (z.i 9);have:=@gM (p.g 1) (z.i 9);have:=@yT (p.g 1) (z.i 9);exact iy
def Tn:bj 4 Pg:=bB 5 5 eN (aG (ptm:=[(0,.c (.v 13 1))]) J2 lN) λz hA=>show Fm.den ((.cl ((z.g 1=z.g 1/\True)) (Eh (z.g 1)/\(z.g 1).length<=1125899906842624/\(fL (↑(z.g 1).length:Int))/\(0:Int)<=0/\(0:Int)<=1000+2 * 0) (λy0=>(y0.i 999=0->y0.i 21=0+ ↑(m_ (z.g 1) 0))/\(¬y0.i 999=0->y0.p 10)) λy0=>(.two (y0.i 999=0) (.two (1000<y0.i 21) (.ax (¬true=true->(z.g 1).length<=30/\m_ (z.g 1) 0<=1000)) (.ax (¬30<(↑(z.g 1).length:Int)->(z.g 1).length<=30/\m_ (z.g 1) 0<=1000))) (.ax (¬y0.p 10->(z.g 1).length<=30/\m_ (z.g 1) 0<=1000))))) by dsimp only [Pg] at hA;exact iy
noncomputable section
def esG(i:Int)(e:G):Prop:=wh e/\VH e=e/\(gI (aa e 0)=1∨gI (aa e 0)=2)/\(gI (aa e 0)=2↔1<=i)/\¬gI (aa e 12)=1/\gI (aa e 13)=0/\gI (aa e 14)=0
def dT(es:List G):Prop:=∀i:Int,0<=i->i<es.length->esG i (aq es i.toNat)
def es_at{es:List G}{i:Int}(h:dT es)(h0:0<=i)(hi:i<es.length):(gI (aa (aq es i.toNat) 0)=1∨gI (aa (aq es i.toNat) 0)=2)/\(gI (aa (aq es i.toNat) 0)=2↔1<=i)/\¬gI (aa (aq es i.toNat) 12)=1/\gI (aa (aq es i.toNat) 13)=0/\gI (aa (aq es i.toNat) 14)=0:=(h i h0 hi).2.2
def HB{es:List G}{e:G}{i:Int}(h0:0<=i)(hi:i<es.length):aq (es++ [e]) i.toNat=aq es i.toNat:=by unfold aq;rw[aag,aag,aaD (by omega)]
def tT{es:List G}{e:G}{i:Int}(hi:i=es.length):aq (es++ [e]) i.toNat=e:=by subst hi;unfold aq;rw[aag,aar,aaA (aac _),aba];rfl
def tU{es:List G}(h:dT es):qY es:=by
 unfold qY
 intro e he
 obtain⟨i,hi,e2⟩:=abI he
 have:=(h (i:Int) (by omega) (by omega)).1
 have e3:aq es (i:Int).toNat=e:=by unfold aq;rw[aar,aag,aak hi, ←e2];rfl
 rwa [e3] at this
def HC{es:List G}(h:dT es):O9 es:=by
 intro e he
 obtain⟨i,hi,e2⟩:=abI he
 have:=(h (i:Int) (by omega) (by omega)).2.1
 have e3:aq es (i:Int).toNat=e:=by unfold aq;rw[aar,aag,aak hi, ←e2];rfl
 rwa [e3] at this
abbrev Yd(es:List G):Int:=bw 0 0 0 hZ es
def ri{es:List G}(h:es.length<=200):∀(n:Nat) (i:Int),0<=i->i+n=es.length->(gj es i).length<=(gg True es i).length+10 * n
 |0,i,h0,hn=>by rw[yR (by omega)];exact aaq _
 |n+1,i,h0,hn=>by
  have hi:i<es.length:=by omega
  rw[tO h0 hi,oh h0 hi,aai,aai];have a:=@O1 i.toNat (aq es i.toNat) (by omega);have b:=ri h n (i+1) (by omega) (by omega);omega
def Ye(e:G):(zA False e).length<=(zA True e).length:=by
 unfold zA;rw[aai,aai];by_cases h:gI (aa e 0)=2
 ·rw[if_pos h,if_pos h,if_pos (.inr id)];by_cases h1:gI (aa e 12)=1∨¬True
  ·rw[if_pos h1];exact aac _
  ·rw[if_neg h1,aat];simp
 ·rw[if_neg h,if_neg h];exact aac _
def Pj(es:List G):(gg False es 0).length<=(gg True es 0).length:=by
 unfold gg
 show((es.drop 0).flatMap _).length<=((es.drop 0).flatMap _).length
 rw[aaT]
 induction es with
 |nil=>exact aac _
 |cons e es ih=>rw[List.flatMap_cons,List.flatMap_cons,aai,aai];have:=Ye e;omega
def To{es:List G}(h:dT es)(hb:Yd es=0):jN es/\(mY False 0 0 0 hZ es).length<=262144/\(gj es 0).length<=270000:=by
 obtain⟨h1,h2,h3⟩:=fm hb;have h4:es.length<=200:=by unfold yd at h1;exact h1.2.2.2.2
 have a:=ri h4 es.length 0 (by omega) (by omega);have b:=Pj es;unfold mY at h3⊢;simp only [aai] at h3⊢;exact⟨⟨h2,tU h,h4⟩,by omega,by omega⟩
def jZ(es:List G):G:=.node [.int 0,.int 0,.int 0,hZ,.node es]
def Ks(es:List G):G:=jY 0 0 0 hZ es
def Tp(n:Int):List G:=(List.range n.toNat).map λ(k:Nat)=>.node [.int 0,.int ((k:Int)+1)]
def atN_0{n:Int}(h:n<=0):Tp n= []:=by unfold Tp;rw[show n.toNat=0 by omega];rfl
def atN_s{n:Int}(h:0<=n):Tp (n+1)=Tp n++ [.node [.int 0,.int (n+1)]]:=by unfold Tp;rw[show(n+1).toNat=n.toNat+1 by omega,List.range_succ,List.map_append];congr 1;show [G.node [.int 0,.int ((n.toNat:Int)+1)]]=_;rw[abf h]
attribute [irreducible] dT Tp
end
noncomputable section
def Kt:G:=.node [.int 1,.str [115],.int 0,.int 0,.int 0,.int 0,.int 0,.int 0,.str [],.node [],.node [],hZ,.int 0,.int 0,.int 0]
def Zk(v:G):G:=DG (gI (aa v 0)) (gI (aa v 1)) (gI (aa v 2)) (gS (aa v 3)) (gL (aa v 4)) (gL (aa v 5))
def lP(k:Int)(v:G):G:=.node [.int 2,.str [],.int 1,.int (1+k),.int 0,.int (gI (aa v 0)),.int (gI (aa v 1)),.int (gI (aa v 2)),.str (gS (aa v 3)),.node (gL (aa v 4)),.node (gL (aa v 5)),Zk v,.int 0,.int 0,.int 0]
def J3:List G->Int->List G
 | [],_=>[]
 |v::vs,k=>lP k v::J3 vs (k+1)
def um(l:List G)(i:Int):List G:=J3 (l.drop i.toNat) i
def Pk{l:List G}{i:Int}(h0:0<=i)(h:i<l.length):um l i=lP i (aq l i.toNat)::um l (i+1):=by unfold um;rw[eH h0 h];rfl
def Tq{l:List G}{i:Int}(h:(l.length:Int)<=i):um l i= []:=by unfold um;rw[aaH (by omega)];rfl
def cz(l:List G):List G:=Kt::um l 0
def lj(k:Int)(v:G):lP k v= .node [.int 2,.str [],.int 1,.int (1+k),.int 0,.int (gI (aa v 0)),.int (gI (aa v 1)),.int (gI (aa v 2)),.str (gS (aa v 3)),.node (gL (aa v 4)),.node (gL (aa v 5)),Zk v,.int 0,.int 0,.int 0]:=rfl
def Zl(l:List G):Prop:=∀g∈l,Zi 16 g=g
def ko(l:List G):Prop:=Zl l/\wH 1002 l/\jk 1002 l 0<=1000/\l.length<=1000
def HD:∀(l:List G) (i:Int),(J3 l i).length=l.length
 | [],_=>rfl
 |_::l,i=>by rw[J3,aat,HD,aat]
def oG(l:List G):(cz l).length=l.length+1:=by unfold cz um;rw[aat,HD];rfl
def Pl{l:List G}{i:Int}(h:ko l)(h0:0<=i)(hi:i<l.length):ti 16 (gI (aa (aq l i.toNat) 1)) (gS (aa (aq l i.toNat) 3)) (gL (aa (aq l i.toNat) 4)) (gL (aa (aq l i.toNat) 5))/\xW 16 (gS (aa (aq l i.toNat) 3)) (gL (aa (aq l i.toNat) 5))<=100000:=Ck h.2.1 h.2.2.1 h0 hi
def yW:∀(l:List G) (k:Int) (n:Nat),n<l.length->aq (J3 l k) n=lP (k+n) (aq l n)
 | [],k,n,h=>by simp at h
 |v::vs,k,0,h=>by show lP k v=lP (k+(0:Nat)) v;congr 1;omega
 |v::vs,k,n+1,h=>by have:=yW vs (k+1) n (by simpa using h);show aq (J3 vs (k+1)) n=lP _ (aq vs n);rw[this];congr 1;omega
def HE:ti 16 0 [] [] []:=by with_unfolding_all exact⟨⟨⟨by decide,by decide⟩,by decide,by decide,by decide⟩,λ_ h=>absurd h aaS⟩
def HF:xW 16 [] []<=10000000:=by
 have:xW 16 [] []=24:=by with_unfolding_all rfl
 omega
def HG(kd i sc:Int)(t:List Nat)(ns ks:List G):HOk (DG kd i sc t ns ks):=by
 unfold DG;split
 ·exact cm _
 ·exact fy
def pI_0:pI ((0:Int)=1)=0:=if_neg (by decide)
def yX{tx:List Nat}{tb dc vr vi:Int}{vt:List Nat}{vn vx:List G}{h:G}{ab ae:Int}(h0:tx.length<=1000000/\(-9223372036854775808<=tb/\tb<9223372036854775808)/\(-9223372036854775808<=dc/\dc<9223372036854775808)/\(-9223372036854775808<=vr/\vr<9223372036854775808)/\
 (-9223372036854775808<=ab/\ab<9223372036854775808)/\(-9223372036854775808<=ae/\ae<9223372036854775808)/\ti 16 vi vt vn vx/\xW 16 vt vx<=10000000/\HOk h):mX tx tb dc vr vi vt vn vx h ab ae:=by unfold mX;exact h0
def st_ok:esG 0 Kt:=by
 refine⟨?_, ?_,.inl rfl,⟨λh=>?_,λh=>?_⟩,by decide,rfl,rfl⟩
 ·refine yX ⟨by decide,⟨by decide,by decide⟩,⟨by decide,by decide⟩,⟨by decide,by decide⟩,⟨by decide,by decide⟩,⟨by decide,by decide⟩,HE,HF, ?_⟩;show HOk (hX hZ);rw[cI fy];exact fy
 ·show G.node [.int 1,.str [115],.int 0,.int 0,.int 0,.int 0,.int 0,.int 0,.str [],.node [],.node (zD 16 []),hX hZ,.int (pI ((0:Int)=1)),.int 0,.int 0]=_;rw[cI fy,pI_0];rfl
 ·exact absurd (show(1:Int)=2 from h) (by decide)
 ·omega
def rv_ok{l:List G}{k:Int}(h:ko l)(h0:0<=k)(hk:k<l.length):esG (k+1) (lP k (aq l k.toNat)):=by
 obtain⟨a1,a2⟩:=Pl h h0 hk;have hl:=h.2.2.2;have hn:=h.1 _ (bY h0 hk);have e5:zD 16 (gL (aa (aq l k.toNat) 5))=gL (aa (aq l k.toNat) 5):=by
  have:gL (aa (Zi 16 (aq l k.toNat)) 5)=gL (aa (aq l k.toNat) 5):=by rw[hn]
  exact this
 have hh:HOk (Zk (aq l k.toNat)):=HG _ _ _ _ _ _;refine⟨?_, ?_,.inr rfl,⟨λ_=>by omega,λ_=>rfl⟩,show ¬(0:Int)=1 by decide,rfl,rfl⟩
 ·have z1: -9223372036854775808<=(0:Int)/\(0:Int)<9223372036854775808:=⟨by decide,by decide⟩
  have z2: -9223372036854775808<=(1:Int)/\(1:Int)<9223372036854775808:=⟨by decide,by decide⟩
  refine yX ⟨aaq _,z2, ?_,z1,z1,z1,a1,aaL a2 (by decide), ?_⟩
  ·show -9223372036854775808<=1+k/\1+k<9223372036854775808;omega
  ·show HOk (hX (Zk _));rw[cI hh];exact hh
 ·show G.node [.int 2,.str [],.int 1,.int (1+k),.int 0,.int (gI (aa (aq l k.toNat) 0)),.int (gI (aa (aq l k.toNat) 1)),.int (gI (aa (aq l k.toNat) 2)),.str (gS (aa (aq l k.toNat) 3)),.node (gL (aa (aq l k.toNat) 4)),.node (zD 16 (gL (aa (aq l k.toNat) 5))),hX (Zk (aq l k.toNat)),.int (pI ((0:Int)=1)),.int 0,.int 0]=_;rw[cI hh,pI_0,e5];rfl
def pK{l:List G}(h:ko l):dT (cz l):=by
 unfold dT;intro i h0 hi;rw[oG] at hi;by_cases e:i=0
 ·subst e;exact st_ok
 ·have h1:=yW l 0 (i-1).toNat (by omega);have h2:aq (cz l) i.toNat=aq (J3 l 0) (i-1).toNat:=by rw[show i.toNat=(i-1).toNat+1 by omega];rfl
  have h3:=rv_ok (k:=i-1) h (by omega) (by omega);rw[h2,h1];rw[show(0:Int)+((i-1).toNat:Nat)=i-1 by omega];rw[show i-1+1=i by omega] at h3;exact h3
def Pm{l:List G}(h:ko l):l.length<=1000:=h.2.2.2
def HH(p:Sy):LSpec:=⟨[(68,.c (.pv 7 (p.g 24))),(69,.c (.pi .i64 (p.g 24).length)),(70,.c (.i .i64 9))],[],λz=>dT (p.g 24)/\(0<=z.i 9/\z.i 9<=(p.g 24).length)/\(p.g 24).length<=1000000,λz=>((p.g 24).length-z.i 9).toNat,[⟨.exit 1,[],[]⟩],λz y=>True,none,[]⟩
def HI(p:Sy):LSpec:=⟨[(30,.c (.pv 7 (p.g 24))),(31,.c (.pi .i64 (p.g 24).length)),(32,.c (.i .i64 9))],[],λz=>dT (p.g 24)/\(0<=z.i 9/\z.i 9<=(p.g 24).length)/\(p.g 24).length<=1000000,λz=>((p.g 24).length-z.i 9).toNat,[⟨.exit 0,[],[]⟩],λz y=>True,none,[0,3,6]⟩
def Ts{P:Program}{f:Nat}{S:FSpec}(af5:Sy->Sy->Prop)(h:∀z y,S.pre z->S.post z y->af5 z y)(hS:Ok P f S):Ok P f {S with post:=af5}:=by obtain⟨zf,hc⟩:=hS;exact⟨λz=>⟨(zf z).1,λhz=>h z _ hz ((zf z).2 hz)⟩,hc⟩
def Cm(es L H A:List G):Prop:=(Yd es=0->L= [jZ es]/\H= [.node [Ks es]]/\A=Tp (es.length-1))/\(¬Yd es=0->L= []/\H= []/\A= [])
def yY{l:List G}:cz l= [.node [.int 1,.str [115],.int 0,.int 0,.int 0,.int 0,.int 0,.int 0,.str [],.node [],.node [],hZ,.int 0,.int 0,.int 0]]++um l 0:=rfl
attribute [irreducible] ko cz um lP Cm
end
abbrev yZ(a:List G)(b:Prop):=dT a/\b/\a.length<=1000000
abbrev El(a:Prop)(b c:Int):=a/\b.toNat<c.toNat/\∀(y:Sy),True->True
def J4(p:Sy)(z:Sy):=@es_at (p.g 24) (z.i 9)
def Pn:bH 58 1 HH:=bG 12 150037 eN lN λp z hA=>show Fm.den (let v0:=(↑(p.g 24).length:Int);let v1:=(yZ (p.g 24) (dF (z.i 9) (p.g 24)));let v2:=(aL (p.g 24) (z.i 9));let v3:=((-9223372036854775808)<=z.i 9+1/\z.i 9+1<=9223372036854775807);let v4:=(Ek v0 (p.g 24));(.two (bO (z.i 9) (p.g 24)) (.an (bS (z.i 9) (p.g 24)) (.two (gI (aa v2 0)=2) (.two (gI (aa v2 12)=1) .ff (.an (gI (aa v2 0)≠4) (.an v3 (.an v4 (.at (El v1 (v0-(z.i 9+1)) (v0-z.i 9))))))) (.two (gI (aa v2 0)≠4) (.an v3 (.an v4 (.at (El v1 (v0-(z.i 9+1)) (v0-z.i 9))))) .ff))) (.ax (True)))) by dsimp only [HH] at hA;have:=J4 p z;exact cZ
def Po:bH 22 0 HI:=bG 6 133 eN lN λp z hA=>show Fm.den (let v0:=(↑(p.g 24).length:Int);(.two (bO (z.i 9) (p.g 24)) (.an (bS (z.i 9) (p.g 24)) (.two (gI (aQ (aL (p.g 24) (z.i 9)))=4) .ff (.an ((-9223372036854775808)<=z.i 9+1/\z.i 9+1<=9223372036854775807) (.an (Ek v0 (p.g 24)) (.at (El (yZ (p.g 24) (dF (z.i 9) (p.g 24))) (v0-(z.i 9+1)) (v0-z.i 9))))))) (.ax (True)))) by dsimp only [HI] at hA;have:=J4 p z;exact cZ
noncomputable section
def mS:∀{l:List Int},(∀x∈l,0<=x/\x<256)->(l.map Int.toNat).map (λ(n:Nat)=>(n:Int))=l
 | [],_=>rfl
 |x::l,h=>by rw[aax,aax,mS λy hy=>h y (aal _ hy),abf (h x aan).1]
def Pp(l:List Int):hB (hN l)=l.map Int.toNat:=by unfold hB hN;show(l.map G.int).map (λx=>(gI x).toNat)=_;rw[aa8];rfl
def y_{a b:G}(ha:HOk a)(hb:HOk b)(h:hB a=hB b):a=b:=by unfold HOk at ha hb;obtain⟨l,rfl,hl,hlb⟩:=ha;obtain⟨m,rfl,hm,hmb⟩:=hb;rw[Pp,Pp] at h;rw[←mS hlb, ←mS hmb,h]
def Pq(m:Nat):∀{a b:Nat},a<=m->aH a=aH b->a=b:=by
 induction m using Nat.strongRecOn with
 |_ m ih=>
 intro a b ha h
 rw[aH,aH.eq_1 b] at h
 split at h <;> split at h
 ·injection h
 ·injection h with h1 h2;rw[aH] at h2;split at h2 <;> cases h2
 ·injection h with h1 h2;rw[aH] at h2;split at h2 <;> cases h2
 ·injection h with h1 h2;have:=ih (a/128) (by omega) (aac _) h2;omega
def rj{α:Type}{a b c d:List α}(h:a++b=c++d)(hl:a.length=c.length):a=c/\b=d:=List.append_inj h hl
def oH:List G->List G->Prop
 |r::rs,q::qs=>(hX (aa r 1)=hX (aa q 1)->gS (aa r 0)=gS (aa q 0))/\oH rs qs
 |_,_=>True
def Yf{s:Prop}{h x h' x':G}(hh:HOk h)(j4:HOk h')(e:jB s h (hX x)=jB s h' (hX x')):h=h':=by
 unfold jB at e;split at e
 ·injection e with _ e;have:=rj e (by rw[fk,fk]);exact y_ hh j4 this.2
 ·injection e with _ e;have:=rj e (by rw[e_ hh,e_ j4]);exact y_ hh j4 this.1
def tV:∀(ss:List Prop) (ps:List G) (h:G) (s:Prop) (r:G),ps.length=ss.length->je h (ss++ [s]) (ps++ [r])=je h ss ps++ [.node [.str (jB s (uF h ss ps) (hX (aa r 0))),j2 s (uF h ss ps) (hX (aa r 0))]]
 | [],[],_,_,_,_=>rfl
 |s0::ss,r0::ps,h,s,r,e=>by show _::je (j2 s0 h (hX (aa r0 0))) (ss++ [s]) (ps++ [r])=_;rw[tV ss ps _ s r (by simpa using e)];rfl
 | [],_::_,_,_,_,e=>by simp at e
 |_::_,[],_,_,_,e=>by simp at e
def Em:∀(ss:List Prop) (ps:List G) {h:G},HOk h->HOk (uF h ss ps)
 | [],_,_,hh=>by simp only [uF];exact hh
 |_::_,[],_,hh=>by simp only [uF];exact hh
 |s::ss,r::ps,_,hh=>by simp only [uF];exact Em ss ps (G3 _ _ _)
def desc:∀(n:Nat) (ss:List Prop) (ps ps':List G) (h h':G) (rest ae2:List G),ss.length=n->ps.length=ss.length->ps'.length=ss.length->HOk h->HOk h'->uF h ss ps=uF h' ss ps'->oH ((je h ss ps).reverse++rest) ((je h' ss ps').reverse++ae2)->h=h'/\oH rest ae2:=by
 intro n
 induction n with
 |zero=>intro ss ps ps' h h' rest ae2 hn hp hp' hh j4 e ht;have e1:ss= []:=List.length_eq_zero_iff.1 hn;subst e1;have e2:ps= []:=List.length_eq_zero_iff.1 hp;have e3:ps'= []:=List.length_eq_zero_iff.1 hp';subst e2;subst e3;exact⟨e,ht⟩
 |succ n ih=>
  intro ss ps ps' h h' rest ae2 hn hp hp' hh j4 e ht;rcases List.eq_nil_or_concat ss with rfl|⟨ss,s,rfl⟩
  ·cases hn
  rcases List.eq_nil_or_concat ps with rfl|⟨ps,r,rfl⟩
  ·simp at hp
  rcases List.eq_nil_or_concat ps' with rfl|⟨ps',r',rfl⟩
  ·simp at hp'
  simp only [List.concat_eq_append,aai,aaI] at hn hp hp' e ht;have hp1:ps.length=ss.length:=by omega
  have hp2:ps'.length=ss.length:=by omega
  rw[k_ _ _ _ _ _ hp1,k_ _ _ _ _ _ hp2] at e;rw[tV _ _ _ _ _ hp1,tV _ _ _ _ _ hp2,abJ,abJ] at ht;obtain⟨t1,t2⟩:=(show(hX (j2 s (uF h ss ps) (hX (aa r 0)))=hX (j2 s (uF h' ss ps') (hX (aa r' 0)))->jB s (uF h ss ps) (hX (aa r 0))=jB s (uF h' ss ps') (hX (aa r' 0)))/\oH ((je h ss ps).reverse++rest) ((je h' ss ps').reverse++ae2) from ht)
  have e1:=Yf (Em ss ps hh) (Em ss ps' j4) (t1 (by rw[e]));exact ih ss ps ps' h h' rest ae2 (by omega) hp1 hp2 hh j4 e1 t2
def HJ(e:List Nat)(lh hd:G)(ab ae c n:Int)(ip op:List G):(qm e lh hd ab ae c n ip op).reverse=(je (tM lh hd ae c ip) (cF ab n).reverse op).reverse++(.node [.str (1::(hB hd++hB (B7 lh ae c ip))),tM lh hd ae c ip]:: .node [.str (2::(hB (wB lh ae c ip)++aH c.toNat)),B7 lh ae c ip]::((je lh (cF ae c).reverse ip).reverse++ [.node [.str (0::e),lh]])):=by rw[lc];simp only [abJ,List.reverse_cons,List.reverse_nil,aa6,aaw,abE,List.cons_append]
def En{ea eb:List Nat}{ra rb:Int}{hda hdb:G}{ab ae ca cb n:Int}{ipa ipb opa opb:List G}(ha:JS ra ab ae ca n ipa opa)(hb:JS rb ab ae cb n ipb opb)(am3:HOk hda)(am4:HOk hdb)(hr:wB (tM (aA ea) hda ae ca ipa) ab n opa=wB (tM (aA eb) hdb ae cb ipb) ab n opb)(ht:oH (qm ea (aA ea) hda ab ae ca n ipa opa).reverse (qm eb (aA eb) hdb ab ae cb n ipb opb).reverse):ea=eb:=by
 rw[lI] at ha hb
 obtain⟨_,hca,a1,a2⟩:=ha
 obtain⟨_,hcb,b1,b2⟩:=hb
 have la1:=a1.2.2;have la2:=a2.2.2;have lb1:=b1.2.2;have lb2:=b2.2.2
 rw[tL a2,tL b2] at hr
 rw[HJ,HJ] at ht
 unfold oN at la1 la2 lb1 lb2
 obtain⟨eN,ht⟩:=desc _ _ _ _ _ _ _ _ rfl (by rw[abj];exact la2) (by rw[abj];exact lb2) (mQ _ _ _ _ _) (mQ _ _ _ _ _) hr ht
 obtain⟨t1,ht⟩:=ht
 have t1:hX (tM (aA ea) hda ae ca ipa)=hX (tM (aA eb) hdb ae cb ipb)->1::(hB hda++hB (B7 (aA ea) ae ca ipa))=1::(hB hdb++hB (B7 (aA eb) ae cb ipb)):=t1
 have t1:=t1 (by rw[eN])
 injection t1 with _ t1
 have eC:=y_ (pG _ _ _ _) (pG _ _ _ _) (rj t1 (by rw[e_ am3,e_ am4])).2
 obtain⟨t2,ht⟩:=ht
 have t2:hX (B7 (aA ea) ae ca ipa)=hX (B7 (aA eb) ae cb ipb)->2::(hB (wB (aA ea) ae ca ipa)++aH ca.toNat)=2::(hB (wB (aA eb) ae cb ipb)++aH cb.toNat):=t2
 have t2:=t2 (by rw[eC])
 injection t2 with _ t2
 have ua:=tK (i:=ae) (n:=ca) (p:=ipa) (cm ea)
 have ub:=tK (i:=ae) (n:=cb) (p:=ipb) (cm eb)
 obtain⟨t3,t4⟩:=rj t2 (by rw[e_ ua,e_ ub])
 have eu:=y_ ua ub t3
 have ec:ca=cb:=by have:=Pq _ (aac _) t4;omega
 subst ec
 rw[tL a1,tL b1] at eu
 obtain⟨_,ht⟩:=desc _ _ _ _ _ _ _ _ rfl (by rw[abj];exact la1) (by rw[abj];exact lb1) (cm _) (cm _) eu ht
 obtain⟨t5,_⟩:=ht
 have eh:aA ea=aA eb:=by assumption
 have t5:hX (aA ea)=hX (aA eb)->0::ea=0::eb:=t5
 have t5:=t5 (by rw[eh])
 injection t5
end
noncomputable section
def B8(l:List Nat):Prop:=∀x∈l,x<256
def zg:B8 []:=λ_ h=>absurd h aaS
def B8.cons{x:Nat}{l:List Nat}(h:x<256)(hl:B8 l):B8 (x::l):=λy hy=>by
 rcases List.mem_cons.1 hy with rfl|hy
 ·exact h
 ·exact hl y hy
def B8.app{a b:List Nat}(h:B8 a)(hb:B8 b):B8 (a++b):=λy hy=>by
 rcases List.mem_append.1 hy with hy|hy
 ·exact h y hy
 ·exact hb y hy
def HK{a:List Nat}(h:B8 a):mj a=a:=by unfold mj;exact(List.map_congr_left λx hx=>aa_ (h x hx)).trans (List.map_id' a)
def Pr{a b:List Nat}(h:B8 a)(hb:B8 b):mj a=mj b↔a=b:=by rw[HK h,HK hb]
def HL(m:Nat):∀{n:Nat},n<=m->B8 (aH n):=by
 induction m using Nat.strongRecOn with
 |_ m ih=>
 intro n hn
 rw[aH]
 split
 ·exact .cons (by omega) zg
 ·exact .cons (by omega) (ih (n/128) (by omega) (aac _))
def qq{g:G}(h:HOk g):B8 (hB g):=by unfold HOk at h;obtain⟨l,rfl,_,hb⟩:=h;rw[Pp];intro x hx;obtain⟨y,hy,rfl⟩:=List.mem_map.1 hx;have:=hb y hy;omega
def J5(a b:List Nat)(i:Int):Prop:=a.drop i.toNat=b.drop i.toNat
def Ps{a b:List Nat}{i:Int}(h0:0<=i)(ha:i<a.length)(hl:a.length=b.length)(h:a.getD i.toNat 0=b.getD i.toNat 0):J5 a b (i+1)->J5 a b i:=λhs=>by unfold J5 at hs⊢;rw[show(i+1).toNat=i.toNat+1 by omega] at hs;rw[aaX (show i.toNat<a.length by omega),aaX (show i.toNat<b.length by omega),hs];rw[aag,aag,aak (show i.toNat<a.length by omega),aak (show i.toNat<b.length by omega)] at h;congr 1
def Yg{a b:List Nat}{i:Int}(h:¬a.getD i.toNat 0=b.getD i.toNat 0):¬a=b:=λe=>h (by rw[e])
def Tt{a b:List Nat}{i:Int}(hl:a.length=b.length)(h:(a.length:Int)<=i):J5 a b i:=by unfold J5;rw[aaH (by omega),aaH (by omega)]
def Tu{a b:List Nat}:J5 a b 0->a=b:=λh=>h
def HM(p:Sy):LSpec:=⟨[(0,.c (.pvb (p.s 1))),(1,.c (.pvb (p.s 2))),(5,.c (.i .i64 9))],[],λz=>(p.s 1).length=(p.s 2).length/\(p.s 1).length<=100000000/\(0<=z.i 9/\z.i 9<=(p.s 1).length),λz=>((p.s 1).length-z.i 9).toNat,[⟨.exit 0,[],[]⟩,⟨.ret,[(4,.c (.b 10))],[]⟩],λz y=>(y.i 999=0->J5 (p.s 1) (p.s 2) (z.i 9))/\(¬y.i 999=0->¬y.p 10/\¬p.s 1=p.s 2),none,[]⟩
def VM:FSpec:=⟨[.c (.vb 1),.c (.vb 2)],[],λz=>(z.s 1).length<=100000000/\(z.s 2).length<=100000000,λ_=>.one (.c (.b 50)),λ_=>[],λz y=>y.p 50↔z.s 1=z.s 2,none⟩
def VN:FSpec:=⟨[.c (.vb 1)],[],λz=>(z.s 1).length<=1000000,λ_=>.one (.c (.vb 20)),λ_=>[],λz y=>y.s 20=z.s 1,none⟩
def gN{l:List G}{h:G}(hl:RowsOk l)(hh:HOk h):RowsOk (l++ [.node [h]]):=λr hr=>by
 rcases List.mem_append.1 hr with hr|hr
 ·exact hl r hr
 ·rw[List.mem_singleton.1 hr];show HOk (hX h);rw[cI hh];exact hh
def gO:RowsOk []:=λ_ h=>absurd h aaS
def Ku(l:List G):Prop:=∀r∈l,B8 (gS (aa r 0))/\(gS (aa r 0)).length<=100000
def tW{l:List G}{i:Int}(h:Ku l)(h0:0<=i)(hi:i<l.length):B8 (gS (aa (aq l i.toNat) 0))/\(gS (aa (aq l i.toNat) 0)).length<=100000:=h _ (bY h0 hi)
def RwS(l:List G):Prop:=∀r∈l,hX (aa r 1)=ci (gS (aa r 0))
def jB_j2(s:Prop)(h x:G):hX (j2 s h x)=ci (jB s h x):=by
 rw[cI (G3 _ _ _)];unfold j2 jB;split
 ·exact(mc _ _).symm.trans (mH _)
 ·exact(mc _ _).symm.trans (mH _)
def zh:∀(ss:List Prop) (ps:List G) (h:G),RwS (je h ss ps)
 | [],_,_=>λr hr=>by simp [je] at hr
 |_::_,[],_=>λr hr=>by simp [je] at hr
 |s::ss,r0::ps,h=>λr hr=>by
  simp only [je] at hr;rcases List.mem_cons.1 hr with rfl|hr
  ·exact jB_j2 s h (hX (aa r0 0))
  ·exact zh ss ps _ r hr
def jB_b8{s:Prop}{h x:G}(hh:HOk h)(hx:HOk x):B8 (jB s h x)/\(jB s h x).length<=100000:=by
 have a:=e_ hh;have b:=e_ hx;unfold jB;split
 ·exact⟨.cons (by omega) ((qq hx).app (qq hh)),by simp only [aat,aai];omega⟩
 ·exact⟨.cons (by omega) ((qq hh).app (qq hx)),by simp only [aat,aai];omega⟩
def zi:∀(ss:List Prop) (ps:List G) {h:G},HOk h->RowsOk ps->Ku (je h ss ps)
 | [],_,_,_,_=>λr hr=>by simp [je] at hr
 |_::_,[],_,_,_=>λr hr=>by simp [je] at hr
 |s::ss,r0::ps,h,hh,hp=>λr hr=>by
  simp only [je] at hr;rcases List.mem_cons.1 hr with rfl|hr
  ·exact jB_b8 hh (hp _ aan)
  ·exact zi ss ps (G3 _ _ _) (λq hq=>hp q (aal _ hq)) r hr
def HN(e:List Nat)(hd:G)(ab ae c n:Int)(ip op:List G):RwS (qm e (aA e) hd ab ae c n ip op):=λr hr=>by
 rw[lc] at hr;simp only [List.mem_append,List.mem_singleton] at hr;rcases hr with(((rfl|hr)|rfl)|rfl)|hr
 ·show hX (aA e)=ci (0::e);rw[cI (cm _),VB]
 ·exact zh _ _ _ r hr
 ·show hX (B7 _ _ _ _)=ci (2::(hB (wB (aA e) ae c ip)++aH c.toNat));rw[cI (pG _ _ _ _),yE];exact(jJ _ _).symm.trans (mH _)
 ·show hX (tM _ _ _ _ _)=ci (1::(hB hd++hB (B7 (aA e) ae c ip)));rw[cI (mQ _ _ _ _ _),yF];exact(mc _ _).symm.trans (mH _)
 ·exact zh _ _ _ r hr
def Tw{e:List Nat}{hd:G}{ab ae c n:Int}{ip op:List G}(he:B8 e)(hl:e.length<=90000)(hc:c<=200)(hh:HOk hd)(h1:RowsOk ip)(h2:RowsOk op):Ku (qm e (aA e) hd ab ae c n ip op):=λr hr=>by
 rw[lc] at hr;simp only [List.mem_append,List.mem_singleton] at hr;rcases hr with(((rfl|hr)|rfl)|rfl)|hr
 ·exact⟨.cons (by omega) he,by show(0::e).length<=_;simp only [aat];omega⟩
 ·exact zi _ _ (cm _) h1 r hr
 ·have hu:=tK (i:=ae) (n:=c) (p:=ip) (cm e);have:=e_ hu;have hv:(aH c.toNat).length<=10:=bM (by omega);exact⟨.cons (by omega) ((qq hu).app (HL _ (aac _))),by show(2::(_++_)).length<=_;simp only [aat,aai];omega⟩
 ·have a:=e_ hh;have b:=e_ (pG (aA e) ae c ip);exact⟨.cons (by omega) ((qq hh).app (qq (pG _ _ _ _))),by show(1::(_++_)).length<=_;simp only [aat,aai];omega⟩
 ·exact zi _ _ (mQ _ _ _ _ _) h2 r hr
def VO(e:List Nat)(lh hd:G)(ab ae c n:Int)(ip op:List G):gS (aa (aq (qm e lh hd ab ae c n ip op) 0) 0)=0::e:=by rw[lc];rfl
def lk(l m:List G)(s t:List Nat):Prop:=∃i j:Int,(0<=i/\i<l.length)/\(0<=j/\j<m.length)/\s=gS (aa (aq l i.toNat) 0)/\t=gS (aa (aq m j.toNat) 0)/\hX (aa (aq l i.toNat) 1)=hX (aa (aq m j.toNat) 1)
def HO{l m:List G}{i j:Int}{s t:List Nat}(h0:0<=i)(hi:i<l.length)(j0:0<=j)(hj:j<m.length)(e:hX (aa (aq l i.toNat) 1)=hX (aa (aq m j.toNat) 1))(hs:s=gS (aa (aq l i.toNat) 0))(ht:t=gS (aa (aq m j.toNat) 0)):lk l m s t:=⟨i,j,⟨h0,hi⟩,⟨j0,hj⟩,hs,ht,e⟩
def Pt{l m:List G}{s t:List Nat}(hl:RwS l)(hm:RwS m)(h:lk l m s t):ci s=ci t:=by obtain⟨i,j,⟨a,b⟩,⟨c,d⟩,rfl,rfl,e⟩:=h;rw[←hl _ (bY a b), ←hm _ (bY c d),e]
def Pu{l m:List G}{s t:List Nat}(hl:Ku l)(hm:Ku m)(h:lk l m s t):s.length<=100000/\t.length<=100000:=by obtain⟨i,j,⟨a,b⟩,⟨c,d⟩,rfl,rfl,e⟩:=h;exact⟨(hl _ (bY a b)).2,(hm _ (bY c d)).2⟩
def ll(l m:List G)(i j:Int):Prop:=oH (l.take (i+1).toNat).reverse (m.take (j+1).toNat).reverse
def Pv{l m:List G}{i j:Int}(h:¬(0<=i/\0<=j)):ll l m i j:=by
 unfold ll;rcases(show i<0∨j<0 by omega) with h|h
 ·rw[show(i+1).toNat=0 by omega,abz,List.reverse_nil];unfold oH;trivial
 ·rw[show(j+1).toNat=0 by omega,abz,List.reverse_nil];cases(l.take (i+1).toNat).reverse <;> (unfold oH;trivial)
def wJ{l:List G}{i:Int}(h0:0<=i)(hi:i<l.length):(l.take (i+1).toNat).reverse=aq l i.toNat::(l.take (i-1+1).toNat).reverse:=by rw[show(i+1).toNat=i.toNat+1 by omega,show(i-1+1).toNat=i.toNat by omega,List.take_add_one,abJ];unfold aq;rw[aag,aak (show i.toNat<l.length by omega)];rfl
def J6{l m:List G}{i j:Int}(h0:0<=i)(hi:i<l.length)(j0:0<=j)(hj:j<m.length)(h:hX (aa (aq l i.toNat) 1)=hX (aa (aq m j.toNat) 1)->gS (aa (aq l i.toNat) 0)=gS (aa (aq m j.toNat) 0)):ll l m (i-1) (j-1)->ll l m i j:=λht=>by unfold ll at ht⊢;rw[wJ h0 hi,wJ j0 hj];exact⟨h,ht⟩
def Pw{l m:List G}(h:ll l m ((l.length:Int)-1) ((m.length:Int)-1)):oH l.reverse m.reverse:=by unfold ll at h;rw[show((l.length:Int)-1+1).toNat=l.length by omega,show((m.length:Int)-1+1).toNat=m.length by omega,aa9,aa9] at h;exact h
def clT(p:Sy):List (Nat×Sa):=[(9,.c (.pv 15 (p.g 30))),(11,.c (.pv 15 (p.g 31)))]
def ClI(p:Sy):Prop:=Ku (p.g 30)/\Ku (p.g 31)/\(p.g 30).length<=1000/\(p.g 31).length<=1000
def ClR(p y:Sy):Prop:=¬y.i 999=0->y.p 40/\¬y.s 30=y.s 31/\lk (p.g 30) (p.g 31) (y.s 30) (y.s 31)
def Co(p:Sy):LSpec:=⟨clT p++ [(62,.c (.pi .i64 (p.g 30).length)),(63,.c (.i .i64 9))],[],λz=>ClI p/\(p.g 30).length=(p.g 31).length/\(0<=z.i 9/\z.i 9<=(p.g 30).length),λz=>((p.g 30).length-z.i 9).toNat,[⟨.exit 0,clT p,[]⟩,⟨.ret,[(6,.c (.vb 30)),(7,.c (.vb 31)),(8,.c (.b 40))],[]⟩],λz y=>ClR p y,none,[]⟩
def Cq(p:Sy):LSpec:=⟨clT p++ [(14,.c (.i .i64 9)),(15,.c (.i .i64 10))],[],λz=>ClI p/\(0-1<=z.i 9/\z.i 9<(p.g 30).length)/\(0-1<=z.i 10/\z.i 10<(p.g 31).length),λz=>(z.i 9+1).toNat,[⟨.exit 2,[],[]⟩,⟨.ret,[(6,.c (.vb 30)),(7,.c (.vb 31)),(8,.c (.b 40))],[]⟩],λz y=>ClR p y/\(y.i 999=0->ll (p.g 30) (p.g 31) (z.i 9) (z.i 10)),none,[]⟩
def enD:List Sh:=[.i .i64 1001,.s 1002,.i .i64 1003,.i .i64 1004,.i .i64 1005,.i .i64 1006,.i .i64 1007,.i .i64 1008,.s 1009,.v 1 1010,.v 2 1011]++hs 1100++ [.b 1012,.i .i64 1013,.i .i64 1014]
def rvD:List Sh:=[.i .i64 1061,.i .i64 1062]++enD++hs 1400++ [.v 6 1063]++ [.i .i64 1064]++ [.v 6 1065]
abbrev inE2(z:Sy):Prop:=mX (z.s 1002) (z.i 1003) (z.i 1004) (z.i 1005) (z.i 1007) (z.s 1009) (z.g 1010) (z.g 1011) (hT z 1100) (z.i 1013) (z.i 1014)
abbrev Tx(z:Sy):Int:=cR (z.i 1001) (z.s 1002) (z.i 1003) (z.i 1004) (z.i 1005) (z.i 1006) (z.i 1007) (z.i 1008) (z.s 1009) (z.g 1010) (z.g 1011) (hT z 1100) (z.p 1012) (z.i 1013) (z.i 1014)
abbrev zj(z:Sy):List Nat:=cu (z.i 1001) (z.s 1002) (z.i 1003) (z.i 1004) (z.i 1005) (hT z 1100) (z.i 1013) (z.i 1014)
def VP(z:Sy):Prop:=inE2 z/\HOk (hT z 1400)/\RowsOk (z.g 1063)/\(z.g 1063).length<=1000000/\RowsOk (z.g 1065)/\(z.g 1065).length<=1000000
def Yh{kd:Int}{tx:List Nat}{tb dc vr:Int}{h:G}{ab ae:Int}(ht:B8 tx)(hh:HOk h):B8 (cu kd tx tb dc vr h ab ae):=by
 have u (n:Nat):B8 (aH n):=HL n (aac _);unfold cu;refine .cons (by omega) ((u _).app ((u _).app ((u _).app ((u _).app (ht.app ((u _).app ((u _).app ?_)))))));split
 ·exact qq hh
 ·exact zg
def Cr{kd:Int}{tx:List Nat}{tb dc vr:Int}{bl hz gn:Prop}{h:G}{ab ae:Int}(hf:ic kd tx tb dc vr bl hz gn ab ae)(ht:B8 tx)(hh:HOk h):B8 (cu kd tx tb dc vr h ab ae)/\(cu kd tx tb dc vr h ab ae).length<=90000:=by have hn:=iA hf;refine⟨Yh ht hh, ?_⟩;have:=fZ (kd:=kd) (tx:=tx) (tb:=tb) (dc:=dc) (vr:=vr) (h:=h) (ab:=ab) (ae:=ae) (by omega) (by omega) (by omega) (by omega) (by omega) (by omega) hh;omega
abbrev rvA(z:Sy):Prop:=cP (ul z) (aA (pD z)) (hT z 400) (z.i 61) (z.i 62) (z.i 64) (z.i 66) (z.g 63) (z.g 65) (hT z 500)
abbrev rvA2(z:Sy):Prop:=cP (Tx z) (aA (zj z)) (hT z 1400) (z.i 1061) (z.i 1062) (z.i 1064) (z.i 66) (z.g 1063) (z.g 1065) (hT z 500)
abbrev stA(z:Sy):List G:=qm (pD z) (aA (pD z)) (hT z 400) (z.i 61) (z.i 62) (z.i 64) (z.i 66) (z.g 63) (z.g 65)
abbrev Yi(z:Sy):List G:=qm (zj z) (aA (zj z)) (hT z 1400) (z.i 1061) (z.i 1062) (z.i 1064) (z.i 66) (z.g 1063) (z.g 1065)
def HP{kd:Int}{tx:List Nat}{tb dc vr vk vi vs:Int}{vt:List Nat}{vn vx:List G}{h:G}{gn:Prop}{ab ae:Int}{hd:G}{xb xe c n:Int}{ip op:List G}{r:G}(ht:B8 tx)(hh:HOk h)(hd':HOk hd)(h1:RowsOk ip)(h2:RowsOk op)(hr:cP (cR kd tx tb dc vr vk vi vs vt vn vx h gn ab ae) (aA (cu kd tx tb dc vr h ab ae)) hd xb xe c n ip op r):
 JS (cR kd tx tb dc vr vk vi vs vt vn vx h gn ab ae) xb xe c n ip op/\Ku (qm (cu kd tx tb dc vr h ab ae) (aA (cu kd tx tb dc vr h ab ae)) hd xb xe c n ip op)/\3<=(qm (cu kd tx tb dc vr h ab ae) (aA (cu kd tx tb dc vr h ab ae)) hd xb xe c n ip op).length/\(qm (cu kd tx tb dc vr h ab ae) (aA (cu kd tx tb dc vr h ab ae)) hd xb xe c n ip op).length<=100:=by
 obtain⟨hs,_⟩:=(fE _ _ _ _ _ _ _ _ _ _).1 hr
 obtain⟨h3,hc,_⟩:=(lI _ _ _ _ _ _ _).1 hs
 obtain⟨g1,g2⟩:=Cr (h:=h) (da h3).1 ht hh
 exact⟨hs,Tw g1 g2 hc.2 hd' h1 h2,(B9 hs).2⟩
def J7{ea eb:List Nat}{ra rb:Int}{hda hdb:G}{ab ae ca cb n:Int}{ipa ipb opa opb:List G}{r:G}(ha:cP ra (aA ea) hda ab ae ca n ipa opa r)(hb:cP rb (aA eb) hdb ab ae cb n ipb opb r)(am3:HOk hda)(am4:HOk hdb)(ht:ll (qm ea (aA ea) hda ab ae ca n ipa opa) (qm eb (aA eb) hdb ab ae cb n ipb opb) (((qm ea (aA ea) hda ab ae ca n ipa opa).length:Int)-1) (((qm eb (aA eb) hdb ab ae cb n ipb opb).length:Int)-1)):ea=eb:=by
 obtain⟨a1,a2⟩:=(fE _ _ _ _ _ _ _ _ _ _).1 ha
 obtain⟨b1,b2⟩:=(fE _ _ _ _ _ _ _ _ _ _).1 hb
 exact En a1 b1 am3 am4 (a2.trans b2.symm) (Pw ht)
def Px:FSpec:=⟨[.ag rv,.ag rvD,.ag (dg 66 500)],[],λz=>yG z/\VP z/\HOk (hT z 500)/\B8 (z.s 2)/\B8 (z.s 1002),λ_=>.tu [.c (.vb 30),.c (.vb 31),.c (.b 40)],λ_=>[],λz y=>(y.p 40↔(rvA z/\rvA2 z/\z.i 61=z.i 1061/\z.i 62=z.i 1062/\¬pD z=zj z))/\(y.p 40->¬y.s 30=y.s 31/\ci (y.s 30)=ci (y.s 31))/\(¬y.p 40->y.s 30= []/\y.s 31= [])/\(y.s 30).length<=100000/\(y.s 31).length<=100000,none⟩
attribute [irreducible] B8 J5 Ku RwS lk ll
end
def Py:bj 33 VN:=okP 1000 (t0:=20) (D:=λz=>.s (z.s 1)) mN eN lN (hn:=hC 5 5) λz hA=>show Fm.den (let v0:=(Dy (z.s 1));let v1:=(([]++z.s 1).length=0+(z.s 1).length/\True);(.two (rD (jy bI z (Sa.c (Sh.vb 1)))=0) (.al (λy0=>True) λy0=>(.two (y0.p 0) (.ax ([]=z.s 1)) (.an v0 (.an v1 (.at ([]++z.s 1=z.s 1)))))) (.an v0 (.an v1 (.at ([]++z.s 1=z.s 1)))))) by dsimp only [VN] at hA;have a1:rD (jy bI z (Sa.c (Sh.vb 1)))=(z.s 1).length:=rfl;have a2:(z.s 1).length=0-> []=z.s 1:=λh=>(List.length_eq_zero_iff.1 h).symm;exact iy
def Pz:bH 12 0 HM:=bG 6 133 eN lN λp z hA=>show Fm.den ((.two (z.i 9 < ↑(p.s 1).length) (.an (0<=z.i 9/\z.i 9 < ↑(p.s 1).length) (.an (0<=z.i 9/\z.i 9 < ↑(p.s 2).length) (.two ((↑((p.s 1).getD (z.i 9).toNat 0):Int)≠(↑((p.s 2).getD (z.i 9).toNat 0):Int)) (.ax (((1:Int)=0->J5 (p.s 1) (p.s 2) (z.i 9))/\(¬(1:Int)=0->¬false=true/\¬p.s 1=p.s 2))) (.an ((-9223372036854775808)<=z.i 9+1/\z.i 9+1<=9223372036854775807) (.an (p.s 2=p.s 2/\p.s 1=p.s 1/\True) (.at (((p.s 1).length=(p.s 2).length/\(p.s 1).length<=100000000/\0<=z.i 9+1/\z.i 9+1<= ↑(p.s 1).length)/\((↑(p.s 1).length:Int)-(z.i 9+1)).toNat<((↑(p.s 1).length:Int)-z.i 9).toNat/\∀(y:Sy),(y.i 999=0->J5 (p.s 1) (p.s 2) (z.i 9+1))/\(¬y.i 999=0->¬y.p 10/\¬p.s 1=p.s 2)->(y.i 999=0->J5 (p.s 1) (p.s 2) (z.i 9))/\(¬y.i 999=0->¬y.p 10/\¬p.s 1=p.s 2)))))))) (.ax (((0:Int)=0->J5 (p.s 1) (p.s 2) (z.i 9))/\(¬(0:Int)=0->¬(aN (have __src:=ji;PS.mk [(999,Tm.i (Int.ofNat (nat_lit 0)))] __src.loc __src.ln __src.pr __src.fz).tm).p 10/\¬p.s 1=p.s 2))))) by dsimp only [HM] at hA;have:=@Ps (p.s 1) (p.s 2) (z.i 9);have:=@Yg (p.s 1) (p.s 2) (z.i 9);have:=@Tt (p.s 1) (p.s 2) (z.i 9);exact cZ
def Yj:bj 12 VM:=bB 5 17 eN (aG (ptm:=[(0,.c (.vb 1)),(1,.c (.vb 2))]) Pz lN) λz hA=>show Fm.den ((.two ((↑(z.s 1).length:Int)≠(↑(z.s 2).length:Int)) (.ax (false=true↔z.s 1=z.s 2)) (.cl ((z.s 2=z.s 2/\z.s 1=z.s 1/\True)) ((z.s 1).length=(z.s 2).length/\(z.s 1).length<=100000000/\(0:Int)<=0/\0<=(↑(z.s 1).length:Int)) (λy0=>(y0.i 999=0->J5 (z.s 1) (z.s 2) 0)/\(¬y0.i 999=0->¬y0.p 10/\¬z.s 1=z.s 2)) λy0=>(.two (y0.i 999=0) (.ax (true=true↔z.s 1=z.s 2)) (.ax (y0.p 10↔z.s 1=z.s 2)))))) by dsimp only [VM] at hA;have:=@Tu (z.s 1) (z.s 2);exact cZ
abbrev VS(a:Prop)(b c:Int)(d e:List G):=a/\b.toNat<c.toNat/\∀(y:Sy),(¬y.i 999=0->y.p 40/\¬y.s 30=y.s 31/\lk d e (y.s 30) (y.s 31))->¬y.i 999=0->y.p 40/\¬y.s 30=y.s 31/\lk d e (y.s 30) (y.s 31)
abbrev HQ(a:List Nat)(b:G):=Fm.ct (a.length<=1000000) (λy=>y.s 20=gS b)
abbrev wK(a b:List G):=a=a/\b=b/\True
abbrev PA(a b:List G):=Ku a/\Ku b/\a.length<=1000/\b.length<=1000
def J8:bH 10 0 Co:=bG 33 3458764454138391205 (ai Py eN) lN λp z hA=>show Fm.den (let v0:=(kr (hX (aa (aL (p.g 30) (z.i 9)) 1)) (hX (aa (aL (p.g 31) (z.i 9)) 1)));let v1:=(aN (((have __src:=ji;PS.mk [(999,Tm.i (Int.ofNat (nat_lit 0)))] __src.loc __src.ln __src.pr __src.fz).and (p.g 30=p.g 30)).and (p.g 31=p.g 31)).tm);let v2:=((PA (p.g 30) (p.g 31))/\(p.g 30).length=(p.g 31).length/\0<=z.i 9+1/\z.i 9+1<= ↑(p.g 30).length);let v3:=(↑(p.g 30).length:Int);let v4:=(bS (z.i 9) (p.g 30));let v5:=(bS (z.i 9) (p.g 31));let v6:=((-9223372036854775808)<=z.i 9+1/\z.i 9+1<=9223372036854775807);let v7:=(aQ (aL (p.g 30) (z.i 9)));let v8:=(aQ (aL (p.g 31) (z.i 9)));let v9:=(v3=v3/\p.g 31=p.g 31/\p.g 30=p.g 30/\True);(.two (bO (z.i 9) (p.g 30)) (.an v4 (.an v5 (.two v0 (.an v0 (.an v0 (.an v4 (.an v0 (.an v0 (.an v0 (.an v0 (.an v0 (.an v5 (.an v0 (.an v0 (.an v0 (.an v0 (.an v0 (.two (¬mj (gS v7)=mj (gS v8)) (.an v4 (HQ (gS v7) v7 λy0=>(.an v5 (HQ (gS v8) v8 λy1=>(.ax (¬(1:Int)=0->true=true/\¬y0.s 20=y1.s 20/\lk (p.g 30) (p.g 31) (y0.s 20) (y1.s 20))))))) (.an v6 (.an v9 (.at (VS v2 (v3-(z.i 9+1)) (v3-z.i 9) (p.g 30) (p.g 31)))))))))))))))))))) (.an (¬v0) (.an (¬v0) (.an (¬v0) (.an (¬v0) (.an (¬v0) (.an (¬v0) (.an (¬v0) (.an (¬v0) (.an (¬v0) (.an (¬v0) (.an (¬v0) (.an (¬v0) (.an v6 (.an v9 (.at (VS v2 (v3-(z.i 9+1)) (v3-z.i 9) (p.g 30) (p.g 31)))))))))))))))))))) (.an (wK (p.g 31) (p.g 30)) (.at (¬(0:Int)=0->v1.p 40/\¬v1.s 30=v1.s 31/\lk (p.g 30) (p.g 31) (v1.s 30) (v1.s 31)))))) by dsimp only [Co,clT,ClI,ClR] at hA;have:=@tW (p.g 30) (z.i 9);have:=@Pr;have:=@tW (p.g 31) (z.i 9);have:=@HO (p.g 30) (p.g 31) (z.i 9) (z.i 9);exact cZ
abbrev Tq77(a:Prop)(b c:Int)(d e:List G)(f g h i:Int):=a/\b.toNat<c.toNat/\∀(y:Sy),(¬y.i 999=0->y.p 40/\¬y.s 30=y.s 31/\lk d e (y.s 30) (y.s 31))/\(y.i 999=0->ll d e f g)->(¬y.i 999=0->y.p 40/\¬y.s 30=y.s 31/\lk d e (y.s 30) (y.s 31))/\(y.i 999=0->ll d e h i)
def J9:bH 10 2 Cq:=bG 37 202914183884881701525 (ai Py eN) lN λp z hA=>show Fm.den (let v0:=(kr (hX (aa (aL (p.g 30) (z.i 9)) 1)) (hX (aa (aL (p.g 31) (z.i 10)) 1)));let v1:=(aN (have __src:=ji;PS.mk [(999,Tm.i (Int.ofNat (nat_lit 0)))] __src.loc __src.ln __src.pr __src.fz).tm);let v2:=((PA (p.g 30) (p.g 31))/\(0-1<=z.i 9-1/\z.i 9-1 < ↑(p.g 30).length)/\0-1<=z.i 10-1/\z.i 10-1 < ↑(p.g 31).length);let v3:=((¬(0:Int)=0->v1.p 40/\¬v1.s 30=v1.s 31/\lk (p.g 30) (p.g 31) (v1.s 30) (v1.s 31))/\((0:Int)=0->ll (p.g 30) (p.g 31) (z.i 9) (z.i 10)));let v4:=(bS (z.i 10) (p.g 31));let v5:=(bS (z.i 9) (p.g 30));let v6:=((-9223372036854775808)<=z.i 10-1/\z.i 10-1<=9223372036854775807);let v7:=((-9223372036854775808)<=z.i 9-1/\z.i 9-1<=9223372036854775807);let v8:=(aQ (aL (p.g 31) (z.i 10)));let v9:=(aQ (aL (p.g 30) (z.i 9)));let v10:=(wK (p.g 31) (p.g 30));(.two (0<=z.i 9) (.two (0<=z.i 10) (.an v5 (.an v4 (.two v0 (.an v0 (.an v0 (.an v5 (.an v0 (.an v0 (.an v0 (.an v0 (.an v0 (.an v4 (.an v0 (.an v0 (.an v0 (.an v0 (.an v0 (.two (¬mj (gS v9)=mj (gS v8)) (.an v5 (HQ (gS v9) v9 λy0=>(.an v4 (HQ (gS v8) v8 λy1=>(.ax ((¬(1:Int)=0->true=true/\¬y0.s 20=y1.s 20/\lk (p.g 30) (p.g 31) (y0.s 20) (y1.s 20))/\((1:Int)=0->ll (p.g 30) (p.g 31) (z.i 9) (z.i 10)))))))) (.an v7 (.an v6 (.an v10 (.at (Tq77 v2 (z.i 9-1+1) (z.i 9+1) (p.g 30) (p.g 31) (z.i 9-1) (z.i 10-1) (z.i 9) (z.i 10))))))))))))))))))))) (.an (¬v0) (.an (¬v0) (.an (¬v0) (.an (¬v0) (.an (¬v0) (.an (¬v0) (.an (¬v0) (.an (¬v0) (.an (¬v0) (.an (¬v0) (.an (¬v0) (.an (¬v0) (.an v7 (.an v6 (.an v10 (.at (Tq77 v2 (z.i 9-1+1) (z.i 9+1) (p.g 30) (p.g 31) (z.i 9-1) (z.i 10-1) (z.i 9) (z.i 10))))))))))))))))))))) (.ax v3)) (.ax v3))) by dsimp only [Cq,clT,ClI,ClR] at hA;have:=@tW (p.g 30) (z.i 9);have:=@Pr;have:=@tW (p.g 31) (z.i 10);have:=@HO (p.g 30) (p.g 31) (z.i 9) (z.i 10);have:=@Pv (p.g 30) (p.g 31) (z.i 9) (z.i 10);have:=@J6 (p.g 30) (p.g 31) (z.i 9) (z.i 10);exact cZ
abbrev Eo(a:Prop)(b c:List Nat):=a->¬b=c/\ci b=ci c
abbrev Cs(a:Prop)(b:G)(c:Int)(d e:G)(f g h i:Int)(j k:List G):=Fm.ct (a/\HOk b) (λy=>(y.p 40↔cP c d e f g h i j k b))
abbrev Tq98(a b c:Prop)(d:Int)(e f:List G)(g:Int)(h):=Fm.cl a (b/\c/\0-1<=IntKind.i64.wrap d/\IntKind.i64.wrap d < ↑e.length) (λy=>(¬y.i 999=0->y.p 40/\¬y.s 30=y.s 31/\lk f e (y.s 30) (y.s 31))/\(y.i 999=0->ll f e g h))
abbrev VT(a b:Prop)(c d:List G)(e f:Int):=Fm.cl a b (λy=>(¬y.i 999=0->y.p 40/\¬y.s 30=y.s 31/\lk c d (y.s 30) (y.s 31))/\(y.i 999=0->ll c d e f))
def Ty:bj 10 Px:=bB 28 9649404267270417 (ai OJ (ai G5 eN)) (aG (ptm:=[(9,.c (.v 15 30)),(11,.c (.v 15 31))]) J8 (aG (ptm:=[(9,.c (.v 15 30)),(11,.c (.v 15 31))]) J9 lN)) λz hA=>show Fm.den (let v1:=(cR (z.i 1001) (z.s 1002) (z.i 1003) (z.i 1004) (z.i 1005) (z.i 1006) (z.i 1007) (z.i 1008) (z.s 1009) (z.g 1010) (z.g 1011) (hT z 1100) (z.p 1012) (z.i 1013) (z.i 1014));let v2:=(cR (z.i 1) (z.s 2) (z.i 3) (z.i 4) (z.i 5) (z.i 6) (z.i 7) (z.i 8) (z.s 9) (z.g 10) (z.g 11) (hT z 100) (z.p 12) (z.i 13) (z.i 14));let v3:=(cu (z.i 1001) (z.s 1002) (z.i 1003) (z.i 1004) (z.i 1005) (hT z 1100) (z.i 1013) (z.i 1014));let v4:=(cu (z.i 1) (z.s 2) (z.i 3) (z.i 4) (z.i 5) (hT z 100) (z.i 13) (z.i 14));let v7:=(hT z 500);let v8:=(z.i 1061);let v9:=(z.i 1062);let v10:=(z.i 1064);let v11:=(z.g 1063);let d7:=(z.g 1065);let i9:=(hT z 1400);let v5:=(D7 (z.s 1002) (z.i 1003) (z.i 1004) (z.i 1005) (z.i 1007) (z.s 1009) (z.g 1010) (z.g 1011) (hT z 1100) (z.i 1013) (z.i 1014) i9 v11 d7);let j8:=(aA v4);let n7:=(hT z 400);let v6:=(D7 (z.s 2) (z.i 3) (z.i 4) (z.i 5) (z.i 7) (z.s 9) (z.g 10) (z.g 11) (hT z 100) (z.i 13) (z.i 14) n7 (z.g 63) (z.g 65));let u0:=(aA v3);let v0:=((false=true↔cP v2 j8 n7 (z.i 61) (z.i 62) (z.i 64) (z.i 66) (z.g 63) (z.g 65) v7/\cP v1 u0 i9 v8 v9 v10 (z.i 66) v11 d7 v7/\z.i 61=z.i 1061/\z.i 62=z.i 1062/\¬cu (z.i 1) (z.s 2) (z.i 3) (z.i 4) (z.i 5) (hT z 100) (z.i 13) (z.i 14)=cu (z.i 1001) (z.s 1002) (z.i 1003) (z.i 1004) (z.i 1005) (hT z 1100) (z.i 1013) (z.i 1014))/\(false=true->¬mG/\ci []=ci [])/\(¬false=true->mG/\mG)/\0<=100000/\0<=100000);(Cs v6 v7 v2 j8 n7 (z.i 61) (z.i 62) (z.i 64) (z.i 66) (z.g 63) (z.g 65) λy0=>(.two (¬y0.p 40) (.ax v0) (Cs v5 v7 v1 u0 i9 v8 v9 v10 (z.i 66) v11 d7 λy1=>(.two (¬y1.p 40) (.ax v0) (.two (¬[z.i 61,z.i 62]= [z.i 1061,z.i 1062]) (.ax v0) (.ct v6 (λy2=>(y2.p 40↔JS v2 (z.i 61) (z.i 62) (z.i 64) (z.i 66) (z.g 63) (z.g 65))/\(y2.p 40->y2.g 30=qm v4 j8 n7 (z.i 61) (z.i 62) (z.i 64) (z.i 66) (z.g 63) (z.g 65))) λy2=>(let o8:=(↑(y2.g 30).length:Int);let s8:=(0-1<=IntKind.i64.wrap (o8-1)/\IntKind.i64.wrap (o8-1) < ↑(y2.g 30).length);let s9:=((-9223372036854775808)<=o8-1/\o8-1<=9223372036854775807);let v20:=(0-1<=o8-1/\o8-1<o8);let v21:=(eI (o8-1));(.ct v5 (λy3=>(y3.p 40↔JS v1 v8 v9 v10 (z.i 66) v11 d7)/\(y3.p 40->y3.g 30=qm v3 u0 i9 v8 v9 v10 (z.i 66) v11 d7)) λy3=>(let p9:=(↑(y3.g 30).length:Int);let v23:=(PA (y2.g 30) (y3.g 30));let z':=((wK (y3.g 30) (y2.g 30)));let v25:=((-9223372036854775808)<=p9-1/\p9-1<=9223372036854775807);let v26:=(v23/\v20/\0-1<=p9-1/\p9-1<p9);let v27:=(eI (p9-1));(.an (Ba o8) (.an (Ba p9) (.two (mj (gS (aQ (aq (y2.g 30) (iZ))))=mj (gS (aQ (aq (y3.g 30) (iZ))))) (.ax v0) (.two (o8=p9) (.cl ((o8=o8/\y3.g 30=y3.g 30/\y2.g 30=y2.g 30/\True)) (v23/\(y2.g 30).length=(y3.g 30).length/\(0:Int)<=0/\0<=o8) (λy4=>¬y4.i 999=0->y4.p 40/\¬y4.s 30=y4.s 31/\lk (y2.g 30) (y3.g 30) (y4.s 30) (y4.s 31)) λy4=>(.two (y4.i 999=0) (.an s9 (.an v25 (VT z' v26 (y2.g 30) (y3.g 30) (o8-1) (p9-1) λy5=>(.two (y5.i 999=0) (.ax v0) (.ax ((y5.p 40↔cP v2 j8 n7 (z.i 61) (z.i 62) (z.i 64) (z.i 66) (z.g 63) (z.g 65) v7/\cP v1 u0 i9 v8 v9 v10 (z.i 66) v11 d7 v7/\z.i 61=z.i 1061/\z.i 62=z.i 1062/\¬cu (z.i 1) (z.s 2) (z.i 3) (z.i 4) (z.i 5) (hT z 100) (z.i 13) (z.i 14)=cu (z.i 1001) (z.s 1002) (z.i 1003) (z.i 1004) (z.i 1005) (hT z 1100) (z.i 1013) (z.i 1014))/\(Eo (y5.p 40) (y5.s 30) (y5.s 31))/\(¬y5.p 40->y5.s 30= []/\y5.s 31= [])/\(y5.s 30).length<=100000/\(y5.s 31).length<=100000)))))) (.ax ((y4.p 40↔cP v2 j8 n7 (z.i 61) (z.i 62) (z.i 64) (z.i 66) (z.g 63) (z.g 65) v7/\cP v1 u0 i9 v8 v9 v10 (z.i 66) v11 d7 v7/\z.i 61=z.i 1061/\z.i 62=z.i 1062/\¬cu (z.i 1) (z.s 2) (z.i 3) (z.i 4) (z.i 5) (hT z 100) (z.i 13) (z.i 14)=cu (z.i 1001) (z.s 1002) (z.i 1003) (z.i 1004) (z.i 1005) (hT z 1100) (z.i 1013) (z.i 1014))/\(Eo (y4.p 40) (y4.s 30) (y4.s 31))/\(¬y4.p 40->y4.s 30= []/\y4.s 31= [])/\(y4.s 30).length<=100000/\(y4.s 31).length<=100000)))) (.two s9 (.two v25 (VT z' v26 (y2.g 30) (y3.g 30) (o8-1) (p9-1) λy6=>(.two (y6.i 999=0) (.ax v0) (.ax ((y6.p 40↔cP v2 j8 n7 (z.i 61) (z.i 62) (z.i 64) (z.i 66) (z.g 63) (z.g 65) v7/\cP v1 u0 i9 v8 v9 v10 (z.i 66) v11 d7 v7/\z.i 61=z.i 1061/\z.i 62=z.i 1062/\¬cu (z.i 1) (z.s 2) (z.i 3) (z.i 4) (z.i 5) (hT z 100) (z.i 13) (z.i 14)=cu (z.i 1001) (z.s 1002) (z.i 1003) (z.i 1004) (z.i 1005) (hT z 1100) (z.i 1013) (z.i 1014))/\(Eo (y6.p 40) (y6.s 30) (y6.s 31))/\(¬y6.p 40->y6.s 30= []/\y6.s 31= [])/\(y6.s 30).length<=100000/\(y6.s 31).length<=100000)))) (Tq98 z' v23 v20 (p9-1) (y3.g 30) (y2.g 30) (o8-1) v27 λy7=>(.an (y7.i 999=0) (.ax v0)))) (.two v25 (.cl z' (v23/\s8/\0-1<=p9-1/\p9-1<p9) (λy8=>(¬y8.i 999=0->y8.p 40/\¬y8.s 30=y8.s 31/\lk (y2.g 30) (y3.g 30) (y8.s 30) (y8.s 31))/\(y8.i 999=0->ll (y2.g 30) (y3.g 30) v21 (p9-1))) λy8=>(.an (y8.i 999=0) (.ax v0))) (Tq98 z' v23 s8 (p9-1) (y3.g 30) (y2.g 30) v21 v27 λy9=>(.an (y9.i 999=0) (.ax v0))))))))))))))))))) by dsimp only [Px,rv,en,hs,rvD,enD,dg,yG,wi,VP,inE2,rvA,ul,pD,rvA2,Tx,zj] at hA;have:=@HP (z.i 1) (z.s 2) (z.i 3) (z.i 4) (z.i 5) (z.i 6) (z.i 7) (z.i 8) (z.s 9) (z.g 10) (z.g 11) (hT z 100) (z.p 12) (z.i 13) (z.i 14) (hT z 400) (z.i 61) (z.i 62) (z.i 64) (z.i 66) (z.g 63) (z.g 65) (hT z 500);have:=@HP (z.i 1001) (z.s 1002) (z.i 1003) (z.i 1004) (z.i 1005) (z.i 1006) (z.i 1007) (z.i 1008) (z.s 1009) (z.g 1010) (z.g 1011) (hT z 1100) (z.p 1012) (z.i 1013) (z.i 1014) (hT z 1400) (z.i 1061) (z.i 1062) (z.i 1064) (z.i 66) (z.g 1063) (z.g 1065) (hT z 500);have g3:=@J7 (pD z) (zj z) (ul z) (Tx z) (hT z 400) (hT z 1400) (z.i 61) (z.i 62) (z.i 64) (z.i 1064) (z.i 66) (z.g 63) (z.g 1063) (z.g 65) (z.g 1065) (hT z 500);have g4:=λs t h=>@Pt (stA z) (Yi z) s t (HN _ _ _ _ _ _ _ _) (HN _ _ _ _ _ _ _ _) h;have g5:=@Pu (stA z) (Yi z);have g6:=VO (pD z) (aA (pD z)) (hT z 400) (z.i 61) (z.i 62) (z.i 64) (z.i 66) (z.g 63) (z.g 65);have g7:=VO (zj z) (aA (zj z)) (hT z 1400) (z.i 1061) (z.i 1062) (z.i 1064) (z.i 66) (z.g 1063) (z.g 1065);have g8:∀l:List G,Ku l->3<=l.length->B8 (gS (aa (aq l 0) 0)):=λl h hl=>(tW (i:=0) h (by omega) (by omega)).1;have:=@Pr;have:=@cO (z.s 2) (z.i 3) (z.i 4) (z.i 5) (z.i 7) (z.s 9) (z.g 10) (z.g 11) (hT z 100) (z.i 13) (z.i 14);have:=@cO (z.s 1002) (z.i 1003) (z.i 1004) (z.i 1005) (z.i 1007) (z.s 1009) (z.g 1010) (z.g 1011) (hT z 1100) (z.i 1013) (z.i 1014);dsimp only [stA,Yi,ul,pD,Tx,zj,mK,BC] at g3 g4 g5 g6 g7;exact cZ
noncomputable section
abbrev pL(b:G):List G:=gL (aa b 4)
abbrev bOk(b:G):Prop:=jN (pL b)/\O9 (pL b)/\HOk (hX (aa b 3))/\gI (aa b 0)<9223372036854775808/\gI (aa b 1)<9223372036854775808/\gI (aa b 2)<9223372036854775808
def lm(l:List G):Prop:=∀b∈l,bOk b
def PB{l:List G}{i:Int}(h:lm l)(h0:0<=i)(hi:i<l.length):bOk (aq l i.toNat):=h _ (bY h0 hi)
def PC{es:List G}{i:Int}(h:jN es)(h0:0<=i)(hi:i<es.length):wh (aq es i.toNat)/\me (aq es i.toNat)=0:=⟨tv h.2.1 h0 hi,lF h.1 h0 hi⟩
def Zm:List BSh:=[.cells 75 [.o,.v 11 31,.v 6 32,.b 33]]
def Zn(z:Sy):List BSh:=[.cells 75 [.o,.pv 11 (z.g 31),.pv 6 (z.g 32),.b 33]]
abbrev J_(z:Sy):Prop:=lm (z.g 31)/\RowsOk (z.g 32)/\(z.g 31).length=(z.g 32).length/\(z.g 31).length<=1000
abbrev Yk(y:Sy)(e:G):Prop:=y.i 1=gI (aa e 0)/\y.s 2=gS (aa e 1)/\y.i 3=gI (aa e 2)/\y.i 4=gI (aa e 3)/\y.i 5=gI (aa e 4)/\y.i 6=gI (aa e 5)/\y.i 7=gI (aa e 6)/\y.i 8=gI (aa e 7)/\y.s 9=gS (aa e 8)/\y.g 10=gL (aa e 9)/\y.g 11=gL (aa e 10)/\hT y 100=hX (aa e 11)/\(y.p 12↔gI (aa e 12)=1)/\y.i 13=gI (aa e 13)/\y.i 14=gI (aa e 14)
abbrev xrG(z:Sy):Prop:=(0<=z.i 61/\z.i 61<z.i 66)/\(0<=z.i 62/\z.i 62<(pL (aq (z.g 31) (z.i 61).toNat)).length)
def HR:FSpec:=⟨[.c (.p 0),.ag [.i .i64 61,.i .i64 62],.c (.i .i64 66)],Zm,J_,λ_=>.tu [.ag rv,.c (.i .i64 50)],Zn,λz y=>(1<=z.i 66->z.i 66<=(z.g 32).length->xrG z->y.i 50=0/\y.i 61=z.i 61/\y.i 62=z.i 62/\Yk y (aq (pL (aq (z.g 31) (z.i 61).toNat)) (z.i 62).toNat)/\hT y 400=ci (kw (gI (aa (aq (z.g 31) (z.i 61).toNat) 0)) (gI (aa (aq (z.g 31) (z.i 61).toNat) 1)) (gI (aa (aq (z.g 31) (z.i 61).toNat) 2)) (hX (aa (aq (z.g 31) (z.i 61).toNat) 3)))/\y.g 63=aR (z.i 62) (gJ (pL (aq (z.g 31) (z.i 61).toNat)) 0)/\y.i 64=(pL (aq (z.g 31) (z.i 61).toNat)).length/\y.g 65=aR (z.i 61) (List.take (z.i 66).toNat (z.g 32)))/\(¬((1<=z.i 66/\z.i 66<=(z.g 32).length)/\xrG z)->¬y.i 50=0),none⟩
def VU:FSpec:=⟨[.c (.p 0)],Zm,J_,λ_=>.one (.ag (dg 66 500)),Zn,λz y=>y.i 66=(z.g 31).length/\hT y 500=aO (z.g 32),none⟩
def Ka:∀(n:Nat) (i:Int) (l:List G),l.length<=n->(aR i l).length<=l.length:=by
 intro n
 induction n with
 |zero=>intro i l h;rw[gi (by omega)];exact aaq _
 |succ n ih=>
  intro i l h;by_cases h2:2<=l.length
  ·have a1:=fa h2;have a2:=f_ l.length;by_cases hi:i<(bN l.length:Nat)
   ·rw[ou h2 hi,aai];have:=ih i (l.take (bN l.length)) (by rw[aao];omega);rw[aao] at this;simp only [aaI];omega
   ·rw[ow h2 hi,aai];have:=ih (i-(bN l.length:Nat)) (l.drop (bN l.length)) (by rw[aas];omega);rw[aas] at this;simp only [aaI];omega
  ·rw[gi h2];exact aaq _
def oI(i:Int)(l:List G):(aR i l).length<=l.length:=Ka _ i l (aac _)
def Kb:∀(n:Nat) (i:Int) (l:List G),l.length<=n->RowsOk l->RowsOk (aR i l):=by
 intro n
 induction n with
 |zero=>intro i l h _;rw[gi (by omega)];exact gO
 |succ n ih=>
  intro i l h hr;by_cases h2:2<=l.length
  ·have a1:=fa h2;have a2:=f_ l.length;by_cases hi:i<(bN l.length:Nat)
   ·rw[ou h2 hi];exact gN (ih i _ (by rw[aao];omega) (hr.take _)) (cD _ (hr.drop _))
   ·rw[ow h2 hi];exact gN (ih _ _ (by rw[aas];omega) (hr.drop _)) (cD _ (hr.take _))
  ·rw[gi h2];exact gO
def oJ{i:Int}{l:List G}(h:RowsOk l):RowsOk (aR i l):=Kb _ i l (aac _) h
def Cu{l:List G}{n:Nat}{i:Int}(h0:0<=i)(hi:i<n):aq (l.take n) i.toNat=aq l i.toNat:=by unfold aq;rw[aag,aag,aav (by omega)]
def PD{l:List G}{n:Nat}{i:Int}(hi:(n:Int)<=i):aq (l.drop n) (i-n).toNat=aq l i.toNat:=by unfold aq;rw[aag,aag,aaz,show n+(i-n).toNat=i.toNat by omega]
def Ep:∀(n:Nat) (i:Int) (l:List G),l.length<=n->RowsOk l->0<=i->i<l.length->gQ (hX (aa (aq l i.toNat) 0)) i l.length (aR i l)=(aO l,True):=by
 intro n
 induction n with
 |zero=>intro i l h _ h0 hi;omega
 |succ n ih=>
  intro i l h hr h0 hi;by_cases h2:2<=l.length
  ·have a1:=fa h2;have a2:=f_ l.length;have en:((l.length:Int)).toNat=l.length:=aar _;by_cases hk:i<(bN l.length:Nat)
   ·have e:=ih i (l.take (bN l.length)) (by rw[aao];omega) (hr.take _) h0 (by rw[aao];omega);rw[Cu h0 (by omega),show((l.take (bN l.length)).length:Int)=(bN l.length:Nat) by rw[aao];omega] at e;rw[ou h2 hk,yj (by omega) (by simp) (by rw[en];exact hk),List.dropLast_concat,en,e,gh h2];congr 2;rw[aai,aaI,Nat.add_sub_cancel];unfold aq;rw[aag,aaA (aac _),aba];exact cI (cD _ (hr.drop _))
   ·have e:=ih (i-(bN l.length:Nat)) (l.drop (bN l.length)) (by rw[aas];omega) (hr.drop _) (by omega) (by rw[aas];omega);rw[PD (by omega),show((l.drop (bN l.length)).length:Int)=(l.length:Int)-(bN l.length:Nat) by rw[aas];omega] at e;rw[ow h2 hk,yl (by omega) (by simp) (by rw[en];exact hk),List.dropLast_concat,en,e,gh h2];congr 2;rw[aai,aaI,Nat.add_sub_cancel];unfold aq;rw[aag,aaA (aac _),aba];exact cI (cD _ (hr.take _))
  ·have e1:l.length=1:=by omega
   rw[gi h2,lH (by omega),lG e1,show i.toNat=0 by omega];simp
def wL{i:Int}{l:List G}{h:G}{n:Int}(hr:RowsOk l)(h0:0<=i)(hi:i<l.length)(hn:n=l.length)(hh:h=hX (aa (aq l i.toNat) 0)):gQ h i n (aR i l)=(aO l,True):=by subst hn;subst hh;exact Ep _ i l (aac _) hr h0 hi
def Cv{es H:List G}{ae ab n:Int}{ix tm tn:Int}{pv:G}(hE:1<=es.length/\es.length<=200)(h0:0<=ae)(hi:ae<es.length)(hH:RowsOk H)(hn:n<=H.length)(hn1:n<=1000000)(b0:0<=ab)(bi:ab<n)(hb:hX (aa (aq H ab.toNat) 0)=jY ix tm tn pv es):cP 0 (aA (uk (aq es ae.toNat))) (ci (kw ix tm tn pv)) ab ae es.length n (aR ae (gJ es 0)) (aR ab (H.take n.toNat)) (aO (H.take n.toNat)):=by
 have e1:gQ (aA (uk (aq es ae.toNat))) ae es.length (aR ae (gJ es 0))=(aO (gJ es 0),True):=by
  refine wL (jQ es) h0 (by rw[jP];exact hi) (by rw[jP]) ?_;have:=Oa (es:=es) (i:=ae.toNat) (by omega);have e:aq (gJ es 0) ae.toNat= .node [aA (uk (aq es ae.toNat))]:=by unfold aq at this⊢;rw[aag,this];rfl
  rw[e];exact(cI (cm _)).symm
 have e2:tM (aA (uk (aq es ae.toNat))) (ci (kw ix tm tn pv)) ae es.length (aR ae (gJ es 0))=jY ix tm tn pv es:=by rw[yF,yE,D8,e1,D1,aar]
 have e3:gQ (jY ix tm tn pv es) ab n (aR ab (H.take n.toNat))=(aO (H.take n.toNat),True):=by refine wL (hH.take _) b0 (by rw[aao];omega) (by rw[aao];omega) ?_;rw[Cu b0 (by omega),hb]
 rw[G6,e2,yx,e3,e1]
 exact⟨⟨rfl,by omega,⟨h0,hi⟩,trivial⟩,⟨b0,bi⟩,by omega,trivial,rfl⟩
def PE{es L H A:List G}(h:Cm es L H A):(Yd es=0/\L= [jZ es]/\H= [.node [Ks es]]/\A=Tp (es.length-1))∨(¬Yd es=0/\L= []/\H= []/\A= []):=by
 unfold Cm at h;by_cases hb:Yd es=0
 ·exact .inl ⟨hb,h.1 hb⟩
 ·exact .inr ⟨hb,h.2 hb⟩
def Tz:lm []:=by unfold lm;exact λ_ h=>absurd h aaS
def PF{l L H A:List G}(hv:ko l)(h:Cm (cz l) L H A):lm L/\RowsOk H/\L.length=H.length/\L.length<=1/\(1<=L.length->L= [jZ (cz l)]/\H= [.node [Ks (cz l)]]/\jN (cz l)):=by
 have he:=pK hv;rcases PE h with⟨hb,rfl,rfl,_⟩|⟨_,rfl,rfl,_⟩
 ·obtain⟨g1,_,_⟩:=To he hb;have hok:HOk hZ:=fy;have hk:lm [jZ (cz l)]:=by unfold lm;intro b Q';rw[List.mem_singleton.1 Q'];refine⟨g1,HC he, ?_,by show(0:Int)<_;decide,by show(0:Int)<_;decide,by show(0:Int)<_;decide⟩;show HOk (hX hZ);rw[cI hok];exact hok
  exact⟨hk,gN gO (mP _ _ _ _ _),rfl,aac _,λ_=>⟨rfl,rfl,g1⟩⟩
 ·exact⟨Tz,gO,rfl,aaq _,λh=>by simp at h⟩
def bk_es(es:List G):gL (aa (jZ es) 4)=es/\gI (aa (jZ es) 0)=0/\gI (aa (jZ es) 1)=0/\gI (aa (jZ es) 2)=0/\hX (aa (jZ es) 3)=hZ:=by refine⟨rfl,rfl,rfl,rfl, ?_⟩;show hX hZ=hZ;exact cI fy
def h1_at(es:List G):hX (aa (aq [G.node [Ks es]] 0) 0)=jY 0 0 0 hZ es:=cI (mP _ _ _ _ _)
def TA(l:List G):1<=(cz l).length:=by rw[oG];omega
def mk_tx{l:List G}{i:Int}(h0:0<=i)(hi:i<(cz l).length):B8 (gS (aa (aq (cz l) i.toNat) 1)):=by
 by_cases e:i=0
 ·subst e;rw[yY];exact .cons (by decide) zg
 ·rw[oG] at hi;have h2:aq (cz l) i.toNat=aq (um l 0) (i-1).toNat:=by rw[yY,show i.toNat=(i-1).toNat+1 by omega];rfl
  have h1:=yW l 0 (i-1).toNat (by omega);have h3:um l 0=J3 l 0:=by unfold um;rfl
  rw[h2,h3,h1,lj];exact zg
def vs_of{l:List G}(h:Zl l)(hn:wH 1002 l)(hw:m_ [.node [.node l]] 0<=1000):ko l:=by have e:m_ [.node [.node l]] 0=2+jk 1002 l 0+m_ [.node [.node l]] (0+1):=gM (by omega) (by simp);have hl:=wI (l:=l) (by omega);unfold ko;exact⟨h,hn,by omega,hl⟩
def kv:List G:=[.node [.int 3,.int 5,.int 0,.str [],.node [],.node []]]
def kv_eq:kv= [.node [.int 3,.int 5,.int 0,.str [],.node [],.node []]]:=rfl
def PG:ko kv:=by
 have h1:Zl kv:=λg hg=>by rw[List.mem_singleton.1 hg];rfl
 have hb:Zj 5 [] [] []:=⟨⟨by decide,by decide⟩,by decide,by decide,by decide⟩
 have h2:wH 1002 kv:=by unfold wH;intro g hg;rw[List.mem_singleton.1 hg];exact⟨hb,λx hx=>absurd hx aaS⟩
 refine vs_of h1 h2 ?_;rw[gM (by omega) (by simp),yT (by simp)];show 2+jk 1002 kv 0+0<=1000;rw[lg (by omega) (by unfold kv;simp),oE (by unfold kv;simp)];show 2+(1+0/20+0+0+0)+0<=1000;decide
def mT:cz kv= [Kt,lP 0 (.node [.int 3,.int 5,.int 0,.str [],.node [],.node []])]:=by unfold cz um kv;rfl
def VV:me Kt=0:=by have hz:hX hZ=hZ:=cI fy;refine fB ?_ (by rintro⟨h,_⟩;exact absurd (show(1:Int)=2 from h) (by decide));exact(Bz (show(1:Int)=1 from rfl)).2 ⟨by decide,rfl,rfl,rfl,(br _ _ _ _ _ _).2 ⟨rfl,rfl,rfl,rfl,rfl,rfl⟩,hz,by show ¬(0:Int)=1;decide,rfl,rfl⟩
def kn_ch:eG 16 3 5 0 [] [] []=0:=by rw[ta (DC ((Bg rfl).2 ⟨rfl,rfl,rfl,rfl⟩) (by simp) (by simp))];exact qS (by simp)
def kn_en:ib 3 5 0 [] [] []=0:=DF kn_ch (by rw[qU 15 rfl];have:=bM (n:=qg 5) (xX ⟨by decide,by decide⟩).2;simp only [aai,aaI];omega)
def kn_rv:me (lP 0 (.node [.int 3,.int 5,.int 0,.str [],.node [],.node []]))=0:=by rw[lj];refine kU ((BA (show(2:Int)=2 from rfl)).2 ⟨by decide,by decide,by decide,rfl,rfl,rfl,λh=>absurd (show(0:Int)=1 from h) (by decide)⟩) ⟨rfl,by show ¬(0:Int)=1;decide⟩ kn_en ?_;exact(cI (HG _ _ _ _ _ _)).symm
def PH:Yd (cz kv)=0:=by
 have hE:=pK PG;have hl:(cz kv).length=2:=by rw[mT];rfl
 have h1:fO (cz kv) 0=0:=by rw[oe (by omega) (by omega) (by rw[mT];exact VV),oe (by omega) (by omega) (by rw[mT];exact kn_rv),yc (by omega)]
 refine mJ (by unfold yd;exact⟨by decide,by decide,by decide,by omega,by omega⟩) h1 ?_;have h2:=yf (d:=True) h1 (tU hE) 2 0 (by omega) (by omega);have h3:=ij (ix:=0) (tm:=0) (tn:=0) fy (by decide) (by decide) (by decide);have h4:=fC (n:=(cz kv).length) (by omega);unfold mY;simp only [aai];omega
def VW:Tp ((cz kv).length-1)= [.node [.int 0,.int 1]]:=by
 have hl:(cz kv).length=2:=by rw[mT];rfl
 rw[show(((cz kv).length:Nat):Int)-1=0+1 by omega,atN_s (by omega),atN_0 (by omega)];rfl
def PI{L H A:List G}(h:Cm (cz kv) L H A):L= [jZ (cz kv)]/\H= [.node [Ks (cz kv)]]/\A= [.node [.int 0,.int 1]]/\(cz kv).length=2:=by
 have hl:(cz kv).length=2:=by rw[mT];rfl
 rcases PE h with⟨_,h1,h2,h3⟩|⟨hb,_⟩
 ·exact⟨h1,h2,by rw[h3,VW],hl⟩
 ·exact absurd PH hb
def PJ:cP 0 (aA (uk (aq (cz kv) 1))) (ci (kw 0 0 0 hZ)) 0 1 (cz kv).length 1 (aR 1 (gJ (cz kv) 0)) (aR 0 (List.take (1:Int).toNat [.node [Ks (cz kv)]])) (aO [.node [Ks (cz kv)]]):=by
 have hl:(cz kv).length=2:=by rw[mT];rfl
 exact Cv (es:=cz kv) (H:=[.node [Ks (cz kv)]]) (ae:=1) (ab:=0) (n:=1) (by omega) (by decide) (by omega) (gN gO (mP _ _ _ _ _)) (by decide) (by decide) (by decide) (by decide) (h1_at _)
def TB{er:Int}{lh hd:G}{ab ae c n:Int}{ip op:List G}{r r':G}(h:cP er lh hd ab ae c n ip op r)(h':cP er lh hd ab ae c n ip op r'):r=r':=((fE _ _ _ _ _ _ _ _ _ _).1 h).2.symm.trans ((fE _ _ _ _ _ _ _ _ _ _).1 h').2
def Yl:FSpec:=⟨[],[],λ_=>True,λ_=>.one (.c (.b 50)),λ_=>[],λz y=>y.p 50,kX⟩
attribute [irreducible] lm kv
end
abbrev Tq82(a:List G)(b:Int):=Fm.ct (a.length<1000001/\a.length<=1000000/\RowsOk a/\0<=b/\b<=1000000) (λy=>y.g 30=aR b a/\(y.g 30).length<=a.length)
def PK:bj 7 HR:=bB 55 306771445239490293540679322872081 (ai Cg (ai BJ (ai BI (ai (GM 1000001) eN)))) lN λz hA=>show Fm.den (let v2:=(aL (z.g 31) (z.i 61));let v5:=(z.i 62<0);let v6:=(List.drop (iZ) (mO (z.i 66) (z.g 32)));let v7:=(wK (z.g 32) (z.g 31));let v8:=(gL (aa v2 4));let v4:=(aL v8 (z.i 62));let v0:=((0:Int)=gI (aa v4 0)/\ []=gS (aa v4 1)/\(0:Int)=gI (aa v4 2)/\(0:Int)=gI (aa v4 3)/\(0:Int)=gI (aa v4 4)/\(0:Int)=gI (aa v4 5)/\(0:Int)=gI (aa v4 6)/\(0:Int)=gI (aa v4 7)/\ []=gS (aa v4 8)/\ []=gL (aa v4 9)/\ []=gL (aa v4 10)/\hZ=hX (aa v4 11)/\(false=true↔gI (aa v4 12)=1)/\(0:Int)=gI (aa v4 13)/\(0:Int)=gI (aa v4 14));let v9:=(z.i 66<=z.i 61);let v10:=(z.i 61<0);let v11:=(↑v8.length:Int);let d7:=(bS (z.i 61) (z.g 31));let i9:=(0<=z.i 61/\z.i 61<z.i 66);let v1:=((1<=z.i 66->z.i 66<= ↑(z.g 32).length->i9/\0<=z.i 62/\z.i 62<v11->(7:Int)=0/\0=z.i 61/\0=z.i 62/\v0/\hZ=ci (kw (gI (aa v2 0)) (gI (aa v2 1)) (gI (aa v2 2)) (hX (aa v2 3)))/\ []=aR (z.i 62) (gJ v8 0)/\(0:Int)=v11/\ []=aR (z.i 61) (mO (z.i 66) (z.g 32)))/\(¬((1<=z.i 66/\z.i 66<= ↑(z.g 32).length)/\i9/\0<=z.i 62/\z.i 62<v11)->¬(7:Int)=0));let v3:=((1<=z.i 66->z.i 66<= ↑(z.g 32).length->i9/\0<=z.i 62/\z.i 62<v11->(1:Int)=0/\0=z.i 61/\0=z.i 62/\v0/\hZ=ci (kw (gI (aa v2 0)) (gI (aa v2 1)) (gI (aa v2 2)) (hX (aa v2 3)))/\ []=aR (z.i 62) (gJ v8 0)/\(0:Int)=v11/\ []=aR (z.i 61) (mO (z.i 66) (z.g 32)))/\(¬((1<=z.i 66/\z.i 66<= ↑(z.g 32).length)/\i9/\0<=z.i 62/\z.i 62<v11)->¬(1:Int)=0));(.two (z.i 66<1) (.an v7 (.at v3)) (.two ((↑(z.g 32).length:Int)<z.i 66) (.an v7 (.at v3)) (.two v10 (.an v10 (.an v10 (.an v10 (.an v10 (.an v7 (.at v1)))))) (.an (¬v10) (.an (¬v10) (.an (¬v10) (.an (¬v10) (.two v9 (.an v9 (.an v9 (.an v9 (.an v7 (.at v1))))) (.an (¬v9) (.an (¬v9) (.an (¬v9) (.two v5 (.an v5 (.an v5 (.an v5 (.an v5 (.an v5 (.an v5 (.an v5 (.an v5 (.an v5 (.an v5 (.an v5 (.an v5 (.an v5 (.an v7 (.at v1))))))))))))))) (.an (¬v5) (.an (¬v5) (.an (¬v5) (.an (¬v5) (.an (¬v5) (.an (¬v5) (.an (¬v5) (.an (¬v5) (.an d7 (.an (¬v5) (.an (¬v5) (.an (¬v5) (.an (¬v5) (.an (¬v5) (.two (v11<=z.i 62) (.an v7 (.at v1)) (.an (¬v10) (.an (¬((↑(z.g 31).length:Int)<=z.i 61)) (.an d7 (.ct (oM v8) (λy0=>y0.i 31=gI (aa v2 0)/\y0.i 32=gI (aa v2 1)/\y0.i 33=gI (aa v2 2)/\hT y0 400=hX (aa v2 3)/\y0.g 34=ld v8 0) λy0=>(let j8:=(aL (y0.g 34) (z.i 62));(.ct (oM (y0.g 34)) (λy1=>y1.g 30=gJ (y0.g 34) 0) λy1=>(.an (bS (z.i 62) (y0.g 34)) (.ct (XB (hT y0 400) (y0.i 31) (y0.i 32) (y0.i 33)) (λy2=>hT y2 300=ci (kw (y0.i 31) (y0.i 32) (y0.i 33) (hT y0 400))) λy2=>(Tq82 (y1.g 30) (z.i 62) λy3=>(.an (BQ (z.i 66) (z.g 32)) (Tq82 v6 (z.i 61) λy4=>(.an (z.g 32=z.g 32/\z.g 31=z.g 31/\(y4.g 30).length=(y4.g 30).length/\(y3.g 30).length=(y3.g 30).length/\True) (.at ((1<=z.i 66->z.i 66<= ↑(z.g 32).length->i9/\0<=z.i 62/\z.i 62<v11->(0:Int)=0/\z.i 61=z.i 61/\z.i 62=z.i 62/\(gI (aa j8 0)=gI (aa v4 0)/\gS (aa j8 1)=gS (aa v4 1)/\gI (aa j8 2)=gI (aa v4 2)/\gI (aa j8 3)=gI (aa v4 3)/\gI (aa j8 4)=gI (aa v4 4)/\gI (aa j8 5)=gI (aa v4 5)/\gI (aa j8 6)=gI (aa v4 6)/\gI (aa j8 7)=gI (aa v4 7)/\gS (aa j8 8)=gS (aa v4 8)/\gL (aa j8 9)=gL (aa v4 9)/\gL (aa j8 10)=gL (aa v4 10)/\hX (aa j8 11)=hX (aa v4 11)/\(gI (aa j8 12)=1↔gI (aa v4 12)=1)/\gI (aa j8 13)=gI (aa v4 13)/\gI (aa j8 14)=gI (aa v4 14))/\hT y2 300=ci (kw (gI (aa v2 0)) (gI (aa v2 1)) (gI (aa v2 2)) (hX (aa v2 3)))/\y3.g 30=aR (z.i 62) (gJ v8 0)/\(↑(y1.g 30).length:Int)=v11/\y4.g 30=aR (z.i 61) (mO (z.i 66) (z.g 32)))/\(¬((1<=z.i 66/\z.i 66<= ↑(z.g 32).length)/\i9/\0<=z.i 62/\z.i 62<v11)->¬(0:Int)=0))))))))))))))))))))))))))))))))))))))))))) by
 dsimp only [HR,Zm,J_,rv,en,hs,Zn,xrG,pL,Yk] at hA;have a1:=@PB (z.g 31) (z.i 61);have a2:=@Hw (pL (aq (z.g 31) (z.i 61).toNat));have a3:=jQ (pL (aq (z.g 31) (z.i 61).toNat));have a4:=jP (pL (aq (z.g 31) (z.i 61).toNat));have:=λn h=>@RowsOk.take (z.g 32) h n;dsimp only [pL,bOk] at a1 a2 a3 a4;conv=>zeta
 repeat' with_reducible first|intro _|apply cd|apply ck|apply cg|apply cE|apply cr
 all_goals first|omega|grind [ao,ak,aj,aT,aU,aV,aW,aX,aY,aZ,a_,ba,aC,List.append_assoc,fX]
noncomputable section
end
noncomputable section
def sum2G(s:List Nat):hG (eD s)=ci s:=by rw[←fj];exact mH s
theorem Ym{v w:V8}:kr (hG v) (hG w)↔hG v=hG w:=by unfold kr;rw[M2,M2,bX,bX];exact⟨λh=>by rw[h],fK⟩
def Kc{E:List G}{i:Int}:RowsOk (aR i (gJ E 0))/\(aR i (gJ E 0)).length<=E.length/\RowsOk (aR 0 (List.take (Int.toNat 1) [.node [Ks E]]))/\(aR 0 (List.take (Int.toNat 1) [.node [Ks E]])).length<=1/\HOk (aO [.node [Ks E]]):=by
 have hk:RowsOk [.node [Ks E]]:=gN gO (mP _ _ _ _ _)
 refine⟨oJ (jQ E), ?_,oJ (hk.take _),oI _ _,cD _ hk⟩
 have:=oI i (gJ E 0)
 rwa [jP] at this
def xor1{v:Int}(h:0<=v/\v<256):(0<=IntKind.u8.wrap (Int.ofNat ((aE (am .u8) v).xor (aE (am .u8) (1:Int))))/\IntKind.u8.wrap (Int.ofNat ((aE (am .u8) v).xor (aE (am .u8) (1:Int))))<256)/\¬v=IntKind.u8.wrap (Int.ofNat ((aE (am .u8) v).xor (aE (am .u8) (1:Int)))):=by
 obtain⟨n,rfl⟩:∃n:Nat,v=n:=⟨v.toNat,by omega⟩
 have e1:aE (am .u8) (n:Int)=n:=by show n%256=n;omega
 have e2:aE (am .u8) (1:Int)=1:=rfl;have e3:n ^^^ 1<256:=Nat.xor_lt_two_pow (n:=8) (by omega) (by decide);rw[e1,e2,nP];have e4:Int.ofNat (n.xor 1)%256=((n ^^^ 1:Nat):Int):=by show(((n ^^^ 1:Nat):Int))%256=_;omega
 rw[e4];refine⟨by omega,λh=>?_⟩;have h:n ^^^ 1=n:=by omega
 have:n ^^^ (n ^^^ 1)=n ^^^ n:=by rw[h]
 rw[←Nat.xor_assoc,Nat.xor_self,Nat.zero_xor] at this;cases this
def TC{y:Sy}(h:HOk (hT y 500)):HOk (G.node [G.int (y.i 500),G.int (y.i 501),G.int (y.i 502),G.int (Go.IntKind.u8.wrap (Int.ofNat ((aE (am Go.IntKind.u8) (y.i 503)).xor (aE (am Go.IntKind.u8) (1:Int))))),G.int (y.i 504),G.int (y.i 505),G.int (y.i 506),G.int (y.i 507),G.int (y.i 508),G.int (y.i 509),G.int (y.i 510),G.int (y.i 511),G.int (y.i 512),G.int (y.i 513),G.int (y.i 514),G.int (y.i 515),G.int (y.i 516),G.int (y.i 517),G.int (y.i 518),G.int (y.i 519),G.int (y.i 520),G.int (y.i 521),G.int (y.i 522),G.int (y.i 523),G.int (y.i 524),G.int (y.i 525),G.int (y.i 526),G.int (y.i 527),G.int (y.i 528),G.int (y.i 529),G.int (y.i 530),G.int (y.i 531)])/\¬hT y 500=G.node [G.int (y.i 500),G.int (y.i 501),G.int (y.i 502),G.int (Go.IntKind.u8.wrap (Int.ofNat ((aE (am Go.IntKind.u8) (y.i 503)).xor (aE (am Go.IntKind.u8) (1:Int))))),G.int (y.i 504),G.int (y.i 505),G.int (y.i 506),G.int (y.i 507),G.int (y.i 508),G.int (y.i 509),G.int (y.i 510),G.int (y.i 511),G.int (y.i 512),G.int (y.i 513),G.int (y.i 514),G.int (y.i 515),G.int (y.i 516),G.int (y.i 517),G.int (y.i 518),G.int (y.i 519),G.int (y.i 520),G.int (y.i 521),G.int (y.i 522),G.int (y.i 523),G.int (y.i 524),G.int (y.i 525),G.int (y.i 526),G.int (y.i 527),G.int (y.i 528),G.int (y.i 529),G.int (y.i 530),G.int (y.i 531)]:=by
 have hb:=h.of_hT;obtain⟨x1,x2⟩:=xor1 (hb 3 (by decide));constructor
 ·unfold HOk;refine⟨(kq y 500).set 3 (Go.IntKind.u8.wrap (Int.ofNat ((aE (am Go.IntKind.u8) (y.i 503)).xor (aE (am Go.IntKind.u8) (1:Int))))),by with_unfolding_all rfl,by unfold kq;rw[aaZ,aaR,abK],λx hx=>?_⟩;rcases List.mem_or_eq_of_mem_set hx with hx|rfl
  ·unfold kq at hx;obtain⟨j,hj,rfl⟩:=List.mem_map.1 hx;exact hb j (List.mem_range.1 hj)
  ·exact x1
 ·intro e;have e2:gI (aa (hT y 500) 3)=y.i 503:=by with_unfolding_all rfl
  have:gI (aa (hT y 500) 3)=gI (aa (G.node [G.int (y.i 500),G.int (y.i 501),G.int (y.i 502),G.int (Go.IntKind.u8.wrap (Int.ofNat ((aE (am Go.IntKind.u8) (y.i 503)).xor (aE (am Go.IntKind.u8) (1:Int))))),G.int (y.i 504),G.int (y.i 505),G.int (y.i 506),G.int (y.i 507),G.int (y.i 508),G.int (y.i 509),G.int (y.i 510),G.int (y.i 511),G.int (y.i 512),G.int (y.i 513),G.int (y.i 514),G.int (y.i 515),G.int (y.i 516),G.int (y.i 517),G.int (y.i 518),G.int (y.i 519),G.int (y.i 520),G.int (y.i 521),G.int (y.i 522),G.int (y.i 523),G.int (y.i 524),G.int (y.i 525),G.int (y.i 526),G.int (y.i 527),G.int (y.i 528),G.int (y.i 529),G.int (y.i 530),G.int (y.i 531)]) 3):=by rw[e]
  exact x2 (e2.symm.trans this)
end
def Yn:bj 29 VU:=bB 1 0 (ai (kY 1000001) eN) lN λz hA=>show Fm.den (let v0:=(↑(z.g 31).length:Int);(N9 (z.g 32) λy0=>(.an (wK (z.g 32) (z.g 31)) (.at (v0=v0/\hT y0 300=aO (z.g 32)))))) by
 dsimp only [VU,Zm,J_,dg,hs,Zn] at hA;conv=>zeta
 repeat' with_reducible first|intro _|apply cd|apply ck|apply cg|apply cE|apply cr
 all_goals first|omega|grind [ao,ak,aj,aT,aU,aV,aW,aX,aY,aZ,a_,ba,aC,List.append_assoc,fX]
open Go.RowKit Go.Maps
def jS(v:Value):Option (DataW Unit×List MemPlace):=match v with | .pointer (some ⟨b,0,none⟩)=>some (.lit (.int .i64 b),[])|_=>none
def tX{v:Value}{y:DataW Unit×List MemPlace}(h:jS v=some y):∃b:Nat,v= .pointer (some ⟨b,0,none⟩)/\y=(.lit (.int .i64 b),[]):=by
 unfold jS at h;split at h
 ·injection h with h;exact⟨_,rfl,h.symm⟩
 ·cases h
def Yo{key:Value}{kl:Lit}(h:keyOf Tryz.prog 9 key=some kl):∃s,key= .string s:=by cases key <;> simp [keyOf,Tryz.underlying9,mapKey] at h;exact⟨_,rfl⟩
def VX(w:World)(x:DataW Unit):Nat:=match x with
 | .lit (.int .i64 b)=>(match w.cell? ⟨b.toNat,0,none⟩ with|some (.slice _ l _)=>l|_=>0)
 |_=>0
def dp(f:DataW Unit->Nat)(l:List (Lit×DataW Unit)):Nat:=(l.map λp=>f p.2).sum
def PL(f:DataW Unit->Nat)(es:List (Lit×DataW Unit))(left:Lit->Bool):Nat:=dp f (es.filter λp=>!left p.1)
def PM{f:DataW Unit->Nat}{left:Lit->Bool}{kl:Lit}{x:DataW Unit}(hs:∀z:Lit,z.sameKey kl=true↔z=kl)(hl:left kl=true):∀{es:List (Lit×DataW Unit)},es.Pairwise (λp q=>p.1≠q.1)->(kl,x)∈es->
 PL f es (λz=>left z && !z.sameKey kl)=PL f es left+f x:=by
 intro es
 induction es with
 |nil=>intro _ h;cases h
 |cons p es ih=>
  intro hp hm
  obtain⟨h1,h2⟩:=List.pairwise_cons.1 hp
  unfold PL at ih⊢
  by_cases e:p.1=kl
  ·have hx:p=(kl,x):=by
    rcases List.mem_cons.1 hm with h|h
    ·exact h.symm
    ·exact absurd e (h1 _ h)
   subst hx;have hr:es.filter (λp=>!(left p.1 && !p.1.sameKey kl))=es.filter (λp=>!left p.1):=List.filter_congr λq hq=>by
    have:q.1.sameKey kl=false:=by
     cases hk:q.1.sameKey kl with
     |false=>rfl
     |true=>exact absurd ((hs _).1 hk).symm (h1 _ hq)
    rw[this];simp
   have hk:kl.sameKey kl=true:=(hs _).2 rfl;rw[abL (by simp [hk]),abM (by simp [hl]),hr];simp [dp];omega
  ·have hm:(kl,x)∈es:=by
    rcases List.mem_cons.1 hm with h|h
    ·subst h;exact absurd rfl e
    ·exact h
   have:=ih h2 hm
   have hk:p.1.sameKey kl=false:=by
    cases hk:p.1.sameKey kl with
    |false=>rfl
    |true=>exact absurd ((hs _).1 hk) e
   cases hlp:left p.1 with
   |true=>rw[abM (by simp [hlp,hk]),abM (by simp [hlp]),this]
   |false=>rw[abL (by simp [hlp]),abL (by simp [hlp])];simp only [dp,aax,abh] at this⊢;omega
def Eq(f:DataW Unit->Nat)(left:Lit->Bool):∀es:List (Lit×DataW Unit),PL f es left<=dp f es
 | []=>aac _
 |p::es=>by
  have:=Eq f left es
  unfold PL at this⊢
  cases h:left p.1 with
  |true=>rw[abM (by simp [h])];simp only [dp,aax,abh] at this⊢;omega
  |false=>rw[abL (by simp [h])];simp only [dp,aax,abh] at this⊢;omega
def TD{f:DataW Unit->Nat}{left:Lit->Bool}(h:∀k,left k=false)(es:List (Lit×DataW Unit)):PL f es left=dp f es:=by unfold PL;rw[List.filter_eq_self.2 (λp _=>by rw[h];rfl)]
def Kd{f:DataW Unit->Nat}{es:List (Lit×DataW Unit)}(hk:∀p∈es,WideAt.IsKeyLit p.1):PL f es (Maps.has (.map es))=0:=by unfold PL;rw[List.filter_eq_nil_iff.2 (λp hp=>by have:Maps.has (DataW.map es) p.1=true:=List.any_eq_true.2 ⟨p,hp,WideAt.sameKey_self (hk p hp)⟩;rw[this];simp)];rfl
def VY{es:List (Lit×DataW Unit)}{kl:Lit}{y:DataW Unit}(h:∀zd,(DataW.map es).atKey kl zd=y):(kl,y)∈es:=by
 cases hf:es.find? (λp=>p.1.sameKey kl) with
 |none=>have a:=h (.lit (.int .i64 0));have b:=h (.lit (.int .i64 1));simp only [DataW.atKey,hf] at a b;rw[←b] at a;cases a
 |some p=>have h1:=List.mem_of_find?_eq_some hf;have h2:p.1.sameKey kl=true:=List.find?_some (p:=λp:Lit×DataW Unit=>p.1.sameKey kl) hf;have h2:=WideAt.sameKey_eq h2;have h3:=h y;simp only [DataW.atKey,hf] at h3;rw[←h2, ←h3];exact h1
def TE{kl:Lit}(hk:WideAt.IsKeyLit kl):∀z:Lit,z.sameKey kl=true↔z=kl:=λz=>⟨λh=>WideAt.sameKey_eq h,λh=>by subst h;exact WideAt.sameKey_self hk⟩
def pq_or(x:Int)(n:Nat)(h:n<4294967296):IntKind.wrap .u32 (bits BinOp.or IntKind.u64 (IntKind.u64.wrap (x * 4294967296)) (n:Int))=n:=by
 have e:∀k:Nat,((k:Int)%4294967296)=((k%4294967296:Nat):Int):=λk=>by omega
 rw[IntKind.wrap_u32];unfold bits;show(IntKind.u64.wrap ((BitVec.ofInt 64 _ ||| BitVec.ofInt 64 _).toNat:Int))%4294967296=_;rw[IntKind.wrap_u64,IntKind.wrap_u64,BitVec.toNat_or,BitVec.toNat_ofInt,BitVec.toNat_ofInt];have e1:((x * 4294967296%18446744073709551616)%((2 ^ 64:Nat):Int)).toNat%4294967296=0:=by omega
 have e2:((n:Int)%((2 ^ 64:Nat):Int)).toNat%4294967296=n:=by omega
 have e3:∀a b:Nat,(((a ||| b:Nat):Int)%18446744073709551616)%4294967296=(((a%4294967296) ||| (b%4294967296):Nat):Int):=λa b=>by
  have:(a ||| b)%2 ^ 32=(a%2 ^ 32) ||| (b%2 ^ 32):=Nat.or_mod_two_pow;have h2:(((a ||| b:Nat):Int)%18446744073709551616)%4294967296=(((a ||| b)%4294967296:Nat):Int):=by omega
  rw[h2];exact congrArg _ this
 rw[e3,e1,e2,Nat.zero_or]
def TF(f:Nat)(a:Option Addr)(len cap:Nat)(lt:Int)(w:World)(c0:w.cell? ⟨f,0,none⟩=some (.slice a len cap))(c1:w.cell? ⟨f,1,none⟩=some (.int .u32 lt))(hn:len<4294967296):
 Calls Tryz.prog 235 #[.pointer (some ⟨f,0,none⟩)] w λe w'=>(∃x,e= .returned (.int .u64 x)/\IntKind.wrap .u32 x=len)/\∃n,w'=w.drewN n:=by
 go_enter Tryz.func235,Tryz.ntmps235
 go_wp2_with fail
 go_quiet (fail)
 go_wp2
 go_ret
 refine⟨⟨_,rfl, ?_⟩,_,rfl⟩
 rw[pq_or _ _ hn]
def aS{w w':World}(h:w.grownBy w' none){p:Addr}{v:Value}(hc:w.cell? p=some v):w'.cell? p=some v:=h.cell hc (by simp)
structure PkF(w:World)(f n:Nat):Prop where
 c0:∃a cap,w.cell? ⟨f,0,none⟩=some (.slice a n cap)
 c1:∃lt,w.cell? ⟨f,1,none⟩=some (.int .u32 lt)
 hn:n<4294967296
def PkF.grown{w w':World}{f n:Nat}(h:PkF w f n)(hg:w.grownBy w' none):PkF w' f n:=
 ⟨by obtain⟨a,c,e⟩:=h.c0;exact⟨a,c,aS hg e⟩,by obtain⟨a,e⟩:=h.c1;exact⟨a,aS hg e⟩,h.hn⟩
def pM:Keyed Tryz.prog 9:=string_keyed Tryz.underlying9
set_option maxRecDepth 100000 in
theorem HS(d m n:Nat)(es:List (Lit×DataW Unit))(f:DataW Unit->Nat)(w:World)(c1:w.cell? ⟨d,1,none⟩=some (.map (some m)))
 (d9:w.ownsMap Tryz.prog 9 jS m n (.map es)) (hfl:∀p∈es,∀b:Nat,p.2= .lit (.int .i64 b)->PkF w b (f p.2)) (ad2:dp f es<=1073741824):
 Calls Tryz.prog 191 #[.pointer (some ⟨d,0,none⟩)] w λe w'=>e= .returned (.int .i64 (dp f es:Nat))/\w.grownBy w' none:=by
 obtain⟨M',he,hap,hkl⟩:=d9.entries pM
 injection he with he;subst he
 have as7:∀p∈es,WideAt.IsKeyLit p.1:=hkl
 go_enter Tryz.func191,Tryz.ntmps191
 go_wp2_with (first
  |(at_range;refine wpList_range_own _ rfl _ 110 rfl 9 230 pM Tryz.underlying110 _ m n _ rfl d9 ?_;intro w0 as8 hg0 hs0)
  |go_in)
 go_frame
 go_loopw [3] (λt wr=>∃(left:Lit->Bool) (cnt:Nat),wr.ranges Tryz.prog 9 jS m w.heap.size n (.map es) left cnt/\w.grownBy wr none/\t= .int .u64 (PL f es left:Nat))
  (λ_ wr=>wr.rangeLeft m w.heap.size)
 case atStart=>exact⟨_,_,as8,hg0,by rw[Kd hkl];rfl⟩
 case round=>
  obtain⟨left,cnt,hrg,hgw,rfl⟩:=hrel
  have hle:=Eq f left es
  go_wp2_with (first
   |(at_next;refine wpList_next_ranges _ rfl _ rfl 9 pM jS Value.string (λb:Nat=>Value.pointer (some ⟨b,0,none⟩)) (λkey kl hk=>Yo hk) (λv y hv=>by obtain⟨b,hb,_⟩:=tX hv;exact⟨b,hb⟩) m w.heap.size n _ _ _ rfl hrg ?_ ?_)
   |go_in)
  ·intro _ hl0
   go_wp2
   go_ret
   exact⟨by rw[TD hl0];rfl,hgw⟩
  ·intro x c kl y ps w1 as9 aj1 hlk hv o6 ap7 c9 hg1 hs1 hen
   obtain⟨b,hb,hy⟩:=tX hv
   injection hb with hb;injection hb with hb;injection hb with hb
   subst hb;injection hy with hy _;subst hy
   have ab1:=VY o6
   have ai2:=PM (f:=f) (TE (hkl _ ab1)) hlk hap ab1
   have ah1:w.grownBy w1 none:=hgw.andThen hg1 (λj hj=>by cases hj;exact Or.inl (aac _))
   obtain⟨⟨a,cp,e0⟩,⟨lt,e1⟩,hn⟩:=(hfl _ ab1 c rfl).grown ah1
   have F':=Eq f (λz=>left z && !z.sameKey kl) es
   have hlen:=ap7.left_eq
   have I':=hrg.left_eq
   clear o6 hfl d9 hv hkl as7 hap
   generalize PL f es left=T at ai2 hle⊢
   generalize f (DataW.lit (Lit.int IntKind.i64 ↑c))=N at ai2 e0 hn
   go_wp2_with (first
    |(go_at_call 235;refine(TF _ _ _ _ _ _ e0 e1 hn).mono ?_;rintro e w2 ⟨⟨x,rfl,hx⟩,nd,rfl⟩)
    |go_in)
   refine⟨⟨λz=>left z && !z.sameKey kl,as9,ap7,⟨ah1.os,ah1.tape,ah1.output,ah1.size,ah1.block⟩,by rw[ai2];simp⟩, ?_⟩
   rw[I']
   show w1.rangeLeft m w.heap.size<cnt
   rw[hlen];exact c9
def TG(w:World):(zeroValue 230).run Tryz.prog w= .ok (.pointer none) w:=by kernel_rfl
def zk{m n:Nat}{es:List (Lit×DataW Unit)}{w:World}(d9:w.ownsMap Tryz.prog 9 jS m n (.map es))(s:ByteArray)(hs:s.size<=maxLen):
 (∃b:Nat,(Lit.string s.data.toList,DataW.lit (.int .i64 b))∈es/\(Instr.lookup 110 (.map (some m)) (.string s) false).run Tryz.prog w= .ok (.pointer (some ⟨b,0,none⟩)) w)∨
 ((∀p∈es,p.1≠ .string s.data.toList)/\(Instr.lookup 110 (.map (some m)) (.string s) false).run Tryz.prog w= .ok (.pointer none) w):=by
 have aj1:keyOf Tryz.prog 9 (.string s)=some (.string s.data.toList):=WideMaps.keyOf_string_mk Tryz.underlying9 hs
 obtain⟨es0,clock,hb,F,_,he⟩:=d9
 injection he with he
 rcases Maps.fit_look false pM Tryz.underlying110 (TG w) hb F aj1 with⟨c7,_,o6⟩|⟨e0,y,_,_,c7,hRv,o6,_⟩
 ·rw[←he] at o6
  refine .inr ⟨λp hp e=>?_,c7⟩
  cases hf:es.find? (λp=>p.1.sameKey (.string s.data.toList)) with
  |none=>have:=List.find?_eq_none.1 hf p hp;rw[e] at this;exact this (WideAt.sameKey_self (a:=.string s.data.toList) trivial)
  |some q=>have a:=o6 (.lit (.int .i64 0));have b:=o6 (.lit (.int .i64 1));simp only [DataW.atKey,hf] at a b;rw[a] at b;cases b
 ·obtain⟨b,hv,hy⟩:=tX hRv;rw[←he] at o6;subst hy;refine .inl ⟨b,VY o6, ?_⟩;rw[c7,hv];rfl
def TH(d m n:Nat)(es:List (Lit×DataW Unit))(s:ByteArray)(w:World)(c1:w.cell? ⟨d,1,none⟩=some (.map (some m)))(d9:w.ownsMap Tryz.prog 9 jS m n (.map es))(hs:s.size<=maxLen)(o7:∀p∈es,p.1≠ .string s.data.toList):
 Calls Tryz.prog 79 #[.pointer (some ⟨d,0,none⟩),.string s] w λe w'=>e= .returned (.tuple #[.slice none 0 0,.int .i64 7])/\w'=w:=by
 rcases zk d9 s hs with⟨b,hm,_⟩|⟨_,c7⟩
 ·exact absurd rfl (o7 _ hm)
 clear o7 d9 hs
 go_enter Tryz.func79,Tryz.ntmps79
 go_wp2
 go_ret2
 exact⟨rfl,rfl⟩
def tY(d:Nat)(w:World)(c2:w.cell? ⟨d,2,none⟩=some (.bool false)):
 Calls Tryz.prog 145 #[.pointer (some ⟨d,0,none⟩)] w λe w'=>e= .returned (.int .i64 0)/\w'=w:=by
 go_enter Tryz.func145,Tryz.ntmps145
 go_wp2
 go_ret
 exact⟨rfl,rfl⟩
def Er(d b:Nat)(s:ByteArray)(w:World)(c2:w.cell? ⟨d,2,none⟩=some (.bool false))(h1:1<=s.size)(h2:s.size<=64)(cs:w.cell? ⟨b,0,none⟩=some (.string s)):
 Calls Tryz.prog 144 #[.pointer (some ⟨d,0,none⟩),.slice (some ⟨b,0,none⟩) 1 1] w λe w'=>e= .returned (.int .i64 0)/\w'=w:=by
 go_enter Tryz.func144,Tryz.ntmps144
 go_wp2
 refine wp_loop_rounds 2 ?_
 rw[rounds_succ]
 go_wp2
 rw[rounds_succ]
 go_wp2
 go_ret
 exact⟨rfl,rfl⟩
set_option maxRecDepth 100000 in
theorem TI(d m n b N:Nat)(s:ByteArray)(w:World)(c1:w.cell? ⟨d,1,none⟩=some (.map (some m)))(c2:w.cell? ⟨d,2,none⟩=some (.bool false))(h1:1<=s.size)(h2:s.size<=64)
 (c7:∀W:World,W.heap[m]? =w.heap[m]? ->(Instr.lookup 110 (.map (some m)) (.string s) false).run Tryz.prog W= .ok (.pointer (some ⟨b,0,none⟩)) W)
 (hm:m<w.heap.size) (hF:PkF w b N) (f1:w.frozen? ⟨b,1,none⟩=false):
 Calls Tryz.prog 82 #[.pointer (some ⟨d,0,none⟩),.string s] w λe w'=>e= .returned (.int .i64 0)/\w'=(w.alloc (.cells #[.string s] 9)).setCell ⟨b,1,none⟩ (.int .u32 N):=by
 have ag8:=c7 (w.alloc (.cells #[.string s] 9)) (heap_alloc_old w _ hm)
 obtain⟨⟨a,cp,e0⟩,⟨lt,e1⟩,hn⟩:=hF
 have hx:=e1
 have hc:((w.alloc (.cells #[.string s] 9)).setCell ⟨b,1,none⟩ (.int .u32 N)).cell? ⟨d,2,none⟩=some (.bool false):=by rw[World.cell?_setCell_other _ _ _ _ (by simp)];exact aS (World.grownBy_alloc w _ none) c2
 have hg:=World.grownBy_alloc w (.cells #[.string s] 9) none
 have cs:(w.alloc (.cells #[.string s] 9)).cell? ⟨w.heap.size,0,none⟩=some (.string s):=by simp
 replace c1:=aS hg c1
 have c2':=aS hg c2
 replace e0:=aS hg e0
 replace e1:=aS hg e1
 have f1':(w.alloc (.cells #[.string s] 9)).frozen? ⟨b,1,none⟩=false:=by rw[←f1];exact World.frozen?_of_block (heap_alloc_old w _ (World.block_lt_of_cell? _ _ hx))
 clear c7 hm hg f1
 go_enter Tryz.func82,Tryz.ntmps82
 go_wp2_with (first
  |(go_at_call 144;refine(Er _ _ _ _ c2' h1 h2 cs).mono ?_;rintro e w2 ⟨rfl,rfl⟩)
  |(go_at_call 145;refine(tY _ _ hc).mono ?_;rintro e w2 ⟨rfl,rfl⟩)
  |go_in)
 go_ret
 exact⟨rfl,rfl⟩
def Cw:(Tryz.prog.info? 5).map (λi=>(i.zero,i.size,i.bytes))=some (some (.int .u8 0),1,1):=by kernel_rfl
def PN{d m n:Nat}{room:Int}{es:List (Lit×DataW Unit)}{f:DataW Unit->Nat}{W w:World}(d9:W.ownsMap Tryz.prog 9 jS m n (.map es))(hfl:∀p∈es,∀b:Nat,p.2= .lit (.int .i64 b)->PkF W b (f p.2))(ad2:dp f es<=1073741824)(hS:w.cell? ⟨d,0,none⟩=some (.int .i64 room)/\w.cell? ⟨d,1,none⟩=some (.map (some m))/\W.grownBy w none):
 Calls Tryz.prog 191 #[.pointer (some ⟨d,0,none⟩)] w λe w'=>e= .returned (.int .i64 (dp f es:Nat))/\(w'.cell? ⟨d,0,none⟩=some (.int .i64 room)/\w'.cell? ⟨d,1,none⟩=some (.map (some m))/\W.grownBy w' none):=
 (HS d m n es f w hS.2.1 (d9.kept hS.2.2 (by simp)) (λp hp b hb=>(hfl p hp b hb).grown hS.2.2) ad2).mono λe w' h=>⟨h.1,aS h.2 hS.1,aS h.2 hS.2.1,hS.2.2.trans h.2⟩
set_option maxRecDepth 100000 in
set_option maxHeartbeats 4000000 in
def Es{P:Program}{ops:Array Oper}{Q:Exit->Act->World->Prop}{md:Region.Mode}{S:World->Prop}{oi:Oper}{v:Value}{fuel:Nat}{listed:Array Bool}{a:Act}{w:World}(i:Nat)(hS:S w)(h:wpAnyH P md ops Q S fuel (listed.setIfInBounds i true) (a.put oi.dst v) w)(hi:ops[i]? =some oi:=by simp only [aa7,abP,abG];rfl)(hs:Region.noSelect ops=true:=by kernel_rfl)(hf:Region.free md ops listed i=true:=by kernel_rfl)(hr:(Region.ready md ops listed).contains i=true:=by kernel_rfl)(hQ:∀c a w,Q (.panic c) (a.put oi.dst v) w->Q (.panic c) a w:=by intro _ _ _ h;exact h)(h1:Region.wanted oi (yielded ops a.tmps)=true:=by rfl)(h2:∀W,S W->(execOp a.eval oi).run P W= .ok (.value v) W:=by(intro W hW;(try dsimp only at hW);obtain⟨hW0,hW1,hW2⟩:=hW;go_simp;try with_reducible rfl)):wpAnyH P md ops Q S (fuel+1) listed a w:=wpAnyH_take hi hs hf hr hQ (.inl ⟨h1,h2⟩) hS h
def Zo{P:Program}{ops:Array Oper}{Q:Exit->Act->World->Prop}{md:Region.Mode}{S:World->Prop}{oi:Oper}{fuel:Nat}{listed:Array Bool}{a:Act}{w:World}(i:Nat)(hS:S w)(h:wpAnyH P md ops Q S fuel (listed.setIfInBounds i true) (a.put oi.dst undef) w)(hi:ops[i]? =some oi:=by simp only [aa7,abP,abG];rfl)(hs:Region.noSelect ops=true:=by kernel_rfl)(hf:Region.free md ops listed i=true:=by kernel_rfl)(hr:(Region.ready md ops listed).contains i=true:=by kernel_rfl)(hQ:∀c a w,Q (.panic c) (a.put oi.dst undef) w->Q (.panic c) a w:=by intro _ _ _ h;exact h)(h1:Region.wanted oi (yielded ops a.tmps)=false:=by rfl):wpAnyH P md ops Q S (fuel+1) listed a w:=wpAnyH_take hi hs hf hr hQ (.inr ⟨h1,rfl⟩) hS h
def uH(d m n b N M sc:Nat)(room:Int)(es:List (Lit×DataW Unit))(f:DataW Unit->Nat)(s:ByteArray)(v:Value)(xs news:List Value)(ad:Addr)(w:World)(c0:w.cell? ⟨d,0,none⟩=some (.int .i64 room))(c1:w.cell? ⟨d,1,none⟩=some (.map (some m)))(c2:w.cell? ⟨d,2,none⟩=some (.bool false))(h1:1<=s.size)(h2:s.size<=64)(d9:w.ownsMap Tryz.prog 9 jS m n (.map es))(hfl:∀p∈es,∀b:Nat,p.2= .lit (.int .i64 b)->PkF w b (f p.2))(ad2:(dp f es:Int)+M<=room)(ab9:room<=1073741824)(c7:∀W:World,W.heap[m]? =w.heap[m]? ->(Instr.lookup 110 (.map (some m)) (.string s) false).run Tryz.prog W= .ok (.pointer (some ⟨b,0,none⟩)) W)(f0:w.cell? ⟨b,0,none⟩=some v)(fz:w.frozen? ⟨b,0,none⟩=false)(ae4:w.ownsRow 0 5 1 v N xs)(hvb:v.ownBlock≠some b)(hvd:v.ownBlock≠some d)(hbd:b≠d)(hN:N+M<=1073741824)(hl:news.length=M)(hM:0<M)(af6:∀j u,news[j]? =some u->w.cell? (ad.add j)=some u)(ab0:∀u∈news,u.oneCell'=true):
 Calls Tryz.prog 132 #[.pointer (some ⟨d,0,none⟩),.string s,.slice (some ad) M sc] w λe w'=>e= .returned (.int .i64 0)/\∃g cap w1,w.grownBy w1 v.ownBlock/\
  w1.ownsRow 0 5 1 (.slice (some ⟨g,0,none⟩) (N+M) cap) (N+M) (xs++news)/\(v.ownBlock=some g∨w.heap.size<=g)/\w'=w1.setCell ⟨b,0,none⟩ (.slice (some ⟨g,0,none⟩) (N+M) cap):=by
 obtain⟨i0,hi,hz0,hz1,hz2⟩:=info_parts Cw
 have aj2:=d9.lt
 have am5:=World.block_lt_of_cell? _ _ f0
 have hg:=World.grownBy_alloc w (.cells #[.string s] 9) none
 have cs:(w.alloc (.cells #[.string s] 9)).cell? ⟨w.heap.size,0,none⟩=some (.string s):=by simp
 have ag8:=c7 (w.alloc (.cells #[.string s] 9)) (heap_alloc_old w _ aj2)
 have c0':=aS hg c0
 have c1':=aS hg c1
 have c2':=aS hg c2
 clear c7
 go_enter Tryz.func132,Tryz.ntmps132
 go_wp2_with (first
  |(go_at_call 144;refine(Er _ _ _ _ c2' h1 h2 cs).mono ?_;rintro e w2 ⟨rfl,rfl⟩)
  |fail)
 have ad3:=d9.kept hg (by simp)
 have ai3:∀p∈es,∀b:Nat,p.2= .lit (.int .i64 b)->PkF (w.alloc (.cells #[.string s] 9)) b (f p.2):=λp hp b hb=>(hfl p hp b hb).grown hg
 have hle:dp f es<=1073741824:=by omega
 clear d9 hfl c0 c1
 generalize hT:dp f es=T at ad2
 have am6:decide (IntKind.i64.wrap (room-(T:Int))<(M:Int))=false:=by rw[IntKind.wrap_i64];exact decide_eq_false (by omega)
 refine wp_region_held_drew (S:=λw'=>w'.cell? ⟨d,0,none⟩=some (.int .i64 room)/\w'.cell? ⟨d,1,none⟩=some (.map (some m))/\(w.alloc (.cells #[.string s] 9)).grownBy w' none) (by kernel_rfl) ⟨c0',c1',rfl,rfl,rfl,aac _,λ_ _ _=>rfl⟩ (λn9=>?_)
 refine Es 0 n9 ?_
 (try simp only [Act.put,aaE,aaF,aaG])
 refine Es 1 n9 ?_
 (try simp only [Act.put,aaE,aaF,aaG])
 refine Es 2 n9 ?_
 (try simp only [Act.put,aaE,aaF,aaG])
 refine Es 3 n9 ?_
 (try simp only [Act.put,aaE,aaF,aaG])
 refine Es 4 n9 ?_
 (try simp only [Act.put,aaE,aaF,aaG])
 refine Es 5 n9 ?_
 (try simp only [Act.put,aaE,aaF,aaG])
 refine Es 6 n9 ?_
 (try simp only [Act.put,aaE,aaF,aaG])
 refine wpAnyH_ready (rs:=[7]) (by kernel_rfl) (by simp) ?_
 refine AllReadyH.cons rfl (λK hK=>?_) AllReadyH.nil
 go_simp
 refine(PN ad3 ai3 hle n9).mono ?_
 rintro e w2 ⟨rfl,f9⟩
 refine hK.out _ _ f9 (λn9=>?_)
 refine Es 8 n9 ?_
 (try simp only [Act.put,aaE,aaF,aaG])
 refine Es 9 n9 ?_
 (try simp only [Act.put,aaE,aaF,aaG])
 refine Es 10 n9 ?_
 (try simp only [Act.put,aaE,aaF,aaG])
 refine Es 11 n9 ?_
 (try simp only [Act.put,aaE,aaF,aaG])
 refine Es 12 n9 ?_
 (try simp only [Act.put,aaE,aaF,aaG])
 refine Es 13 n9 ?_
 (try simp only [Act.put,aaE,aaF,aaG])
 refine Zo 14 n9 ?_
 (try simp only [Act.put,aaE,aaF,aaG])
 refine Zo 15 n9 ?_
 (try simp only [Act.put,aaE,aaF,aaG])
 refine Zo 16 n9 ?_
 (try simp only [Act.put,aaE,aaF,aaG])
 refine Zo 17 n9 ?_
 (try simp only [Act.put,aaE,aaF,aaG])
 refine Zo 18 n9 ?_
 (try simp only [Act.put,aaE,aaF,aaG])
 refine Zo 19 n9 ?_
 (try simp only [Act.put,aaE,aaF,aaG])
 refine Es 20 n9 ?_
 (try simp only [Act.put,aaE,aaF,aaG])
 refine Es 21 n9 ?_
 (try simp only [Act.put,aaE,aaF,aaG])
 refine wpAnyH_done (by kernel_rfl) ?_ _
 obtain⟨a0,a1,hg2⟩:=f9
 have hgw:w.grownBy w2 none:=hg.trans hg2
 have ap8:=ae4.kept hgw (by cases v.ownBlock <;> simp)
 have f02:=aS hgw f0
 have fz2:w2.frozen? ⟨b,0,none⟩=false:=by rw[←fz];exact World.frozen?_of_block (hgw.block b am5 (by simp))
 have ae7:∀j u,news[j]? =some u->w2.cell? (ad.add j)=some u:=λj u hj=>aS hgw (af6 j u hj)
 have c22:w2.cell? ⟨d,2,none⟩=some (.bool false):=aS hgw c2
 have hlen:news.length=M * 1:=by omega
 have hmx:N+M<=maxLen:=by unfold maxLen;omega
 have hby:(N+M) * 1<=140737488355328:=by omega
 clear ad3 ai3 hle am6 af6 ae4 fz f0 ag8 cs c0' c1' c2'
 have c23:∀w3 u,w2.grownBy w3 v.ownBlock->(w3.setCell ⟨b,0,none⟩ u).cell? ⟨d,2,none⟩=some (.bool false):=λw3 u h=>by rw[World.cell?_setCell_other _ _ _ _ (by simp [Ne.symm hbd])];exact h.cell c22 (Ne.symm hvd)
 go_wp2_with (first
  |(at_builtin;refine wpList_append_lies _ rfl _ _ 53 rfl 0 5 i0 (.int .u8 0) 1 1 Tryz.underlying53 hi hz0 hz1 hz2 rfl (by decide) v N xs rfl ap8 ad M sc news rfl hlen ae7 ab0 hM hmx hby (aaq _) _ rfl ?_;intro g cap w3 ai4 K' ah9 ap9;have q0:=K'.cell f02 (Ne.symm hvb);have qz:w3.frozen? ⟨b,0,none⟩=false:=(World.frozen?_of_block (K'.block b (World.block_lt_of_cell? _ _ f02) (Ne.symm hvb))).trans fz2)
  |(go_at_call 145;refine(tY _ _ (c23 _ _ K')).mono ?_;rintro e w4 ⟨rfl,rfl⟩)
  |fail)
 go_ret
 refine⟨rfl,g,cap,w3,⟨K'.os.trans hgw.os,K'.tape.trans hgw.tape,K'.output.trans hgw.output,aaL hgw.size K'.size,λk hk m7=>(K'.block k (aa4 hk hgw.size) m7).trans (hgw.block k hk (by simp))⟩,ai4, ?_,rfl⟩
 rcases ah9 with h|h
 ·exact .inl h
 ·exact .inr (by rw[h];exact hgw.size)
def VZ{m n:Nat}{es:List (Lit×DataW Unit)}{w:World}(d9:w.ownsMap Tryz.prog 9 jS m n (.map es)){a:Addr}{u:Value}(h:w.cell? a=some u):a.block≠m:=λe=>by obtain⟨_,_,hq,_⟩:=d9;unfold World.cell? at h;rw[e] at h;simp [hq] at h
def PO{m n:Nat}{es:List (Lit×DataW Unit)}{w:World}(d9:w.ownsMap Tryz.prog 9 jS m n (.map es))(ty:TypeId):(Builtin.len_ #[110] ty #[.map (some m)]).run Tryz.prog w= .ok (.int .i64 (es.length:Nat)) w:=
 d9.len Tryz.underlying110 ty
def PP{d m n:Nat}{room:Int}{es:List (Lit×DataW Unit)}{f:DataW Unit->Nat}{W w:World}(d9:W.ownsMap Tryz.prog 9 jS m n (.map es))(hfl:∀p∈es,∀b:Nat,p.2= .lit (.int .i64 b)->PkF W b (f p.2))(ad2:dp f es<=1073741824)(hS:w.cell? ⟨d,0,none⟩=some (.int .i64 room)/\w.cell? ⟨d,1,none⟩=some (.map (some m))/\(∀ty,(Builtin.len_ #[110] ty #[.map (some m)]).run Tryz.prog w= .ok (.int .i64 (es.length:Nat)) w)/\W.grownBy w none):
 Calls Tryz.prog 191 #[.pointer (some ⟨d,0,none⟩)] w λe w'=>e= .returned (.int .i64 (dp f es:Nat))/\(w'.cell? ⟨d,0,none⟩=some (.int .i64 room)/\w'.cell? ⟨d,1,none⟩=some (.map (some m))/\(∀ty,(Builtin.len_ #[110] ty #[.map (some m)]).run Tryz.prog w'= .ok (.int .i64 (es.length:Nat)) w')/\W.grownBy w' none):=
 (HS d m n es f w hS.2.1 (d9.kept hS.2.2.2 (by simp)) (λp hp b hb=>(hfl p hp b hb).grown hS.2.2.2) ad2).mono λe w' h=>⟨h.1,aS h.2 hS.1,aS h.2 hS.2.1,PO (d9.kept (hS.2.2.2.trans h.2) (by simp)),hS.2.2.2.trans h.2⟩
set_option maxRecDepth 100000 in
theorem uI(d m n M sc:Nat)(room:Int)(es:List (Lit×DataW Unit))(f:DataW Unit->Nat)(s:ByteArray)(news:List Value)(ad:Addr)(w:World)(c0:w.cell? ⟨d,0,none⟩=some (.int .i64 room))
 (c1:w.cell? ⟨d,1,none⟩=some (.map (some m))) (c2:w.cell? ⟨d,2,none⟩=some (.bool false)) (h1:1<=s.size) (h2:s.size<=64)
 (d9:w.ownsMap Tryz.prog 9 jS m n (.map es)) (hfl:∀p∈es,∀b:Nat,p.2= .lit (.int .i64 b)->PkF w b (f p.2)) (ad2:(dp f es:Int)+M<=room) (ab9:room<=1073741824)
 (c7:∀W:World,W.heap[m]? =w.heap[m]? ->(Instr.lookup 110 (.map (some m)) (.string s) false).run Tryz.prog W= .ok (.pointer none) W)
 (al1:es.length<4096) (hn:n<4096)
 (hl:news.length=M) (hM:0<M) (af6:∀j u,news[j]? =some u->w.cell? (ad.add j)=some u) (ab0:∀u∈news,u.oneCell'=true):
 Calls Tryz.prog 132 #[.pointer (some ⟨d,0,none⟩),.string s,.slice (some ad) M sc] w λe w'=>e= .returned (.int .i64 0)/\∃b g cap w1,w.grownBy w1 (some m)/\w.heap.size<=b/\w.heap.size<=g/\b≠g/\b<w1.heap.size/\
  w1.ownsMap Tryz.prog 9 jS m (n+1) ((DataW.map es).put (.string s.data.toList) (.lit (.int .i64 b)))/\w1.ownsRow 0 5 1 (.slice (some ⟨g,0,none⟩) M cap) M news/\w1.heap[b]? =some (.cells #[.slice none 0 0,.int .u32 0] 232)/\w'=w1.setCell ⟨b,0,none⟩ (.slice (some ⟨g,0,none⟩) M cap):=by
 obtain⟨i0,hi,hz0,hz1,hz2⟩:=info_parts Cw
 have aj2:=d9.lt
 have hg:=World.grownBy_alloc w (.cells #[.string s] 9) none
 have cs:(w.alloc (.cells #[.string s] 9)).cell? ⟨w.heap.size,0,none⟩=some (.string s):=by simp
 have ag8:=c7 (w.alloc (.cells #[.string s] 9)) (heap_alloc_old w _ aj2)
 have c0':=aS hg c0
 have c1':=aS hg c1
 have c2':=aS hg c2
 have ad3:=d9.kept hg (by simp)
 have ai3:∀p∈es,∀b:Nat,p.2= .lit (.int .i64 b)->PkF (w.alloc (.cells #[.string s] 9)) b (f p.2):=λp hp b hb=>(hfl p hp b hb).grown hg
 have hle:dp f es<=1073741824:=by omega
 clear c7 d9 hfl c0 c1
 go_enter Tryz.func132,Tryz.ntmps132
 go_wp2_with (first
  |(go_at_call 144;refine(Er _ _ _ _ c2' h1 h2 cs).mono ?_;rintro e w2 ⟨rfl,rfl⟩)
  |fail)
 generalize hT:dp f es=T at ad2
 have am6:decide (IntKind.i64.wrap (room-(T:Int))<(M:Int))=false:=by rw[IntKind.wrap_i64];exact decide_eq_false (by omega)
 have ap_:decide (4096<=((es.length:Nat):Int))=false:=decide_eq_false (by omega)
 first
 |(go_region_held (λw'=>w'.cell? ⟨d,0,none⟩=some (.int .i64 room)/\w'.cell? ⟨d,1,none⟩=some (.map (some m))/\(∀ty,(Builtin.len_ #[110] ty #[.map (some m)]).run Tryz.prog w'= .ok (.int .i64 (es.length:Nat)) w')/\(w.alloc (.cells #[.string s] 9)).grownBy w' none)
  (first|exact⟨c0',c1',PO (w:=(w.alloc (.cells #[.string s] 9)).drew) ad3,rfl,rfl,rfl,aac _,λ_ _ _=>rfl⟩|assumption)
  (first|(go_at_call 191;refine(PP ad3 ai3 hle (by assumption)).mono ?_;rintro e w2 ⟨rfl,f9⟩)))
 |fail
 obtain⟨a0,a1,_,hg2⟩:=f9
 have hgw:w.grownBy w2 none:=hg.trans hg2
 have ai5:=ad3.kept hg2 (by simp)
 have ae7:∀j u,news[j]? =some u->w2.cell? (ad.add j)=some u:=λj u hj=>aS hgw (af6 j u hj)
 have c22:w2.cell? ⟨d,2,none⟩=some (.bool false):=aS hgw c2
 have hlen:news.length=M * 1:=by omega
 have hmx:0+M<=maxLen:=by unfold maxLen;omega
 have hby:(0+M) * 1<=140737488355328:=by omega
 have aj1:keyOf Tryz.prog 9 (.string s)=some (.string s.data.toList):=WideMaps.keyOf_string_mk Tryz.underlying9 (by unfold maxLen;omega)
 have qT:∀(w:World) (r:Option Nat),(binOp .eql 110 (.map r) (.map none)).run Tryz.prog w= .ok (.bool r.isNone) w:=λw r=>run_eql_map_nil w _ _ _ r Tryz.underlying110
 have a1':=aS (World.grownBy_alloc w2 (.cells #[.slice none 0 0,.int .u32 0] 232) none) a1
 have as_:(w2.alloc (.cells #[.slice none 0 0,.int .u32 0] 232)).heap[w2.heap.size]? =some (.cells #[.slice none 0 0,.int .u32 0] 232):=heap_alloc_new w2 _
 have T':(w2.alloc (.cells #[.slice none 0 0,.int .u32 0] 232)).heap.size=w2.heap.size+1:=by simp
 have hm2:m<w2.heap.size:=aa4 aj2 hgw.size
 have af4:∀w3,(w2.alloc (.cells #[.slice none 0 0,.int .u32 0] 232)).grownBy w3 (some m)->w3.heap[w2.heap.size]? =some (.cells #[.slice none 0 0,.int .u32 0] 232)/\w3.cell? ⟨w2.heap.size,0,none⟩=some (.slice none 0 0)/\
  w3.frozen? ⟨w2.heap.size,0,none⟩=false/\w3.cell? ⟨d,2,none⟩=some (.bool false)/\∀j u,news[j]? =some u->w3.cell? (ad.add j)=some u:=λw3 h=>by
  have hb:=(h.block w2.heap.size (by rw[T'];omega) (λe=>by injection e with e;omega)).trans as_
  refine⟨hb,by simp [World.cell?,hb],by simp [World.frozen?,hb],h.cell (aS (World.grownBy_alloc w2 _ none) c22) (λe=>VZ ai5 c22 (Option.some.inj e)),λj u hj=>h.cell (aS (World.grownBy_alloc w2 _ none) (ae7 j u hj)) (λe=>VZ ai5 (ae7 j u hj) (Option.some.inj e))⟩
 have at1:w2.heap.size≠d:=λe=>by have:=World.block_lt_of_cell? _ _ c22;simp at this;omega
 clear ad3 ai3 hle am6 ap_ af6 ag8 cs c0' c1' c2' c2
 go_wp2_with (first
  |(at_mapUpdate;refine wpList_mapUpdate_own _ rfl _ _ _ 110 rfl 9 230 pM Tryz.underlying110 jS m n _ rfl (ai5.alloc _) (by unfold maxLen;omega) _ _ _ rfl rfl aj1 (.lit (.int .i64 w2.heap.size)) [] rfl ?_;intro w3 ai4 K';obtain⟨p0,p1,p2,p3,p4⟩:=af4 w3 K')
  |(at_builtin;refine wpList_append_lies _ rfl _ _ 53 rfl 0 5 i0 (.int .u8 0) 1 1 Tryz.underlying53 hi hz0 hz1 hz2 rfl (by decide) (.slice none 0 0) 0 [] rfl (World.ownsRow_nil _ _ _ _) ad M sc news rfl hlen p4 ab0 hM hmx hby (aaq _) _ rfl ?_;intro g cap w4 aq0 ae8 at2 av1;have r1:=aS ae8 p1;have r2:w4.frozen? ⟨w2.heap.size,0,none⟩=false:=(World.frozen?_of_block (ae8.block _ (World.block_lt_of_cell? _ _ p1) (by simp [Value.ownBlock]))).trans p2)
  |(go_at_call 145;refine(tY _ _ (by rw[World.cell?_setCell_other _ _ _ _ (λe=>absurd (congrArg Addr.block e) at1)];exact aS ae8 p3)).mono ?_;rintro e w5 ⟨rfl,rfl⟩)
  |fail)
 go_ret
 have hga:w.grownBy w3 (some m):=((hgw.but _).trans (World.grownBy_alloc w2 _ _)).trans K'
 have h4:w3.grownBy w4 none:=ae8
 have hg3:g=w3.heap.size:=by
  rcases at2 with h|h
  ·cases h
  ·exact h
 have ap9:w2.heap.size<w3.heap.size:=by simpa using World.block_lt_of_cell? _ _ p1
 have ai6:w4.ownsRow 0 5 1 (.slice (some ⟨g,0,none⟩) (0+M) cap) (0+M) ([]++news):=by simpa using aq0
 rw[aap] at ai6
 exact⟨rfl,w2.heap.size,g,cap,w4,hga.trans (h4.but _),hgw.size,by rw[hg3];exact aaL hgw.size (by omega),by omega,by have:=h4.size;omega,ai4.kept h4 (by simp),ai6,(h4.block _ ap9 (by simp)).trans p0,rfl⟩
def Yp(room:Int)(w:World)(h1:0<=room)(h2:room<=1073741824):
 Calls Tryz.prog 15 #[.int .i64 room] w λe w'=>e= .returned (.tuple #[.pointer (some ⟨w.heap.size+1,0,none⟩),.int .i64 0])/\w'=(w.alloc (.map #[] 0)).alloc (.cells #[.int .i64 room,.map (some w.heap.size),.bool false,.int .i64 0] 112):=by
 have O':=@run_makeMap Tryz.prog
 go_enter Tryz.func15,Tryz.ntmps15
 go_wp2
 go_ret2
 exact⟨rfl,rfl⟩
end Go.Proofs.YtomfobckhogpnaaGreatDoor
