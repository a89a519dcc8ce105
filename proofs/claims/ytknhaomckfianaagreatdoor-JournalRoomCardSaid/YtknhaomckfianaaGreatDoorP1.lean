/- Part 1. -/
import Derived.IntWalk
import Derived.Laws.Strings
import Derived.DeepKeys
import Derived.Test.YtknhaomckfianaaGreatDoorP0
set_option linter.all false
namespace Go.Sym
def mE(n:Int):IntKind.wrap .u64 n=n%18446744073709551616:=by unfold IntKind.wrap;simp only [IntKind.signed,Bool.false_and,Bool.false_eq_true,if_false,IntKind.bits];rfl
def iy{j:IntKind}{n:Int}{f:Int->Tr}{σ:St}{K:Fin}(h:run (fE j n f) σ K=true):run (f (j.wrap n)) σ K=true:=by
 unfold fE at h;split at h
 ·rename_i a;rcases bf h with⟨hb,h⟩|⟨_,h⟩
  ·have hb:=aU hb;have h:=fg h;have e:IntKind.wrap .i64 (Int.ofNat a)=Int.ofNat a:=IntWalk.i64_in _ (by rw[aaZ];omega);rw[e];exact h
  ·exact Sf h
 ·rename_i a;have h:=fg h;have e:IntKind.wrap .u64 (Int.ofNat a)=Int.ofNat (a%18446744073709551616):=by rw[mE,aaZ,aaZ];omega
  rw[e];exact h
 ·rename_i a;have h:=fg h;have e:IntKind.wrap .u32 (Int.ofNat a)=Int.ofNat (a%4294967296):=by rw[IntKind.wrap_u32,aaZ,aaZ];omega
  rw[e];exact h
 ·rename_i a;have h:=fg h;have e:IntKind.wrap .u8 (Int.ofNat a)=Int.ofNat (a%256):=by rw[IntKind.wrap_u8,aaZ,aaZ];omega
  rw[e];exact h
 ·rename_i a;have h:=fg h;have e:IntKind.wrap .u64 (Int.negSucc a)=Int.ofNat (18446744073709551615-a%18446744073709551616):=by rw[mE,Int.negSucc_eq,aaZ];omega
  rw[e];exact h
 ·rename_i a;have h:=fg h;have e:IntKind.wrap .u32 (Int.negSucc a)=Int.ofNat (4294967295-a%4294967296):=by rw[IntKind.wrap_u32,Int.negSucc_eq,aaZ];omega
  rw[e];exact h
 ·rename_i a;have h:=fg h;have e:IntKind.wrap .u8 (Int.negSucc a)=Int.ofNat (255-a%256):=by rw[IntKind.wrap_u8,Int.negSucc_eq,aaZ];omega
  rw[e];exact h
 ·rename_i a;rcases bf h with⟨hb,h⟩|⟨_,h⟩
  ·have hb:=aU hb;have h:=fg h;have e:IntKind.wrap .i64 (Int.negSucc a)=Int.negSucc a:=IntWalk.i64_in _ (by rw[Int.negSucc_eq];omega);rw[e];exact h
  ·exact Sf h
 ·exact Sf h
def DP(n:Int):IntKind.wrap .u16 n=n%65536:=by unfold IntKind.wrap;simp only [IntKind.signed,Bool.false_and,Bool.false_eq_true,if_false,IntKind.bits];rfl
def gT{j:IntKind}{n:Int}{f:Int->Tr}{σ:St}{K:Fin}(h:run (jW j n f) σ K=true):run (f (j.wrap n)) σ K=true:=by
 cases j with
 |u8=>rw[IntKind.wrap_u8];exact h
 |u16=>rw[DP];exact h
 |u32=>rw[IntKind.wrap_u32];exact h
 |u64=>rw[mE];exact h
 |i64=>
  rcases bU h with⟨hp,h⟩|⟨hp,h⟩
  ·rw[IntWalk.i64_in _ hp];exact h
  ·exact h
 |_=>exact h
def oY(k:IntKind):ai k=2 ^ k.bits:=by cases k <;> rfl
def mF(k:IntKind):aZ k=k.bits:=by cases k <;> rfl
def oZ(k:IntKind)(n:Int):aD (ai k) n=(BitVec.ofInt k.bits n).toNat:=by
 rw[BitVec.toNat_ofInt,oY]
 cases n with
 |ofNat a=>show a%2 ^ k.bits=((a:Int)%((2 ^ k.bits:Nat):Int)).toNat;rw[←abB];rfl
 |negSucc a=>show 2 ^ k.bits-1-a%2 ^ k.bits=_;have hp:0<2 ^ k.bits:=aaO _;rw[Int.negSucc_emod _ (by exact_mod_cast hp), ←abB];have:a%2 ^ k.bits<2 ^ k.bits:=Nat.mod_lt _ hp;generalize a%2 ^ k.bits=r at *;generalize 2 ^ k.bits=m at *;omega
def dQ(P:Program)(w:World)(j:IntKind)(x y:Int):
 ((Op.intBits .and j x y).run P w= .ok (.int j (j.wrap (Int.ofNat (Nat.land (aD (ai j) x) (aD (ai j) y))))) w)/\
 ((Op.intBits .or j x y).run P w= .ok (.int j (j.wrap (Int.ofNat (Nat.lor (aD (ai j) x) (aD (ai j) y))))) w)/\
 ((Op.intBits .xor j x y).run P w= .ok (.int j (j.wrap (Int.ofNat (Nat.xor (aD (ai j) x) (aD (ai j) y))))) w)/\
 ((Op.intBits .andNot j x y).run P w= .ok (.int j (j.wrap (Int.ofNat (Nat.land (aD (ai j) x) (Nat.sub (Nat.sub (ai j) 1) (aD (ai j) y)))))) w):=by
 refine⟨?_, ?_, ?_, ?_⟩
 ·simp only [Op.intBits,aac,oZ,BitVec.toNat_and];rfl
 ·simp only [Op.intBits,aac,oZ,BitVec.toNat_or];rfl
 ·simp only [Op.intBits,aac,oZ,BitVec.toNat_xor];rfl
 ·have e:Nat.sub (Nat.sub (ai j) 1) (aD (ai j) y)=(~~~ (BitVec.ofInt j.bits y)).toNat:=by rw[BitVec.toNat_not,oZ,oY];rfl
  rw[e];simp only [Op.intBits,aac,oZ,BitVec.toNat_and];rfl
section
variable{P:Program}{w0:World}{ρ:Rho}{w:World}{σ:St}{K:Fin}{k:AV->Tr}
def iz{b:Bool}(h:run (eW b k) σ K=true):run (k (.bool b)) σ K=true:=by rcases bf h with⟨e,h⟩|⟨e,h⟩ <;> subst e <;> exact h
def mG{op:BinOp}{j:IntKind}{x y:Int}(hS:SI σ)(hG:Good w0 ρ σ.h w)(h:run (Pd op x y (λb=>eW b k) .fail) σ K=true):
 Res P w0 ρ w k K (Op.intCmp op x y):=by
 have key:∀b,(Op.intCmp op x y).run P w= .ok (.bool b) w->run (eW b k) σ K=true->Res P w0 ρ w k K (Op.intCmp op x y):=
  λb hb hr=>.plain (iz hr) hS hG (.bool b) hb
 unfold Pd at h
 split at h
 ·rename_i a b;cases op <;> first
   |exact(ac h).elim
   |exact key _ (by simp only [Op.intCmp,aac];congr 2;rw[Bool.eq_iff_iff];simp [ak];omega) h
   |exact key _ (by simp only [Op.intCmp,aac];congr 2;rw[Bool.eq_iff_iff];simp) h
   |exact key _ (by simp only [Op.intCmp,aac];congr 2;rw[Bool.eq_iff_iff];simp [ak]) h
 ·cases op <;> first
   |exact(ac h).elim
   |exact key _ (by simp only [Op.intCmp,aac]) h
def rQ{n:Int}(h:U3 n=false):n≠0:=by intro e;subst e;cases h
def kD(op:BinOp)(j:IntKind)(x y:Int):Sem Value:=match op with | .add | .sub | .mul=>Op.intArith op j x y | .quo | .rem=>Op.intDiv op j x y | .and | .or | .xor | .andNot=>Op.intBits op j x y|_=>Op.intCmp op x y
def DQ{op:BinOp}{j:IntKind}{x y:Int}(hS:SI σ)(hG:Good w0 ρ σ.h w)(WY:op≠ .shl/\op≠ .shr)(h:run (Bh op j x y k) σ K=true):
 Res P w0 ρ w k K (kD op j x y):=by
 obtain⟨b1,b2,b3,b4⟩:=dQ P w j x y
 cases op
 case add=>exact .plain (iy h) hS hG (.int _ _) rfl
 case sub=>exact .plain (iy h) hS hG (.int _ _) rfl
 case mul=>exact .plain (iy h) hS hG (.int _ _) rfl
 case quo=>
  obtain⟨h1,h2⟩:=kB h
  exact .plain (iy h2) hS hG (.int _ _) (by show(Op.intDiv .quo j x y).run P w=_;simp only [Op.intDiv,if_neg (rQ h1)];rfl)
 case rem=>
  obtain⟨h1,h2⟩:=kB h
  exact .plain (Sf h2) hS hG (.int _ _) (by show(Op.intDiv .rem j x y).run P w=_;simp only [Op.intDiv,if_neg (rQ h1)];rfl)
 case and=>exact .plain (iy h) hS hG (.int _ _) b1
 case or=>exact .plain (iy h) hS hG (.int _ _) b2
 case xor=>exact .plain (iy h) hS hG (.int _ _) b3
 case andNot=>exact .plain (iy h) hS hG (.int _ _) b4
 case shl=>exact absurd rfl WY.1
 case shr=>exact absurd rfl WY.2
 case eql=>exact mG (op:=.eql) (j:=j) hS hG h
 case neq=>exact mG (op:=.neq) (j:=j) hS hG h
 case lss=>exact mG (op:=.lss) (j:=j) hS hG h
 case leq=>exact mG (op:=.leq) (j:=j) hS hG h
 case gtr=>exact mG (op:=.gtr) (j:=j) hS hG h
 case geq=>exact mG (op:=.geq) (j:=j) hS hG h
def tV(a b:Nat):jN a b=min a b:=by
 unfold jN;rw[ak];by_cases h:a<=b
 ·rw[if_pos (Nat.ble_eq.mpr h)];omega
 ·rw[if_neg (λe=>h (aU e))];omega
def wj{op:BinOp}{j jj:IntKind}{x y:Int}(hS:SI σ)(hG:Good w0 ρ σ.h w)(h:run (F8 op j x y k) σ K=true):
 Res P w0 ρ w k K (Op.shift op j x jj y):=by
 obtain⟨n,rfl,h⟩:=tT h
 have e:min ((n:Int).toNat) j.bits=jN n (aZ j):=by rw[tV,mF];rfl
 cases op
 case shl=>
  refine .plain (iy h) hS hG (.int _ _) ?_
  simp only [Op.shift,if_neg (show ¬(n:Int)<0 by omega),e,aac]
  congr 2
 case shr=>
  have e2:(Op.shift .shr j x jj (n:Int)).run P w= .ok (.int j (x.fdiv (((2 ^ jN n (aZ j):Nat):Int)))) w:=by simp only [Op.shift,if_neg (show ¬(n:Int)<0 by omega),e,aac];rw[Int.natCast_pow];rfl
  cases x with
  |ofNat a=>
   have h:run (fN (Nat.div a (Nat.pow 2 (jN n (aZ j)))) λn=>k (.int j (.ofNat n))) σ K=true:=h
   refine .plain (fg h) hS hG (.int _ _) ?_
   rw[e2]
   congr 2
   show(Int.ofNat a).fdiv (Int.ofNat (2 ^ jN n (aZ j)))=Int.ofNat (a/2 ^ jN n (aZ j))
   cases a with
   |zero=>rw[Nat.zero_div];rfl
   |succ a=>rfl
  |negSucc a=>
   have h:run (fI ((Int.negSucc a).fdiv (.ofNat (Nat.pow 2 (jN n (aZ j))))) λn=>k (.int j n)) σ K=true:=h
   exact .plain (Sf h) hS hG (.int _ _) e2
 all_goals exact(ac h).elim
def oa:∀(x y:List Nat),vL x y=true↔x=y:=by
 intro x
 induction x with
 |nil=>intro y;cases y <;> simp [vL]
 |cons a x ih=>
  intro y
  cases y with
  |nil=>simp [vL]
  |cons b y=>simp only [vL,ak];by_cases e:a=b <;> simp [e,ih]
def dS{s t:ByteArray}(h:bytesOf s=bytesOf t):s=t:=by have:s.data.toList=t.data.toList:=List.map_inj_right (λa b e=>UInt8.toNat_inj.mp e) |>.mp h;cases s;cases t;simp at this;simp [this]
def gq(s t:ByteArray):vL (bytesOf s) (bytesOf t)=(s.toList==t.toList):=by
 rw[Bool.eq_iff_iff,oa];constructor
 ·intro h;rw[dS h];simp
 ·intro h;have h:s.toList=t.toList:=by simpa using h
  rw[ByteArray.toList_eq,ByteArray.toList_eq] at h;unfold bytesOf;rw[h]
def zH{l:List Nat}{k:List Nat->Tr}(h:run (mw l k) σ K=true):run (k l) σ K=true:=by
 induction l generalizing k with
 |nil=>exact h
 |cons a l ih=>have h:run (fN a λa=>mw l λl=>k (a::l)) σ K=true:=h;exact ih (fg h)
def eO{l:List AV}{k:List AV->Tr}(h:run (eX l k) σ K=true):run (k l) σ K=true:=by
 induction l generalizing k with
 |nil=>exact h
 |cons a l ih=>exact ih h
end
end Go.Sym
namespace Go.Sym
def LR.drop{ρ:Rho}{l:List AV}{vs:List Value}(h:LR ρ l vs)(n:Nat):LR ρ (l.drop n) (vs.drop n):=
 ⟨by simp [h.1],λi a v ha hv=>h.2 (n+i) a v (by simpa using ha) (by simpa using hv)⟩
def LR.take{ρ:Rho}{l:List AV}{vs:List Value}(h:LR ρ l vs)(n:Nat):LR ρ (l.take n) (vs.take n):=by
 refine⟨by simp [h.1],λi a v ha hv=>?_⟩;rw[aaV] at ha hv;split at ha
 ·rename_i hi;rw[if_pos hi] at hv;exact h.2 i a v ha hv
 ·cases ha
section
variable{P:Program}{w0:World}{ρ:Rho}{w:World}{σ:St}{K:Fin}{k:AV->Tr}
def bp{t:TypeId}{k:TypeDesc->Tr}(h:run (be P t k) σ K=true):∃d,P.underlying t=some d/\run (k d) σ K=true:=br h
def Oa{t:TypeId}{k:TypeInfo->Tr}(h:run (Gc P t k) σ K=true):∃i,P.info? t=some i/\run (k i) σ K=true:=br h
def bE{t:TypeId}{k:Nat->Tr}(h:run (bB P t k) σ K=true):∃i,P.info? t=some i/\run (k i.size) σ K=true:=by obtain⟨i,h1,h2⟩:=br (k:=λi:TypeInfo=>fN i.size k) h;exact⟨i,h1,fg h2⟩
def bJ{t:TypeId}{d:TypeDesc}(h:P.underlying t=some d):(isAgg t).run P w= .ok (bH d) w:=by simp only [isAgg,aaa,run_underlying h,aad];cases d <;> rfl
def am{t:TypeId}{i:TypeInfo}(h:P.info? t=some i):(sizeOf t).run P w= .ok i.size w:=by simp [sizeOf,typeInfo,aaa,run_program,h]
def iS{t:TypeId}{d:TypeDesc}{i:TypeInfo}(hu:P.underlying t=some d)(hi:P.info? t=some i){l:List AV}{cs:Array Value}{off:Nat}{a:AV}(hl:LR ρ l cs.toList)(ha:(if bH d then some (AV.agg ((l.drop off).take i.size)) else l[off]?)=some a):∃v,(part t cs off).run P w= .ok v w/\VR ρ a v:=by
 cases hd:bH d with
 |true=>
  rw[hd,if_pos rfl] at ha
  injection ha with ha;subst ha
  refine⟨.agg (cs.extract off (off+i.size)), ?_, ?_⟩
  ·simp only [part,aaa,bJ hu,hd,aad,if_true,am hi,aac]
  ·have:(cs.extract off (off+i.size)).toList=(cs.toList.drop off).take i.size:=by rw[Array.toList_extract];simp [List.extract]
   obtain⟨h1,h2⟩:=LR.arr (ρ:=ρ) (l:=(l.drop off).take i.size) (cs:=cs.extract off (off+i.size)) (by rw[this];exact(hl.drop off).take i.size);exact .agg _ _ h1 h2
 |false=>
  rw[hd,if_neg (by simp)] at ha
  obtain⟨v,hv,hr⟩:=hl.get ha
  refine⟨v, ?_,hr⟩
  have U':cs[off]? =some v:=by simpa using hv
  simp only [part,aaa,bJ hu,hd,aad,Bool.false_eq_true,if_false,U',aac]
set_option maxHeartbeats 2000000 in
theorem jw:∀(f:Nat) (g:Nat) (t:TypeId) (d:TypeDesc) (x y:AV) (v u:Value) (r:Bool) (D:Nat),P.underlying t=some d->(bH d=true->e_ P g t=true)->
 VR ρ x v->VR ρ y u->dZ P f d x y=some r->f<=D->(Op.equalIn D t v u).run P w= .ok r w:=by
 intro f
 induction f with
 |zero=>intro g t d x y v u r D _ _ _ _ h;simp [dZ] at h
 |succ f ih=>
  intro g t d x y v u r D hu hc hx hy h hD
  obtain⟨D,rfl⟩:∃D',D=D'+1:=⟨D-1,by omega⟩
  unfold dZ at h
  split at h
  ·cases hx;cases hy;injection h with h;subst h;simp [Op.equalIn,run_underlying hu]
  ·cases hx;cases hy;split at h
   ·rename_i e;subst e;injection h with h;subst h;simp [Op.equalIn,run_underlying hu]
   ·cases h
  ·cases hx;cases hy;injection h with h;subst h;rw[gq, ←beq_toListBytes];simp [Op.equalIn,run_underlying hu]
  all_goals first
   |(cases hx <;> cases hy <;> (injection h with h;subst h;simp [Op.equalIn,run_underlying hu];done))
   |skip
  ·rename_i e b g' o b' g2 o';split at h
   ·rename_i Xy;obtain⟨e1,e2⟩:=Xy;subst e1;subst e2;split at h
    ·rename_i i hi;split at h
     ·cases h
     ·rename_i m8
      injection h with h;subst h
      cases hx with
      |ptr _ _ _ hm hh ho=>
       cases hy with
       |ptr _ _ _ WT Xb ho2=>
        rw[hh] at Xb;injection Xb with Xb;subst Xb;have e3:((⟨hm.blk,o-hm.shift,none⟩:Addr)==⟨hm.blk,o'-hm.shift,none⟩)=(o==o'):=by
         by_cases e4:o=o'
         ·subst e4;simp
         ·have h1:(o==o')=false:=by simpa using e4
          rw[h1]
          cases hb:((⟨hm.blk,o-hm.shift,none⟩:Addr)==⟨hm.blk,o'-hm.shift,none⟩) with
          |false=>rfl
          |true=>have:=eq_of_beq hb;injection this with _ h2 _;omega
        simp [Op.equalIn,run_underlying hu,am hi,m8,sameAddr,e3]
    ·cases h
   ·cases h
  ·rename_i ms t1 a t2 b
   cases hx with
   |iface _ _ va ZZ=>
    cases hy with
    |iface _ _ vb Z0=>
     split at h
     ·rename_i e;subst e;split at h
      ·rename_i i d' hi Wx;split at h
       ·rename_i X4;simp only [Bool.and_eq_true,Bool.not_eq_true'] at X4;have:=ih g t1 d' a b va vb r D Wx (λhq=>by rw[X4.2] at hq;cases hq) ZZ Z0 h (by omega);simp [Op.equalIn,run_underlying hu,typeInfo,run_program,hi,X4.1,this]
       ·cases h
      ·cases h
     ·rename_i e;injection h with h;subst h;simp [Op.equalIn,run_underlying hu,e]
  ·rename_i len e xs ys;split at h
   ·rename_i i d' hi he;split at h
    ·rename_i X4
     simp only [Bool.and_eq_true,beq_iff_eq,Bool.not_eq_true',decide_eq_true_eq] at X4
     obtain⟨⟨⟨o9,Zn⟩,hlx⟩,hly⟩:=X4
     cases hx with
     |agg _ cs h1 h2=>
      cases hy with
      |agg _ ds k1 k2=>
       rw[run_equalIn_array w D cs ds hu hi];have m8:P.cellsOf e=1:=by simp [Program.cellsOf,hi,o9]
       rw[m8];have lx:=LR.of_arr h1 h2;have ly:=LR.of_arr k1 k2;have key:∀(n i0:Nat) (Zz ZA:List AV) (r:Bool),LR ρ Zz (cs.toList.drop i0)->LR ρ ZA (ds.toList.drop i0)->Zz.length=n->ZA.length=n->dZ.eqArr (dZ P f d') Zz ZA=some r->
        (Op.eqItems D e 1 cs ds (List.range' i0 n)).run P w= .ok r w:=by
        intro n
        induction n with
        |zero=>
         intro i0 Zz ZA r lx ly l1 l2 h
         rw[List.length_eq_zero_iff] at l1 l2;subst l1;subst l2
         simp only [dZ.eqArr] at h;injection h with h;subst h
         simp [Op.eqItems]
        |succ n ihn=>
         intro i0 Zz ZA r lx ly l1 l2 h
         cases Zz with
         |nil=>simp at l1
         |cons a Zz=>
          cases ZA with
          |nil=>simp at l2
          |cons b ZA=>
           obtain⟨v1,YK,e1,r1,lx'⟩:=lx.cons_inv
           obtain⟨u1,us1,e2,r2,ly'⟩:=ly.cons_inv
           have oz:cs[i0]? =some v1:=by have:=congrArg (·[0]?) e1;simpa using this
           have hu1:ds[i0]? =some u1:=by have:=congrArg (·[0]?) e2;simpa using this
           have lx2:LR ρ Zz (cs.toList.drop (i0+1)):=by
            have:cs.toList.drop (i0+1)=YK:=by rw[←ZW,Nat.add_comm] at *;have:=congrArg (List.drop 1) e1;simpa [ZW,Nat.add_comm] using this
            rw[this];exact lx'
           have ly2:LR ρ ZA (ds.toList.drop (i0+1)):=by
            have:ds.toList.drop (i0+1)=us1:=by have:=congrArg (List.drop 1) e2;simpa [ZW,Nat.add_comm] using this
            rw[this];exact ly'
           have p1:(part e cs (i0 * 1)).run P w= .ok v1 w:=by simp only [aaC,part,aaa,bJ he,Zn,aad,Bool.false_eq_true,if_false,oz,aac]
           have p2:(part e ds (i0 * 1)).run P w= .ok u1 w:=by simp only [aaC,part,aaa,bJ he,Zn,aad,Bool.false_eq_true,if_false,hu1,aac]
           simp only [dZ.eqArr] at h
           simp only [List.range'_succ,Op.eqItems,aaa,p1,p2,aad]
           split at h
           ·rename_i hq;rw[ih g e d' a b v1 u1 true D he (by rw[Zn];intro c;cases c) r1 r2 hq (by omega)];simp only [aad,Bool.not_true,Bool.false_eq_true,if_false];exact ihn (i0+1) Zz ZA r lx2 ly2 (by simpa using l1) (by simpa using l2) h
           ·rename_i hq
            cases r with
            |true=>exact absurd h hq
            |false=>rw[ih g e d' a b v1 u1 false D he (by rw[Zn];intro c;cases c) r1 r2 h (by omega)];simp
       rw[List.range_eq_range'];exact key len 0 xs ys r (by simpa using lx) (by simpa using ly) hlx hly h
    ·cases h
   ·cases h
  ·rename_i fs xs ys
   cases hx with
   |agg _ cs h1 h2=>
    cases hy with
    |agg _ ds k1 k2=>
     have Yk:=hc rfl;obtain⟨g,rfl⟩:∃g',g=g'+1:=by
      cases g with
      |zero=>simp [e_] at Yk
      |succ g=>exact⟨g,rfl⟩
     simp only [e_,hu,Bool.and_eq_true,Bool.not_eq_true',abj] at Yk;have Yj:P.fieldsOf t=fs:=by simp [Program.fieldsOf,hu]
     rw[run_equalIn_struct w D t cs ds (by rw[Yj];exact hu) Yk.1,Yj];have lx:=LR.of_arr h1 h2;have ly:=LR.of_arr k1 k2;have key:∀(l:List Field) (r:Bool),(∀fd∈l,e_ P g fd.type=true)->dZ.eqFs P (dZ P f) l xs ys=some r->(Op.eqFields D cs ds l).run P w= .ok r w:=by
      intro l
      induction l with
      |nil=>intro r _ h;simp only [dZ.eqFs] at h;injection h with h;subst h;simp [Op.eqFields]
      |cons fd l ihl=>
       intro r hl h;simp only [dZ.eqFs] at h;simp only [Op.eqFields];by_cases hn:fd.name= "_"
       ·rw[if_pos hn] at h;rw[if_neg (by simp [hn])];exact ihl r (λx hx=>hl x (by simp [hx])) h
       ·rw[if_neg hn] at h;rw[if_pos hn];split at h
        ·rename_i i d' hi he;split at h
         ·rename_i a b ha hb;obtain⟨v1,p1,r1⟩:=iS (w:=w) he hi lx ha;obtain⟨u1,p2,r2⟩:=iS (w:=w) he hi ly hb;simp only [aaa,p1,p2,aad];split at h
          ·rename_i hq;rw[ih g fd.type d' a b v1 u1 true D he (λ_=>hl fd (by simp)) r1 r2 hq (by omega)];simp only [aad,Bool.not_true,Bool.false_eq_true,if_false];exact ihl r (λx hx=>hl x (by simp [hx])) h
          ·rename_i hq
           cases r with
           |true=>exact absurd h hq
           |false=>rw[ih g fd.type d' a b v1 u1 false D he (λ_=>hl fd (by simp)) r1 r2 h (by omega)];simp
         ·cases h
        ·cases h
     exact key fs.toList r (λfd ZC=>Yk.2 fd ZC) h
  ·cases h
end
end Go.Sym
namespace Go.Sym
section
variable{P:Program}{w0:World}{ρ:Rho}{w:World}{σ:St}{K:Fin}{k:AV->Tr}
def mH:Value->Value->Bool
 | .int _ _,.int _ _ | .float _ _,.float _ _ | .complex _ _ _,.complex _ _ _ | .string _,.string _=>false
 |_,_=>true
def eS{t:TypeId}{v u:Value}(h:mH v u=true):binOp .eql t v u=(do pure (.bool (←Op.equal t v u))):=by cases v <;> cases u <;> first|rfl|cases h
def gt{t:TypeId}{v u:Value}(h:mH v u=true):binOp .neq t v u=(do pure (.bool (!(←Op.equal t v u)))):=by cases v <;> cases u <;> first|rfl|cases h
def aO:AV->Nat
 | .int _ _=>1 | .str _=>2 | .opq _=>3 | .anyB=>3 | .anyI _=>3 | .osl _=>3 | .opc _=>3 | .sI _ _=>3 | .sB _=>3 | .sS _=>3 | .any1=>3 | .cptr _=>3 | .cv _=>3 | .gsl .. =>3 | .gptr .. =>3 | .aptr .. =>3 | .agg _=>4 | .nili=>5|_=>0
def lq{x y:AV}{v u:Value}(hx:VR ρ x v)(hy:VR ρ y u)(h1:aO x≠3)(h2:aO y≠3)(hi:¬(aO x=1/\aO y=1))(hs:¬(aO x=2/\aO y=2)):mH v u=true:=by cases hx <;> simp [aO] at h1 <;> cases hy <;> simp [aO] at h2 hi hs <;> rfl
def Pm:Value->Value->Bool
 | .nilIface,.nilIface | .agg _,.agg _=>false
 |_,_=>true
def bu{op:BinOp}{t:TypeId}{ox oy:Operand}{v u:Value}(h:Pm v u=true):(eqGuard op t ox oy v u).run P w= .ok () w:=by cases op <;> first|rfl|(cases v <;> cases u <;> first|rfl|cases h)
def fZ{op:BinOp}{t:TypeId}{ox oy:Operand}{x y:AV}{v u:Value}(hx:VR ρ x v)(hy:VR ρ y u)(h1:aO x≠3)(h2:aO y≠3)(hn:¬(aO x=5/\aO y=5)∨nj ox=true∨nj oy=true)(ha:¬(aO x=4/\aO y=4)):
 (eqGuard op t ox oy v u).run P w= .ok () w:=by
 rcases hn with hn|hn
 ·refine bu ?_;cases hx <;> simp [aO] at h1 <;> cases hy <;> simp [aO] at h2 hn ha <;> rfl
 ·by_cases h5:aO x=5/\aO y=5
  ·have e1:x= .nili:=by cases x <;> first|rfl|(simp [aO] at h5)
   have e2:y= .nili:=by cases y <;> first|rfl|(simp [aO] at h5)
   subst e1;subst e2;cases hx;cases hy;rcases hn with hn|hn
   ·cases ox <;> first|(cases hn;done)|skip
    cases op <;> first|rfl|(simp [eqGuard];done)
   ·cases oy <;> first|(cases hn;done)|skip
    cases op <;> first|rfl|(simp [eqGuard];done)
  ·refine bu ?_;cases hx <;> simp [aO] at h1 <;> cases hy <;> simp [aO] at h2 h5 ha <;> rfl
def fG{op:BinOp}{t:TypeId}{ox oy:Operand}{xs ys:Array Value}(h:P.eqGuardType P.depth t=false):(eqGuard op t ox oy (.agg xs) (.agg ys)).run P w= .ok () w:=
 run_eqGuard_agg w op t ox oy xs ys h
def mI:∀(x y:List UInt8),tC (x.map UInt8.toNat) (y.map UInt8.toNat)=Op.bytesLess x y:=by
 intro x
 induction x with
 |nil=>intro y;cases y <;> simp [tC,Op.bytesLess]
 |cons a x ih=>
  intro y
  cases y with
  |nil=>simp [tC,Op.bytesLess]
  |cons b y=>
   simp only [aaw,tC,Op.bytesLess,ak,ih];rw[Bool.eq_iff_iff];by_cases h1:a.toNat<b.toNat
   ·have:a<b:=UInt8.lt_iff_toNat_lt.mpr h1;simp [aa9,this];left;omega
   ·have ZY:¬a<b:=λh=>h1 (UInt8.lt_iff_toNat_lt.mp h);by_cases h2:a=b
    ·subst h2;simp;intro h;omega
    ·have:a.toNat≠b.toNat:=λh=>h2 (UInt8.toNat_inj.mp h);have hb:Nat.beq a.toNat b.toNat=false:=by
      cases hb:Nat.beq a.toNat b.toNat with
      |false=>rfl
      |true=>exact absurd (aF hb) this
     have hc:Nat.ble (Nat.succ a.toNat) b.toNat=false:=by
      cases hb:Nat.ble (Nat.succ a.toNat) b.toNat with
      |false=>rfl
      |true=>exact absurd (aU hb) (by omega)
     simp [hb,hc,ZY,h2]
def iT(s t:ByteArray):bytesOf (s++t)=bytesOf s++bytesOf t:=by simp [bytesOf,ByteArray.data_append]
def aM(s:ByteArray):(bytesOf s).length=s.size:=by simp [bytesOf]
def DS{op:BinOp}{s t:ByteArray}(hS:SI σ)(hG:Good w0 ρ σ.h w)(h:run (Bi op (bytesOf s) (bytesOf t) k) σ K=true):
 Res P w0 ρ w k K (Op.stringOp op s t):=by
 have c8:tC (bytesOf s) (bytesOf t)=Op.bytesLess s.toList t.toList:=by rw[ByteArray.toList_eq,ByteArray.toList_eq];exact mI _ _
 have heq:=gq s t
 cases op
 case add=>
  have h:run (mw (bytesOf s++bytesOf t) λl=>aa (Nat.ble (List.length l) 1000000000) (k (.str l)) .fail) σ K=true:=h
  obtain⟨h1,h2⟩:=aj (zH h)
  have h1:=aU h1
  rw[aal,aM,aM] at h1
  rw[←iT] at h2
  refine .plain h2 hS hG (.str _) ?_
  have:¬(((s.size+t.size:Nat):Int) > IntKind.i64.max):=by
   have:IntKind.i64.max=9223372036854775807:=by decide
   omega
  simp only [Op.stringOp]
  rw[if_neg this];rfl
 case eql=>
  refine .plain (iz h) hS hG (.bool _) ?_
  rw[heq];rfl
 case neq=>
  refine .plain (iz h) hS hG (.bool _) ?_
  rw[ak,heq]
  simp only [Op.stringOp,aac]
  congr 2
  cases(s.toList==t.toList) <;> rfl
 case lss=>
  refine .plain (iz h) hS hG (.bool _) ?_
  rw[c8];rfl
 case leq=>
  refine .plain (iz h) hS hG (.bool _) ?_
  rw[ak,c8,heq]
  simp only [Op.stringOp,aac]
  congr 2
  cases Op.bytesLess s.toList t.toList <;> rfl
 case gtr=>
  refine .plain (iz h) hS hG (.bool _) ?_
  rw[ak,ak,c8,heq]
  simp only [Op.stringOp,aac]
  congr 2
  cases Op.bytesLess s.toList t.toList <;> cases(s.toList==t.toList) <;> rfl
 case geq=>
  refine .plain (iz h) hS hG (.bool _) ?_
  rw[ak,c8]
  simp only [Op.stringOp,aac]
  congr 2
  cases Op.bytesLess s.toList t.toList <;> rfl
 all_goals exact(ac h).elim
def eP{op:BinOp}{j:IntKind}{a b:Int}(WY:op≠ .shl/\op≠ .shr){t:TypeId}:
 binOp op t (.int j a) (.int j b)=kD op j a b:=by
 cases op <;> first|exact absurd rfl WY.1|exact absurd rfl WY.2|(simp only [binOp];rw[if_neg (by simp)];rfl)
def ob{x:AV}(h:aO x=4):∃l,x= .agg l:=by cases x <;> first|exact⟨_,rfl⟩|(simp [aO] at h)
def oc{x:AV}(h:aO x=1):∃j n,x= .int j n:=by cases x <;> first|exact⟨_,_,rfl⟩|(simp [aO] at h)
def od{x:AV}(h:aO x=2):∃l,x= .str l:=by cases x <;> first|exact⟨_,rfl⟩|(simp [aO] at h)
def jZ{lit:Bool}{x y:AV}(h:tF lit x y=true):aO x≠3/\aO y≠3/\(¬(aO x=5/\aO y=5)∨lit=true):=by cases x <;> cases y <;> first|(cases h;done)|(refine⟨?_, ?_,.inl ?_⟩ <;> simp [aO] <;> done)|exact⟨by simp [aO],by simp [aO],.inr h⟩
def BE{f:Nat}{d:TypeDesc}{x y:AV}{r:Bool}(hd:bH d=true)(h:dZ P f d x y=some r):∃a b,x= .agg a/\y= .agg b:=by
 cases f with
 |zero=>simp [dZ] at h
 |succ f=>unfold dZ at h;split at h <;> first|(cases hd;done)|exact⟨_,_,rfl,rfl⟩|(cases h;done)
def Pn{op:BinOp}{t:TypeId}{ox oy:Operand}{j j':IntKind}{n m:Int}(hS:SI σ)(hG:Good w0 ρ σ.h w)(h:run (aa (decide (j=j')) (aa (Bl op) (k .anyB) .fail) .fail) σ K=true):
 Res P w0 ρ w k K (do eqGuard op t ox oy (.int j n) (.int j' m);binOp op t (.int j n) (.int j' m)):=by
 obtain⟨hj,h2⟩:=aj h
 obtain⟨Wy,h3⟩:=aj h2
 have hj2:=of_decide_eq_true hj
 clear h h2 hj
 subst hj2
 have WY:op≠ .shl/\op≠ .shr:=by cases op <;> first|(simp [Bl] at Wy;done)|exact⟨by simp,by simp⟩
 obtain⟨b,hb⟩:∃b:Bool,(kD op j n m).run P w= .ok (.bool b) w:=by cases op <;> first|(simp [Bl] at Wy;done)|exact⟨_,rfl⟩
 refine(Res.plain h3 hS hG (.anyB b) hb).of_eq ?_
 rw[aaa,bu rfl,eP WY];rfl
def aI{x:AV}{v:Value}{j:IntKind}{n:Int}(hx:VR ρ x v)(h:bD x=some (j,n)):v= .int j n:=by
 cases hx <;> simp [bD] at h
 ·obtain⟨e1,e2⟩:=h;subst e1;subst e2;rfl
 ·obtain⟨e1,e2⟩:=h;subst e1;subst e2;rfl
def cM{x:AV}{v:Value}{l:List Nat}(hx:VR ρ x v)(h:eY x=some l):∃s,v= .string s/\l=bytesOf s:=by
 cases hx <;> simp [eY] at h
 ·exact⟨_,rfl,h.symm⟩
 ·exact⟨_,rfl,h.symm⟩
def dB{x:AV}{v:Value}{p:Prop}(hx:VR ρ x v)(h:cS x=some p):∃b,v= .bool b/\(b=true↔p):=by
 cases hx <;> simp [cS] at h
 ·exact⟨_,rfl,by rw[←h]⟩
 ·rename_i hb;exact⟨_,rfl,by rw[←h];exact hb⟩
def DT{op:BinOp}{j:IntKind}{x y:Int}(hS:SI σ)(hG:Good w0 ρ σ.h w)(WY:op≠ .shl/\op≠ .shr)(h:run (F9 op j x y k) σ K=true):
 Res P w0 ρ w k K (kD op j x y):=by
 obtain⟨b1,b2,b3,b4⟩:=dQ P w j x y
 have cmp:∀(b:Bool) (p:Prop),(b=true↔p)->(kD op j x y).run P w= .ok (.bool b) w->run (k (.sB p)) σ K=true->Res P w0 ρ w k K (kD op j x y):=λb p hb h1 h2=>.plain h2 hS hG (.sB p b hb) h1
 cases op
 case add=>exact .plain (gT (f:=λn=>k (.sI j n)) h) hS hG (.sI _ _) rfl
 case sub=>exact .plain (gT (f:=λn=>k (.sI j n)) h) hS hG (.sI _ _) rfl
 case mul=>exact .plain (gT (f:=λn=>k (.sI j n)) h) hS hG (.sI _ _) rfl
 case quo=>
  obtain⟨h1,h2⟩:=aJ h
  have e:(Op.intDiv .quo j x y).run P w= .ok (.int j (j.wrap (x.tdiv y))) w:=by simp only [Op.intDiv,if_neg h1];rfl
  rcases bU h2 with⟨hp,h⟩|⟨_,h⟩
  ·refine .plain (gT (f:=λn=>k (.sI j n)) h) hS hG (.sI _ _) ?_;show(Op.intDiv .quo j x y).run P w=_;rw[e,Int.tdiv_eq_ediv_of_nonneg hp.1]
  ·exact .plain (gT (f:=λn=>k (.sI j n)) h) hS hG (.sI _ _) e
 case rem=>
  obtain⟨h1,h2⟩:=aJ h
  have e:(Op.intDiv .rem j x y).run P w= .ok (.int j (x.tmod y)) w:=by simp only [Op.intDiv,if_neg h1];rfl
  rcases bU h2 with⟨hp,h⟩|⟨_,h⟩
  ·refine .plain h hS hG (.sI _ _) ?_;show(Op.intDiv .rem j x y).run P w=_;rw[e,Int.tmod_eq_emod_of_nonneg hp.1]
  ·exact .plain h hS hG (.sI _ _) e
 case and=>exact .plain h hS hG (.sI _ _) b1
 case or=>exact .plain h hS hG (.sI _ _) b2
 case xor=>exact .plain h hS hG (.sI _ _) b3
 case andNot=>exact .plain h hS hG (.sI _ _) b4
 case shl=>exact absurd rfl WY.1
 case shr=>exact absurd rfl WY.2
 case eql=>exact cmp (x==y) _ (by simp) rfl h
 case neq=>exact cmp (x !=y) _ (by simp) rfl h
 case lss=>exact cmp (decide (x<y)) _ (by simp) rfl h
 case leq=>exact cmp (decide (x<=y)) _ (by simp) rfl h
 case gtr=>exact cmp (decide (x > y)) _ (by simp) rfl h
 case geq=>exact cmp (decide (x≥y)) _ (by simp) rfl h
def wk{op:BinOp}{j jj:IntKind}{x y:Int}(hS:SI σ)(hG:Good w0 ρ σ.h w)(h:run (vM op j x y k) σ K=true):
 Res P w0 ρ w k K (Op.shift op j x jj y):=by
 obtain⟨n,rfl,h2⟩:=tT h
 clear h
 have h:=fg h2
 clear h2
 have e:min ((n:Int).toNat) j.bits=jN n (aZ j):=by rw[tV,mF];rfl
 cases op
 case shl=>
  refine .plain (gT (f:=λn=>k (.sI j n)) h) hS hG (.sI _ _) ?_
  simp only [Op.shift,if_neg (show ¬(n:Int)<0 by omega),e,aac]
  congr 3
 case shr=>
  refine .plain h hS hG (.sI _ _) ?_
  simp only [Op.shift,if_neg (show ¬(n:Int)<0 by omega),e,aac]
  congr 2
  show x.fdiv ((2:Int) ^ jN n (aZ j))=x/((2 ^ jN n (aZ j):Nat):Int)
  rw[Int.natCast_pow]
  exact Int.fdiv_eq_ediv_of_nonneg x (by apply Int.pow_nonneg;decide)
 all_goals exact(ac h).elim
def tW{op:BinOp}{j jj:IntKind}{x y:Int}(hS:SI σ)(hG:Good w0 ρ σ.h w)(h:run (rK op j x y k) σ K=true):
 Res P w0 ρ w k K (Op.shift op j x jj y):=by
 obtain⟨hy,h⟩:=aJ h
 have e:j.bits=aZ j:=by rw[mF]
 cases op
 case shl=>
  refine .plain (gT (f:=λn=>k (.sI j n)) h) hS hG (.sI _ _) ?_
  simp only [Op.shift,if_neg (show ¬y<0 by omega),e,aac]
  rw[Int.natCast_pow];rfl
 case shr=>
  refine .plain h hS hG (.sI _ _) ?_
  simp only [Op.shift,if_neg (show ¬y<0 by omega),e,aac]
  congr 2
  show x.fdiv ((2:Int) ^ min y.toNat (aZ j))=x/((2 ^ min y.toNat (aZ j):Nat):Int)
  rw[Int.natCast_pow]
  exact Int.fdiv_eq_ediv_of_nonneg x (by apply Int.pow_nonneg;decide)
 all_goals exact(ac h).elim
def wl:∀(x y:List UInt8),(!(Op.bytesLess x y || x==y))=Op.bytesLess y x:=by
 intro x
 induction x with
 |nil=>intro y;cases y <;> simp [Op.bytesLess]
 |cons a x ih=>
  intro y
  cases y with
  |nil=>simp [Op.bytesLess]
  |cons b y=>
   have:=ih y;rw[Bool.eq_iff_iff] at this⊢;simp only [Op.bytesLess,Bool.not_eq_true',Bool.or_eq_false_iff,decide_eq_false_iff_not,Bool.and_eq_false_iff,Bool.or_eq_true,decide_eq_true_eq,Bool.and_eq_true,beq_iff_eq,List.cons_beq_cons,beq_eq_false_iff_ne] at this⊢;rcases Nat.lt_trichotomy a.toNat b.toNat with h|h|h
   ·have h1:a<b:=UInt8.lt_iff_toNat_lt.mpr h;have h2:¬b<a:=λq=>by have:=UInt8.lt_iff_toNat_lt.mp q;omega
    have h3:b≠a:=λq=>by subst q;omega
    simp [h1,h2,h3]
   ·have h1:a=b:=UInt8.toNat_inj.mp h;subst h1;simpa using this
   ·have h1:b<a:=UInt8.lt_iff_toNat_lt.mpr h;have h2:¬a<b:=λq=>by have:=UInt8.lt_iff_toNat_lt.mp q;omega
    have h3:a≠b:=λq=>by subst q;omega
    simp [h1,h2,h3]
def DU{op:BinOp}{s t:ByteArray}(hS:SI σ)(hG:Good w0 ρ σ.h w)(h:run (F_ op (bytesOf s) (bytesOf t) k) σ K=true):
 Res P w0 ρ w k K (Op.stringOp op s t):=by
 have c8:tC (bytesOf s) (bytesOf t)=Op.bytesLess s.toList t.toList:=by rw[ByteArray.toList_eq,ByteArray.toList_eq];exact mI _ _
 have hgt:tC (bytesOf t) (bytesOf s)=Op.bytesLess t.toList s.toList:=by rw[ByteArray.toList_eq,ByteArray.toList_eq];exact mI _ _
 have heq:=gq s t
 have ad8:(s.toList==t.toList)=true↔bytesOf s=bytesOf t:=by rw[←heq,oa]
 cases op
 case add=>
  obtain⟨h1,h2⟩:=aJ h
  rw[aal,aM,aM] at h1
  rw[←iT] at h2
  refine .plain h2 hS hG (.sS _) ?_
  have:¬(((s.size+t.size:Nat):Int) > IntKind.i64.max):=by
   have:IntKind.i64.max=9223372036854775807:=by decide
   omega
  simp only [Op.stringOp]
  rw[if_neg this];rfl
 case eql=>exact .plain h hS hG (.sB _ (s.toList==t.toList) ad8) rfl
 case neq=>exact .plain h hS hG (.sB _ (!(s.toList==t.toList)) (by rw[Bool.not_eq_true', ←Bool.not_eq_true,ad8])) rfl
 case lss=>exact .plain h hS hG (.sB _ (Op.bytesLess s.toList t.toList) (by rw[c8])) rfl
 case gtr=>exact .plain h hS hG (.sB _ (Op.bytesLess t.toList s.toList) (by rw[hgt])) (by simp only [Op.stringOp,aac];rw[wl])
 case leq=>exact .plain h hS hG (.sB _ (!Op.bytesLess t.toList s.toList) (by rw[hgt];simp)) (by simp only [Op.stringOp,aac];rw[←wl s.toList t.toList,Bool.not_not])
 case geq=>exact .plain h hS hG (.sB _ (!Op.bytesLess s.toList t.toList) (by rw[c8];simp)) rfl
 all_goals exact(ac h).elim
def DV{op:BinOp}{t:TypeId}{ox oy:Operand}{x y:AV}{v u:Value}(hS:SI σ)(hG:Good w0 ρ σ.h w)(hx:VR ρ x v)(hy:VR ρ y u)(h:run (tD op x y k) σ K=true):
 Res P w0 ρ w k K (do eqGuard op t ox oy v u;binOp op t v u):=by
 have lift:∀(s:Sem Value),(eqGuard op t ox oy v u).run P w= .ok () w->binOp op t v u=s->Res P w0 ρ w k K s->Res P w0 ρ w k K (do eqGuard op t ox oy v u;binOp op t v u):=λs h1 h2 h3=>
  h3.of_eq (by rw[aaa,h1,h2];rfl)
 unfold tD at h
 split at h
 ·rename_i j n j' m ea eb;have e1:=aI hx ea;have e2:=aI hy eb;subst e1;subst e2;rcases bf h with⟨hs,h⟩|⟨hs,h⟩
  ·have e0:binOp op t (.int j n) (.int j' m)=Op.shift op j n j' m:=by cases op <;> first|rfl|(cases hs;done)
   rcases bf h with⟨_,h⟩|⟨_,h⟩
   ·exact lift (Op.shift op j n j' m) (bu rfl) e0 (tW (jj:=j') hS hG h)
   ·exact lift (Op.shift op j n j' m) (bu rfl) e0 (wk (jj:=j') hS hG h)
  ·obtain⟨hj,h9⟩:=aj h;have hj:j=j':=of_decide_eq_true hj;subst hj;have WY:op≠ .shl/\op≠ .shr:=by cases op <;> first|(cases hs;done)|exact⟨by simp,by simp⟩
   exact lift _ (bu rfl) (eP WY) (DT hS hG WY h9)
 ·split at h
  ·rename_i a b ea eb;obtain⟨s,e1,e1'⟩:=cM hx ea;obtain⟨s',e2,e2'⟩:=cM hy eb;subst e1;subst e2;subst e1';subst e2';exact lift _ (bu rfl) (by cases op <;> rfl) (DU hS hG h)
  ·exact(ac h).elim
def rR(a:AV):AV:=match a with | .sI k n=>.int k n|a=>a
def zI{a:AV}{v:Value}(h:VR ρ a v):VR ρ (rR a) v:=by cases h <;> first|exact .int _ _|(constructor;done)|(constructor <;> assumption)
def tX:∀{l:List AV} {vs:List Value},LR ρ l vs->LR ρ (l.map rR) vs
 | [],vs,h=>h
 |a::l,vs,h=>by obtain⟨v,o7,rfl,hv,h'⟩:=h.cons_inv;exact LR.cons (zI hv) (tX h')
def Lg{a:AV}{j:IntKind}{n:Int}(h:bD a=some (j,n)):rR a= .int j n:=by
 unfold bD at h;split at h
 ·injection h with h;injection h with h1 h2;subst h1;subst h2;rfl
 ·injection h with h;injection h with h1 h2;subst h1;subst h2;rfl
 ·cases h
def dC{j:IntKind}{ks:List IntKind}{xs:List AV}{l:List Int}(h:bP (j::ks) xs=some l):∃a as n m,xs=a::as/\l=n::m/\rR a= .int j n/\bP ks as=some m:=by
 cases xs with
 |nil=>simp [bP] at h
 |cons a as=>
  unfold bP at h;split at h
  ·rename_i j' n hn;rw[ak] at h;split at h
   ·rename_i hj;have hj:=of_decide_eq_true hj;subst hj;split at h
    ·rename_i m hm;injection h with h;exact⟨a,as,n,m,rfl,h.symm,Lg hn,hm⟩
    ·cases h
   ·cases h
  ·cases h
def wm{j:IntKind}:∀{n:Nat} {xs:List AV} {ns:List Int},bP (List.replicate n j) xs=some ns->ns.length=xs.length/\∀(m:Nat) (a:AV),xs[m]? =some a->bD a=some (j,ns.getD m 0)
 |0,xs,ns,h=>by
  cases xs with
  |nil=>injection h with h;subst h;exact⟨rfl,by simp⟩
  |cons a as=>simp [bP] at h
 |n+1,xs,ns,h=>by
  cases xs with
  |nil=>simp [bP,List.replicate] at h
  |cons a as=>
   simp only [List.replicate,bP] at h;split at h
   ·rename_i j' q hq;rw[ak] at h;split at h
    ·rename_i hj;have hj:=of_decide_eq_true hj;subst hj;split at h
     ·rename_i l hl
      injection h with h
      subst h
      obtain⟨h1,h2⟩:=wm hl
      refine⟨by simp [h1],λm b hb=>?_⟩
      cases m with
      |zero=>simp at hb;subst hb;simpa using hq
      |succ m=>simpa using h2 m b (by simpa using hb)
     ·cases h
    ·cases h
   ·cases h
def wn{l:List AV}{q:IntKind×List Int}(h:Bn l=some q):q.2.length=l.length/\∀(m:Nat) (a:AV),l[m]? =some a->bD a=some (q.1,q.2.getD m 0):=by
 unfold Bn at h;split at h
 ·cases h
 ·split at h
  ·split at h
   ·rename_i ns hn;injection h with h;subst h;exact wm hn
   ·cases h
  ·cases h
def eT{xs:List AV}{l:List Int}(h:bP [] xs=some l):xs= []/\l= []:=by
 cases xs with
 |nil=>injection h with h;exact⟨rfl,h.symm⟩
 |cons a as=>simp [bP] at h
def mJ:∀{ks:List IntKind} {xs:List AV} {l:List Int},bP ks xs=some l->xs.length=ks.length
 | [],xs,l,h=>by rw[(eT h).1];rfl
 |j::ks,xs,l,h=>by obtain⟨a,as,n,m,rfl,_,_,h'⟩:=dC h;simp [mJ h']
def o_{f:Nat}{j:IntKind}:∀(n:Nat) {xs ys:List AV} {l m:List Int},bP (List.replicate n j) xs=some l->bP (List.replicate n j) ys=some m->
 dZ.eqArr (dZ P (f+1) (.int j)) (xs.map rR) (ys.map rR)=some (decide (l=m))
 |0,xs,ys,l,m,h1,h2=>by obtain⟨rfl,rfl⟩:=eT h1;obtain⟨rfl,rfl⟩:=eT h2;simp [dZ.eqArr]
 |n+1,xs,ys,l,m,h1,h2=>by
  obtain⟨a,as,x,l',rfl,rfl,ha,h1⟩:=dC h1;obtain⟨b,bs,y,m',rfl,rfl,hb,h2⟩:=dC h2;have ih:=o_ (f:=f) n h1 h2;have e:dZ P (f+1) (.int j) (.int j x) (.int j y)=some (x==y):=by simp [dZ]
  simp only [aaw,dZ.eqArr,ha,hb,e,ih];by_cases hxy:x=y
  ·subst hxy;simp
  ·have:(x==y)=false:=by simp [hxy]
   rw[this];simp [hxy]
def rS{f:Nat}{xs ys:List AV}:∀(fs:List Field) (i:Nat) {ks:List IntKind} {l m:List Int},nT P i fs=some ks->bP ks (xs.drop i)=some l->bP ks (ys.drop i)=some m->
 dZ.eqFs P (dZ P (f+1)) fs (xs.map rR) (ys.map rR)=some (decide (l=m))
 | [],i,ks,l,m,h,h1,h2=>by injection h with h;subst h;obtain⟨_,rfl⟩:=eT h1;obtain⟨_,rfl⟩:=eT h2;simp [dZ.eqFs]
 |fd::fs,i,ks,l,m,h,h1,h2=>by
  unfold nT at h;split at h
  ·cases h
  rename_i hn;split at h
  ·rename_i ho;split at h
   ·rename_i inf j hi hu;split at h
    ·rename_i ks' hk;injection h with h;subst h;obtain⟨a,as,x,l',e1,rfl,ha,h1⟩:=dC h1;obtain⟨b,bs,y,m',e2,rfl,hb,h2⟩:=dC h2;have dx:xs.drop (i+1)=as:=by rw[←ZW,e1];rfl
     have dy:ys.drop (i+1)=bs:=by rw[←ZW,e2];rfl
     rw[←dx] at h1;rw[←dy] at h2;have ih:=rS (f:=f) fs (i+1) hk h1 h2;have gx:(xs.map rR)[fd.offset]? =some (.int j x):=by rw[ho,aaE, ←List.head?_drop,e1];simp [ha]
     have gy:(ys.map rR)[fd.offset]? =some (.int j y):=by rw[ho,aaE, ←List.head?_drop,e2];simp [hb]
     have e:dZ P (f+1) (.int j) (.int j x) (.int j y)=some (x==y):=by simp [dZ]
     rw[dZ.eqFs,if_neg hn];simp only [hi,hu,bH,Bool.false_eq_true,if_false,gx,gy,e,ih];by_cases hxy:x=y
     ·subst hxy;simp
     ·have:(x==y)=false:=by simp [hxy]
      rw[this];simp [hxy]
    ·cases h
   ·cases h
  ·cases h
def wo{f:Nat}{d:TypeDesc}{ks:List IntKind}{xs ys:List AV}{l m:List Int}(h:tE P d=some ks)(h1:bP ks xs=some l)(h2:bP ks ys=some m):
 dZ P (f+2) d (.agg (xs.map rR)) (.agg (ys.map rR))=some (decide (l=m)):=by
 cases d with
 |array n e=>
  unfold tE at h
  simp only at h
  split at h
  ·rename_i i j hi hu;rw[ak] at h;split at h
   ·rename_i hs;have hs:=aF hs;injection h with h;subst h;have lx:=mJ h1;have ly:=mJ h2;rw[List.length_replicate] at lx ly;unfold dZ;simp [hi,hu,hs,bH,lx,ly];exact o_ n h1 h2
   ·cases h
  ·cases h
 |struct fs=>
  unfold dZ
  exact rS fs.toList 0 h (by rw[aaT];exact h1) (by rw[aaT];exact h2)
 |_=>cases h
def Po{d:TypeDesc}{xs ys:List AV}{p:Prop}(h:U4 P d xs ys=some p):∃r,dZ P 16 d (.agg (xs.map rR)) (.agg (ys.map rR))=some r/\(r=true↔p):=by
 unfold U4 at h;split at h
 ·rename_i ks hk;split at h
  ·rename_i l m h1 h2;injection h with h;subst h;exact⟨_,wo (f:=14) hk h1 h2,by simp⟩
  ·cases h
 ·cases h
def wp{t:TypeId}{d:TypeDesc}{a b:List AV}{v u:Value}{kb:Bool->Tr}{ks:Prop->Tr}(hu:P.underlying t=some d)(hc:e_ P 16 t=true)(hx:VR ρ (.agg a) v)(hy:VR ρ (.agg b) u)(h:run (Bk P d a b kb ks) σ K=true):
 ∃r,(Op.equal t v u).run P w= .ok r w/\(run (kb r) σ K=true∨∃p,(r=true↔p)/\run (ks p) σ K=true):=by
 unfold Bk at h
 split at h
 ·rename_i r hr;exact⟨r,jw 16 16 t d _ _ v u r 10000 hu (λ_=>hc) hx hy hr (by omega),.inl h⟩
 ·obtain⟨p,hp,h⟩:=br h;obtain⟨r,hr,hrp⟩:=Po hp;have deA:∀{l:List AV} {v:Value},VR ρ (.agg l) v->VR ρ (.agg (l.map rR)) v:=λh=>by
   cases h with
   |agg _ cs h1 h2=>obtain⟨q1,q2⟩:=(tX (LR.of_arr h1 h2)).arr;exact .agg _ _ q1 q2
  exact⟨r,jw 16 16 t d _ _ v u r 10000 hu (λ_=>hc) (deA hx) (deA hy) hr (by omega),.inr ⟨p,hrp,h⟩⟩
set_option maxHeartbeats 1000000 in
theorem rT{op:BinOp}{t:TypeId}{ox oy:Operand}{x y:AV}{v u:Value}(hS:SI σ)(hG:Good w0 ρ σ.h w)(hx:VR ρ x v)(hy:VR ρ y u)(h:run (nU P (aa (nj ox) true (nj oy)) op t x y k) σ K=true):
 Res P w0 ρ w k K (do eqGuard op t ox oy v u;binOp op t v u):=by
 have lift:∀(s:Sem Value),(eqGuard op t ox oy v u).run P w= .ok () w->binOp op t v u=s->Res P w0 ρ w k K s->Res P w0 ρ w k K (do eqGuard op t ox oy v u;binOp op t v u):=λs h1 h2 h3=>
  h3.of_eq (by rw[aaa,h1,h2];rfl)
 have eqR:∀(d:TypeDesc) (r:Bool),P.underlying t=some d->(bH d=true->e_ P 16 t=true)->dZ P 16 d x y=some r->(Op.equal t v u).run P w= .ok r w:=λd r hu hc he=>
  jw 16 16 t d x y v u r 10000 hu hc hx hy he (by omega)
 unfold nU at h
 split at h
 ·rename_i j a yk b;cases hx;cases hy;exact lift (Op.shift _ j a yk b) (bu rfl) rfl (wj (jj:=yk) hS hG h)
 ·rename_i j a yk b;cases hx;cases hy;exact lift (Op.shift _ j a yk b) (bu rfl) rfl (wj (jj:=yk) hS hG h)
 ·rename_i n1 n2;cases hx;cases hy;obtain⟨hj,h2⟩:=aj h;have hj2:=of_decide_eq_true hj;clear h hj;subst hj2;have WY:op≠ .shl/\op≠ .shr:=⟨λe=>n1 e,λe=>n2 e⟩
  exact lift _ (bu rfl) (eP WY) (DQ hS hG WY h2)
 ·cases hx;cases hy;exact lift _ (bu rfl) (by cases op <;> rfl) (DS hS hG h)
 ·obtain⟨hc,h⟩:=aj h;obtain⟨d,hu,h⟩:=bp h;rw[ak] at hc;have hg:P.eqGuardType P.depth t=false:=by
   cases hq:P.eqGuardType P.depth t with
   |false=>rfl
   |true=>rw[hq] at hc;cases hc
  rw[hg] at hc;obtain⟨r,e,h⟩:=wp (w:=w) hu hc hx hy h;cases hx;cases hy;rcases h with h|⟨p,hp,h⟩
  ·exact lift _ (fG hg) (eS rfl) (.plain (iz h) hS hG (.bool r) (by rw[aaa,e];rfl))
  ·exact lift _ (fG hg) (eS rfl) (.plain h hS hG (.sB p r hp) (by rw[aaa,e];rfl))
 ·obtain⟨hc,h⟩:=aj h;obtain⟨d,hu,h⟩:=bp h;rw[ak] at hc;have hg:P.eqGuardType P.depth t=false:=by
   cases hq:P.eqGuardType P.depth t with
   |false=>rfl
   |true=>rw[hq] at hc;cases hc
  rw[hg] at hc;obtain⟨r,e,h⟩:=wp (w:=w) hu hc hx hy h;cases hx;cases hy;rcases h with h|⟨p,hp,h⟩
  ·exact lift _ (fG hg) (gt rfl) (.plain (iz h) hS hG (.bool _) (by rw[aaa,e];rw[ak];cases r <;> rfl))
  ·exact lift _ (fG hg) (gt rfl) (.plain h hS hG (.sB (¬p) (!r) (by rw[←hp];simp)) (by rw[aaa,e];rfl))
 ·rename_i n1 n2 n3;obtain⟨hp,h⟩:=aj h;obtain⟨d,hu,h⟩:=bp h;obtain⟨r,hr,h⟩:=br h;obtain⟨h1,h2,h3⟩:=jZ hp;have h4:¬(aO x=4/\aO y=4):=λ⟨e1,e2⟩=>by obtain⟨a,e1⟩:=ob e1;obtain⟨b,e2⟩:=ob e2;exact n3 _ _ e1 e2
  have h5:¬(aO x=1/\aO y=1):=λ⟨e1,e2⟩=>by obtain⟨_,a,e1⟩:=oc e1;obtain⟨_,b,e2⟩:=oc e2;exact n1 _ _ _ _ e1 e2
  have h6:¬(aO x=2/\aO y=2):=λ⟨e1,e2⟩=>by obtain⟨a,e1⟩:=od e1;obtain⟨b,e2⟩:=od e2;exact n2 _ _ e1 e2
  have Zn:bH d=true->e_ P 16 t=true:=λhd=>by obtain⟨a,b,e1,e2⟩:=BE hd hr;exact(n3 _ _ e1 e2).elim
  exact lift _ (fZ hx hy h1 h2 (h3.imp id λhl=>by rw[ak] at hl;split at hl <;> first|exact .inl ‹_› | exact .inr hl) h4) (eS (lq hx hy h1 h2 h5 h6)) (.plain (iz h) hS hG (.bool r) (by rw[aaa,eqR d r hu Zn hr];rfl))
 ·rename_i n1 n2 n3;obtain⟨hp,h⟩:=aj h;obtain⟨d,hu,h⟩:=bp h;obtain⟨r,hr,h⟩:=br h;obtain⟨h1,h2,h3⟩:=jZ hp;have h4:¬(aO x=4/\aO y=4):=λ⟨e1,e2⟩=>by obtain⟨a,e1⟩:=ob e1;obtain⟨b,e2⟩:=ob e2;exact n3 _ _ e1 e2
  have h5:¬(aO x=1/\aO y=1):=λ⟨e1,e2⟩=>by obtain⟨_,a,e1⟩:=oc e1;obtain⟨_,b,e2⟩:=oc e2;exact n1 _ _ _ _ e1 e2
  have h6:¬(aO x=2/\aO y=2):=λ⟨e1,e2⟩=>by obtain⟨a,e1⟩:=od e1;obtain⟨b,e2⟩:=od e2;exact n2 _ _ e1 e2
  have Zn:bH d=true->e_ P 16 t=true:=λhd=>by obtain⟨a,b,e1,e2⟩:=BE hd hr;exact(n3 _ _ e1 e2).elim
  exact lift _ (fZ hx hy h1 h2 (h3.imp id λhl=>by rw[ak] at hl;split at hl <;> first|exact .inl ‹_› | exact .inr hl) h4) (gt (lq hx hy h1 h2 h5 h6)) (.plain (iz h) hS hG (.bool _) (by rw[aaa,eqR d r hu Zn hr];rw[ak];cases r <;> rfl))
 ·rename_i n
  obtain⟨hn,h⟩:=aj h
  have hn:=of_decide_eq_true hn
  subst hn
  cases hx with
  |anyI _ a=>
   cases hy;have hp:=tS (n:=4) h;have c8:Nat.land (aD (ai .i64) a) (aD (ai .i64) 3)<4:=by show(aD (ai .i64) a) &&& 3<2 ^ 2;exact Nat.and_lt_two_pow _ (by decide)
   have hw:IntKind.wrap .i64 (Int.ofNat (Nat.land (aD (ai .i64) a) (aD (ai .i64) 3)))=Int.ofNat (Nat.land (aD (ai .i64) a) (aD (ai .i64) 3)):=by
    generalize Nat.land (aD (ai .i64) a) (aD (ai .i64) 3)=m at c8;have:m=0∨m=1∨m=2∨m=3:=by omega
    rcases this with rfl|rfl|rfl|rfl <;> rfl
   exact lift (kD .and .i64 a 3) (bu rfl) (eP (op:=.and) ⟨by simp,by simp⟩) (.plain (hp _ (.inr c8) (λh=>absurd h (by omega))) hS hG (.int _ _) (by show(Op.intBits .and .i64 a 3).run P w=_;rw[(dQ P w .i64 a 3).1,hw]))
 ·cases hx;cases hy;exact Pn hS hG h
 ·exact(ac h).elim
def GM{op:UnOp}{x:AV}{v:Value}(hS:SI σ)(hG:Good w0 ρ σ.h w)(hx:VR ρ x v)(h:run (zn op x k) σ K=true):Res P w0 ρ w k K (Op.unary op v):=by
 unfold zn at h;split at h
 ·cases hx;exact .plain (iy h) hS hG (.int _ _) rfl
 ·rename_i j n;cases hx;exact .plain (iy h) hS hG (.int _ _) (dQ P w j (if j.signed then -1 else j.max) n).2.2.1
 ·cases hx;refine .plain (iz h) hS hG (.bool _) ?_;rename_i b;rw[ak];cases b <;> rfl
 ·exact(ac h).elim
def wq{x:AV}{v:Value}{kk:AV->Tr}(hx:VR ρ x v)(h:run (Bm x kk) σ K=true):∃x',VR ρ x' v/\run (kk x') σ K=true:=by
 unfold Bm at h;split at h
 ·rename_i p;cases hx;rename_i b hb;rcases bU h with⟨hp,h⟩|⟨hp,h⟩
  ·have:b=true:=hb.2 hp;subst this;exact⟨_,.bool _,h⟩
  ·have:b=false:=by
    cases b with
    |false=>rfl
    |true=>exact absurd (hb.1 rfl) hp
   subst this;exact⟨_,.bool _,h⟩
 ·exact⟨_,hx,h⟩
def Lh{x y:AV}{v u:Value}(h:K7 x y=true)(hx:VR ρ x v)(hy:VR ρ y u):(∃a n c,v= .slice a n c/\(¬tG x=0->∃b,a=some b))/\u= .slice none 0 0:=by
 unfold K7 at h;split at h
 ·cases hy
  refine⟨?_,rfl⟩
  cases hx with
  |cvnil c h0=>exact⟨_,_,_,rfl,λh=>absurd h0 h⟩
  |cvempty c a h0=>exact⟨_,_,_,rfl,λh=>absurd h0 h⟩
  |cv=>exact⟨_,_,_,rfl,λ_=>⟨_,rfl⟩⟩
 ·cases hy
  refine⟨?_,rfl⟩
  cases hx with
  |gnil=>exact⟨_,_,_,rfl,λh=>absurd rfl h⟩
  |gempty=>exact⟨_,_,_,rfl,λh=>absurd rfl h⟩
  |gsl=>exact⟨_,_,_,rfl,λ_=>⟨_,rfl⟩⟩
 ·cases h
def GN{op:BinOp}{t:TypeId}{ox oy:Operand}{x y:AV}{v u:Value}(hS:SI σ)(hG:Good w0 ρ σ.h w)(hn:K7 x y=true)(hx:VR ρ x v)(hy:VR ρ y u)(h:run (Gd P op t x k) σ K=true):
 Res P w0 ρ w k K (do eqGuard op t ox oy v u;binOp op t v u):=by
 obtain⟨⟨a,n,c,rfl,j0⟩,rfl⟩:=Lh hn hx hy
 have lift:∀(s:Sem Value),binOp op t (.slice a n c) (.slice none 0 0)=s->Res P w0 ρ w k K s->Res P w0 ρ w k K (do eqGuard op t ox oy (.slice a n c) (.slice none 0 0);binOp op t (.slice a n c) (.slice none 0 0)):=λs h2 h3=>
  h3.of_eq (by rw[aaa,bu rfl,h2];rfl)
 obtain⟨d,hu,h⟩:=bp h
 have key:∀e,d= .slice e->∃r,(Op.equal t (.slice a n c) (.slice none 0 0)).run P w= .ok r w/\(¬tG x=0->r=false):=λe hd=>by
  subst hd;have:∀D:Nat,∃r,(Op.equalIn (D+1) t (.slice a n c) (.slice none 0 0)).run P w= .ok r w/\(¬tG x=0->r=false):=λD=>by
   cases a with
   |none=>exact⟨true,by simp [Op.equalIn,run_underlying hu],λh=>by obtain⟨b,hb⟩:=j0 h;cases hb⟩
   |some b=>exact⟨false,by simp [Op.equalIn,run_underlying hu],λ_=>rfl⟩
  exact this 9999
 split at h
 ·obtain⟨r,e,hr⟩:=key _ rfl;rcases bU h with⟨_,h⟩|⟨hl,h⟩
  ·exact lift _ (eS rfl) (.plain h hS hG (.anyB r) (by rw[aaa,e];rfl))
  ·have hr:=hr hl;subst hr;exact lift _ (eS rfl) (.plain h hS hG (.bool false) (by rw[aaa,e];rfl))
 ·obtain⟨r,e,hr⟩:=key _ rfl;rcases bU h with⟨_,h⟩|⟨hl,h⟩
  ·exact lift _ (gt rfl) (.plain h hS hG (.anyB _) (by rw[aaa,e];rfl))
  ·have hr:=hr hl;subst hr;exact lift _ (gt rfl) (.plain h hS hG (.bool true) (by rw[aaa,e];rfl))
 ·exact(ac h).elim
def GO{op:BinOp}{t:TypeId}{ox oy:Operand}{x y:AV}{v u:Value}(hS:SI σ)(hG:Good w0 ρ σ.h w)(hx:VR ρ x v)(hy:VR ρ y u)(h:run (Ge P (aa (nj ox) true (nj oy)) op t x y k) σ K=true):
 Res P w0 ρ w k K (do eqGuard op t ox oy v u;binOp op t v u):=by
 rcases bf h with⟨hn,h⟩|⟨_,h⟩
 ·exact GN hS hG hn hx hy h
 rcases bf h with⟨_,h⟩|⟨_,h⟩
 ·rcases bf h with⟨_,h⟩|⟨_,h⟩
  ·unfold R9 at h;split at h
   ·rename_i p q;obtain⟨d,hu,h⟩:=bp h;split at h
    ·cases hx with
     |sB _ b hb=>
      cases hy with
      |sB _ c hc=>
       have e:(Op.equal t (.bool b) (.bool c)).run P w= .ok (b==c) w:=jw 16 16 t .bool (.bool b) (.bool c) _ _ (b==c) 10000 hu (λh=>by cases h) (VR.bool (ρ:=ρ) b) (.bool c) rfl (by omega);have eg:(eqGuard .eql t ox oy (.bool b) (.bool c)).run P w= .ok () w:=fZ (VR.bool (ρ:=ρ) b) (.bool c) (by simp [aO]) (by simp [aO]) (.inl (by simp [aO])) (by simp [aO]);have eb:binOp .eql t (.bool b) (.bool c)=(do pure (.bool (←Op.equal t (.bool b) (.bool c)))):=eS rfl;have er:(do eqGuard .eql t ox oy (.bool b) (.bool c);binOp .eql t (.bool b) (.bool c)).run P w= .ok (.bool (b==c)) w:=by rw[aaa,eg,eb];show(Sem.run P _ w)=_;rw[aaa,e];rfl
       rcases bU h with⟨hp,h⟩|⟨hp,h⟩
       ·have:(b==c)=true:=by rw[←hb, ←hc] at hp;cases b <;> cases c <;> simp_all
        rw[this] at er;exact .plain h hS hG (.bool true) er
       ·have:(b==c)=false:=by rw[←hb, ←hc] at hp;cases b <;> cases c <;> simp_all
        rw[this] at er;exact .plain h hS hG (.bool false) er
    ·exact(ac h).elim
   ·obtain⟨x',w6,h⟩:=wq hx h;obtain⟨y',ZD,h⟩:=wq hy h;exact rT hS hG w6 ZD h
  ·exact DV hS hG hx hy h
 ·exact rT hS hG hx hy h
def GP{op:UnOp}{x:AV}{v:Value}(hS:SI σ)(hG:Good w0 ρ σ.h w)(hx:VR ρ x v)(h:run (zm op x k) σ K=true):Res P w0 ρ w k K (Op.unary op v):=by
 unfold zm at h;split at h
 ·rename_i j n;cases hx;exact .plain (gT (f:=λn=>k (.sI j n)) h) hS hG (.sI _ _) rfl
 ·rename_i j n;cases hx;exact .plain h hS hG (.sI _ _) (dQ P w j (if j.signed then -1 else j.max) n).2.2.1
 ·cases hx;rename_i p b hb;exact .plain h hS hG (.sB _ (!b) (by rw[←hb];simp)) rfl
 ·exact(ac h).elim
def Lk{op:UnOp}{x:AV}{v:Value}(hS:SI σ)(hG:Good w0 ρ σ.h w)(hx:VR ρ x v)(h:run (N4 op x k) σ K=true):Res P w0 ρ w k K (Op.unary op v):=by
 rcases bf h with⟨_,h⟩|⟨_,h⟩
 ·exact GP hS hG hx h
 ·exact GM hS hG hx h
end
end Go.Sym
namespace Go.Sym
open Go.RowKit (Below)
def Good.ext{w0:World}{ρ:Rho}{H H':T ABlk}{w:World}(hG:Good w0 ρ H w)(h:∀b,H'.get b=H.get b):Good w0 ρ H' w:=
 ⟨⟨hG.below,λb x hx=>hG.blk b x (by rw[←h];exact hx),λb g y hy=>by obtain⟨q1,x,q2⟩:=hG.dom b g y hy;exact⟨q1,x,by rw[h];exact q2⟩,hG.inj,λb g y x hy hx=>hG.gens b g y x hy (by rw[←h];exact hx),λb arr ty hf=>⟨(hG.frz b arr ty hf).1,λb' g x hh e=>by rw[h];exact(hG.frz b arr ty hf).2 b' g x hh e⟩,hG.frzB,λb k I l hb=>hG.objO b k I l (by rw[←h];exact hb)⟩,hG.ownB⟩
section
variable{P:Program}{w0:World}{ρ:Rho}{w:World}{σ:St}{K:Fin}{k:AV->Tr}
def j_{t:TypeId}{k:AV->Tr}(ρ:Rho)(w:World)(h:run (fF P t k) σ K=true):∃z zv i,P.info? t=some i/\(zeroValue t).run P w= .ok zv w/\VR ρ z zv/\run (k z) σ K=true:=by obtain⟨i,h1,h2⟩:=br (k:=λi:TypeInfo=>bS i.zero .fail λv=>bS (O_ 8 v) .fail k) h;obtain⟨v,h3,h4⟩:=br h2;obtain⟨a,h5,h6⟩:=br h4;refine⟨a,v,i,h1, ?_,F5 ρ _ _ _ h5,h6⟩;simp [zeroValue,typeInfo,aaa,run_program,h1,h3]
def GQ{k:T Cell->Tr}:∀(l:List AV) (i:Nat) (t:T Cell),run (K8 l i t k) σ K=true->
 ∃c,run (k c) σ K=true/\∀o x,c.get o=some x->(∃(j:Nat) (a:AV),o=i+j/\l[j]? =some a/\x= .mk 0 a)∨(t.get o=some x/\(o<i∨i+l.length<=o)):=by
 intro l
 induction l with
 |nil=>intro i t h;exact⟨t,h,λo x hx=>.inr ⟨hx,by simp;omega⟩⟩
 |cons a l ih=>
  intro i t h
  have h:run (T.setK t i (.mk 0 a) λt=>fN (Nat.succ i) λi=>K8 l i t k) σ K=true:=h
  rw[T.setK_eq] at h
  obtain⟨c,h1,h2⟩:=ih _ _ (fg h)
  refine⟨c,h1,λo x hx=>?_⟩
  rcases h2 o x hx with⟨j,b,e,hb,w6⟩|⟨w6,ho⟩
  ·exact .inl ⟨j+1,b,by omega,by simpa using hb,w6⟩
  ·by_cases e:o=i
   ·subst e;have:=T.get_set_some _ _ w6;exact .inl ⟨0,a,by omega,rfl,this⟩
   ·rw[T.get_set_ne _ e] at w6;exact .inr ⟨w6,by simp at ho⊢;omega⟩
def kE{l:List AV}{k:Nat->Tr}(fl:Nat)(arr:Array Value)(e:TypeId)(fr:Nat×Nat)(V':fr.1<=fr.2/\∀x,(x<arr.size∨fl<=0)->fr.1<=x->x<fr.2->False)(hS:SI σ)(hG:Good w0 ρ σ.h w)(m8:l.length<=arr.size)(hl:∀(i:Nat) (a:AV),l[i]? =some a->∃v,arr[i]? =some v/\VR ρ a v)(h:run (lh fl e l k) σ K=true):
 ∃b a8,run (k b) a8 K=true/\SI a8/\ρ.le (ρ.put b 0 ⟨w.heap.size,0,arr.size⟩)/\Good w0 (ρ.put b 0 ⟨w.heap.size,0,arr.size⟩) a8.h {w with heap:=w.heap.push (.cells arr e fr)}:=by
 have h:run (K8 l 0 .leaf λt=>fN (List.length l) λn=>.new (.cells t 0 0 n fl 0 false e) k) σ K=true:=h
 obtain⟨c,h1,h2⟩:=GQ _ _ _ h
 obtain⟨n,a8,hn,d4,hh,j7,h3⟩:=cZ hS (fg h1)
 obtain⟨hle,g9⟩:=hG.alloc hn d4 (.cells c 0 0 l.length fl 0 false e) (.cells arr e fr) 0 arr.size (λρ' hle j5 _=>by
  refine⟨λo x hx=>?_,λg hg=>?_⟩
  ·rcases h2 o x hx with⟨j,a,e1,ha,ex⟩|⟨w6,_⟩
   ·have:x.tag=0:=by rw[ex];rfl
    have:j<l.length:=by
     rcases aaf j l.length with h'|h'
     ·exact h'
     ·rw[aak h'] at ha;cases ha
    omega
   ·simp [T.get] at w6
  ·have:g=0:=by omega
   subst this;refine⟨_,j5,λ_=>.new hG.below.size,(λh=>by cases h),arr,fr, ?_,rfl,λ_=>⟨V'.1,λx h1 h2 h3=>(V'.2 x h1 h2 h3).elim⟩,λo tag a ho ht=>?_⟩
   ·show(w.heap.push _)[w.heap.size]? =_;simp
   ·rcases h2 o _ ho with⟨j,b,e1,hb,hx⟩|⟨w6,_⟩
    ·injection hx with x9 p7;subst p7;obtain⟨v,hv,hr⟩:=hl j a hb;refine⟨aan _,v, ?_,hr.mono hle⟩;show arr[o-0]? =some v;rw[show o-0=j by omega];exact hv
    ·simp [T.get] at w6)
 exact⟨n,a8,h3,j7,hle,by rw[hh];exact g9⟩
def jx{l:List AV}{k:Nat->Tr}(arr:Array Value)(e:TypeId)(hS:SI σ)(hG:Good w0 ρ σ.h w)(m8:l.length<=arr.size)(hl:∀(i:Nat) (a:AV),l[i]? =some a->∃v,arr[i]? =some v/\VR ρ a v)(h:run (lj e l k) σ K=true):
 ∃b a8,run (k b) a8 K=true/\SI a8/\ρ.le (ρ.put b 0 ⟨w.heap.size,0,arr.size⟩)/\Good w0 (ρ.put b 0 ⟨w.heap.size,0,arr.size⟩) a8.h {w with heap:=w.heap.push (.cells arr e)}:=
 kE 0 arr e (0,0) ⟨aab _,λx _ _ h=>absurd h (by simp)⟩ hS hG m8 hl h
def LR.to_arr{l:List AV}{cs:Array Value}(h:LR ρ l cs.toList):l.length<=cs.size/\∀(i:Nat) (a:AV),l[i]? =some a->∃v,cs[i]? =some v/\VR ρ a v:=
 ⟨by have:=h.1;simp at this;omega,λi a ha=>by obtain⟨v,hv,hr⟩:=h.get ha;exact⟨v,by simpa using hv,hr⟩⟩
def rU{a:AV}{v:Value}{t:TypeId}(hS:SI σ)(hG:Good w0 ρ σ.h w)(hv:VR ρ a v)(h:run (lk t a k) σ K=true):
 Res P w0 ρ w k K (do pure (.pointer (some (←newVar t v)))):=by
 obtain⟨l,hl,h1⟩:=fi hv h
 obtain⟨q1,q2⟩:=LR.to_arr hl
 obtain⟨b,a8,h2,j7,hle,g9⟩:=jx v.cells t hS hG q1 q2 h1
 refine⟨_,a8,_,_,_,h2,j7,g9,hle,VR.ptr b 0 0 _ (Rho.put_at _ _ _ _) (aan _), ?_⟩
 simp [newVar,newRow]
def GR{t:TypeId}(hS:SI σ)(hG:Good w0 ρ σ.h w)(h:run (fF P t λz=>lk t z k) σ K=true):Res P w0 ρ w k K (Instr.alloc t true (.tuple #[])):=by obtain⟨z,zv,i,_,hz,hr,h1⟩:=j_ ρ w h;refine(rU (P:=P) (t:=t) hS hG hr h1).of_eq ?_;simp [Instr.alloc,aaa,hz]
def Pp{a:AV}{v:Value}{t:TypeId}(hS:SI σ)(hG:Good w0 ρ σ.h w)(hv:VR ρ a v)(h:run (lk t a k) σ K=true):Res P w0 ρ w k K (Instr.box t v):=
 rU hS hG hv h
def BF{b g o tag:Nat}{a:AV}{c:T Cell}{gen lo hi fl fh ty:Nat}{ro:Bool}{h:Home}{H:T ABlk}(hG:Good w0 ρ H w)(hb:H.get b=some (.cells c gen lo hi fl fh ro ty))(hh:ρ.at_ b g=some h)(hg:g<=gen)(hc:c.get o=some (.mk tag a))(ht:tag<=g):h.shift<=o/\∃v,w.cell? ⟨h.blk,o-h.shift,none⟩=some v/\VR ρ a v:=by
 obtain⟨hm,q1,_,_,arr,fr,q2,q3,_,q4⟩:=(hG.blk _ _ hb).2 g hg
 rw[hh] at q1;injection q1 with q1;subst q1
 obtain⟨r1,v,r2,r3⟩:=q4 o tag a hc ht
 refine⟨r1,v, ?_,r3⟩
 simp [World.cell?,q2,r2]
def Pq{c:T Cell}{g:Nat}:∀{n o:Nat} {k:List AV->Tr},run (Gf c g n o k) σ K=true->∃l,run (k l) σ K=true/\l.length=n/\∀(j:Nat) (a:AV),l[j]? =some a->∃tag,c.get (o+j)=some (.mk tag a)/\tag<=g:=by
 intro n
 induction n with
 |zero=>intro o k h;exact⟨[],h,rfl,by simp⟩
 |succ n ih=>
  intro o k h
  have h:run (T.getK c o .fail λx=>match x with
   | .mk tag v=>aa (Nat.ble tag g) (fN (Nat.succ o) λo=>Gf c g n o λl=>k (v::l)) .fail) σ K=true:=h
  obtain⟨x,hx,h⟩:=mD h
  cases x with
  |mk tag v=>
   obtain⟨ht,h⟩:=aj h
   obtain⟨l,h1,h2,h3⟩:=ih (fg h)
   refine⟨v::l,h1,by simp [h2],λj a ha=>?_⟩
   cases j with
   |zero=>simp at ha;subst ha;exact⟨tag,hx,aU ht⟩
   |succ j=>obtain⟨Xr,q1,q2⟩:=h3 j a (by simpa using ha);exact⟨Xr,by rw[show o+(j+1)=Nat.succ o+j by omega];exact q1,q2⟩
def fj{b g o n:Nat}{h0:Home}{k:List AV->Tr}(hS:SI σ)(hG:Good w0 ρ σ.h w)(hh:ρ.at_ b g=some h0)(ho:h0.shift<=o)(h:run (fa b g o n k) σ K=true):
 ∃l cs a8,a8.h=σ.h/\SI a8/\run (k l) a8 K=true/\LR ρ l cs/\cs.length=n/\(∀(j:Nat) (v:Value),cs[j]? =some v->w.cell? ⟨h0.blk,o-h0.shift+j,none⟩=some v)/\(loadCells ⟨h0.blk,o-h0.shift,none⟩ n).run P w= .ok cs.toArray w:=by
 obtain⟨x,c7,hx,e1,b6,h⟩:=aT hS h
 cases x with
 |cells c gen lo hi fl fh ro ty=>
  obtain⟨hg,h⟩:=aj h
  have hg:=aU hg
  obtain⟨l,h1,h2,h3⟩:=Pq h
  have key:∀(j:Nat) (a:AV),l[j]? =some a->∃v,w.cell? ⟨h0.blk,o-h0.shift+j,none⟩=some v/\VR ρ a v:=λj a ha=>by obtain⟨tag,q1,q2⟩:=h3 j a ha;obtain⟨_,v,r2,r3⟩:=BF hG hx hh hg q1 q2;exact⟨v,by rw[show o-h0.shift+j=o+j-h0.shift by omega];exact r2,r3⟩
  let cs:List Value:=(List.range l.length).map λj=>(w.cell? ⟨h0.blk,o-h0.shift+j,none⟩).getD undef
  have Xz:cs.length=n:=by simp [cs,h2]
  have g8:∀(j:Nat) (v:Value),cs[j]? =some v->w.cell? ⟨h0.blk,o-h0.shift+j,none⟩=some v:=λj v hv=>by
   have hj:j<l.length:=by
    rcases aaf j l.length with h'|h'
    ·exact h'
    ·rw[aak (by simp [cs];exact h')] at hv;cases hv
   obtain⟨v',U',_⟩:=key j l[j] (aah hj);simp [cs,hj,U'] at hv;rw[U',hv]
  refine⟨l,cs,c7,e1,b6,h1,⟨by simp [cs],λj a v ha hv=>?_⟩,Xz,g8, ?_⟩
  ·obtain⟨v',U',hr⟩:=key j a ha;have:=g8 j v hv;rw[U'] at this;injection this with this;subst this;exact hr
  ·have:=run_loadCells_list (P:=P) w ⟨h0.blk,o-h0.shift,none⟩ cs (λj v hv=>by
    have:=g8 j v hv;unfold Addr.add;split
    ·rename_i e;subst e;simpa using this
    ·exact this)
   rw[Xz] at this;exact this
 |_=>exact(ac h).elim
def ws{t:TypeId}{x:AV}{v:Value}(hS:SI σ)(hG:Good w0 ρ σ.h w)(hx:VR ρ x v)(h:run (vO P t x k) σ K=true):∃av a8 u,run (k av) a8 K=true/\SI a8/\Good w0 ρ a8.h w/\VR ρ av u/\(Instr.loadAt t v).run P w= .ok u w:=by
 cases hx with
 |ptr b g o h0 hh ho=>
  obtain⟨d,hu,h⟩:=bp h;rcases bf h with⟨hd,h⟩|⟨hd,h⟩
  ·obtain⟨i,hi,h⟩:=bE h;obtain⟨l,cs,a8,e,j7,h1,hl,hlen,_,b7⟩:=fj (P:=P) hS hG hh ho h;have m7:LR ρ l cs.toArray.toList:=by simpa using hl
   refine⟨_,_,_,h1,j7,by rw[e];exact hG,VR.agg l cs.toArray m7.arr.1 m7.arr.2, ?_⟩;simp only [Instr.loadAt,Instr.sureAddr,loadVar,aaa,aac,aad,bJ hu,hd,if_true,am hi,b7]
  ·obtain⟨y,c7,hy,e1,b6,h⟩:=aT hS h
   cases y with
   |cells c gen lo hi fl fh ro ty=>
    obtain⟨hg,h⟩:=aj h
    obtain⟨z,hz,h⟩:=mD h
    cases z with
    |mk tag a=>obtain⟨ht,h⟩:=aj h;obtain⟨_,v,hv,hr⟩:=BF hG hy hh (aU hg) hz (aU ht);refine⟨_,_,_,h,b6,by rw[e1];exact hG,hr, ?_⟩;simp only [Instr.loadAt,Instr.sureAddr,loadVar,aaa,aac,aad,bJ hu,hd,Bool.false_eq_true,if_false,run_load,hv]
   |_=>exact(ac h).elim
 |cptr l blk off arr ty hf hb r=>
  obtain⟨⟨fr,hw⟩,_⟩:=hG.frz _ _ _ hf;obtain⟨d,hu,h⟩:=bp h;rcases bf h with⟨hd,h⟩|⟨hd,h⟩
  ·obtain⟨i,hi,h⟩:=bE h;have h:=eO h;obtain⟨hn,h⟩:=aj h;have hn:=aF hn;have hle:i.size<=l.length:=by rw[aar] at hn;omega
   have Xz:((arr.toList.drop off).take i.size).length=i.size:=by simp;omega
   have i3:∀(j:Nat) (v:Value),((arr.toList.drop off).take i.size)[j]? =some v->j<i.size/\arr[off+j]? =some v:=λj v hv=>by
    have hj:j<i.size:=by
     rcases aaf j i.size with h'|h'
     ·exact h'
     ·rw[aak (by omega)] at hv;cases hv
    refine⟨hj, ?_⟩;rw[aav hj,aax] at hv;simpa using hv
   have hl:LR ρ (l.take i.size) ((arr.toList.drop off).take i.size):=by refine⟨by rw[Xz,hn],λj a v ha hv=>?_⟩;obtain⟨hj,hv⟩:=i3 j v hv;rw[aav hj] at ha;exact r j a v ha hv
   have b7:=run_loadCells_list (P:=P) w ⟨blk,off,none⟩ ((arr.toList.drop off).take i.size) (λj v hv=>by
    obtain⟨_,hv⟩:=i3 j v hv;unfold Addr.add;split
    ·rename_i e;subst e;simp [World.cell?,hw];simpa using hv
    ·simp [World.cell?,hw];exact hv)
   rw[Xz] at b7;have m7:LR ρ (l.take i.size) ((arr.toList.drop off).take i.size).toArray.toList:=by simpa using hl
   refine⟨_,_,_,h,hS,hG,VR.agg _ ((arr.toList.drop off).take i.size).toArray m7.arr.1 m7.arr.2, ?_⟩;simp only [Instr.loadAt,Instr.sureAddr,loadVar,aaa,aac,aad,bJ hu,hd,if_true,am hi,b7]
  ·obtain⟨a,ha,h⟩:=br h;have c8:0<l.length:=by
    rcases aaf 0 l.length with h'|h'
    ·exact h'
    ·rw[aak h'] at ha;cases ha
   have hv:arr[off]? =some arr[off]:=aaK (by omega);refine⟨_,_,_,h,hS,hG,r 0 a _ ha (show arr[off+0]? =some arr[off] by rw[aas];exact hv), ?_⟩;simp only [Instr.loadAt,Instr.sureAddr,loadVar,aaa,aac,aad,bJ hu,hd,Bool.false_eq_true,if_false,run_load];simp [World.cell?,hw,hv]
 |gptr b g i o es hm hh hs=>
  obtain⟨q,c7,hq,e1,b6,h⟩:=aT hS h
  have b9:Good w0 ρ c7.h w:=by rw[e1];exact hG
  cases q with
  |grow c gen ty=>
   obtain⟨k1,z1⟩:=aj h;obtain⟨k2,z2⟩:=aj z1;obtain⟨c8,z3⟩:=aJ z2;clear h z1 z2;have k1:=aF k1;have k2:=aF k2;subst k1;subst k2;have h:=z3;clear z3;rcases hG.blk _ _ hq with h0|⟨u0,q1,q2,q3,arr,fr,q4,q5,q6,q7,q8⟩
   ·omega
   rw[hh] at q1;injection q1 with q1;subst q1;have g8:=q8 i c8;have i3:∀(j:Nat) (a:AV),(c.row i)[j]? =some a->∃u,w.cell? ⟨hm.blk,i * c.es+j,none⟩=some u/\VR ρ a u:=λj a ha=>by obtain⟨u,u1,u2⟩:=g8 j a ha;exact⟨u,by simp [World.cell?,q4,u1],u2⟩
   obtain⟨d,hu,h⟩:=bp h;rcases bf h with⟨hd,h⟩|⟨hd,h⟩
   ·obtain⟨ii,hi,h⟩:=bE h;have h:=eO h;obtain⟨hn,h⟩:=aj h;have hn:=aF hn;let cs:List Value:=(List.range ii.size).map λj=>(w.cell? ⟨hm.blk,i * c.es+o+j,none⟩).getD undef;have Xz:cs.length=ii.size:=by simp [cs]
    have j5:∀j,j<ii.size->∃a,(((c.row i).drop o).take ii.size)[j]? =some a/\(c.row i)[o+j]? =some a:=λj hj=>by
     have Zo:j<(((c.row i).drop o).take ii.size).length:=by omega
     refine⟨(((c.row i).drop o).take ii.size)[j],aah Zo, ?_⟩;have:=aah Zo;rw[aav hj,aax] at this;exact this
    have hl:LR ρ (((c.row i).drop o).take ii.size) cs:=by
     refine⟨by rw[Xz,hn],λj a v ha hv=>?_⟩;have hj:j<ii.size:=by
      rcases aaf j ii.size with h'|h'
      ·exact h'
      ·rw[aak (by omega)] at hv;cases hv
     obtain⟨a',X5,hf⟩:=j5 j hj;rw[ha] at X5;injection X5 with X5;subst X5;obtain⟨u,u1,u2⟩:=i3 _ _ hf;have e2:i * c.es+(o+j)=i * c.es+o+j:=by omega
     rw[e2] at u1;simp [cs,hj,u1] at hv;rw[←hv];exact u2
    have b7:=run_loadCells_list (P:=P) w ⟨hm.blk,i * c.es+o,none⟩ cs (λj v hv=>by
     have hj:j<ii.size:=by
      rcases aaf j ii.size with h'|h'
      ·exact h'
      ·rw[aak (by omega)] at hv;cases hv
     obtain⟨a',X5,hf⟩:=j5 j hj;obtain⟨u,u1,u2⟩:=i3 _ _ hf;have e2:i * c.es+(o+j)=i * c.es+o+j:=by omega
     rw[e2] at u1;simp [cs,hj,u1] at hv;subst hv;unfold Addr.add;split
     ·rename_i e;subst e;simpa using u1
     ·exact u1)
    rw[Xz] at b7;have m7:LR ρ (((c.row i).drop o).take ii.size) cs.toArray.toList:=by simpa using hl
    refine⟨_,_,_,h,b6,b9,VR.agg _ cs.toArray m7.arr.1 m7.arr.2, ?_⟩;simp only [Instr.loadAt,Instr.sureAddr,loadVar,aaa,aac,aad,bJ hu,hd,if_true,am hi,b7]
   ·obtain⟨a,ha,h⟩:=br h;obtain⟨u,u1,u2⟩:=i3 o a ha;refine⟨_,_,_,h,b6,b9,u2, ?_⟩;simp only [Instr.loadAt,Instr.sureAddr,loadVar,aaa,aac,aad,bJ hu,hd,Bool.false_eq_true,if_false,run_load,u1]
  |_=>exact(ac h).elim
 |aptr b g o n i hm hh ho hi0 hi1=>
  obtain⟨d,hu,h⟩:=bp h;obtain⟨hd,h⟩:=kB h;obtain⟨l,cs,a8,e,j7,h1,hl,hlen,g8,_⟩:=fj (P:=P) hS hG hh ho h;obtain⟨q,hq,h1⟩:=br h1;obtain⟨q1,q2⟩:=wn hq;have M':i.toNat<l.length:=by have:=hl.1;omega
  have ha:l[i.toNat]? =some l[i.toNat]:=aah M';obtain⟨u,hu1,YV⟩:=hl.get ha;have hu3:=aI YV (q2 _ _ ha);have hu4:=g8 _ _ hu1;refine⟨_,_,_,h1,j7,by rw[e];exact hG,VR.sI q.1 _, ?_⟩;simp only [Instr.loadAt,Instr.sureAddr,loadVar,aaa,aac,aad,bJ hu,hd,Bool.false_eq_true,if_false,run_load,hu4,hu3]
 |_=>exact(ac h).elim
def Ll{t:TypeId}{x:AV}{v:Value}(hS:SI σ)(hG:Good w0 ρ σ.h w)(hx:VR ρ x v)(h:run (vO P t x k) σ K=true):Res P w0 ρ w k K (Instr.loadAt t v):=by obtain⟨av,a8,u,h1,h2,h3,h4,h5⟩:=ws (P:=P) hS hG hx h;exact .plain h1 h2 h3 h4 h5
end
end Go.Sym
namespace Go.Sym
open Go.RowKit (Below)
def LR.one{ρ:Rho}{a b:AV}{vs:List Value}(h:LR ρ [a] vs)(hw:∀v,VR ρ a v->VR ρ b v):LR ρ [b] vs:=by obtain⟨v,o7,rfl,hv,h'⟩:=h.cons_inv;have:=h'.nil_inv;subst this;exact LR.cons (hw v hv) (LR.nil ρ)
def LR.split{ρ:Rho}{l m:List AV}{vs:List Value}(h:LR ρ (l++m) vs):∃v1 v2,vs=v1++v2/\LR ρ l v1/\LR ρ m v2:=by
 have hl:vs.length=l.length+m.length:=by simpa using h.1
 refine⟨vs.take l.length,vs.drop l.length,(List.take_append_drop _ _).symm,⟨by simp;omega,λi a v ha hv=>?_⟩,⟨by simp;omega,λi a v ha hv=>?_⟩⟩
 ·have hi:i<l.length:=by
   rcases aaf i l.length with h'|h'
   ·exact h'
   ·rw[aak h'] at ha;cases ha
  rw[aav hi] at hv;exact h.2 i a v (by rw[aaB hi];exact ha) hv
 ·rw[aax] at hv;exact h.2 (l.length+i) a v (by rw[aaG (by omega)];simpa using ha) hv
def Sg{p:Prop}:pI p=1↔p:=by unfold pI;by_cases h:p <;> simp [h]
def GS:∀(n:Nat) (cs:List AV) (l:List G) (r:List AV),Bj n cs=some (l,r)->
 ∃c,cs=c++r/\c.length=n/\l.length=n/\∀(ρ:Rho) (vs:List Value) (g:G) (j:Nat),(∀i,i<n->ah g (j+i)=aL l i)->LR ρ c vs->LR ρ (kr g n j) vs:=by
 intro n
 induction n with
 |zero=>
  intro cs l r h
  injection h with h;injection h with h1 h2
  subst h1;subst h2
  exact⟨[],rfl,rfl,rfl,λρ vs g j _ hl=>hl⟩
 |succ n ih=>
  intro cs l r h
  cases cs with
  |nil=>cases h
  |cons a cs=>
   unfold Bj at h
   split at h
   ·rename_i v hv;split at h
    ·rename_i l' q hp;injection h with h;injection h with h1 h2;subst h1;subst h2;obtain⟨c,rfl,e2,e3,e4⟩:=ih _ _ _ hp;refine⟨a::c,rfl,by simp [e2],by simp [e3],λρ vs g j hg hl=>?_⟩;obtain⟨x,o7,rfl,hx,m7⟩:=hl.cons_inv;refine LR.cons ?_ (e4 ρ o7 g (j+1) (λi hi=>?_) m7)
     ·have:=hg 0 (by omega);rw[aas] at this;rw[this,aI hx hv];exact .sI _ _
     ·have:=hg (i+1) (by omega);rw[show j+1+i=j+(i+1) by omega,this];rfl
    ·cases h
   ·cases h
def GT{x:Sc}{cs:List AV}{k:G->List AV->Option (List G×List AV)}{q:List G×List AV}(h:Gb x cs none k=some q):
 ∃g c r,cs=c++r/\c.length=Us x/\k g r=some q/\∀(ρ:Rho) (vs:List Value),LR ρ c vs->LR ρ (eJ x g) vs:=by
 cases cs with
 |nil=>cases h
 |cons a r=>
  unfold Gb at h
  cases x with
  |i j=>
   simp only at h
   cases hn:bD a with
   |none=>rw[hn] at h;cases h
   |some y=>
    obtain⟨j',n⟩:=y
    rw[hn] at h
    simp only [ak] at h
    split at h
    ·rename_i e;have e:=of_decide_eq_true e;subst e;exact⟨_,[a],r,rfl,rfl,h,λρ vs hl=>hl.one λv hv=>by rw[aI hv hn];exact .sI _ _⟩
    ·cases h
  |b=>
   simp only at h
   cases hn:cS a with
   |none=>rw[hn] at h;cases h
   |some p=>
    rw[hn] at h
    exact⟨_,[a],r,rfl,rfl,h,λρ vs hl=>hl.one λv hv=>by obtain⟨b,e,hb⟩:=dB hv hn;rw[e];exact .sB _ b (by rw[hb];exact Sg.symm)⟩
  |s=>
   simp only at h
   cases hn:eY a with
   |none=>rw[hn] at h;cases h
   |some p=>
    rw[hn] at h
    exact⟨_,[a],r,rfl,rfl,h,λρ vs hl=>hl.one λv hv=>by obtain⟨b,e,hb⟩:=cM hv hn;rw[e,hb];exact .sS b⟩
  |o=>
   simp only [ak] at h
   split at h
   ·rename_i e;exact⟨_,[a],r,rfl,rfl,h,λρ vs hl=>hl.one λv hv=>.any1 v (gO hv e)⟩
   ·cases h
  |sl m=>
   simp only at h
   split at h
   ·exact⟨_,[_],r,rfl,rfl,h,λρ vs hl=>hl.one λv hv=>by cases hv;exact .cvnil _ rfl⟩
   ·rename_i m' l;simp only [ak] at h;split at h
    ·rename_i e;have e:=aae e;subst e;exact⟨_,[_],r,rfl,rfl,h,λρ vs hl=>hl⟩
    ·cases h
   ·cases h
  |bs=>
   simp only at h
   split at h
   ·exact⟨_,[_],r,rfl,rfl,h,λρ vs hl=>hl.one λv hv=>by cases hv;exact .cvnil _ rfl⟩
   ·exact⟨_,[_],r,rfl,rfl,h,λρ vs hl=>hl⟩
   ·cases h
  |h n=>
   simp only at h
   split at h
   ·rename_i l r' hp;obtain⟨c,e1,e2,e3,e4⟩:=GS _ _ _ _ hp;exact⟨_,c,r',e1,e2,h,λρ vs hl=>e4 ρ vs (.node l) 0 (λi hi=>by simp [ah,gL,aL]) hl⟩
   ·cases h
def gU:∀(xs:List Sc) (cs:List AV) (gs:List G) (r:List AV),eM xs cs=some (gs,r)->
 ∃c1,cs=c1++r/\c1.length=aS xs/\gs.length=xs.length/\∀(g:G) (j:Nat),(∀i,i<xs.length->ah g (j+i)=aL gs i)->∀(ρ:Rho) (vs:List Value),LR ρ c1 vs->LR ρ (aV xs g j) vs:=by
 intro xs
 induction xs with
 |nil=>
  intro cs gs r h
  injection h with h
  injection h with h1 h2
  subst h1;subst h2
  exact⟨[],rfl,rfl,rfl,λg j _ ρ vs hl=>hl⟩
 |cons x xs ih=>
  intro cs gs r h
  unfold eM at h
  obtain⟨g0,ca,r0,rfl,hw,hk,hc⟩:=GT h
  split at hk
  ·rename_i gs' r' hp;injection hk with hk;injection hk with h1 h2;subst h1;subst h2;obtain⟨c1,rfl,e2,e4,e3⟩:=ih _ _ _ hp;refine⟨ca++c1,by simp,by simp [aS,hw,e2],by simp [e4],λg j hg ρ vs hl=>?_⟩;obtain⟨v,o7,rfl,hv,m7⟩:=hl.split;have h0:=hg 0 (by simp);have g8:=hc ρ v hv;have:ah g j=g0:=h0;show LR ρ (eJ x (ah g j)++aV xs g (j+1)) (v++o7);rw[this];refine g8.append (e3 g (j+1) (λi hi=>?_) ρ o7 m7);have:=hg (i+1) (by simp;omega);rw[show j+1+i=j+(i+1) by omega,this];rfl
  ·cases hk
def fH{xs:List Sc}:∀(n:Nat) (cs:List AV) (gs:List G) (r:List AV),cW xs n cs=some (gs,r)->
 ∃c1,cs=c1++r/\c1.length=n * aS xs/\gs.length=n/\∀i,i<n->∀(ρ:Rho) (vs:List Value),LR ρ ((c1.drop (i * aS xs)).take (aS xs)) vs->LR ρ (aV xs (aL gs i) 0) vs:=by
 intro n
 induction n with
 |zero=>
  intro cs gs r h
  injection h with h
  injection h with h1 h2
  subst h1;subst h2
  exact⟨[],rfl,by simp,rfl,λi hi=>by omega⟩
 |succ n ih=>
  intro cs gs r h
  unfold cW at h
  split at h
  ·rename_i g1 r1 h1;split at h
   ·rename_i gs2 r2 h2
    injection h with h
    injection h with q1 q2
    subst q1;subst q2
    obtain⟨c1,rfl,e1,e0,e2⟩:=gU _ _ _ _ h1
    obtain⟨c2,rfl,f1,f2,f3⟩:=ih _ _ _ h2
    refine⟨c1++c2,by simp,by simp [e1,f1,aaL];omega,by simp [f2],λi hi ρ vs hl=>?_⟩
    cases i with
    |zero=>rw[aa_,aaT,abs (by omega),abt (by omega)] at hl;exact e2 (.node g1) 0 (λi hi=>by simp [ah,gL,aL]) ρ vs hl
    |succ i=>
     have:(c1++c2).drop ((i+1) * aS xs)=c2.drop (i * aS xs):=by rw[List.drop_append,List.drop_of_length_le (by rw[aaL];omega)];simp only [List.nil_append];congr 1;rw[e1,aaL];omega
     rw[this] at hl;have:=f3 i (by omega) ρ vs hl;simpa [aL] using this
   ·cases h
  ·cases h
def ls:∀(cs:List AV) (ns:List Int),eZ cs=some ns->ns.length=cs.length/\∀(i:Nat) (a:AV),cs[i]? =some a->∃n,ns[i]? =some n/\bD a=some (.u8,n):=by
 intro cs
 induction cs with
 |nil=>intro ns h;injection h with h;subst h;exact⟨rfl,by simp⟩
 |cons a cs ih=>
  intro ns h;unfold eZ at h;split at h
  ·rename_i n hn;split at h
   ·rename_i l hl
    injection h with h
    subst h
    obtain⟨h1,h2⟩:=ih _ hl
    refine⟨by simp [h1],λi b hb=>?_⟩
    cases i with
    |zero=>simp at hb;subst hb;exact⟨n,rfl,hn⟩
    |succ i=>simp at hb;obtain⟨m,q1,q2⟩:=h2 i b hb;exact⟨m,by simpa using q1,q2⟩
   ·cases h
  ·cases h
def gV:∀(ns:List Int) (i:Nat) (n:Int),bA ns->ns[i]? =some n->(aN ns)[i]? =some n.toNat/\0<=n:=by
 intro ns
 induction ns with
 |nil=>intro i n _ h;simp at h
 |cons x ns ih=>
  intro i n hn h
  cases i with
  |zero=>simp at h;subst h;exact⟨rfl,hn.1⟩
  |succ i=>simp at h;exact ih i n hn.2 h
def bV:∀(ns:List Int),(aN ns).length=ns.length:=by
 intro ns
 induction ns with
 |nil=>rfl
 |cons x ns ih=>simp [aN,ih]
def Pr{c c':Ct}{new:List AV}{n:Nat}{p:Prop}(h:c.app new n=some (c',p))(hp:p)(hn:new.length=n * c.es):
 c'.len=c.len+n/\c'.es=c.es/\(∀i,i<c.len->c'.row i=c.row i)/\∀i,c.len<=i->i<c.len+n->∀(ρ:Rho) (vs:List Value),LR ρ ((new.drop ((i-c.len) * c.es)).take c.es) vs->LR ρ (c'.row i) vs:=by
 cases c with
 |rows m l=>
  unfold Ct.app at h
  simp only at h
  split at h
  ·rename_i gs hg;injection h with h;injection h with h1 h2;subst h1;obtain⟨c1,e1,e2,e3,e4⟩:=fH _ _ _ _ hg;have e1:new=c1:=by simpa using e1
   subst e1;refine⟨by simp [Ct.len,e3],rfl,λi hi=>?_,λi h1 h2 ρ vs hl=>?_⟩
   ·have hi:i<l.length:=hi;simp only [Ct.row,aL,aai,aaB hi]
   ·have h1:l.length<=i:=h1;have h2:i<l.length+n:=h2;have:=e4 (i-l.length) (by omega) ρ vs hl;have e5:aL (l++gs) i=aL gs (i-l.length):=by simp only [aL,aai,aaG h1]
    simp only [Ct.row,e5];exact this
  ·cases h
 |bytes s=>
  unfold Ct.app at h
  simp only at h
  split at h
  ·rename_i ns hg;rw[ak] at h;split at h
   ·rename_i Yl;have Yl:=aae Yl;injection h with h;injection h with h1 h2;subst h1;subst h2;obtain⟨e1,e2⟩:=ls _ _ hg;refine⟨by simp [Ct.len,bV,Yl],rfl,λi hi=>?_,λi h1 h2 ρ vs hl=>?_⟩
    ·have hi:i<s.length:=hi;simp only [Ct.row,aai,aaB hi]
    ·have h1:s.length<=i:=h1;have h2:i<s.length+n:=h2;have c8:i-s.length<new.length:=by omega
     have hd:(new.drop ((i-s.length) * 1)).take 1= [new[i-s.length]]:=by rw[aaC,aba c8];rfl
     have hl:LR ρ ((new.drop ((i-s.length) * 1)).take 1) vs:=hl;rw[hd] at hl;refine hl.one λv hv=>?_;obtain⟨n',q1,q2⟩:=e2 (i-s.length) new[i-s.length] (aah c8);obtain⟨q3,q4⟩:=gV _ _ _ hp q1;rw[aI hv q2];have e5:(s++aN ns).getD i 0=n'.toNat:=by rw[aai,aaG h1,q3];rfl
     rw[e5,show((n'.toNat:Nat):Int)=n' by omega];exact .sI _ _
   ·cases h
  ·cases h
def Ps{c c':Ct}{new:List AV}{i o:Nat}{p:Prop}(h:c.upd i o new=some (c',p))(hp:p)(hi:i<c.len)(ho:o+new.length<=c.es):
 c'.len=c.len/\c'.es=c.es/\(∀i',i'≠i->c'.row i'=c.row i')/\∀(ρ:Rho) (vs:List Value),LR ρ ((c.row i).take o++new++(c.row i).drop (o+new.length)) vs->LR ρ (c'.row i) vs:=by
 cases c with
 |rows m l=>
  unfold Ct.upd at h
  simp only at h
  split at h
  ·rename_i gs hg;injection h with h;injection h with h1 h2;subst h1;obtain⟨c1,e1,e2,e0,e3⟩:=gU _ _ _ _ hg;have e1:((Ct.rows m l).row i).take o++new++((Ct.rows m l).row i).drop (o+new.length)=c1:=by simpa using e1
   have hi:i<l.length:=hi;refine⟨by simp [Ct.len],rfl,λi' j0=>?_,λρ vs hl=>?_⟩
   ·simp only [Ct.row,aL,aai,List.getElem?_set_ne (Ne.symm j0)]
   ·rw[e1] at hl;have e4:aL (l.set i (.node gs)) i= .node gs:=by simp only [aL,aai,abN hi,abC]
    simp only [Ct.row,e4];exact e3 (.node gs) 0 (λi hi=>by simp [ah,gL,aL]) ρ vs hl
  ·cases h
 |bytes s=>
  unfold Ct.upd at h
  simp only at h
  split at h
  ·rename_i a;split at h
   ·rename_i n hn;injection h with h;injection h with h1 h2;subst h1;subst h2;have hi:i<s.length:=hi;refine⟨by simp [Ct.len],rfl,λi' j0=>?_,λρ vs hl=>?_⟩
    ·simp only [Ct.row,aai,List.getElem?_set_ne (Ne.symm j0)]
    ·have hl:LR ρ [a] vs:=hl;have e4:(s.set i n.toNat).getD i 0=n.toNat:=by rw[aai,abN hi];rfl
     refine hl.one λv hv=>?_;rw[e4,aI hv hn,show((n.toNat:Nat):Int)=n by omega];exact .sI _ _
   ·cases h
  ·cases h
def LR.ones{ρ:Rho}{l:List AV}{vs:List Value}(hl:LR ρ l vs)(h:∀a∈l,eK a=true):∀v∈vs,v.oneCell'=true:=by
 intro v hv;obtain⟨j,hj,e⟩:=List.mem_iff_getElem.1 hv;have Zo:j<l.length:=by have:=hl.1;omega
 have:=hl.2 j l[j] v (aah Zo) (by rw[aah hj,e]);exact gO this (h _ (abk _))
def lu{ρ:Rho}{l l':List AV}{A:Nat->Option Value}(h:∀j a,l[j]? =some a->∃u,A j=some u/\VR ρ a u)(hl:∀vs,LR ρ l vs->LR ρ l' vs):∀j a,l'[j]? =some a->∃u,A j=some u/\VR ρ a u:=by
 let vs:List Value:=(List.range l.length).map λj=>(A j).getD undef;have l6:LR ρ l vs:=by
  refine⟨by simp [vs],λi a v ha hv=>?_⟩;obtain⟨u,h1,h2⟩:=h i a ha;have hi:i<l.length:=by
   rcases aaf i l.length with h'|h'
   ·exact h'
   ·rw[aak h'] at ha;cases ha
  simp [vs,hi,h1] at hv;rw[←hv];exact h2
 have h':=hl vs l6;intro j a ha;obtain⟨v,hv,hr⟩:=h'.get ha;have hj:j<l.length:=by
  have:=h'.1;rcases aaf j vs.length with ZE|ZE
  ·simpa [vs] using ZE
  ·rw[aak ZE] at hv;cases hv
 obtain⟨u,h1,h2⟩:=h j l[j] (aah hj);simp [vs,hj,h1] at hv;exact⟨u,h1,by rw[hv];exact hr⟩
end Go.Sym
