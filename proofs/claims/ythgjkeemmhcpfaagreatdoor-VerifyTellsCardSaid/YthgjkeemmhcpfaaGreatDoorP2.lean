/- Part 2. -/
import Derived.DeepKeys
import Derived.Test.YthgjkeemmhcpfaaGreatDoorP1
set_option linter.all false
namespace Go.Sym
def LR.drop{ρ:Rho}{l:List AV}{vs:List Value}(h:LR ρ l vs)(n:Nat):LR ρ (l.drop n) (vs.drop n):=
 ⟨by simp [h.1],λi a v ha hv=>h.2 (n+i) a v (by simpa using ha) (by simpa using hv)⟩
def LR.take{ρ:Rho}{l:List AV}{vs:List Value}(h:LR ρ l vs)(n:Nat):LR ρ (l.take n) (vs.take n):=by
 refine⟨by simp [h.1],λi a v ha hv=>?_⟩;rw[aa0] at ha hv;split at ha
 ·rename_i hi;rw[if_pos hi] at hv;exact h.2 i a v ha hv
 ·cases ha
section
variable{P:Program}{w0:World}{ρ:Rho}{w:World}{σ:St}{K:Fin}{k:AV->Tr}
def cB{t:TypeId}{k:TypeDesc->Tr}(h:run (co P t k) σ K=true):∃d,P.underlying t=some d/\run (k d) σ K=true:=bT h
def Zu{t:TypeId}{k:TypeInfo->Tr}(h:run (Up P t k) σ K=true):∃i,P.info? t=some i/\run (k i) σ K=true:=bT h
def cC{t:TypeId}{k:Nat->Tr}(h:run (cx P t k) σ K=true):∃i,P.info? t=some i/\run (k i.size) σ K=true:=by obtain⟨i,h1,h2⟩:=bT (k:=λi:TypeInfo=>fN i.size k) h;exact⟨i,h1,jV h2⟩
def cm{t:TypeId}{d:TypeDesc}(h:P.underlying t=some d):(isAgg t).run P w= .ok (cw d) w:=by simp only [isAgg,aab,run_underlying h,aae];cases d <;> rfl
def aA{t:TypeId}{i:TypeInfo}(h:P.info? t=some i):(sizeOf t).run P w= .ok i.size w:=by simp [sizeOf,typeInfo,aab,run_program,h]
def kK{t:TypeId}{d:TypeDesc}{i:TypeInfo}(hu:P.underlying t=some d)(hi:P.info? t=some i){l:List AV}{cs:Array Value}{off:Nat}{a:AV}(hl:LR ρ l cs.toList)(ha:(if cw d then some (AV.agg ((l.drop off).take i.size)) else l[off]?)=some a):∃v,(part t cs off).run P w= .ok v w/\VR ρ a v:=by
 cases hd:cw d with
 |true=>
  rw[hd,if_pos rfl] at ha
  injection ha with ha;subst ha
  refine⟨.agg (cs.extract off (off+i.size)), ?_, ?_⟩
  ·simp only [part,aab,cm hu,hd,aae,if_true,aA hi,aad]
  ·have:(cs.extract off (off+i.size)).toList=(cs.toList.drop off).take i.size:=by rw[Array.toList_extract];simp [List.extract]
   obtain⟨h1,h2⟩:=LR.arr (ρ:=ρ) (l:=(l.drop off).take i.size) (cs:=cs.extract off (off+i.size)) (by rw[this];exact(hl.drop off).take i.size);exact .agg _ _ h1 h2
 |false=>
  rw[hd,if_neg (by simp)] at ha
  obtain⟨v,hv,hr⟩:=hl.get ha
  refine⟨v, ?_,hr⟩
  have hv':cs[off]? =some v:=by simpa using hv
  simp only [part,aab,cm hu,hd,aae,Bool.false_eq_true,if_false,hv',aad]
set_option maxHeartbeats 2000000 in
theorem lF:∀(f:Nat) (g:Nat) (t:TypeId) (d:TypeDesc) (x y:AV) (v u:Value) (r:Bool) (D:Nat),P.underlying t=some d->(cw d=true->gm P g t=true)->
 VR ρ x v->VR ρ y u->fK P f d x y=some r->f<=D->(Op.equalIn D t v u).run P w= .ok r w:=by
 intro f
 induction f with
 |zero=>intro g t d x y v u r D _ _ _ _ h;simp [fK] at h
 |succ f ih=>
  intro g t d x y v u r D hu hc hx hy h hD
  obtain⟨D,rfl⟩:∃D',D=D'+1:=⟨D-1,by omega⟩
  unfold fK at h
  split at h
  ·cases hx;cases hy;injection h with h;subst h;simp [Op.equalIn,run_underlying hu]
  ·cases hx;cases hy;split at h
   ·rename_i e;subst e;injection h with h;subst h;simp [Op.equalIn,run_underlying hu]
   ·cases h
  ·cases hx;cases hy;injection h with h;subst h;rw[iN, ←beq_toListBytes];simp [Op.equalIn,run_underlying hu]
  all_goals first
   |(cases hx <;> cases hy <;> (injection h with h;subst h;simp [Op.equalIn,run_underlying hu];done))
   |skip
  ·rename_i len e xs ys;split at h
   ·rename_i i d' hi he;split at h
    ·rename_i hc'
     simp only [Bool.and_eq_true,beq_iff_eq,Bool.not_eq_true',decide_eq_true_eq] at hc'
     obtain⟨⟨⟨hs1,hna⟩,hlx⟩,hly⟩:=hc'
     cases hx with
     |agg _ cs h1 h2=>
      cases hy with
      |agg _ ds k1 k2=>
       rw[run_equalIn_array w D cs ds hu hi];have T':P.cellsOf e=1:=by simp [Program.cellsOf,hi,hs1]
       rw[T'];have lx:=LR.of_arr h1 h2;have ly:=LR.of_arr k1 k2;have key:∀(n i0:Nat) (xs' ys':List AV) (r:Bool),LR ρ xs' (cs.toList.drop i0)->LR ρ ys' (ds.toList.drop i0)->xs'.length=n->ys'.length=n->fK.eqArr (fK P f d') xs' ys'=some r->
        (Op.eqItems D e 1 cs ds (List.range' i0 n)).run P w= .ok r w:=by
        intro n
        induction n with
        |zero=>
         intro i0 xs' ys' r lx ly l1 l2 h
         rw[List.length_eq_zero_iff] at l1 l2;subst l1;subst l2
         simp only [fK.eqArr] at h;injection h with h;subst h
         simp [Op.eqItems]
        |succ n ihn=>
         intro i0 xs' ys' r lx ly l1 l2 h
         cases xs' with
         |nil=>simp at l1
         |cons a xs'=>
          cases ys' with
          |nil=>simp at l2
          |cons b ys'=>
           obtain⟨v1,vs1,e1,r1,lx'⟩:=lx.cons_inv
           obtain⟨u1,us1,e2,r2,ly'⟩:=ly.cons_inv
           have Jx:cs[i0]? =some v1:=by have:=congrArg (·[0]?) e1;simpa using this
           have hu1:ds[i0]? =some u1:=by have:=congrArg (·[0]?) e2;simpa using this
           have lx2:LR ρ xs' (cs.toList.drop (i0+1)):=by
            have:cs.toList.drop (i0+1)=vs1:=by rw[←aa1,Nat.add_comm] at *;have:=congrArg (List.drop 1) e1;simpa [aa1,Nat.add_comm] using this
            rw[this];exact lx'
           have ly2:LR ρ ys' (ds.toList.drop (i0+1)):=by
            have:ds.toList.drop (i0+1)=us1:=by have:=congrArg (List.drop 1) e2;simpa [aa1,Nat.add_comm] using this
            rw[this];exact ly'
           have p1:(part e cs (i0 * 1)).run P w= .ok v1 w:=by simp only [aaF,part,aab,cm he,hna,aae,Bool.false_eq_true,if_false,Jx,aad]
           have p2:(part e ds (i0 * 1)).run P w= .ok u1 w:=by simp only [aaF,part,aab,cm he,hna,aae,Bool.false_eq_true,if_false,hu1,aad]
           simp only [fK.eqArr] at h
           simp only [List.range'_succ,Op.eqItems,aab,p1,p2,aae]
           split at h
           ·rename_i hq;rw[ih g e d' a b v1 u1 true D he (by rw[hna];intro c;cases c) r1 r2 hq (by omega)];simp only [aae,Bool.not_true,Bool.false_eq_true,if_false];exact ihn (i0+1) xs' ys' r lx2 ly2 (by simpa using l1) (by simpa using l2) h
           ·rename_i hq
            cases r with
            |true=>exact absurd h hq
            |false=>rw[ih g e d' a b v1 u1 false D he (by rw[hna];intro c;cases c) r1 r2 h (by omega)];simp
       rw[List.range_eq_range'];exact key len 0 xs ys r (by simpa using lx) (by simpa using ly) hlx hly h
    ·cases h
   ·cases h
  ·rename_i fs xs ys
   cases hx with
   |agg _ cs h1 h2=>
    cases hy with
    |agg _ ds k1 k2=>
     have ag2:=hc rfl;obtain⟨g,rfl⟩:∃g',g=g'+1:=by
      cases g with
      |zero=>simp [gm] at ag2
      |succ g=>exact⟨g,rfl⟩
     simp only [gm,hu,Bool.and_eq_true,Bool.not_eq_true',abj] at ag2;have hfs:P.fieldsOf t=fs:=by simp [Program.fieldsOf,hu]
     rw[run_equalIn_struct w D t cs ds (by rw[hfs];exact hu) ag2.1,hfs];have lx:=LR.of_arr h1 h2;have ly:=LR.of_arr k1 k2;have key:∀(l:List Field) (r:Bool),(∀fd∈l,gm P g fd.type=true)->fK.eqFs P (fK P f) l xs ys=some r->(Op.eqFields D cs ds l).run P w= .ok r w:=by
      intro l
      induction l with
      |nil=>intro r _ h;simp only [fK.eqFs] at h;injection h with h;subst h;simp [Op.eqFields]
      |cons fd l ihl=>
       intro r hl h;simp only [fK.eqFs] at h;simp only [Op.eqFields];by_cases hn:fd.name= "_"
       ·rw[if_pos hn] at h;rw[if_neg (by simp [hn])];exact ihl r (λx hx=>hl x (by simp [hx])) h
       ·rw[if_neg hn] at h;rw[if_pos hn];split at h
        ·rename_i i d' hi he;split at h
         ·rename_i a b ha hb;obtain⟨v1,p1,r1⟩:=kK (w:=w) he hi lx ha;obtain⟨u1,p2,r2⟩:=kK (w:=w) he hi ly hb;simp only [aab,p1,p2,aae];split at h
          ·rename_i hq;rw[ih g fd.type d' a b v1 u1 true D he (λ_=>hl fd (by simp)) r1 r2 hq (by omega)];simp only [aae,Bool.not_true,Bool.false_eq_true,if_false];exact ihl r (λx hx=>hl x (by simp [hx])) h
          ·rename_i hq
           cases r with
           |true=>exact absurd h hq
           |false=>rw[ih g fd.type d' a b v1 u1 false D he (λ_=>hl fd (by simp)) r1 r2 h (by omega)];simp
         ·cases h
        ·cases h
     exact key fs.toList r (λfd hfd=>ag2.2 fd hfd) h
  ·cases h
end
end Go.Sym
namespace Go.Sym
section
variable{P:Program}{w0:World}{ρ:Rho}{w:World}{σ:St}{K:Fin}{k:AV->Tr}
def pf:Value->Value->Bool
 | .int _ _,.int _ _ | .float _ _,.float _ _ | .complex _ _ _,.complex _ _ _ | .string _,.string _=>false
 |_,_=>true
def ga{t:TypeId}{v u:Value}(h:pf v u=true):binOp .eql t v u=(do pure (.bool (←Op.equal t v u))):=by cases v <;> cases u <;> first|rfl|cases h
def iO{t:TypeId}{v u:Value}(h:pf v u=true):binOp .neq t v u=(do pure (.bool (!(←Op.equal t v u)))):=by cases v <;> cases u <;> first|rfl|cases h
def bh:AV->Nat
 | .int _ _=>1 | .str _=>2 | .opq _=>3 | .anyB=>3 | .anyI _=>3 | .osl _=>3 | .opc _=>3 | .sI _ _=>3 | .sB _=>3 | .sS _=>3 | .any1=>3 | .cptr _=>3 | .cv _=>3 | .gsl .. =>3 | .gptr .. =>3 | .aptr .. =>3 | .agg _=>4 | .nili=>5|_=>0
def nv{x y:AV}{v u:Value}(hx:VR ρ x v)(hy:VR ρ y u)(h1:bh x≠3)(h2:bh y≠3)(hi:¬(bh x=1/\bh y=1))(hs:¬(bh x=2/\bh y=2)):pf v u=true:=by cases hx <;> simp [bh] at h1 <;> cases hy <;> simp [bh] at h2 hi hs <;> rfl
def Wf:Value->Value->Bool
 | .nilIface,.nilIface | .agg _,.agg _=>false
 |_,_=>true
def bK{op:BinOp}{t:TypeId}{ox oy:Operand}{v u:Value}(h:Wf v u=true):(eqGuard op t ox oy v u).run P w= .ok () w:=by cases op <;> first|rfl|(cases v <;> cases u <;> first|rfl|cases h)
def iz{op:BinOp}{t:TypeId}{ox oy:Operand}{x y:AV}{v u:Value}(hx:VR ρ x v)(hy:VR ρ y u)(h1:bh x≠3)(h2:bh y≠3)(hn:¬(bh x=5/\bh y=5)∨pW ox=true∨pW oy=true)(ha:¬(bh x=4/\bh y=4)):
 (eqGuard op t ox oy v u).run P w= .ok () w:=by
 rcases hn with hn|hn
 ·refine bK ?_;cases hx <;> simp [bh] at h1 <;> cases hy <;> simp [bh] at h2 hn ha <;> rfl
 ·by_cases h5:bh x=5/\bh y=5
  ·have e1:x= .nili:=by cases x <;> first|rfl|(simp [bh] at h5)
   have e2:y= .nili:=by cases y <;> first|rfl|(simp [bh] at h5)
   subst e1;subst e2;cases hx;cases hy;rcases hn with hn|hn
   ·cases ox <;> first|(cases hn;done)|skip
    cases op <;> first|rfl|(simp [eqGuard];done)
   ·cases oy <;> first|(cases hn;done)|skip
    cases op <;> first|rfl|(simp [eqGuard];done)
  ·refine bK ?_;cases hx <;> simp [bh] at h1 <;> cases hy <;> simp [bh] at h2 h5 ha <;> rfl
def g_{op:BinOp}{t:TypeId}{ox oy:Operand}{xs ys:Array Value}(h:P.eqGuardType P.depth t=false):(eqGuard op t ox oy (.agg xs) (.agg ys)).run P w= .ok () w:=
 run_eqGuard_agg w op t ox oy xs ys h
def uR:∀(x y:List UInt8),mV (x.map UInt8.toNat) (y.map UInt8.toNat)=Op.bytesLess x y:=by
 intro x
 induction x with
 |nil=>intro y;cases y <;> simp [mV,Op.bytesLess]
 |cons a x ih=>
  intro y
  cases y with
  |nil=>simp [mV,Op.bytesLess]
  |cons b y=>
   simp only [aaB,mV,Op.bytesLess,ar,ih];rw[Bool.eq_iff_iff];by_cases h1:a.toNat<b.toNat
   ·have:a<b:=UInt8.lt_iff_toNat_lt.mpr h1;simp [Nat.ble_eq,this];left;omega
   ·have h1':¬a<b:=λh=>h1 (UInt8.lt_iff_toNat_lt.mp h);by_cases h2:a=b
    ·subst h2;simp;intro h;omega
    ·have:a.toNat≠b.toNat:=λh=>h2 (UInt8.toNat_inj.mp h);have hb:Nat.beq a.toNat b.toNat=false:=by
      cases hb:Nat.beq a.toNat b.toNat with
      |false=>rfl
      |true=>exact absurd (aL hb) this
     have hc:Nat.ble (Nat.succ a.toNat) b.toNat=false:=by
      cases hb:Nat.ble (Nat.succ a.toNat) b.toNat with
      |false=>rfl
      |true=>exact absurd (bY hb) (by omega)
     simp [hb,hc,h1',h2]
def rQ(s t:ByteArray):bytesOf (s++t)=bytesOf s++bytesOf t:=by simp [bytesOf,ByteArray.data_append]
def bZ(s:ByteArray):(bytesOf s).length=s.size:=by simp [bytesOf]
def Io{op:BinOp}{s t:ByteArray}(hS:SI σ)(hG:Good w0 ρ σ.h w)(h:run (ET op (bytesOf s) (bytesOf t) k) σ K=true):
 Res P w0 ρ w k K (Op.stringOp op s t):=by
 have heq:=iN s t
 cases op
 case eql=>
  refine .plain (rP h) hS hG (.bool _) ?_
  rw[heq];rfl
 all_goals exact(ah h).elim
def fU{op:BinOp}{j:IntKind}{a b:Int}(hop:op≠ .shl/\op≠ .shr){t:TypeId}:
 binOp op t (.int j a) (.int j b)=mw op j a b:=by
 cases op <;> first|exact absurd rfl hop.1|exact absurd rfl hop.2|(simp only [binOp];rw[if_neg (by simp)];rfl)
def qN{x:AV}(h:bh x=4):∃l,x= .agg l:=by cases x <;> first|exact⟨_,rfl⟩|(simp [bh] at h)
def qO{x:AV}(h:bh x=1):∃j n,x= .int j n:=by cases x <;> first|exact⟨_,_,rfl⟩|(simp [bh] at h)
def qP{x:AV}(h:bh x=2):∃l,x= .str l:=by cases x <;> first|exact⟨_,rfl⟩|(simp [bh] at h)
def ma{lit:Bool}{x y:AV}(h:w_ lit x y=true):bh x≠3/\bh y≠3/\(¬(bh x=5/\bh y=5)∨lit=true):=by cases x <;> cases y <;> first|(cases h;done)|(refine⟨?_, ?_,.inl ?_⟩ <;> simp [bh] <;> done)|exact⟨by simp [bh],by simp [bh],.inr h⟩
def Ff{f:Nat}{d:TypeDesc}{x y:AV}{r:Bool}(hd:cw d=true)(h:fK P f d x y=some r):∃a b,x= .agg a/\y= .agg b:=by
 cases f with
 |zero=>simp [fK] at h
 |succ f=>unfold fK at h;split at h <;> first|(cases hd;done)|exact⟨_,_,rfl,rfl⟩|(cases h;done)
def Wg{op:BinOp}{t:TypeId}{ox oy:Operand}{j j':IntKind}{n m:Int}(hS:SI σ)(hG:Good w0 ρ σ.h w)(h:run (ac (decide (j=j')) (ac (EW op) (k .anyB) .fail) .fail) σ K=true):
 Res P w0 ρ w k K (do eqGuard op t ox oy (.int j n) (.int j' m);binOp op t (.int j n) (.int j' m)):=by
 obtain⟨hj,h2⟩:=ay h
 obtain⟨ab8,h3⟩:=ay h2
 have hj2:=of_decide_eq_true hj
 clear h h2 hj
 subst hj2
 have hop:op≠ .shl/\op≠ .shr:=by cases op <;> first|(simp [EW] at ab8;done)|exact⟨by simp,by simp⟩
 obtain⟨b,hb⟩:∃b:Bool,(mw op j n m).run P w= .ok (.bool b) w:=by cases op <;> first|(simp [EW] at ab8;done)|exact⟨_,rfl⟩
 refine(Res.plain h3 hS hG (.anyB b) hb).of_eq ?_
 rw[aab,bK rfl,fU hop];rfl
def bc{x:AV}{v:Value}{j:IntKind}{n:Int}(hx:VR ρ x v)(h:ce x=some (j,n)):v= .int j n:=by
 cases hx <;> simp [ce] at h
 ·obtain⟨e1,e2⟩:=h;subst e1;subst e2;rfl
 ·obtain⟨e1,e2⟩:=h;subst e1;subst e2;rfl
def dB{x:AV}{v:Value}{l:List Nat}(hx:VR ρ x v)(h:gj x=some l):∃s,v= .string s/\l=bytesOf s:=by
 cases hx <;> simp [gj] at h
 ·exact⟨_,rfl,h.symm⟩
 ·exact⟨_,rfl,h.symm⟩
def eP{x:AV}{v:Value}{p:Prop}(hx:VR ρ x v)(h:dO x=some p):∃b,v= .bool b/\(b=true↔p):=by
 cases hx <;> simp [dO] at h
 ·exact⟨_,rfl,by rw[←h]⟩
 ·rename_i hb;exact⟨_,rfl,by rw[←h];exact hb⟩
def Ip{op:BinOp}{j:IntKind}{x y:Int}(hS:SI σ)(hG:Good w0 ρ σ.h w)(hop:op≠ .shl/\op≠ .shr)(h:run (Ky op j x y k) σ K=true):
 Res P w0 ρ w k K (mw op j x y):=by
 obtain⟨b1,b2,b3,b4⟩:=fu P w j x y
 have cmp:∀(b:Bool) (p:Prop),(b=true↔p)->(mw op j x y).run P w= .ok (.bool b) w->run (k (.sB p)) σ K=true->Res P w0 ρ w k K (mw op j x y):=λb p hb h1 h2=>.plain h2 hS hG (.sB p b hb) h1
 cases op
 case add=>exact .plain (js (f:=λn=>k (.sI j n)) h) hS hG (.sI _ _) rfl
 case sub=>exact .plain (js (f:=λn=>k (.sI j n)) h) hS hG (.sI _ _) rfl
 case mul=>exact .plain (js (f:=λn=>k (.sI j n)) h) hS hG (.sI _ _) rfl
 case quo=>
  obtain⟨h1,h2⟩:=aN h
  have e:(Op.intDiv .quo j x y).run P w= .ok (.int j (j.wrap (x.tdiv y))) w:=by simp only [Op.intDiv,if_neg h1];rfl
  rcases cX h2 with⟨hp,h⟩|⟨_,h⟩
  ·refine .plain (js (f:=λn=>k (.sI j n)) h) hS hG (.sI _ _) ?_;show(Op.intDiv .quo j x y).run P w=_;rw[e,Int.tdiv_eq_ediv_of_nonneg hp.1]
  ·exact .plain (js (f:=λn=>k (.sI j n)) h) hS hG (.sI _ _) e
 case rem=>
  obtain⟨h1,h2⟩:=aN h
  have e:(Op.intDiv .rem j x y).run P w= .ok (.int j (x.tmod y)) w:=by simp only [Op.intDiv,if_neg h1];rfl
  rcases cX h2 with⟨hp,h⟩|⟨_,h⟩
  ·refine .plain h hS hG (.sI _ _) ?_;show(Op.intDiv .rem j x y).run P w=_;rw[e,Int.tmod_eq_emod_of_nonneg hp.1]
  ·exact .plain h hS hG (.sI _ _) e
 case and=>exact .plain h hS hG (.sI _ _) b1
 case or=>exact .plain h hS hG (.sI _ _) b2
 case xor=>exact .plain h hS hG (.sI _ _) b3
 case andNot=>exact .plain h hS hG (.sI _ _) b4
 case shl=>exact absurd rfl hop.1
 case shr=>exact absurd rfl hop.2
 case eql=>exact cmp (x==y) _ (by simp) rfl h
 case neq=>exact cmp (x !=y) _ (by simp) rfl h
 case lss=>exact cmp (decide (x<y)) _ (by simp) rfl h
 case leq=>exact cmp (decide (x<=y)) _ (by simp) rfl h
 case gtr=>exact cmp (decide (x > y)) _ (by simp) rfl h
 case geq=>exact cmp (decide (x≥y)) _ (by simp) rfl h
def z_{op:BinOp}{j jj:IntKind}{x y:Int}(hS:SI σ)(hG:Good w0 ρ σ.h w)(h:run (zM op j x y k) σ K=true):
 Res P w0 ρ w k K (Op.shift op j x jj y):=by
 obtain⟨n,rfl,h2⟩:=K9 h
 clear h
 have h:=jV h2
 clear h2
 have e:min ((n:Int).toNat) j.bits=mr n (bo j):=by rw[Fe,pd];rfl
 cases op
 case shl=>
  refine .plain (js (f:=λn=>k (.sI j n)) h) hS hG (.sI _ _) ?_
  simp only [Op.shift,if_neg (show ¬(n:Int)<0 by omega),e,aad]
  congr 3
 case shr=>
  refine .plain h hS hG (.sI _ _) ?_
  simp only [Op.shift,if_neg (show ¬(n:Int)<0 by omega),e,aad]
  congr 2
  show x.fdiv ((2:Int) ^ mr n (bo j))=x/((2 ^ mr n (bo j):Nat):Int)
  rw[Int.natCast_pow]
  exact Int.fdiv_eq_ediv_of_nonneg x (by apply Int.pow_nonneg;decide)
 all_goals exact(ah h).elim
def xn{op:BinOp}{j jj:IntKind}{x y:Int}(hS:SI σ)(hG:Good w0 ρ σ.h w)(h:run (uL op j x y k) σ K=true):
 Res P w0 ρ w k K (Op.shift op j x jj y):=by
 obtain⟨hy,h⟩:=aN h
 have e:j.bits=bo j:=by rw[pd]
 cases op
 case shl=>
  refine .plain (js (f:=λn=>k (.sI j n)) h) hS hG (.sI _ _) ?_
  simp only [Op.shift,if_neg (show ¬y<0 by omega),e,aad]
  rw[Int.natCast_pow];rfl
 case shr=>
  refine .plain h hS hG (.sI _ _) ?_
  simp only [Op.shift,if_neg (show ¬y<0 by omega),e,aad]
  congr 2
  show x.fdiv ((2:Int) ^ min y.toNat (bo j))=x/((2 ^ min y.toNat (bo j):Nat):Int)
  rw[Int.natCast_pow]
  exact Int.fdiv_eq_ediv_of_nonneg x (by apply Int.pow_nonneg;decide)
 all_goals exact(ah h).elim
def Aa:∀(x y:List UInt8),(!(Op.bytesLess x y || x==y))=Op.bytesLess y x:=by
 intro x
 induction x with
 |nil=>intro y;cases y <;> simp [Op.bytesLess]
 |cons a x ih=>
  intro y
  cases y with
  |nil=>simp [Op.bytesLess]
  |cons b y=>
   have:=ih y;rw[Bool.eq_iff_iff] at this⊢;simp only [Op.bytesLess,Bool.not_eq_true',Bool.or_eq_false_iff,decide_eq_false_iff_not,Bool.and_eq_false_iff,Bool.or_eq_true,decide_eq_true_eq,Bool.and_eq_true,beq_iff_eq,List.cons_beq_cons,beq_eq_false_iff_ne] at this⊢;rcases Nat.lt_trichotomy a.toNat b.toNat with h|h|h
   ·have h1:a<b:=UInt8.lt_iff_toNat_lt.mpr h;have h2:¬b<a:=λq=>by have:=UInt8.lt_iff_toNat_lt.mp q;omega
    have h3:b≠a:=λq=>by subst q;omega
    simp [h1,h2,h3]
   ·have h1:a=b:=UInt8.toNat_inj.mp h;subst h1;simpa using this
   ·have h1:b<a:=UInt8.lt_iff_toNat_lt.mpr h;have h2:¬a<b:=λq=>by have:=UInt8.lt_iff_toNat_lt.mp q;omega
    have h3:a≠b:=λq=>by subst q;omega
    simp [h1,h2,h3]
def Iq{op:BinOp}{s t:ByteArray}(hS:SI σ)(hG:Good w0 ρ σ.h w)(h:run (Kz op (bytesOf s) (bytesOf t) k) σ K=true):
 Res P w0 ρ w k K (Op.stringOp op s t):=by
 have c8:mV (bytesOf s) (bytesOf t)=Op.bytesLess s.toList t.toList:=by rw[ByteArray.toList_eq,ByteArray.toList_eq];exact uR _ _
 have hgt:mV (bytesOf t) (bytesOf s)=Op.bytesLess t.toList s.toList:=by rw[ByteArray.toList_eq,ByteArray.toList_eq];exact uR _ _
 have heq:=iN s t
 have am7:(s.toList==t.toList)=true↔bytesOf s=bytesOf t:=by rw[←heq,xm]
 cases op
 case add=>
  obtain⟨h1,h2⟩:=aN h
  rw[aah,bZ,bZ] at h1
  rw[←rQ] at h2
  refine .plain h2 hS hG (.sS _) ?_
  have:¬(((s.size+t.size:Nat):Int) > IntKind.i64.max):=by
   have:IntKind.i64.max=9223372036854775807:=by decide
   omega
  simp only [Op.stringOp]
  rw[if_neg this];rfl
 case eql=>exact .plain h hS hG (.sB _ (s.toList==t.toList) am7) rfl
 case neq=>exact .plain h hS hG (.sB _ (!(s.toList==t.toList)) (by rw[Bool.not_eq_true', ←Bool.not_eq_true,am7])) rfl
 case lss=>exact .plain h hS hG (.sB _ (Op.bytesLess s.toList t.toList) (by rw[c8])) rfl
 case gtr=>exact .plain h hS hG (.sB _ (Op.bytesLess t.toList s.toList) (by rw[hgt])) (by simp only [Op.stringOp,aad];rw[Aa])
 case leq=>exact .plain h hS hG (.sB _ (!Op.bytesLess t.toList s.toList) (by rw[hgt];simp)) (by simp only [Op.stringOp,aad];rw[←Aa s.toList t.toList,Bool.not_not])
 case geq=>exact .plain h hS hG (.sB _ (!Op.bytesLess s.toList t.toList) (by rw[c8];simp)) rfl
 all_goals exact(ah h).elim
def Ir{op:BinOp}{t:TypeId}{ox oy:Operand}{x y:AV}{v u:Value}(hS:SI σ)(hG:Good w0 ρ σ.h w)(hx:VR ρ x v)(hy:VR ρ y u)(h:run (wY op x y k) σ K=true):
 Res P w0 ρ w k K (do eqGuard op t ox oy v u;binOp op t v u):=by
 have lift:∀(s:Sem Value),(eqGuard op t ox oy v u).run P w= .ok () w->binOp op t v u=s->Res P w0 ρ w k K s->Res P w0 ρ w k K (do eqGuard op t ox oy v u;binOp op t v u):=λs h1 h2 h3=>
  h3.of_eq (by rw[aab,h1,h2];rfl)
 unfold wY at h
 split at h
 ·rename_i j n j' m ea eb;have e1:=bc hx ea;have e2:=bc hy eb;subst e1;subst e2;rcases bU h with⟨hs,h⟩|⟨hs,h⟩
  ·have e0:binOp op t (.int j n) (.int j' m)=Op.shift op j n j' m:=by cases op <;> first|rfl|(cases hs;done)
   rcases bU h with⟨_,h⟩|⟨_,h⟩
   ·exact lift (Op.shift op j n j' m) (bK rfl) e0 (xn (jj:=j') hS hG h)
   ·exact lift (Op.shift op j n j' m) (bK rfl) e0 (z_ (jj:=j') hS hG h)
  ·obtain⟨hj,h9⟩:=ay h;have hj:j=j':=of_decide_eq_true hj;subst hj;have hop:op≠ .shl/\op≠ .shr:=by cases op <;> first|(cases hs;done)|exact⟨by simp,by simp⟩
   exact lift _ (bK rfl) (fU hop) (Ip hS hG hop h9)
 ·split at h
  ·rename_i a b ea eb;obtain⟨s,e1,e1'⟩:=dB hx ea;obtain⟨s',e2,e2'⟩:=dB hy eb;subst e1;subst e2;subst e1';subst e2';exact lift _ (bK rfl) (by cases op <;> rfl) (Iq hS hG h)
  ·exact(ah h).elim
def uS(a:AV):AV:=match a with | .sI k n=>.int k n|a=>a
def C8{a:AV}{v:Value}(h:VR ρ a v):VR ρ (uS a) v:=by cases h <;> first|exact .int _ _|(constructor;done)|(constructor <;> assumption)
def xp:∀{l:List AV} {vs:List Value},LR ρ l vs->LR ρ (l.map uS) vs
 | [],vs,h=>h
 |a::l,vs,h=>by obtain⟨v,K',rfl,hv,h'⟩:=h.cons_inv;exact LR.cons (C8 hv) (xp h')
def Q5{a:AV}{j:IntKind}{n:Int}(h:ce a=some (j,n)):uS a= .int j n:=by
 unfold ce at h;split at h
 ·injection h with h;injection h with h1 h2;subst h1;subst h2;rfl
 ·injection h with h;injection h with h1 h2;subst h1;subst h2;rfl
 ·cases h
def eQ{j:IntKind}{ks:List IntKind}{xs:List AV}{l:List Int}(h:cD (j::ks) xs=some l):∃a as n m,xs=a::as/\l=n::m/\uS a= .int j n/\cD ks as=some m:=by
 cases xs with
 |nil=>simp [cD] at h
 |cons a as=>
  unfold cD at h;split at h
  ·rename_i j' n hn;rw[ar] at h;split at h
   ·rename_i hj;have hj:=of_decide_eq_true hj;subst hj;split at h
    ·rename_i m hm;injection h with h;exact⟨a,as,n,m,rfl,h.symm,Q5 hn,hm⟩
    ·cases h
   ·cases h
  ·cases h
def Ab{j:IntKind}:∀{n:Nat} {xs:List AV} {ns:List Int},cD (List.replicate n j) xs=some ns->ns.length=xs.length/\∀(m:Nat) (a:AV),xs[m]? =some a->ce a=some (j,ns.getD m 0)
 |0,xs,ns,h=>by
  cases xs with
  |nil=>injection h with h;subst h;exact⟨rfl,by simp⟩
  |cons a as=>simp [cD] at h
 |n+1,xs,ns,h=>by
  cases xs with
  |nil=>simp [cD,List.replicate] at h
  |cons a as=>
   simp only [List.replicate,cD] at h;split at h
   ·rename_i j' q hq;rw[ar] at h;split at h
    ·rename_i hj;have hj:=of_decide_eq_true hj;subst hj;split at h
     ·rename_i l hl
      injection h with h
      subst h
      obtain⟨h1,h2⟩:=Ab hl
      refine⟨by simp [h1],λm b hb=>?_⟩
      cases m with
      |zero=>simp at hb;subst hb;simpa using hq
      |succ m=>simpa using h2 m b (by simpa using hb)
     ·cases h
    ·cases h
   ·cases h
def Ac{l:List AV}{q:IntKind×List Int}(h:EZ l=some q):q.2.length=l.length/\∀(m:Nat) (a:AV),l[m]? =some a->ce a=some (q.1,q.2.getD m 0):=by
 unfold EZ at h;split at h
 ·cases h
 ·split at h
  ·split at h
   ·rename_i ns hn;injection h with h;subst h;exact Ab hn
   ·cases h
  ·cases h
def gc{xs:List AV}{l:List Int}(h:cD [] xs=some l):xs= []/\l= []:=by
 cases xs with
 |nil=>injection h with h;exact⟨rfl,h.symm⟩
 |cons a as=>simp [cD] at h
def pg:∀{ks:List IntKind} {xs:List AV} {l:List Int},cD ks xs=some l->xs.length=ks.length
 | [],xs,l,h=>by rw[(gc h).1];rfl
 |j::ks,xs,l,h=>by obtain⟨a,as,n,m,rfl,_,_,h'⟩:=eQ h;simp [pg h']
def rR{f:Nat}{j:IntKind}:∀(n:Nat) {xs ys:List AV} {l m:List Int},cD (List.replicate n j) xs=some l->cD (List.replicate n j) ys=some m->
 fK.eqArr (fK P (f+1) (.int j)) (xs.map uS) (ys.map uS)=some (decide (l=m))
 |0,xs,ys,l,m,h1,h2=>by obtain⟨rfl,rfl⟩:=gc h1;obtain⟨rfl,rfl⟩:=gc h2;simp [fK.eqArr]
 |n+1,xs,ys,l,m,h1,h2=>by
  obtain⟨a,as,x,l',rfl,rfl,ha,h1⟩:=eQ h1;obtain⟨b,bs,y,m',rfl,rfl,hb,h2⟩:=eQ h2;have ih:=rR (f:=f) n h1 h2;have e:fK P (f+1) (.int j) (.int j x) (.int j y)=some (x==y):=by simp [fK]
  simp only [aaB,fK.eqArr,ha,hb,e,ih];by_cases hxy:x=y
  ·subst hxy;simp
  ·have:(x==y)=false:=by simp [hxy]
   rw[this];simp [hxy]
def uT{f:Nat}{xs ys:List AV}:∀(fs:List Field) (i:Nat) {ks:List IntKind} {l m:List Int},qG P i fs=some ks->cD ks (xs.drop i)=some l->cD ks (ys.drop i)=some m->
 fK.eqFs P (fK P (f+1)) fs (xs.map uS) (ys.map uS)=some (decide (l=m))
 | [],i,ks,l,m,h,h1,h2=>by injection h with h;subst h;obtain⟨_,rfl⟩:=gc h1;obtain⟨_,rfl⟩:=gc h2;simp [fK.eqFs]
 |fd::fs,i,ks,l,m,h,h1,h2=>by
  unfold qG at h;split at h
  ·cases h
  rename_i hn;split at h
  ·rename_i ho;split at h
   ·rename_i inf j hi hu;split at h
    ·rename_i ks' hk;injection h with h;subst h;obtain⟨a,as,x,l',e1,rfl,ha,h1⟩:=eQ h1;obtain⟨b,bs,y,m',e2,rfl,hb,h2⟩:=eQ h2;have dx:xs.drop (i+1)=as:=by rw[←aa1,e1];rfl
     have dy:ys.drop (i+1)=bs:=by rw[←aa1,e2];rfl
     rw[←dx] at h1;rw[←dy] at h2;have ih:=uT (f:=f) fs (i+1) hk h1 h2;have gx:(xs.map uS)[fd.offset]? =some (.int j x):=by rw[ho,aaI, ←List.head?_drop,e1];simp [ha]
     have gy:(ys.map uS)[fd.offset]? =some (.int j y):=by rw[ho,aaI, ←List.head?_drop,e2];simp [hb]
     have e:fK P (f+1) (.int j) (.int j x) (.int j y)=some (x==y):=by simp [fK]
     rw[fK.eqFs,if_neg hn];simp only [hi,hu,cw,Bool.false_eq_true,if_false,gx,gy,e,ih];by_cases hxy:x=y
     ·subst hxy;simp
     ·have:(x==y)=false:=by simp [hxy]
      rw[this];simp [hxy]
    ·cases h
   ·cases h
  ·cases h
def Ad{f:Nat}{d:TypeDesc}{ks:List IntKind}{xs ys:List AV}{l m:List Int}(h:wZ P d=some ks)(h1:cD ks xs=some l)(h2:cD ks ys=some m):
 fK P (f+2) d (.agg (xs.map uS)) (.agg (ys.map uS))=some (decide (l=m)):=by
 cases d with
 |array n e=>
  unfold wZ at h
  simp only at h
  split at h
  ·rename_i i j hi hu;rw[ar] at h;split at h
   ·rename_i hs;have hs:=aL hs;injection h with h;subst h;have lx:=pg h1;have ly:=pg h2;rw[abx] at lx ly;unfold fK;simp [hi,hu,hs,cw,lx,ly];exact rR n h1 h2
   ·cases h
  ·cases h
 |struct fs=>
  unfold fK
  exact uT fs.toList 0 h (by rw[aaR];exact h1) (by rw[aaR];exact h2)
 |_=>cases h
def Wh{d:TypeDesc}{xs ys:List AV}{p:Prop}(h:eqS P d xs ys=some p):∃r,fK P 16 d (.agg (xs.map uS)) (.agg (ys.map uS))=some r/\(r=true↔p):=by
 unfold eqS at h;split at h
 ·rename_i ks hk;split at h
  ·rename_i l m h1 h2;injection h with h;subst h;exact⟨_,Ad (f:=14) hk h1 h2,by simp⟩
  ·cases h
 ·cases h
def Ae{t:TypeId}{d:TypeDesc}{a b:List AV}{v u:Value}{kb:Bool->Tr}{ks:Prop->Tr}(hu:P.underlying t=some d)(hc:gm P 16 t=true)(hx:VR ρ (.agg a) v)(hy:VR ρ (.agg b) u)(h:run (EV P d a b kb ks) σ K=true):
 ∃r,(Op.equal t v u).run P w= .ok r w/\(run (kb r) σ K=true∨∃p,(r=true↔p)/\run (ks p) σ K=true):=by
 unfold EV at h
 split at h
 ·rename_i r hr;exact⟨r,lF 16 16 t d _ _ v u r 10000 hu (λ_=>hc) hx hy hr (by omega),.inl h⟩
 ·obtain⟨p,hp,h⟩:=bT h;obtain⟨r,hr,hrp⟩:=Wh hp;have deA:∀{l:List AV} {v:Value},VR ρ (.agg l) v->VR ρ (.agg (l.map uS)) v:=λh=>by
   cases h with
   |agg _ cs h1 h2=>obtain⟨q1,q2⟩:=(xp (LR.of_arr h1 h2)).arr;exact .agg _ _ q1 q2
  exact⟨r,lF 16 16 t d _ _ v u r 10000 hu (λ_=>hc) (deA hx) (deA hy) hr (by omega),.inr ⟨p,hrp,h⟩⟩
set_option maxHeartbeats 1000000 in
theorem uU{op:BinOp}{t:TypeId}{ox oy:Operand}{x y:AV}{v u:Value}(hS:SI σ)(hG:Good w0 ρ σ.h w)(hx:VR ρ x v)(hy:VR ρ y u)(h:run (qH P (ac (pW ox) true (pW oy)) op t x y k) σ K=true):
 Res P w0 ρ w k K (do eqGuard op t ox oy v u;binOp op t v u):=by
 have lift:∀(s:Sem Value),(eqGuard op t ox oy v u).run P w= .ok () w->binOp op t v u=s->Res P w0 ρ w k K s->Res P w0 ρ w k K (do eqGuard op t ox oy v u;binOp op t v u):=λs h1 h2 h3=>
  h3.of_eq (by rw[aab,h1,h2];rfl)
 have eqR:∀(d:TypeDesc) (r:Bool),P.underlying t=some d->(cw d=true->gm P 16 t=true)->fK P 16 d x y=some r->(Op.equal t v u).run P w= .ok r w:=λd r hu hc he=>
  lF 16 16 t d x y v u r 10000 hu hc hx hy he (by omega)
 unfold qH at h
 split at h
 ·rename_i j a yk b;cases hx;cases hy;exact lift (Op.shift _ j a yk b) (bK rfl) rfl (zZ (jj:=yk) hS hG h)
 ·rename_i j a yk b;cases hx;cases hy;exact lift (Op.shift _ j a yk b) (bK rfl) rfl (zZ (jj:=yk) hS hG h)
 ·rename_i n1 n2;cases hx;cases hy;obtain⟨hj,h2⟩:=ay h;have hj2:=of_decide_eq_true hj;clear h hj;subst hj2;have hop:op≠ .shl/\op≠ .shr:=⟨λe=>n1 e,λe=>n2 e⟩
  exact lift _ (bK rfl) (fU hop) (In hS hG hop h2)
 ·cases hx;cases hy;exact lift _ (bK rfl) (by cases op <;> rfl) (Io hS hG h)
 ·obtain⟨hc,h⟩:=ay h;obtain⟨d,hu,h⟩:=cB h;rw[ar] at hc;have hg:P.eqGuardType P.depth t=false:=by
   cases hq:P.eqGuardType P.depth t with
   |false=>rfl
   |true=>rw[hq] at hc;cases hc
  rw[hg] at hc;obtain⟨r,e,h⟩:=Ae (w:=w) hu hc hx hy h;cases hx;cases hy;rcases h with h|⟨p,hp,h⟩
  ·exact lift _ (g_ hg) (ga rfl) (.plain (rP h) hS hG (.bool r) (by rw[aab,e];rfl))
  ·exact lift _ (g_ hg) (ga rfl) (.plain h hS hG (.sB p r hp) (by rw[aab,e];rfl))
 ·obtain⟨hc,h⟩:=ay h;obtain⟨d,hu,h⟩:=cB h;rw[ar] at hc;have hg:P.eqGuardType P.depth t=false:=by
   cases hq:P.eqGuardType P.depth t with
   |false=>rfl
   |true=>rw[hq] at hc;cases hc
  rw[hg] at hc;obtain⟨r,e,h⟩:=Ae (w:=w) hu hc hx hy h;cases hx;cases hy;rcases h with h|⟨p,hp,h⟩
  ·exact lift _ (g_ hg) (iO rfl) (.plain (rP h) hS hG (.bool _) (by rw[aab,e];rw[ar];cases r <;> rfl))
  ·exact lift _ (g_ hg) (iO rfl) (.plain h hS hG (.sB (¬p) (!r) (by rw[←hp];simp)) (by rw[aab,e];rfl))
 ·rename_i n1 n2 n3;obtain⟨hp,h⟩:=ay h;obtain⟨d,hu,h⟩:=cB h;obtain⟨r,hr,h⟩:=bT h;obtain⟨h1,h2,h3⟩:=ma hp;have h4:¬(bh x=4/\bh y=4):=λ⟨e1,e2⟩=>by obtain⟨a,e1⟩:=qN e1;obtain⟨b,e2⟩:=qN e2;exact n3 _ _ e1 e2
  have h5:¬(bh x=1/\bh y=1):=λ⟨e1,e2⟩=>by obtain⟨_,a,e1⟩:=qO e1;obtain⟨_,b,e2⟩:=qO e2;exact n1 _ _ _ _ e1 e2
  have h6:¬(bh x=2/\bh y=2):=λ⟨e1,e2⟩=>by obtain⟨a,e1⟩:=qP e1;obtain⟨b,e2⟩:=qP e2;exact n2 _ _ e1 e2
  have hna:cw d=true->gm P 16 t=true:=λhd=>by obtain⟨a,b,e1,e2⟩:=Ff hd hr;exact(n3 _ _ e1 e2).elim
  exact lift _ (iz hx hy h1 h2 (h3.imp id λhl=>by rw[ar] at hl;split at hl <;> first|exact .inl ‹_› | exact .inr hl) h4) (ga (nv hx hy h1 h2 h5 h6)) (.plain (rP h) hS hG (.bool r) (by rw[aab,eqR d r hu hna hr];rfl))
 ·rename_i n1 n2 n3;obtain⟨hp,h⟩:=ay h;obtain⟨d,hu,h⟩:=cB h;obtain⟨r,hr,h⟩:=bT h;obtain⟨h1,h2,h3⟩:=ma hp;have h4:¬(bh x=4/\bh y=4):=λ⟨e1,e2⟩=>by obtain⟨a,e1⟩:=qN e1;obtain⟨b,e2⟩:=qN e2;exact n3 _ _ e1 e2
  have h5:¬(bh x=1/\bh y=1):=λ⟨e1,e2⟩=>by obtain⟨_,a,e1⟩:=qO e1;obtain⟨_,b,e2⟩:=qO e2;exact n1 _ _ _ _ e1 e2
  have h6:¬(bh x=2/\bh y=2):=λ⟨e1,e2⟩=>by obtain⟨a,e1⟩:=qP e1;obtain⟨b,e2⟩:=qP e2;exact n2 _ _ e1 e2
  have hna:cw d=true->gm P 16 t=true:=λhd=>by obtain⟨a,b,e1,e2⟩:=Ff hd hr;exact(n3 _ _ e1 e2).elim
  exact lift _ (iz hx hy h1 h2 (h3.imp id λhl=>by rw[ar] at hl;split at hl <;> first|exact .inl ‹_› | exact .inr hl) h4) (iO (nv hx hy h1 h2 h5 h6)) (.plain (rP h) hS hG (.bool _) (by rw[aab,eqR d r hu hna hr];rw[ar];cases r <;> rfl))
 ·rename_i n
  obtain⟨hn,h⟩:=ay h
  have hn:=of_decide_eq_true hn
  subst hn
  cases hx with
  |anyI _ a=>
   cases hy;have hp:=Fd (n:=4) h;have c8:Nat.land (aC (aj .i64) a) (aC (aj .i64) 3)<4:=by show(aC (aj .i64) a) &&& 3<2 ^ 2;exact Nat.and_lt_two_pow _ (by decide)
   have hw:IntKind.wrap .i64 (Int.ofNat (Nat.land (aC (aj .i64) a) (aC (aj .i64) 3)))=Int.ofNat (Nat.land (aC (aj .i64) a) (aC (aj .i64) 3)):=by
    generalize Nat.land (aC (aj .i64) a) (aC (aj .i64) 3)=m at c8;have:m=0∨m=1∨m=2∨m=3:=by omega
    rcases this with rfl|rfl|rfl|rfl <;> rfl
   exact lift (mw .and .i64 a 3) (bK rfl) (fU (op:=.and) ⟨by simp,by simp⟩) (.plain (hp _ (.inr c8) (λh=>absurd h (by omega))) hS hG (.int _ _) (by show(Op.intBits .and .i64 a 3).run P w=_;rw[(fu P w .i64 a 3).1,hw]))
 ·cases hx;cases hy;exact Wg hS hG h
 ·exact(ah h).elim
def La{op:UnOp}{x:AV}{v:Value}(hS:SI σ)(hG:Good w0 ρ σ.h w)(hx:VR ρ x v)(h:run (CV op x k) σ K=true):Res P w0 ρ w k K (Op.unary op v):=by
 unfold CV at h;split at h
 ·cases hx;exact .plain (jW h) hS hG (.int _ _) rfl
 ·rename_i j n;cases hx;exact .plain (jW h) hS hG (.int _ _) (fu P w j (if j.signed then -1 else j.max) n).2.2.1
 ·cases hx;refine .plain (rP h) hS hG (.bool _) ?_;rename_i b;rw[ar];cases b <;> rfl
 ·exact(ah h).elim
def Af{x:AV}{v:Value}{kk:AV->Tr}(hx:VR ρ x v)(h:run (EX x kk) σ K=true):∃x',VR ρ x' v/\run (kk x') σ K=true:=by
 unfold EX at h;split at h
 ·rename_i p;cases hx;rename_i b hb;rcases cX h with⟨hp,h⟩|⟨hp,h⟩
  ·have:b=true:=hb.2 hp;subst this;exact⟨_,.bool _,h⟩
  ·have:b=false:=by
    cases b with
    |false=>rfl
    |true=>exact absurd (hb.1 rfl) hp
   subst this;exact⟨_,.bool _,h⟩
 ·exact⟨_,hx,h⟩
def Q6{x y:AV}{v u:Value}(h:QW x y=true)(hx:VR ρ x v)(hy:VR ρ y u):(∃a n c,v= .slice a n c/\(¬xa x=0->∃b,a=some b))/\u= .slice none 0 0:=by
 unfold QW at h;split at h
 ·cases hy
  refine⟨?_,rfl⟩
  cases hx with
  |cvnil c h0=>exact⟨_,_,_,rfl,λh=>absurd h0 h⟩
  |cvempty c a h0=>exact⟨_,_,_,rfl,λh=>absurd h0 h⟩
  |cv=>exact⟨_,_,_,rfl,λ_=>⟨_,rfl⟩⟩
 ·cases hy
  refine⟨?_,rfl⟩
  cases hx with
  |gnil=>exact⟨_,_,_,rfl,λh=>absurd rfl h⟩
  |gempty=>exact⟨_,_,_,rfl,λh=>absurd rfl h⟩
  |gsl=>exact⟨_,_,_,rfl,λ_=>⟨_,rfl⟩⟩
 ·cases h
def Lb{op:BinOp}{t:TypeId}{ox oy:Operand}{x y:AV}{v u:Value}(hS:SI σ)(hG:Good w0 ρ σ.h w)(hn:QW x y=true)(hx:VR ρ x v)(hy:VR ρ y u)(h:run (KC P op t x k) σ K=true):
 Res P w0 ρ w k K (do eqGuard op t ox oy v u;binOp op t v u):=by
 obtain⟨⟨a,n,c,rfl,m8⟩,rfl⟩:=Q6 hn hx hy
 have lift:∀(s:Sem Value),binOp op t (.slice a n c) (.slice none 0 0)=s->Res P w0 ρ w k K s->Res P w0 ρ w k K (do eqGuard op t ox oy (.slice a n c) (.slice none 0 0);binOp op t (.slice a n c) (.slice none 0 0)):=λs h2 h3=>
  h3.of_eq (by rw[aab,bK rfl,h2];rfl)
 obtain⟨d,hu,h⟩:=cB h
 have key:∀e,d= .slice e->∃r,(Op.equal t (.slice a n c) (.slice none 0 0)).run P w= .ok r w/\(¬xa x=0->r=false):=λe hd=>by
  subst hd;have:∀D:Nat,∃r,(Op.equalIn (D+1) t (.slice a n c) (.slice none 0 0)).run P w= .ok r w/\(¬xa x=0->r=false):=λD=>by
   cases a with
   |none=>exact⟨true,by simp [Op.equalIn,run_underlying hu],λh=>by obtain⟨b,hb⟩:=m8 h;cases hb⟩
   |some b=>exact⟨false,by simp [Op.equalIn,run_underlying hu],λ_=>rfl⟩
  exact this 9999
 split at h
 ·obtain⟨r,e,hr⟩:=key _ rfl;rcases cX h with⟨_,h⟩|⟨hl,h⟩
  ·exact lift _ (ga rfl) (.plain h hS hG (.anyB r) (by rw[aab,e];rfl))
  ·have hr:=hr hl;subst hr;exact lift _ (ga rfl) (.plain h hS hG (.bool false) (by rw[aab,e];rfl))
 ·obtain⟨r,e,hr⟩:=key _ rfl;rcases cX h with⟨_,h⟩|⟨hl,h⟩
  ·exact lift _ (iO rfl) (.plain h hS hG (.anyB _) (by rw[aab,e];rfl))
  ·have hr:=hr hl;subst hr;exact lift _ (iO rfl) (.plain h hS hG (.bool true) (by rw[aab,e];rfl))
 ·exact(ah h).elim
def Lc{op:BinOp}{t:TypeId}{ox oy:Operand}{x y:AV}{v u:Value}(hS:SI σ)(hG:Good w0 ρ σ.h w)(hx:VR ρ x v)(hy:VR ρ y u)(h:run (KD P (ac (pW ox) true (pW oy)) op t x y k) σ K=true):
 Res P w0 ρ w k K (do eqGuard op t ox oy v u;binOp op t v u):=by
 rcases bU h with⟨hn,h⟩|⟨_,h⟩
 ·exact Lb hS hG hn hx hy h
 rcases bU h with⟨_,h⟩|⟨_,h⟩
 ·rcases bU h with⟨_,h⟩|⟨_,h⟩
  ·unfold Zo at h;split at h
   ·rename_i p q;obtain⟨d,hu,h⟩:=cB h;split at h
    ·cases hx with
     |sB _ b hb=>
      cases hy with
      |sB _ c hc=>
       have e:(Op.equal t (.bool b) (.bool c)).run P w= .ok (b==c) w:=lF 16 16 t .bool (.bool b) (.bool c) _ _ (b==c) 10000 hu (λh=>by cases h) (VR.bool (ρ:=ρ) b) (.bool c) rfl (by omega);have eg:(eqGuard .eql t ox oy (.bool b) (.bool c)).run P w= .ok () w:=iz (VR.bool (ρ:=ρ) b) (.bool c) (by simp [bh]) (by simp [bh]) (.inl (by simp [bh])) (by simp [bh]);have eb:binOp .eql t (.bool b) (.bool c)=(do pure (.bool (←Op.equal t (.bool b) (.bool c)))):=ga rfl;have er:(do eqGuard .eql t ox oy (.bool b) (.bool c);binOp .eql t (.bool b) (.bool c)).run P w= .ok (.bool (b==c)) w:=by rw[aab,eg,eb];show(Sem.run P _ w)=_;rw[aab,e];rfl
       rcases cX h with⟨hp,h⟩|⟨hp,h⟩
       ·have:(b==c)=true:=by rw[←hb, ←hc] at hp;cases b <;> cases c <;> simp_all
        rw[this] at er;exact .plain h hS hG (.bool true) er
       ·have:(b==c)=false:=by rw[←hb, ←hc] at hp;cases b <;> cases c <;> simp_all
        rw[this] at er;exact .plain h hS hG (.bool false) er
    ·exact(ah h).elim
   ·obtain⟨x',hx',h⟩:=Af hx h;obtain⟨y',hy',h⟩:=Af hy h;exact uU hS hG hx' hy' h
  ·exact Ir hS hG hx hy h
 ·exact uU hS hG hx hy h
def Ld{op:UnOp}{x:AV}{v:Value}(hS:SI σ)(hG:Good w0 ρ σ.h w)(hx:VR ρ x v)(h:run (CU op x k) σ K=true):Res P w0 ρ w k K (Op.unary op v):=by
 unfold CU at h;split at h
 ·rename_i j n;cases hx;exact .plain (js (f:=λn=>k (.sI j n)) h) hS hG (.sI _ _) rfl
 ·rename_i j n;cases hx;exact .plain h hS hG (.sI _ _) (fu P w j (if j.signed then -1 else j.max) n).2.2.1
 ·cases hx;rename_i p b hb;exact .plain h hS hG (.sB _ (!b) (by rw[←hb];simp)) rfl
 ·exact(ah h).elim
def Q7{op:UnOp}{x:AV}{v:Value}(hS:SI σ)(hG:Good w0 ρ σ.h w)(hx:VR ρ x v)(h:run (Uq op x k) σ K=true):Res P w0 ρ w k K (Op.unary op v):=by
 rcases bU h with⟨_,h⟩|⟨_,h⟩
 ·exact Ld hS hG hx h
 ·exact La hS hG hx h
end
end Go.Sym
namespace Go.Sym
open Go.RowKit (Below)
def Good.ext{w0:World}{ρ:Rho}{H H':T ABlk}{w:World}(hG:Good w0 ρ H w)(h:∀b,H'.get b=H.get b):Good w0 ρ H' w:=
 ⟨⟨hG.below,λb x hx=>hG.blk b x (by rw[←h];exact hx),λb g y hy=>by obtain⟨q1,x,q2⟩:=hG.dom b g y hy;exact⟨q1,x,by rw[h];exact q2⟩,hG.inj,λb g y x hy hx=>hG.gens b g y x hy (by rw[←h];exact hx),λb arr ty hf=>⟨(hG.frz b arr ty hf).1,λb' g x hh e=>by rw[h];exact(hG.frz b arr ty hf).2 b' g x hh e⟩,hG.frzB,λb k I l hb=>hG.objO b k I l (by rw[←h];exact hb)⟩,hG.ownB⟩
section
variable{P:Program}{w0:World}{ρ:Rho}{w:World}{σ:St}{K:Fin}{k:AV->Tr}
def Ag{t:TypeId}{k:AV->Tr}(ρ:Rho)(w:World)(h:run (rG P t k) σ K=true):∃z zv i,P.info? t=some i/\(zeroValue t).run P w= .ok zv w/\VR ρ z zv/\run (k z) σ K=true:=by obtain⟨i,h1,h2⟩:=bT (k:=λi:TypeInfo=>cU i.zero .fail λv=>cU (V6 8 v) .fail k) h;obtain⟨v,h3,h4⟩:=bT h2;obtain⟨a,h5,h6⟩:=bT h4;refine⟨a,v,i,h1, ?_,Kv ρ _ _ _ h5,h6⟩;simp [zeroValue,typeInfo,aab,run_program,h1,h3]
def Lg{k:T Cell->Tr}:∀(l:List AV) (i:Nat) (t:T Cell),run (QX l i t k) σ K=true->
 ∃c,run (k c) σ K=true/\∀o x,c.get o=some x->(∃(j:Nat) (a:AV),o=i+j/\l[j]? =some a/\x= .mk 0 a)∨(t.get o=some x/\(o<i∨i+l.length<=o)):=by
 intro l
 induction l with
 |nil=>intro i t h;exact⟨t,h,λo x hx=>.inr ⟨hx,by simp;omega⟩⟩
 |cons a l ih=>
  intro i t h
  have h:run (T.setK t i (.mk 0 a) λt=>fN (Nat.succ i) λi=>QX l i t k) σ K=true:=h
  rw[T.setK_eq] at h
  obtain⟨c,h1,h2⟩:=ih _ _ (jV h)
  refine⟨c,h1,λo x hx=>?_⟩
  rcases h2 o x hx with⟨j,b,e,hb,hx'⟩|⟨hx',ho⟩
  ·exact .inl ⟨j+1,b,by omega,by simpa using hb,hx'⟩
  ·by_cases e:o=i
   ·subst e;have:=T.get_set_some _ _ hx';exact .inl ⟨0,a,by omega,rfl,this⟩
   ·rw[T.get_set_ne _ e] at hx';exact .inr ⟨hx',by simp at ho⊢;omega⟩
def C9{l:List AV}{k:Nat->Tr}(fl:Nat)(arr:Array Value)(e:TypeId)(fr:Nat×Nat)(hfr:fr.1<=fr.2/\∀x,(x<arr.size∨fl<=0)->fr.1<=x->x<fr.2->False)(hS:SI σ)(hG:Good w0 ρ σ.h w)(T':l.length<=arr.size)(hl:∀(i:Nat) (a:AV),l[i]? =some a->∃v,arr[i]? =some v/\VR ρ a v)(h:run (EY fl e l k) σ K=true):
 ∃b a9,run (k b) a9 K=true/\SI a9/\ρ.le (ρ.put b 0 ⟨w.heap.size,0,arr.size⟩)/\Good w0 (ρ.put b 0 ⟨w.heap.size,0,arr.size⟩) a9.h {w with heap:=w.heap.push (.cells arr e fr)}:=by
 have h:run (QX l 0 .leaf λt=>fN (List.length l) λn=>.new (.cells t 0 0 n fl 0 false e) k) σ K=true:=h
 obtain⟨c,h1,h2⟩:=Lg _ _ _ h
 obtain⟨n,a9,hn,f9,hh,C',h3⟩:=gt hS (jV h1)
 obtain⟨hle,j7⟩:=hG.alloc hn f9 (.cells c 0 0 l.length fl 0 false e) (.cells arr e fr) 0 arr.size (λρ' hle q9 _=>by
  refine⟨λo x hx=>?_,λg hg=>?_⟩
  ·rcases h2 o x hx with⟨j,a,e1,ha,ex⟩|⟨hx',_⟩
   ·have:x.tag=0:=by rw[ex];rfl
    have:j<l.length:=by
     rcases aaf j l.length with h'|h'
     ·exact h'
     ·rw[aak h'] at ha;cases ha
    omega
   ·simp [T.get] at hx'
  ·have:g=0:=by omega
   subst this;refine⟨_,q9,λ_=>.new hG.below.size,(λh=>by cases h),arr,fr, ?_,rfl,λ_=>⟨hfr.1,λx h1 h2 h3=>(hfr.2 x h1 h2 h3).elim⟩,λo tag a ho ht=>?_⟩
   ·show(w.heap.push _)[w.heap.size]? =_;simp
   ·rcases h2 o _ ho with⟨j,b,e1,hb,hx⟩|⟨hx',_⟩
    ·injection hx with hx1 hx2;subst hx2;obtain⟨v,hv,hr⟩:=hl j a hb;refine⟨aap _,v, ?_,hr.mono hle⟩;show arr[o-0]? =some v;rw[show o-0=j by omega];exact hv
    ·simp [T.get] at hx')
 exact⟨n,a9,h3,C',hle,by rw[hh];exact j7⟩
def ph{l:List AV}{k:Nat->Tr}(arr:Array Value)(e:TypeId)(hS:SI σ)(hG:Good w0 ρ σ.h w)(T':l.length<=arr.size)(hl:∀(i:Nat) (a:AV),l[i]? =some a->∃v,arr[i]? =some v/\VR ρ a v)(h:run (qI e l k) σ K=true):
 ∃b a9,run (k b) a9 K=true/\SI a9/\ρ.le (ρ.put b 0 ⟨w.heap.size,0,arr.size⟩)/\Good w0 (ρ.put b 0 ⟨w.heap.size,0,arr.size⟩) a9.h {w with heap:=w.heap.push (.cells arr e)}:=
 C9 0 arr e (0,0) ⟨aaa _,λx _ _ h=>absurd h (by simp)⟩ hS hG T' hl h
def LR.to_arr{l:List AV}{cs:Array Value}(h:LR ρ l cs.toList):l.length<=cs.size/\∀(i:Nat) (a:AV),l[i]? =some a->∃v,cs[i]? =some v/\VR ρ a v:=
 ⟨by have:=h.1;simp at this;omega,λi a ha=>by obtain⟨v,hv,hr⟩:=h.get ha;exact⟨v,by simpa using hv,hr⟩⟩
def uV{a:AV}{v:Value}{t:TypeId}(hS:SI σ)(hG:Good w0 ρ σ.h w)(hv:VR ρ a v)(h:run (nl t a k) σ K=true):
 Res P w0 ρ w k K (do pure (.pointer (some (←newVar t v)))):=by
 obtain⟨l,hl,h1⟩:=iy hv h
 obtain⟨q1,q2⟩:=LR.to_arr hl
 obtain⟨b,a9,h2,C',hle,j7⟩:=ph v.cells t hS hG q1 q2 h1
 refine⟨_,a9,_,_,_,h2,C',j7,hle,VR.ptr b 0 0 _ (Rho.put_at _ _ _ _) (aap _), ?_⟩
 simp [newVar,newRow]
def Lh{t:TypeId}(hS:SI σ)(hG:Good w0 ρ σ.h w)(h:run (rG P t λz=>nl t z k) σ K=true):Res P w0 ρ w k K (Instr.alloc t true (.tuple #[])):=by obtain⟨z,zv,i,_,hz,hr,h1⟩:=Ag ρ w h;refine(uV (P:=P) (t:=t) hS hG hr h1).of_eq ?_;simp [Instr.alloc,aab,hz]
def Wi{a:AV}{v:Value}{t:TypeId}(hS:SI σ)(hG:Good w0 ρ σ.h w)(hv:VR ρ a v)(h:run (nl t a k) σ K=true):Res P w0 ρ w k K (Instr.box t v):=
 uV hS hG hv h
def Fg{b g o tag:Nat}{a:AV}{c:T Cell}{gen lo hi fl fh ty:Nat}{ro:Bool}{h:Home}{H:T ABlk}(hG:Good w0 ρ H w)(hb:H.get b=some (.cells c gen lo hi fl fh ro ty))(hh:ρ.at_ b g=some h)(hg:g<=gen)(hc:c.get o=some (.mk tag a))(ht:tag<=g):h.shift<=o/\∃v,w.cell? ⟨h.blk,o-h.shift,none⟩=some v/\VR ρ a v:=by
 obtain⟨hm,q1,_,_,arr,fr,q2,q3,_,q4⟩:=(hG.blk _ _ hb).2 g hg
 rw[hh] at q1;injection q1 with q1;subst q1
 obtain⟨r1,v,r2,r3⟩:=q4 o tag a hc ht
 refine⟨r1,v, ?_,r3⟩
 simp [World.cell?,q2,r2]
def Zv{c:T Cell}{g:Nat}:∀{n o:Nat} {k:List AV->Tr},run (QY c g n o k) σ K=true->∃l,run (k l) σ K=true/\l.length=n/\∀(j:Nat) (a:AV),l[j]? =some a->∃tag,c.get (o+j)=some (.mk tag a)/\tag<=g:=by
 intro n
 induction n with
 |zero=>intro o k h;exact⟨[],h,rfl,by simp⟩
 |succ n ih=>
  intro o k h
  have h:run (T.getK c o .fail λx=>match x with
   | .mk tag v=>ac (Nat.ble tag g) (fN (Nat.succ o) λo=>QY c g n o λl=>k (v::l)) .fail) σ K=true:=h
  obtain⟨x,hx,h⟩:=ul h
  cases x with
  |mk tag v=>
   obtain⟨ht,h⟩:=ay h
   obtain⟨l,h1,h2,h3⟩:=ih (jV h)
   refine⟨v::l,h1,by simp [h2],λj a ha=>?_⟩
   cases j with
   |zero=>simp at ha;subst ha;exact⟨tag,hx,bY ht⟩
   |succ j=>obtain⟨ae2,q1,q2⟩:=h3 j a (by simpa using ha);exact⟨ae2,by rw[show o+(j+1)=Nat.succ o+j by omega];exact q1,q2⟩
def gu{b g o n:Nat}{h0:Home}{k:List AV->Tr}(hS:SI σ)(hG:Good w0 ρ σ.h w)(hh:ρ.at_ b g=some h0)(ho:h0.shift<=o)(h:run (gp b g o n k) σ K=true):
 ∃l cs a9,a9.h=σ.h/\SI a9/\run (k l) a9 K=true/\LR ρ l cs/\cs.length=n/\(∀(j:Nat) (v:Value),cs[j]? =some v->w.cell? ⟨h0.blk,o-h0.shift+j,none⟩=some v)/\(loadCells ⟨h0.blk,o-h0.shift,none⟩ n).run P w= .ok cs.toArray w:=by
 obtain⟨x,b7,hx,e1,b6,h⟩:=bG hS h
 cases x with
 |cells c gen lo hi fl fh ro ty=>
  obtain⟨hg,h⟩:=ay h
  have hg:=bY hg
  obtain⟨l,h1,h2,h3⟩:=Zv h
  have key:∀(j:Nat) (a:AV),l[j]? =some a->∃v,w.cell? ⟨h0.blk,o-h0.shift+j,none⟩=some v/\VR ρ a v:=λj a ha=>by obtain⟨tag,q1,q2⟩:=h3 j a ha;obtain⟨_,v,r2,r3⟩:=Fg hG hx hh hg q1 q2;exact⟨v,by rw[show o-h0.shift+j=o+j-h0.shift by omega];exact r2,r3⟩
  let cs:List Value:=(List.range l.length).map λj=>(w.cell? ⟨h0.blk,o-h0.shift+j,none⟩).getD undef
  have hcs:cs.length=n:=by simp [cs,h2]
  have i6:∀(j:Nat) (v:Value),cs[j]? =some v->w.cell? ⟨h0.blk,o-h0.shift+j,none⟩=some v:=λj v hv=>by
   have hj:j<l.length:=by
    rcases aaf j l.length with h'|h'
    ·exact h'
    ·rw[aak (by simp [cs];exact h')] at hv;cases hv
   obtain⟨v',hv',_⟩:=key j l[j] (aai hj);simp [cs,hj,hv'] at hv;rw[hv',hv]
  refine⟨l,cs,b7,e1,b6,h1,⟨by simp [cs],λj a v ha hv=>?_⟩,hcs,i6, ?_⟩
  ·obtain⟨v',hv',hr⟩:=key j a ha;have:=i6 j v hv;rw[hv'] at this;injection this with this;subst this;exact hr
  ·have:=run_loadCells_list (P:=P) w ⟨h0.blk,o-h0.shift,none⟩ cs (λj v hv=>by
    have:=i6 j v hv;unfold Addr.add;split
    ·rename_i e;subst e;simpa using this
    ·exact this)
   rw[hcs] at this;exact this
 |_=>exact(ah h).elim
def Ah{t:TypeId}{x:AV}{v:Value}(hS:SI σ)(hG:Good w0 ρ σ.h w)(hx:VR ρ x v)(h:run (zN P t x k) σ K=true):∃av a9 u,run (k av) a9 K=true/\SI a9/\Good w0 ρ a9.h w/\VR ρ av u/\(Instr.loadAt t v).run P w= .ok u w:=by
 cases hx with
 |ptr b g o h0 hh ho=>
  obtain⟨d,hu,h⟩:=cB h;rcases bU h with⟨hd,h⟩|⟨hd,h⟩
  ·obtain⟨i,hi,h⟩:=cC h;obtain⟨l,cs,a9,e,C',h1,hl,hlen,_,c9⟩:=gu (P:=P) hS hG hh ho h;have E':LR ρ l cs.toArray.toList:=by simpa using hl
   refine⟨_,_,_,h1,C',by rw[e];exact hG,VR.agg l cs.toArray E'.arr.1 E'.arr.2, ?_⟩;simp only [Instr.loadAt,Instr.sureAddr,loadVar,aab,aad,aae,cm hu,hd,if_true,aA hi,c9]
  ·obtain⟨y,b7,hy,e1,b6,h⟩:=bG hS h
   cases y with
   |cells c gen lo hi fl fh ro ty=>
    obtain⟨hg,h⟩:=ay h
    obtain⟨z,hz,h⟩:=ul h
    cases z with
    |mk tag a=>obtain⟨ht,h⟩:=ay h;obtain⟨_,v,hv,hr⟩:=Fg hG hy hh (bY hg) hz (bY ht);refine⟨_,_,_,h,b6,by rw[e1];exact hG,hr, ?_⟩;simp only [Instr.loadAt,Instr.sureAddr,loadVar,aab,aad,aae,cm hu,hd,Bool.false_eq_true,if_false,run_load,hv]
   |_=>exact(ah h).elim
 |cptr l blk off arr ty hf hb r=>
  obtain⟨⟨fr,hw⟩,_⟩:=hG.frz _ _ _ hf;obtain⟨d,hu,h⟩:=cB h;rcases bU h with⟨hd,h⟩|⟨hd,h⟩
  ·obtain⟨i,hi,h⟩:=cC h;have h:=gZ h;obtain⟨hn,h⟩:=ay h;have hn:=aL hn;have hle:i.size<=l.length:=by rw[aal] at hn;omega
   have hcs:((arr.toList.drop off).take i.size).length=i.size:=by simp;omega
   have l6:∀(j:Nat) (v:Value),((arr.toList.drop off).take i.size)[j]? =some v->j<i.size/\arr[off+j]? =some v:=λj v hv=>by
    have hj:j<i.size:=by
     rcases aaf j i.size with h'|h'
     ·exact h'
     ·rw[aak (by omega)] at hv;cases hv
    refine⟨hj, ?_⟩;rw[aar hj,aat] at hv;simpa using hv
   have hl:LR ρ (l.take i.size) ((arr.toList.drop off).take i.size):=by refine⟨by rw[hcs,hn],λj a v ha hv=>?_⟩;obtain⟨hj,hv⟩:=l6 j v hv;rw[aar hj] at ha;exact r j a v ha hv
   have c9:=run_loadCells_list (P:=P) w ⟨blk,off,none⟩ ((arr.toList.drop off).take i.size) (λj v hv=>by
    obtain⟨_,hv⟩:=l6 j v hv;unfold Addr.add;split
    ·rename_i e;subst e;simp [World.cell?,hw];simpa using hv
    ·simp [World.cell?,hw];exact hv)
   rw[hcs] at c9;have E':LR ρ (l.take i.size) ((arr.toList.drop off).take i.size).toArray.toList:=by simpa using hl
   refine⟨_,_,_,h,hS,hG,VR.agg _ ((arr.toList.drop off).take i.size).toArray E'.arr.1 E'.arr.2, ?_⟩;simp only [Instr.loadAt,Instr.sureAddr,loadVar,aab,aad,aae,cm hu,hd,if_true,aA hi,c9]
  ·obtain⟨a,ha,h⟩:=bT h;have c8:0<l.length:=by
    rcases aaf 0 l.length with h'|h'
    ·exact h'
    ·rw[aak h'] at ha;cases ha
   have hv:arr[off]? =some arr[off]:=aaM (by omega);refine⟨_,_,_,h,hS,hG,r 0 a _ ha (show arr[off+0]? =some arr[off] by rw[aas];exact hv), ?_⟩;simp only [Instr.loadAt,Instr.sureAddr,loadVar,aab,aad,aae,cm hu,hd,Bool.false_eq_true,if_false,run_load];simp [World.cell?,hw,hv]
 |gptr b g i o es hm hh hs=>
  obtain⟨q,b7,hq,e1,b6,h⟩:=bG hS h
  have b9:Good w0 ρ b7.h w:=by rw[e1];exact hG
  cases q with
  |grow c gen ty=>
   obtain⟨k1,z1⟩:=ay h;obtain⟨k2,z2⟩:=ay z1;obtain⟨c8,z3⟩:=aN z2;clear h z1 z2;have k1:=aL k1;have k2:=aL k2;subst k1;subst k2;have h:=z3;clear z3;rcases hG.blk _ _ hq with h0|⟨hm',q1,q2,q3,arr,fr,q4,q5,q6,q7,q8⟩
   ·omega
   rw[hh] at q1;injection q1 with q1;subst q1;have i6:=q8 i c8;have l6:∀(j:Nat) (a:AV),(c.row i)[j]? =some a->∃u,w.cell? ⟨hm.blk,i * c.es+j,none⟩=some u/\VR ρ a u:=λj a ha=>by obtain⟨u,u1,u2⟩:=i6 j a ha;exact⟨u,by simp [World.cell?,q4,u1],u2⟩
   obtain⟨d,hu,h⟩:=cB h;rcases bU h with⟨hd,h⟩|⟨hd,h⟩
   ·obtain⟨ii,hi,h⟩:=cC h;have h:=gZ h;obtain⟨hn,h⟩:=ay h;have hn:=aL hn;let cs:List Value:=(List.range ii.size).map λj=>(w.cell? ⟨hm.blk,i * c.es+o+j,none⟩).getD undef;have hcs:cs.length=ii.size:=by simp [cs]
    have q9:∀j,j<ii.size->∃a,(((c.row i).drop o).take ii.size)[j]? =some a/\(c.row i)[o+j]? =some a:=λj hj=>by
     have hj':j<(((c.row i).drop o).take ii.size).length:=by omega
     refine⟨(((c.row i).drop o).take ii.size)[j],aai hj', ?_⟩;have:=aai hj';rw[aar hj,aat] at this;exact this
    have hl:LR ρ (((c.row i).drop o).take ii.size) cs:=by
     refine⟨by rw[hcs,hn],λj a v ha hv=>?_⟩;have hj:j<ii.size:=by
      rcases aaf j ii.size with h'|h'
      ·exact h'
      ·rw[aak (by omega)] at hv;cases hv
     obtain⟨a',ha',hf⟩:=q9 j hj;rw[ha] at ha';injection ha' with ha';subst ha';obtain⟨u,u1,u2⟩:=l6 _ _ hf;have e2:i * c.es+(o+j)=i * c.es+o+j:=by omega
     rw[e2] at u1;simp [cs,hj,u1] at hv;rw[←hv];exact u2
    have c9:=run_loadCells_list (P:=P) w ⟨hm.blk,i * c.es+o,none⟩ cs (λj v hv=>by
     have hj:j<ii.size:=by
      rcases aaf j ii.size with h'|h'
      ·exact h'
      ·rw[aak (by omega)] at hv;cases hv
     obtain⟨a',ha',hf⟩:=q9 j hj;obtain⟨u,u1,u2⟩:=l6 _ _ hf;have e2:i * c.es+(o+j)=i * c.es+o+j:=by omega
     rw[e2] at u1;simp [cs,hj,u1] at hv;subst hv;unfold Addr.add;split
     ·rename_i e;subst e;simpa using u1
     ·exact u1)
    rw[hcs] at c9;have E':LR ρ (((c.row i).drop o).take ii.size) cs.toArray.toList:=by simpa using hl
    refine⟨_,_,_,h,b6,b9,VR.agg _ cs.toArray E'.arr.1 E'.arr.2, ?_⟩;simp only [Instr.loadAt,Instr.sureAddr,loadVar,aab,aad,aae,cm hu,hd,if_true,aA hi,c9]
   ·obtain⟨a,ha,h⟩:=bT h;obtain⟨u,u1,u2⟩:=l6 o a ha;refine⟨_,_,_,h,b6,b9,u2, ?_⟩;simp only [Instr.loadAt,Instr.sureAddr,loadVar,aab,aad,aae,cm hu,hd,Bool.false_eq_true,if_false,run_load,u1]
  |_=>exact(ah h).elim
 |aptr b g o n i hm hh ho hi0 hi1=>
  obtain⟨d,hu,h⟩:=cB h;obtain⟨hd,h⟩:=qw h;obtain⟨l,cs,a9,e,C',h1,hl,hlen,i6,_⟩:=gu (P:=P) hS hG hh ho h;obtain⟨q,hq,h1⟩:=bT h1;obtain⟨q1,q2⟩:=Ac hq;have hin:i.toNat<l.length:=by have:=hl.1;omega
  have ha:l[i.toNat]? =some l[i.toNat]:=aai hin;obtain⟨u,hu1,hu2⟩:=hl.get ha;have hu3:=bc hu2 (q2 _ _ ha);have hu4:=i6 _ _ hu1;refine⟨_,_,_,h1,C',by rw[e];exact hG,VR.sI q.1 _, ?_⟩;simp only [Instr.loadAt,Instr.sureAddr,loadVar,aab,aad,aae,cm hu,hd,Bool.false_eq_true,if_false,run_load,hu4,hu3]
 |_=>exact(ah h).elim
def Q8{t:TypeId}{x:AV}{v:Value}(hS:SI σ)(hG:Good w0 ρ σ.h w)(hx:VR ρ x v)(h:run (zN P t x k) σ K=true):Res P w0 ρ w k K (Instr.loadAt t v):=by obtain⟨av,a9,u,h1,h2,h3,h4,h5⟩:=Ah (P:=P) hS hG hx h;exact .plain h1 h2 h3 h4 h5
end
end Go.Sym
namespace Go.Sym
open Go.RowKit (Below)
def LR.one{ρ:Rho}{a b:AV}{vs:List Value}(h:LR ρ [a] vs)(hw:∀v,VR ρ a v->VR ρ b v):LR ρ [b] vs:=by obtain⟨v,K',rfl,hv,h'⟩:=h.cons_inv;have:=h'.nil_inv;subst this;exact LR.cons (hw v hv) (LR.nil ρ)
def LR.split{ρ:Rho}{l m:List AV}{vs:List Value}(h:LR ρ (l++m) vs):∃v1 v2,vs=v1++v2/\LR ρ l v1/\LR ρ m v2:=by
 have hl:vs.length=l.length+m.length:=by simpa using h.1
 refine⟨vs.take l.length,vs.drop l.length,(abb _ _).symm,⟨by simp;omega,λi a v ha hv=>?_⟩,⟨by simp;omega,λi a v ha hv=>?_⟩⟩
 ·have hi:i<l.length:=by
   rcases aaf i l.length with h'|h'
   ·exact h'
   ·rw[aak h'] at ha;cases ha
  rw[aar hi] at hv;exact h.2 i a v (by rw[aaA hi];exact ha) hv
 ·rw[aat] at hv;exact h.2 (l.length+i) a v (by rw[aax (by omega)];simpa using ha) hv
def Zw{p:Prop}:pI p=1↔p:=by unfold pI;by_cases h:p <;> simp [h]
def Lk:∀(n:Nat) (cs:List AV) (l:List G) (r:List AV),EU n cs=some (l,r)->
 ∃c,cs=c++r/\c.length=n/\l.length=n/\∀(ρ:Rho) (vs:List Value) (g:G) (j:Nat),(∀i,i<n->aa g (j+i)=aq l i)->LR ρ c vs->LR ρ (mo g n j) vs:=by
 intro n
 induction n with
 |zero=>
  intro cs l r h
  injection h with h;injection h with h1 h2
  subst h1;subst h2
  exact⟨[],rfl,rfl,rfl,λρ vs g j _ hl=>hl⟩
 |succ n ih=>
  intro cs l r h
  cases cs with
  |nil=>cases h
  |cons a cs=>
   unfold EU at h
   split at h
   ·rename_i v hv;split at h
    ·rename_i l' q hp;injection h with h;injection h with h1 h2;subst h1;subst h2;obtain⟨c,rfl,e2,e3,e4⟩:=ih _ _ _ hp;refine⟨a::c,rfl,by simp [e2],by simp [e3],λρ vs g j hg hl=>?_⟩;obtain⟨x,K',rfl,hx,E'⟩:=hl.cons_inv;refine LR.cons ?_ (e4 ρ K' g (j+1) (λi hi=>?_) E')
     ·have:=hg 0 (by omega);rw[aas] at this;rw[this,bc hx hv];exact .sI _ _
     ·have:=hg (i+1) (by omega);rw[show j+1+i=j+(i+1) by omega,this];rfl
    ·cases h
   ·cases h
def Ll{x:Sc}{cs:List AV}{k:G->List AV->Option (List G×List AV)}{q:List G×List AV}(h:KB x cs none k=some q):
 ∃g c r,cs=c++r/\c.length=scW x/\k g r=some q/\∀(ρ:Rho) (vs:List Value),LR ρ c vs->LR ρ (fP x g) vs:=by
 cases cs with
 |nil=>cases h
 |cons a r=>
  unfold KB at h
  cases x with
  |i j=>
   simp only at h
   cases hn:ce a with
   |none=>rw[hn] at h;cases h
   |some y=>
    obtain⟨j',n⟩:=y
    rw[hn] at h
    simp only [ar] at h
    split at h
    ·rename_i e;have e:=of_decide_eq_true e;subst e;exact⟨_,[a],r,rfl,rfl,h,λρ vs hl=>hl.one λv hv=>by rw[bc hv hn];exact .sI _ _⟩
    ·cases h
  |b=>
   simp only at h
   cases hn:dO a with
   |none=>rw[hn] at h;cases h
   |some p=>
    rw[hn] at h
    exact⟨_,[a],r,rfl,rfl,h,λρ vs hl=>hl.one λv hv=>by obtain⟨b,e,hb⟩:=eP hv hn;rw[e];exact .sB _ b (by rw[hb];exact Zw.symm)⟩
  |s=>
   simp only at h
   cases hn:gj a with
   |none=>rw[hn] at h;cases h
   |some p=>
    rw[hn] at h
    exact⟨_,[a],r,rfl,rfl,h,λρ vs hl=>hl.one λv hv=>by obtain⟨b,e,hb⟩:=dB hv hn;rw[e,hb];exact .sS b⟩
  |o=>
   simp only [ar] at h
   split at h
   ·rename_i e;exact⟨_,[a],r,rfl,rfl,h,λρ vs hl=>hl.one λv hv=>.any1 v (jo hv e)⟩
   ·cases h
  |sl m=>
   simp only at h
   split at h
   ·exact⟨_,[_],r,rfl,rfl,h,λρ vs hl=>hl.one λv hv=>by cases hv;exact .cvnil _ rfl⟩
   ·rename_i m' l;simp only [ar] at h;split at h
    ·rename_i e;have e:=aac e;subst e;exact⟨_,[_],r,rfl,rfl,h,λρ vs hl=>hl⟩
    ·cases h
   ·cases h
  |bs=>
   simp only at h
   split at h
   ·exact⟨_,[_],r,rfl,rfl,h,λρ vs hl=>hl.one λv hv=>by cases hv;exact .cvnil _ rfl⟩
   ·exact⟨_,[_],r,rfl,rfl,h,λρ vs hl=>hl⟩
   ·cases h
  |h n=>
   simp only at h
   split at h
   ·rename_i l r' hp;obtain⟨c,e1,e2,e3,e4⟩:=Lk _ _ _ _ hp;exact⟨_,c,r',e1,e2,h,λρ vs hl=>e4 ρ vs (.node l) 0 (λi hi=>by simp [aa,gL,aq]) hl⟩
   ·cases h
def jt:∀(xs:List Sc) (cs:List AV) (gs:List G) (r:List AV),fT xs cs=some (gs,r)->
 ∃c1,cs=c1++r/\c1.length=bq xs/\gs.length=xs.length/\∀(g:G) (j:Nat),(∀i,i<xs.length->aa g (j+i)=aq gs i)->∀(ρ:Rho) (vs:List Value),LR ρ c1 vs->LR ρ (bB xs g j) vs:=by
 intro xs
 induction xs with
 |nil=>
  intro cs gs r h
  injection h with h
  injection h with h1 h2
  subst h1;subst h2
  exact⟨[],rfl,rfl,rfl,λg j _ ρ vs hl=>hl⟩
 |cons x xs ih=>
  intro cs gs r h
  unfold fT at h
  obtain⟨g0,ca,r0,rfl,hw,hk,hc⟩:=Ll h
  split at hk
  ·rename_i gs' r' hp;injection hk with hk;injection hk with h1 h2;subst h1;subst h2;obtain⟨c1,rfl,e2,e4,e3⟩:=ih _ _ _ hp;refine⟨ca++c1,by simp,by simp [bq,hw,e2],by simp [e4],λg j hg ρ vs hl=>?_⟩;obtain⟨v,K',rfl,hv,E'⟩:=hl.split;have h0:=hg 0 (by simp);have i6:=hc ρ v hv;have:aa g j=g0:=h0;show LR ρ (fP x (aa g j)++bB xs g (j+1)) (v++K');rw[this];refine i6.append (e3 g (j+1) (λi hi=>?_) ρ K' E');have:=hg (i+1) (by simp;omega);rw[show j+1+i=j+(i+1) by omega,this];rfl
  ·cases hk
def hY{xs:List Sc}:∀(n:Nat) (cs:List AV) (gs:List G) (r:List AV),dW xs n cs=some (gs,r)->
 ∃c1,cs=c1++r/\c1.length=n * bq xs/\gs.length=n/\∀i,i<n->∀(ρ:Rho) (vs:List Value),LR ρ ((c1.drop (i * bq xs)).take (bq xs)) vs->LR ρ (bB xs (aq gs i) 0) vs:=by
 intro n
 induction n with
 |zero=>
  intro cs gs r h
  injection h with h
  injection h with h1 h2
  subst h1;subst h2
  exact⟨[],rfl,by simp,rfl,λi hi=>by omega⟩
 |succ n ih=>
  intro cs gs r h
  unfold dW at h
  split at h
  ·rename_i g1 r1 h1;split at h
   ·rename_i gs2 r2 h2
    injection h with h
    injection h with q1 q2
    subst q1;subst q2
    obtain⟨c1,rfl,e1,e0,e2⟩:=jt _ _ _ _ h1
    obtain⟨c2,rfl,f1,f2,f3⟩:=ih _ _ _ h2
    refine⟨c1++c2,by simp,by simp [e1,f1,aaN];omega,by simp [f2],λi hi ρ vs hl=>?_⟩
    cases i with
    |zero=>rw[abc,aaR,abq (by omega),abd (by omega)] at hl;exact e2 (.node g1) 0 (λi hi=>by simp [aa,gL,aq]) ρ vs hl
    |succ i=>
     have:(c1++c2).drop ((i+1) * bq xs)=c2.drop (i * bq xs):=by rw[List.drop_append,List.drop_of_length_le (by rw[aaN];omega)];simp only [aa8];congr 1;rw[e1,aaN];omega
     rw[this] at hl;have:=f3 i (by omega) ρ vs hl;simpa [aq] using this
   ·cases h
  ·cases h
def nw:∀(cs:List AV) (ns:List Int),gk cs=some ns->ns.length=cs.length/\∀(i:Nat) (a:AV),cs[i]? =some a->∃n,ns[i]? =some n/\ce a=some (.u8,n):=by
 intro cs
 induction cs with
 |nil=>intro ns h;injection h with h;subst h;exact⟨rfl,by simp⟩
 |cons a cs ih=>
  intro ns h;unfold gk at h;split at h
  ·rename_i n hn;split at h
   ·rename_i l hl
    injection h with h
    subst h
    obtain⟨h1,h2⟩:=ih _ hl
    refine⟨by simp [h1],λi b hb=>?_⟩
    cases i with
    |zero=>simp at hb;subst hb;exact⟨n,rfl,hn⟩
    |succ i=>simp at hb;obtain⟨m,q1,q2⟩:=h2 i b hb;exact⟨m,by simpa using q1,q2⟩
   ·cases h
  ·cases h
def ju:∀(ns:List Int) (i:Nat) (n:Int),bu ns->ns[i]? =some n->(aG ns)[i]? =some n.toNat/\0<=n:=by
 intro ns
 induction ns with
 |nil=>intro i n _ h;simp at h
 |cons x ns ih=>
  intro i n hn h
  cases i with
  |zero=>simp at h;subst h;exact⟨rfl,hn.1⟩
  |succ i=>simp at h;exact ih i n hn.2 h
def bQ:∀(ns:List Int),(aG ns).length=ns.length:=by
 intro ns
 induction ns with
 |nil=>rfl
 |cons x ns ih=>simp [aG,ih]
def Wj{c c':Ct}{new:List AV}{n:Nat}{p:Prop}(h:c.app new n=some (c',p))(hp:p)(hn:new.length=n * c.es):
 c'.len=c.len+n/\c'.es=c.es/\(∀i,i<c.len->c'.row i=c.row i)/\∀i,c.len<=i->i<c.len+n->∀(ρ:Rho) (vs:List Value),LR ρ ((new.drop ((i-c.len) * c.es)).take c.es) vs->LR ρ (c'.row i) vs:=by
 cases c with
 |rows m l=>
  unfold Ct.app at h
  simp only at h
  split at h
  ·rename_i gs hg;injection h with h;injection h with h1 h2;subst h1;obtain⟨c1,e1,e2,e3,e4⟩:=hY _ _ _ _ hg;have e1:new=c1:=by simpa using e1
   subst e1;refine⟨by simp [Ct.len,e3],rfl,λi hi=>?_,λi h1 h2 ρ vs hl=>?_⟩
   ·have hi:i<l.length:=hi;simp only [Ct.row,aq,aag,aaA hi]
   ·have h1:l.length<=i:=h1;have h2:i<l.length+n:=h2;have:=e4 (i-l.length) (by omega) ρ vs hl;have e5:aq (l++gs) i=aq gs (i-l.length):=by simp only [aq,aag,aax h1]
    simp only [Ct.row,e5];exact this
  ·cases h
 |bytes s=>
  unfold Ct.app at h
  simp only at h
  split at h
  ·rename_i ns hg;rw[ar] at h;split at h
   ·rename_i hnl;have hnl:=aac hnl;injection h with h;injection h with h1 h2;subst h1;subst h2;obtain⟨e1,e2⟩:=nw _ _ hg;refine⟨by simp [Ct.len,bQ,hnl],rfl,λi hi=>?_,λi h1 h2 ρ vs hl=>?_⟩
    ·have hi:i<s.length:=hi;simp only [Ct.row,aag,aaA hi]
    ·have h1:s.length<=i:=h1;have h2:i<s.length+n:=h2;have c8:i-s.length<new.length:=by omega
     have hd:(new.drop ((i-s.length) * 1)).take 1= [new[i-s.length]]:=by rw[aaF,aa2 c8];rfl
     have hl:LR ρ ((new.drop ((i-s.length) * 1)).take 1) vs:=hl;rw[hd] at hl;refine hl.one λv hv=>?_;obtain⟨n',q1,q2⟩:=e2 (i-s.length) new[i-s.length] (aai c8);obtain⟨q3,q4⟩:=ju _ _ _ hp q1;rw[bc hv q2];have e5:(s++aG ns).getD i 0=n'.toNat:=by rw[aag,aax h1,q3];rfl
     rw[e5,show((n'.toNat:Nat):Int)=n' by omega];exact .sI _ _
   ·cases h
  ·cases h
def Wk{c c':Ct}{new:List AV}{i o:Nat}{p:Prop}(h:c.upd i o new=some (c',p))(hp:p)(hi:i<c.len)(ho:o+new.length<=c.es):
 c'.len=c.len/\c'.es=c.es/\(∀i',i'≠i->c'.row i'=c.row i')/\∀(ρ:Rho) (vs:List Value),LR ρ ((c.row i).take o++new++(c.row i).drop (o+new.length)) vs->LR ρ (c'.row i) vs:=by
 cases c with
 |rows m l=>
  unfold Ct.upd at h
  simp only at h
  split at h
  ·rename_i gs hg;injection h with h;injection h with h1 h2;subst h1;obtain⟨c1,e1,e2,e0,e3⟩:=jt _ _ _ _ hg;have e1:((Ct.rows m l).row i).take o++new++((Ct.rows m l).row i).drop (o+new.length)=c1:=by simpa using e1
   have hi:i<l.length:=hi;refine⟨by simp [Ct.len],rfl,λi' m8=>?_,λρ vs hl=>?_⟩
   ·simp only [Ct.row,aq,aag,List.getElem?_set_ne (Ne.symm m8)]
   ·rw[e1] at hl;have e4:aq (l.set i (.node gs)) i= .node gs:=by simp only [aq,aag,abL hi,Option.getD_some]
    simp only [Ct.row,e4];exact e3 (.node gs) 0 (λi hi=>by simp [aa,gL,aq]) ρ vs hl
  ·cases h
 |bytes s=>
  unfold Ct.upd at h
  simp only at h
  split at h
  ·rename_i a;split at h
   ·rename_i n hn;injection h with h;injection h with h1 h2;subst h1;subst h2;have hi:i<s.length:=hi;refine⟨by simp [Ct.len],rfl,λi' m8=>?_,λρ vs hl=>?_⟩
    ·simp only [Ct.row,aag,List.getElem?_set_ne (Ne.symm m8)]
    ·have hl:LR ρ [a] vs:=hl;have e4:(s.set i n.toNat).getD i 0=n.toNat:=by rw[aag,abL hi];rfl
     refine hl.one λv hv=>?_;rw[e4,bc hv hn,show((n.toNat:Nat):Int)=n by omega];exact .sI _ _
   ·cases h
  ·cases h
def LR.ones{ρ:Rho}{l:List AV}{vs:List Value}(hl:LR ρ l vs)(h:∀a∈l,fQ a=true):∀v∈vs,v.oneCell'=true:=by
 intro v hv;obtain⟨j,hj,e⟩:=List.mem_iff_getElem.1 hv;have hj':j<l.length:=by have:=hl.1;omega
 have:=hl.2 j l[j] v (aai hj') (by rw[aai hj,e]);exact jo this (h _ (abe _))
def nx{ρ:Rho}{l l':List AV}{A:Nat->Option Value}(h:∀j a,l[j]? =some a->∃u,A j=some u/\VR ρ a u)(hl:∀vs,LR ρ l vs->LR ρ l' vs):∀j a,l'[j]? =some a->∃u,A j=some u/\VR ρ a u:=by
 let vs:List Value:=(List.range l.length).map λj=>(A j).getD undef;have I':LR ρ l vs:=by
  refine⟨by simp [vs],λi a v ha hv=>?_⟩;obtain⟨u,h1,h2⟩:=h i a ha;have hi:i<l.length:=by
   rcases aaf i l.length with h'|h'
   ·exact h'
   ·rw[aak h'] at ha;cases ha
  simp [vs,hi,h1] at hv;rw[←hv];exact h2
 have h':=hl vs I';intro j a ha;obtain⟨v,hv,hr⟩:=h'.get ha;have hj:j<l.length:=by
  have:=h'.1;rcases aaf j vs.length with h''|h''
  ·simpa [vs] using h''
  ·rw[aak h''] at hv;cases hv
 obtain⟨u,h1,h2⟩:=h j l[j] (aai hj);simp [vs,hj,h1] at hv;exact⟨u,h1,by rw[hv];exact hr⟩
end Go.Sym
