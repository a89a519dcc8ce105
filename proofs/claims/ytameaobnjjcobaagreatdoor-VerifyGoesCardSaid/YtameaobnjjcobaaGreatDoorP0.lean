/- Part 0. -/
import Derived.CallsIn
import Derived.RangeFuncLeaves
import Derived.OrdersIn
import Derived.Below
import Derived.KernelRfl
import Derived.Laws.Cells
import Derived.IntWalk
import Derived.Laws.Strings
import Derived.DeepKeys
set_option linter.all false
namespace Go.Sym
noncomputable section
def fN{β:Type}(n:Nat)(k:Nat->β):β:=Nat.rec (motive:=λ_=>β) (k 0) (λm _=>k (Nat.succ m)) n
def qP{β:Type}(n:Nat)(k:Nat->β):fN n k=k n:=by cases n <;> rfl
def fI{β:Type}(n:Int)(k:Int->β):β:=Int.rec (motive:=λ_=>β) (λa=>fN a λa=>k (Int.ofNat a)) (λa=>fN a λa=>k (Int.negSucc a)) n
def Yp{β:Type}(n:Int)(k:Int->β):fI n k=k n:=by cases n <;> simp [fI,qP]
def ac{β:Type}(b:Bool)(t e:β):β:=Bool.rec (motive:=λ_=>β) e t b
def ar{β:Type}(b:Bool)(t e:β):ac b t e=if b then t else e:=by cases b <;> rfl
def dr{α β:Type}(o:Option α)(z:β)(k:α->β):β:=Option.rec (motive:=λ_=>β) z k o
def aC{b:Bool}{t:Bool}(h:ac b t false=true):b=true/\t=true:=by cases b <;> first|exact⟨rfl,h⟩|cases h
def BN{b:Bool}{t:Bool}(h:ac b false t=true):b=false/\t=true:=by cases b <;> first|exact⟨rfl,h⟩|cases h
inductive T(α:Type) where
 |leaf
 |node (l:T α) (v:Option α) (r:T α)
namespace T
variable{α β:Type}
def get:T α->Nat->Option α
 | .leaf,_=>none
 | .node l v r,n=>match n with
  |0=>v
  |m+1=>if m%2=0 then get l (m/2) else get r (m/2)
def iw:Nat->Nat->α->T α
 |0,_,_=>.leaf
 |f+1,n,a=>match n with
  |0=>.node .leaf (some a) .leaf
  |m+1=>if m%2=0 then .node (iw f (m/2) a) none .leaf else .node .leaf none (iw f (m/2) a)
def set:T α->Nat->α->T α
 | .leaf,n,a=>iw 64 n a
 | .node l v r,n,a=>match n with
  |0=>.node l (some a) r
  |m+1=>if m%2=0 then .node (set l (m/2) a) v r else .node l v (set r (m/2) a)
def getK(t:T α)(n:Nat)(z:β)(k:α->β):β:=
 T.rec (motive:=λ_=>Nat->β) (λ_=>z) (λ_ v _ gl gr n=>
  Nat.rec (motive:=λ_=>β) (Option.rec (motive:=λ_=>β) z k v) (λm _=>Bool.rec (motive:=λ_=>β) (gr (Nat.div m 2)) (gl (Nat.div m 2)) (Nat.beq (Nat.mod m 2) 0)) n) t n
def DS(f:Nat)(n:Nat)(a:α)(k:T α->β):β:=
 Nat.rec (motive:=λ_=>Nat->(T α->β)->β) (λ_ k=>k .leaf) (λ_ ih n k=>
  Nat.rec (motive:=λ_=>β) (k (.node .leaf (some a) .leaf)) (λm _=>Bool.rec (motive:=λ_=>β) (ih (Nat.div m 2) λt=>k (.node .leaf none t)) (ih (Nat.div m 2) λt=>k (.node t none .leaf)) (Nat.beq (Nat.mod m 2) 0)) n) f n k
def setK(t:T α)(n:Nat)(a:α)(k:T α->β):β:=
 T.rec (motive:=λ_=>Nat->(T α->β)->β) (λn k=>DS 64 n a k) (λl v r sl sr n k=>
  Nat.rec (motive:=λ_=>β) (k (.node l (some a) r)) (λm _=>Bool.rec (motive:=λ_=>β) (sr (Nat.div m 2) λt=>k (.node l v t)) (sl (Nat.div m 2) λt=>k (.node t v r)) (Nat.beq (Nat.mod m 2) 0)) n) t n k
def getK_eq(t:T α):∀(n:Nat) (z:β) (k:α->β),getK t n z k=match get t n with|none=>z|some a=>k a:=by
 induction t with
 |leaf=>intro n z k;simp [getK,get]
 |node l v r ihl ihr=>
  intro n z k
  cases n with
  |zero=>cases v <;> rfl
  |succ m=>
   show Bool.rec (motive:=λ_=>β) (getK r (m/2) z k) (getK l (m/2) z k) (Nat.beq (m%2) 0)=_;rw[ihl,ihr];by_cases h:m%2=0
   ·have:Nat.beq (m%2) 0=true:=by rw[h];rfl
    simp [get,h]
   ·have:Nat.beq (m%2) 0=false:=by
     cases hb:Nat.beq (m%2) 0 with
     |false=>rfl
     |true=>exact absurd (Nat.eq_of_beq_eq_true hb) h
    rw[this];simp [get,h]
def JE(a:α):∀(f n:Nat) (k:T α->β),DS f n a k=k (iw f n a):=by
 intro f
 induction f with
 |zero=>intro n k;rfl
 |succ f ih=>
  intro n k
  cases n with
  |zero=>rfl
  |succ m=>
   show Bool.rec (motive:=λ_=>β) (DS f (m/2) a λt=>k (.node .leaf none t)) (DS f (m/2) a λt=>k (.node t none .leaf)) (Nat.beq (m%2) 0)=_;rw[ih,ih];by_cases h:m%2=0
   ·have:Nat.beq (m%2) 0=true:=by rw[h];rfl
    rw[this];simp [iw,h]
   ·have:Nat.beq (m%2) 0=false:=by
     cases hb:Nat.beq (m%2) 0 with
     |false=>rfl
     |true=>exact absurd (Nat.eq_of_beq_eq_true hb) h
    rw[this];simp [iw,h]
def setK_eq(t:T α)(a:α):∀(n:Nat) (k:T α->β),setK t n a k=k (set t n a):=by
 induction t with
 |leaf=>intro n k;exact JE a 64 n k
 |node l v r ihl ihr=>
  intro n k
  cases n with
  |zero=>rfl
  |succ m=>
   show Bool.rec (motive:=λ_=>β) (setK r (m/2) a λt=>k (.node l v t)) (setK l (m/2) a λt=>k (.node t v r)) (Nat.beq (m%2) 0)=_;rw[ihl,ihr];by_cases h:m%2=0
   ·have:Nat.beq (m%2) 0=true:=by rw[h];rfl
    rw[this];simp [set,h]
   ·have:Nat.beq (m%2) 0=false:=by
     cases hb:Nat.beq (m%2) 0 with
     |false=>rfl
     |true=>exact absurd (Nat.eq_of_beq_eq_true hb) h
    rw[this];simp [set,h]
def JF(a:α):∀(f n m:Nat),n+1<2 ^ f->get (iw f n a) m=if m=n then some a else none:=by
 intro f
 induction f with
 |zero=>intro n m h;simp at h
 |succ f ih=>
  intro n m h
  cases n with
  |zero=>
   cases m with
   |zero=>simp [iw,get]
   |succ m=>simp [iw,get]
  |succ n=>
   have hn:n/2+1<2 ^ f:=by rw[Nat.pow_succ] at h;omega
   cases m with
   |zero=>simp only [iw];split <;> simp [get]
   |succ m=>
    simp only [iw];split
    ·simp only [get];split
     ·rw[ih _ _ hn];by_cases e:m/2=n/2
      ·rw[if_pos e,if_pos (by omega)]
      ·rw[if_neg e,if_neg (by omega)]
     ·rw[if_neg (by omega)]
    ·simp only [get];split
     ·rw[if_neg (by omega)]
     ·rw[ih _ _ hn];by_cases e:m/2=n/2
      ·rw[if_pos e,if_pos (by omega)]
      ·rw[if_neg e,if_neg (by omega)]
def get_set_ne(a:α){n m:Nat}(i5:m≠n):∀(t:T α),get (set t n a) m=get t m:=by
 have hs:∀(f n m:Nat),m≠n->get (iw f n a) m=none:=by
  intro f
  induction f with
  |zero=>intro n m _;rfl
  |succ f ih=>
   intro n m h
   cases n with
   |zero=>cases m with
    |zero=>exact absurd rfl h
    |succ m=>simp [iw,get]
   |succ n=>
    cases m with
    |zero=>simp only [iw];split <;> simp [get]
    |succ m=>
     simp only [iw];split
     ·simp only [get];split
      ·exact ih _ _ (by omega)
      ·rfl
     ·simp only [get];split
      ·rfl
      ·exact ih _ _ (by omega)
 intro t
 induction t generalizing n m with
 |leaf=>exact hs 64 n m i5
 |node l v r ihl ihr=>
  cases n with
  |zero=>cases m with
   |zero=>exact absurd rfl i5
   |succ m=>simp [set,get]
  |succ n=>
   cases m with
   |zero=>simp only [set];split <;> simp [get]
   |succ m=>
    simp only [set];split
    ·simp only [get];split
     ·exact ihl (by omega)
     ·rfl
    ·simp only [get];split
     ·rfl
     ·exact ihr (by omega)
def get_set_same(a:α):∀(t:T α) (n:Nat),n+1<2 ^ 64->get (set t n a) n=some a:=by
 intro t
 induction t with
 |leaf=>intro n h;show get (iw 64 n a) n=_;rw[JF a 64 n n h];simp
 |node l v r ihl ihr=>
  intro n h
  cases n with
  |zero=>simp [set,get]
  |succ m=>
   simp only [set];split <;> simp only [get, *,if_true,if_false]
   ·exact ihl _ (by omega)
   ·exact ihr _ (by omega)
def get_set_some{a b:α}:∀(t:T α) (n:Nat),get (set t n a) n=some b->b=a:=by
 have hs:∀(f n:Nat),get (iw f n a) n=some b->b=a:=by
  intro f
  induction f with
  |zero=>intro n h;simp [iw,get] at h
  |succ f ih=>
   intro n h
   cases n with
   |zero=>simp [iw,get] at h;exact h.symm
   |succ n=>
    simp only [iw] at h;split at h
    ·simp only [get, *,if_true] at h;exact ih _ h
    ·simp only [get, *,if_false] at h;exact ih _ h
 intro t
 induction t with
 |leaf=>intro n h;exact hs 64 n h
 |node l v r ihl ihr=>
  intro n h
  cases n with
  |zero=>simp [set,get] at h;exact h.symm
  |succ m=>
   simp only [set] at h;split at h
   ·simp only [get, *,if_true] at h;exact ihl _ h
   ·simp only [get, *,if_false] at h;exact ihr _ h
end T
end
end Go.Sym
namespace Go.Sym
abbrev aao:=@Nat.le_refl
abbrev aap:=@Sem.run_bind
abbrev aaq:=@Nat.eq_of_beq_eq_true
abbrev aar:=@Sem.run_pure
abbrev aas:=@List.getD_eq_getElem?_getD
abbrev aat:=@Nat.lt_or_ge
abbrev aau:=@Result.andThen_ok
abbrev aav:=@List.length_append
abbrev aaw:=@List.getElem?_eq_getElem
abbrev aax:=@List.length_take
abbrev aay:=@List.mem_cons_of_mem
abbrev aaz:=@List.getElem?_eq_none
abbrev aaA:=@List.length_drop
abbrev aaB:=@List.mem_cons_self
abbrev aaC:=@Nat.zero_add
abbrev aaD:=@Nat.zero_le
abbrev aaE:=@Int.toNat_natCast
abbrev aaF:=@List.getElem?_take_of_lt
abbrev aaG:=@Nat.add_zero
abbrev aaH:=@List.getElem?_drop
abbrev aaI:=@List.length_cons
abbrev aaJ:=@List.getElem?_append_right
abbrev aaK:=@List.append_assoc
abbrev aaL:=@Nat.le_of_ble_eq_true
abbrev aaM:=@Nat.mul_le_mul_right
abbrev aaN:=@Nat.add_mul
abbrev aaO:=@List.getElem?_append_left
abbrev aaP:=@List.map_cons
abbrev aaQ:=@List.length_singleton
abbrev aaR:=@List.setIfInBounds_toArray
abbrev aaS:=@List.set_cons_zero
abbrev aaT:=@List.set_cons_succ
abbrev aaU:=@Nat.mul_one
abbrev aaV:=@Nat.le_trans
abbrev aaW:=@List.getElem?_map
abbrev aaX:=@Array.getElem?_setIfInBounds
abbrev aaY:=@Array.length_toList
abbrev aaZ:=@List.length_map
abbrev aa0:=@Array.getElem?_eq_getElem
abbrev aa1:=@Nat.succ_mul
abbrev aa2:=@List.drop_eq_nil_of_le
abbrev aa3:=@Nat.two_pow_pos
abbrev aa4:=@List.drop_zero
abbrev aa5:=@List.not_mem_nil
abbrev aa6:=@Nat.eq_zero_or_pos
abbrev aa7:=@Array.getElem?_eq_none
abbrev aa8:=@Array.getD_eq_getD_getElem?
abbrev aa9:=@Array.getElem?_toList
abbrev aa_:=@Nat.pow_succ
abbrev aba:=@List.length_set
abbrev abb:=@Option.map_some
abbrev abc:=@Int.ofNat_eq_natCast
abbrev abd:=@List.getElem?_take
abbrev abe:=@List.drop_drop
abbrev abf:=@List.drop_eq_getElem_cons
abbrev abg:=@List.take_length
abbrev abh:=@Nat.lt_of_lt_of_le
abbrev abj:=@List.getElem?_toArray
abbrev abk:=@Nat.sub_self
abbrev abl:=@Nat.min_eq_left
abbrev abm:=@List.nil_append
abbrev abn:=@Option.isSome_none
abbrev abo:=@List.map_map
abbrev abp:=@List.append_nil
abbrev abq:=@Nat.zero_mul
abbrev abr:=@List.getElem_mem
abbrev abs:=@List.mem_of_getElem?
abbrev abt:=@Nat.mod_eq_of_lt
abbrev abu:=@Nat.mul_le_mul
abbrev abv:=@List.take_take
abbrev abw:=@List.sum_cons
abbrev abx:=@List.all_eq_true
abbrev aby:=@List.take_append_drop
abbrev abz:=@List.take_of_length_le
abbrev abA:=@Nat.beq_refl
abbrev abB:=@Nat.sub_zero
abbrev abC:=@List.drop_take
abbrev abD:=@Int.toNat_of_nonneg
abbrev abE:=@List.mem_append_left
abbrev abF:=@List.mem_append_right
abbrev abG:=@List.take_append_of_le_length
abbrev abH:=@Nat.add_assoc
abbrev abI:=@Classical.choose_spec
abbrev abJ:=@List.mem_map_of_mem
abbrev abK:=@Nat.pow_le_pow_right
abbrev abL:=@Nat.mod_two_eq_zero_or_one
abbrev abM:=@List.length_replicate
abbrev abN:=@List.extract_eq_take_drop
abbrev abO:=@Nat.le_succ_of_le
abbrev abP:=@List.drop_append_of_le_length
abbrev abQ:=@List.getElem?_set
abbrev abR:=@List.toList_toArray
abbrev abS:=@List.getElem?_cons_zero
abbrev abT:=@List.getElem_map
abbrev abU:=@Int.dvd_of_emod_eq_zero
abbrev abV:=@Nat.add_sub_cancel
abbrev abW:=@List.getElem_of_mem
abbrev abX:=@List.dropLast_concat
abbrev abY:=@List.length_range
abbrev abZ:=@List.filter_cons_of_pos
abbrev ab0:=@List.filter_cons_of_neg
abbrev ab1:=@List.getElem?_set_self
abbrev ab2:=@List.getElem?_cons_succ
abbrev ab3:=@Array.size_setIfInBounds
abbrev ab4:=@List.mem_zipIdx_iff_getElem?
abbrev ab5:=@Array.getElem?_replicate
abbrev ab6:=@Nat.and_two_pow_sub_one_eq_mod
abbrev ab7:=@List.replicate_append_replicate
abbrev ab8:=@List.not_of_lt_findIdx
abbrev ab9:=@List.getElem_append_left
open Go.RowKit (Below)
noncomputable section
def base:Nat:=1048576
inductive G where
 |int (n:Int)
 |str (s:List Nat)
 |node (l:List G)
def gI(g:G):Int:=match g with | .int n=>n|_=>0
def gS(g:G):List Nat:=match g with | .str s=>s|_=>[]
def gL(g:G):List G:=match g with | .node l=>l|_=>[]
def aa(g:G)(j:Nat):G:=(gL g).getD j (.int 0)
def aq(l:List G)(i:Nat):G:=l.getD i (.int 0)
def jW(s:List Nat)(i:Nat):Nat:=s.getD i 0%256
theorem aj(s:List Nat)(i:Nat):jW s i<256:=Nat.mod_lt _ (by decide)
inductive Sc where
 |i (k:IntKind)
 |b
 |s
 |o
 |sl (m:Nat)
 |bs
 |h (n:Nat)
def cP(m:Nat):List Sc:=match m with
 |0=>[.i .i64,.s,.i .i64]
 |1=>[.s]
 |2=>[.i .i64,.i .i64,.i .i64,.s,.sl 1,.sl 2]
 |3=>[.i .i64,.i .i64,.s,.i .i64,.i .i64,.i .i64,.s,.o,.o,.o,.o]
 |4=>[.b]
 |5=>[.i .i64,.s,.i .i64,.i .i64,.s,.i .i64,.i .i64,.i .i64,.s,.o,.o,.o,.o,.s]
 |6=>[.h 32]
 |7=>[.i .i64,.s,.i .i64,.i .i64,.i .i64,.i .i64,.i .i64,.i .i64,.s,.sl 1,.sl 2,.h 32,.b,.i .i64,.i .i64]
 |8=>[.i .i64]
 |9=>[.i .u32]
 |10=>[.i .u64]
 |11=>[.i .i64,.i .i64,.i .i64,.h 32,.sl 7]
 |12=>[.s,.bs,.i .i64]
 |13=>[.sl 2]
 |14=>[.i .i64,.i .i64]
 |15=>[.bs,.h 32]
 |16=>[.bs]
 |_=>[]
inductive Ct where
 |rows (m:Nat) (l:List G)
 |bytes (s:List Nat)
inductive AV where
 |bool (b:Bool)
 |int (k:IntKind) (n:Int)
 |str (s:List Nat)
 |nilp
 |ptr (b g o:Nat)
 |nils
 |slc (b g o len:Nat) (cap:Option Nat) (es:Nat)
 |nilm
 |map (b:Nat)
 |func (fn:Fn) (first captured:List AV)
 |nilf
 |iface (t:Nat) (v:AV)
 |nili
 |agg (l:List AV)
 |tup (l:List AV)
 |opq (n:Nat)
 |anyB
 |anyI (k:IntKind)
 |osl (n:Nat)
 |opc (n:Nat)
 |sI (k:IntKind) (n:Int)
 |sB (p:Prop)
 |sS (s:List Nat)
 |any1
 |cptr (l:List AV)
 |cv (c:Ct)
 |gsl (b g n es:Nat)
 |gptr (b g i o es:Nat)
def lT(g:G):Nat->Nat->List AV
 |0,_=>[]
 |n+1,i=>.sI .u8 (gI (aa g i))::lT g n (i+1)
def BO(g:G):∀(n i:Nat),(lT g n i).length=n:=by
 intro n
 induction n with
 |zero=>intro i;rfl
 |succ n ih=>intro i;simp [lT,ih]
def fM(x:Sc)(g:G):List AV:=match x with
 | .i k=>[.sI k (gI g)]
 | .b=>[.sB (gI g=1)]
 | .s=>[.sS (gS g)]
 | .o=>[.any1]
 | .sl m=>[.cv (.rows m (gL g))]
 | .bs=>[.cv (.bytes (gS g))]
 | .h n=>lT g n 0
def bE:List Sc->G->Nat->List AV
 | [],_,_=>[]
 |x::xs,g,j=>fM x (aa g j)++bE xs g (j+1)
def scW(x:Sc):Nat:=match x with | .h n=>n|_=>1
def bn:List Sc->Nat
 | []=>0
 |x::xs=>scW x+bn xs
def yr(x:Sc)(g:G):(fM x g).length=scW x:=by cases x <;> simp [fM,scW,BO]
def qQ:∀(xs:List Sc) (g:G) (j:Nat),(bE xs g j).length=bn xs:=by
 intro xs
 induction xs with
 |nil=>intro g j;rfl
 |cons x xs ih=>intro g j;simp [bE,bn,yr,ih]
def Ct.len:Ct->Nat
 | .rows _ l=>l.length
 | .bytes s=>s.length
def Ct.es:Ct->Nat
 | .rows m _=>bn (cP m)
 | .bytes _=>1
def Ct.row:Ct->Nat->List AV
 | .rows m l,i=>bE (cP m) (aq l i) 0
 | .bytes s,i=>[.sI .u8 ((s.getD i 0:Nat):Int)]
def Ct.row_len(c:Ct)(i:Nat):(c.row i).length=c.es:=by
 cases c with
 |rows m l=>exact qQ _ _ _
 |bytes s=>rfl
def Ct.cut(c:Ct)(a b:Nat):Ct:=match c with
 | .rows m l=>.rows m ((l.take b).drop a)
 | .bytes s=>.bytes ((s.take b).drop a)
def Ct.cut_len(c:Ct){a b:Nat}(h1:a<=b)(h2:b<=c.len):(c.cut a b).len=b-a:=by
 cases c with
 |rows m l=>simp only [cut,len,aaA,aax] at *;omega
 |bytes s=>simp only [cut,len,aaA,aax] at *;omega
def Ct.cut_es(c:Ct)(a b:Nat):(c.cut a b).es=c.es:=by cases c <;> rfl
def Ct.cut_row(c:Ct){a b i:Nat}(h:a+i<b):(c.cut a b).row i=c.row (a+i):=by
 cases c with
 |rows m l=>simp only [cut,row,aq,aas,aaH];rw[aaF h]
 |bytes s=>simp only [cut,row,aas,aaH];rw[aaF h]
structure MSch where
 ks:List IntKind
 ka:Bool
 vs:List Sc
 va:Bool
def bI(m:Nat):MSch:=match m with
 |0=>⟨[.i64,.i64],true,[.h 32],true⟩
 |1=>⟨[.i64,.i64],true,[.b],false⟩
 |2=>⟨[.i64],false,[.b],false⟩
 |3=>⟨[.i64],false,[.bs],false⟩
 |4=>⟨[.i64,.i64],true,[.i .i64],false⟩
 |5=>⟨[.i64],false,[.i .i64,.i .i64,.i .i64,.h 32,.sl 7],true⟩
 |_=>⟨[],false,[],false⟩
def U9(b:Bool)(l:List AV):AV:=match b,l with
 |true,l=>.agg l
 |false,a::_=>a
 |false,[]=>.nilp
def lU:List IntKind->G->Nat->List AV
 | [],_,_=>[]
 |k::ks,g,j=>.sI k (gI (aa g j))::lU ks g (j+1)
def mJ(m:Nat)(g:G):AV:=U9 (bI m).ka (lU (bI m).ks g 0)
def jE(m:Nat)(g:G):AV:=U9 (bI m).va (bE (bI m).vs g (bI m).ks.length)
def dz:Nat->G->Nat->List Int
 |0,_,_=>[]
 |n+1,g,j=>gI (aa g j)::dz n g (j+1)
def cF(m:Nat)(l:List G)(k:List Int):Nat:=l.findIdx λg=>decide (dz (bI m).ks.length g 0=k)
def jM(m:Nat)(l:List G)(k:List Int):Prop:=cF m l k<l.length
def eM(m:Nat)(l:List G)(k:List Int):G:=aq l (cF m l k)
def cU(m:Nat)(l:List G)(k:List Int)(v:List G):List G:=if cF m l k<l.length then l.set (cF m l k) (.node (k.map G.int++v)) else l++ [.node (k.map G.int++v)]
structure Home where
 blk:Nat
 shift:Nat
 size:Nat
structure Rho where
 at_:Nat->Nat->Option Home
 val:Nat->Value
 own:Nat->Prop
 frz:Nat->Option (Array Value×TypeId)
 frz0:Nat->Option (Array Value×TypeId)
def bytesOf(s:ByteArray):List Nat:=s.data.toList.map UInt8.toNat
def SlOk(ρ:Rho)(b g o len:Nat)(cap:Option Nat)(es:Nat)(a:Addr)(c:Nat):Prop:=
 len<=c/\match cap with
 |some k=>c=k/\∃h,ρ.at_ b g=some h/\h.shift<=o/\a=⟨h.blk,o-h.shift,none⟩
 |none=>(len=0/\c=0)∨∃h,ρ.at_ b g=some h/\h.shift<=o/\a=⟨h.blk,o-h.shift,none⟩/\(o-h.shift)+c * es<=h.size
def yt:Fn->Bool
 | .yield _=>false
 |_=>true
inductive VR(ρ:Rho):AV->Value->Prop where
 |bool (b:Bool):VR ρ (.bool b) (.bool b)
 |int (k:IntKind) (n:Int):VR ρ (.int k n) (.int k n)
 |str (s:ByteArray):VR ρ (.str (bytesOf s)) (.string s)
 |nilp:VR ρ .nilp (.pointer none)
 |ptr (b g o:Nat) (h:Home) (hh:ρ.at_ b g=some h) (ho:h.shift<=o):VR ρ (.ptr b g o) (.pointer (some ⟨h.blk,o-h.shift,none⟩))
 |nils:VR ρ .nils (.slice none 0 0)
 |slc (b g o len:Nat) (cap:Option Nat) (es:Nat) (a:Addr) (c:Nat) (h:SlOk ρ b g o len cap es a c):VR ρ (.slc b g o len cap es) (.slice (some a) len c)
 |nilm:VR ρ .nilm (.map none)
 |map (b:Nat) (h:Home) (hh:ρ.at_ b 0=some h):VR ρ (.map b) (.map (some h.blk))
 |func (fn:Fn) (l m:List AV) (first captured:Array Value) (h1:first.size=l.length) (h2:captured.size=m.length)
   (r1:∀(i:Nat) (a:AV) (v:Value),l[i]? =some a->first[i]? =some v->VR ρ a v) (r2:∀(i:Nat) (a:AV) (v:Value),m[i]? =some a->captured[i]? =some v->VR ρ a v) (hf:yt fn=true):
   VR ρ (.func fn l m) (.func fn first captured)
 |yld (b:Nat) (h:Home) (hh:ρ.at_ b 0=some h):VR ρ (.func (.yield b) [] []) (.func (.yield h.blk) #[] #[])
 |nilf:VR ρ .nilf .nilFunc
 |iface (t:Nat) (x:AV) (v:Value) (h:VR ρ x v):VR ρ (.iface t x) (.iface t v)
 |nili:VR ρ .nili .nilIface
 |agg (l:List AV) (cs:Array Value) (h:cs.size=l.length) (r:∀(i:Nat) (a:AV) (v:Value),l[i]? =some a->cs[i]? =some v->VR ρ a v):VR ρ (.agg l) (.agg cs)
 |tup (l:List AV) (cs:Array Value) (h:cs.size=l.length) (r:∀(i:Nat) (a:AV) (v:Value),l[i]? =some a->cs[i]? =some v->VR ρ a v):VR ρ (.tup l) (.tuple cs)
 |opq (n:Nat):VR ρ (.opq n) (ρ.val n)
 |opc (n:Nat) (h:(ρ.val n).oneCell'=true):VR ρ (.opc n) (ρ.val n)
 |anyB (b:Bool):VR ρ .anyB (.bool b)
 |anyI (k:IntKind) (n:Int):VR ρ (.anyI k) (.int k n)
 |osl (n:Nat) (base:Option Addr) (len cap:Nat) (h:ρ.val n= .slice base len cap):VR ρ (.osl n) (.slice base len cap)
 |sI (k:IntKind) (n:Int):VR ρ (.sI k n) (.int k n)
 |sB (p:Prop) (b:Bool) (h:b=true↔p):VR ρ (.sB p) (.bool b)
 |sS (s:ByteArray):VR ρ (.sS (bytesOf s)) (.string s)
 |any1 (v:Value) (h:v.oneCell'=true):VR ρ .any1 v
 |cptr (l:List AV) (blk off:Nat) (arr:Array Value) (ty:TypeId) (hf:ρ.frz blk=some (arr,ty)) (hb:off+l.length<=arr.size)
   (r:∀(j:Nat) (a:AV) (v:Value),l[j]? =some a->arr[off+j]? =some v->VR ρ a v):VR ρ (.cptr l) (.pointer (some ⟨blk,off,none⟩))
 |cv (c:Ct) (blk off cp:Nat) (arr:Array Value) (ty:TypeId) (hf:ρ.frz blk=some (arr,ty)) (hc:c.len<=cp) (hb:off+c.len * c.es<=arr.size)
   (r:∀(i j:Nat) (a:AV) (v:Value),i<c.len->(c.row i)[j]? =some a->arr[off+i * c.es+j]? =some v->VR ρ a v):VR ρ (.cv c) (.slice (some ⟨blk,off,none⟩) c.len cp)
 |cvnil (c:Ct) (h:c.len=0):VR ρ (.cv c) (.slice none 0 0)
 |cvempty (c:Ct) (a:Addr) (h:c.len=0):VR ρ (.cv c) (.slice (some a) 0 0)
 |gsl (b g n es:Nat) (h:Home) (c:Nat) (hn:0<n) (hh:ρ.at_ b g=some h) (hs:h.shift=0) (hc:n<=c) (hz:c * es<=h.size):VR ρ (.gsl b g n es) (.slice (some ⟨h.blk,0,none⟩) n c)
 |gnil (b g es:Nat):VR ρ (.gsl b g 0 es) (.slice none 0 0)
 |gempty (b g es:Nat) (a:Addr):VR ρ (.gsl b g 0 es) (.slice (some a) 0 0)
 |gptr (b g i o es:Nat) (h:Home) (hh:ρ.at_ b g=some h) (hs:h.shift=0):VR ρ (.gptr b g i o es) (.pointer (some ⟨h.blk,i * es+o,none⟩))
def LR(ρ:Rho)(l:List AV)(vs:List Value):Prop:=vs.length=l.length/\∀(i:Nat) (a:AV) (v:Value),l[i]? =some a->vs[i]? =some v->VR ρ a v
def LR.nil(ρ:Rho):LR ρ [] []:=⟨rfl,by simp⟩
def LR.cons{ρ:Rho}{a:AV}{v:Value}{l:List AV}{vs:List Value}(h:VR ρ a v)(h':LR ρ l vs):LR ρ (a::l) (v::vs):=by
 refine⟨by simp [h'.1],λi b u hb hu=>?_⟩
 cases i with
 |zero=>simp at hb hu;subst hb;subst hu;exact h
 |succ i=>simp at hb hu;exact h'.2 i b u hb hu
def LR.cons_inv{ρ:Rho}{a:AV}{l:List AV}{vs:List Value}(h:LR ρ (a::l) vs):∃v m7,vs=v::m7/\VR ρ a v/\LR ρ l m7:=by
 cases vs with
 |nil=>exact absurd h.1 (by simp)
 |cons v m7=>refine⟨v,m7,rfl,h.2 0 a v rfl rfl,by simpa using h.1,λi b u hb hu=>h.2 (i+1) b u (by simpa using hb) (by simpa using hu)⟩
def LR.nil_inv{ρ:Rho}{vs:List Value}(h:LR ρ [] vs):vs= []:=by
 cases vs with
 |nil=>rfl
 |cons v vs=>exact absurd h.1 (by simp)
def LR.append{ρ:Rho}{l m:List AV}{vs us:List Value}(h:LR ρ l vs)(h':LR ρ m us):LR ρ (l++m) (vs++us):=by
 refine⟨by simp [h.1,h'.1],λi a v ha hv=>?_⟩;by_cases hi:i<l.length
 ·rw[aaO hi] at ha;rw[aaO (by rw[h.1];exact hi)] at hv;exact h.2 i a v ha hv
 ·rw[aaJ (by omega)] at ha;rw[aaJ (by rw[h.1];omega),h.1] at hv;exact h'.2 _ a v ha hv
def LR.get{ρ:Rho}{l:List AV}{vs:List Value}(h:LR ρ l vs){i:Nat}{a:AV}(ha:l[i]? =some a):∃v,vs[i]? =some v/\VR ρ a v:=by
 have hi:i<l.length:=by
  rcases aat i l.length with h'|h'
  ·exact h'
  ·rw[aaz h'] at ha;cases ha
 have:i<vs.length:=by rw[h.1];exact hi
 exact⟨vs[i],aaw this,h.2 i a _ ha (aaw this)⟩
structure Rho.le(ρ ρ':Rho):Prop where
 at_:∀b g h,ρ.at_ b g=some h->ρ'.at_ b g=some h
 val:ρ'.val=ρ.val
 own:ρ'.own=ρ.own
 frz:∀b x,ρ.frz b=some x->ρ'.frz b=some x
 frz0:ρ'.frz0=ρ.frz0
def Rho.le.refl(ρ:Rho):ρ.le ρ:=⟨λ_ _ _ h=>h,rfl,rfl,λ_ _ h=>h,rfl⟩
def Rho.le.trans{a b c:Rho}(h:a.le b)(h':b.le c):a.le c:=⟨λx g y hy=>h'.at_ _ _ _ (h.at_ _ _ _ hy),h'.val.trans h.val,h'.own.trans h.own,λx y hy=>h'.frz _ _ (h.frz _ _ hy),h'.frz0.trans h.frz0⟩
def SlOk.mono{ρ ρ':Rho}(hle:ρ.le ρ'){b g o len:Nat}{cap:Option Nat}{es:Nat}{a:Addr}{c:Nat}(h:SlOk ρ b g o len cap es a c):SlOk ρ' b g o len cap es a c:=by
 refine⟨h.1, ?_⟩
 have h2:=h.2
 cases cap with
 |some k=>obtain⟨e,x,hx,r⟩:=h2;exact⟨e,x,hle.at_ _ _ _ hx,r⟩
 |none=>
  rcases h2 with h2|⟨x,hx,r⟩
  ·exact .inl h2
  ·exact .inr ⟨x,hle.at_ _ _ _ hx,r⟩
def VR.mono{ρ ρ':Rho}(hle:ρ.le ρ'){a:AV}{v:Value}(h:VR ρ a v):VR ρ' a v:=by
 induction h with
 |bool b=>exact .bool b
 |int k n=>exact .int k n
 |str s=>exact .str s
 |nilp=>exact .nilp
 |ptr b g o h hh ho=>exact .ptr b g o h (hle.at_ _ _ _ hh) ho
 |nils=>exact .nils
 |slc b g o len cap es a c h=>exact .slc b g o len cap es a c (h.mono hle)
 |nilm=>exact .nilm
 |map b h hh=>exact .map b h (hle.at_ _ _ _ hh)
 |func fn l m first captured h1 h2 r1 r2 hf i1 i2=>exact .func fn l m first captured h1 h2 i1 i2 hf
 |yld b h hh=>exact .yld b h (hle.at_ _ _ _ hh)
 |nilf=>exact .nilf
 |iface t x v h ih=>exact .iface t x v ih
 |nili=>exact .nili
 |agg l cs h r ih=>exact .agg l cs h ih
 |tup l cs h r ih=>exact .tup l cs h ih
 |opq n=>rw[←hle.val];exact .opq n
 |opc n h=>rw[←hle.val];exact .opc n (by rw[hle.val];exact h)
 |anyB b=>exact .anyB b
 |anyI k n=>exact .anyI k n
 |osl n base len cap h=>exact .osl n base len cap (by rw[hle.val];exact h)
 |sI k n=>exact .sI k n
 |sB p b h=>exact .sB p b h
 |sS s=>exact .sS s
 |any1 v h=>exact .any1 v h
 |cptr l blk off arr ty hf hb r ih=>exact .cptr l blk off arr ty (hle.frz _ _ hf) hb ih
 |cv c blk off cp arr ty hf hc hb r ih=>exact .cv c blk off cp arr ty (hle.frz _ _ hf) hc hb ih
 |cvnil c h=>exact .cvnil c h
 |cvempty c a h=>exact .cvempty c a h
 |gsl b g n es h c hn hh hs hc hz=>exact .gsl b g n es h c hn (hle.at_ _ _ _ hh) hs hc hz
 |gnil b g es=>exact .gnil b g es
 |gempty b g es a=>exact .gempty b g es a
 |gptr b g i o es h hh hs=>exact .gptr b g i o es h (hle.at_ _ _ _ hh) hs
def LR.mono{ρ ρ':Rho}(hle:ρ.le ρ'){l:List AV}{vs:List Value}(h:LR ρ l vs):LR ρ' l vs:=⟨h.1,λi a v ha hv=>(h.2 i a v ha hv).mono hle⟩
def LR.arr{ρ:Rho}{l:List AV}{cs:Array Value}(h:LR ρ l cs.toList):cs.size=l.length/\∀(i:Nat) (a:AV) (v:Value),l[i]? =some a->cs[i]? =some v->VR ρ a v:=
 ⟨by simpa using h.1,λi a v ha hv=>h.2 i a v ha (by simpa using hv)⟩
def LR.of_arr{ρ:Rho}{l:List AV}{cs:Array Value}(h:cs.size=l.length)(r:∀(i:Nat) (a:AV) (v:Value),l[i]? =some a->cs[i]? =some v->VR ρ a v):LR ρ l cs.toList:=
 ⟨by simpa using h,λi a v ha hv=>r i a v ha (by simpa using hv)⟩
def U_:Nat->Value->Option AV
 |0,_=>none
 |f+1,v=>match v with
  | .bool b=>some (.bool b)
  | .int k n=>some (.int k n)
  | .string s=>some (.str (bytesOf s))
  | .pointer none=>some .nilp
  | .slice none 0 0=>some .nils
  | .map none=>some .nilm
  | .nilFunc=>some .nilf
  | .nilIface=>some .nili
  | .agg cs=>match cs.toList.mapM (U_ f) with
   |some l=>some (.agg l)
   |none=>none
  | .tuple cs=>match cs.toList.mapM (U_ f) with
   |some l=>some (.tup l)
   |none=>none
  |_=>none
def DT{ρ:Rho}{f:Value->Option AV}(hf:∀v a,f v=some a->VR ρ a v):∀(vs:List Value) (l:List AV),vs.mapM f=some l->LR ρ l vs:=by
 intro vs
 induction vs with
 |nil=>intro l h;simp at h;subst h;exact LR.nil ρ
 |cons v vs ih=>
  intro l h
  rw[List.mapM_cons] at h
  cases hv:f v with
  |none=>simp [hv] at h
  |some a=>
   cases o6:vs.mapM f with
   |none=>simp [hv,o6] at h
   |some l'=>simp [hv,o6] at h;subst h;exact LR.cons (hf v a hv) (ih l' o6)
def JG(ρ:Rho):∀(f:Nat) (v:Value) (a:AV),U_ f v=some a->VR ρ a v:=by
 intro f
 induction f with
 |zero=>intro v a h;cases h
 |succ f ih=>
  intro v a h;unfold U_ at h;split at h
  ·injection h with h;subst h;exact .bool _
  ·injection h with h;subst h;exact .int _ _
  ·injection h with h;subst h;exact .str _
  ·injection h with h;subst h;exact .nilp
  ·injection h with h;subst h;exact .nils
  ·injection h with h;subst h;exact .nilm
  ·injection h with h;subst h;exact .nilf
  ·injection h with h;subst h;exact .nili
  ·split at h
   ·rename_i cs l hl;injection h with h;subst h;obtain⟨h1,h2⟩:=(DT ih _ _ hl).arr;exact .agg _ _ h1 h2
   ·cases h
  ·split at h
   ·rename_i cs l hl;injection h with h;subst h;obtain⟨h1,h2⟩:=(DT ih _ _ hl).arr;exact .tup _ _ h1 h2
   ·cases h
  ·cases h
inductive Cell where
 |mk (tag:Nat) (v:AV)
def Cell.tag:Cell->Nat | .mk t _=>t
inductive ME where
 |mk (k v:AV) (born:Nat)
inductive ABlk where
 |cells (c:T Cell) (gen lo hi fl fh:Nat) (ro:Bool) (ty:Nat)
 |grow (c:Ct) (gen ty:Nat)
 |froz (c:Ct) (gen:Nat)
 |tab (ty:Nat) (l:List Nat)
 |mapo (es:List ME) (clock:Nat)
 |smap (m:Nat) (l:List G)
 |obj (k:Nat) (I:Nat->List Nat->World->Prop) (l:List G)
 |siter (s:List Nat) (pos:Nat)
 |miter (m:Option Nat) (since:Nat) (seen:List Nat) (stepped:Nat)
 |dfr (live:Bool)
 |loop (state:LoopState) (jump:Option Code) (fn:Nat) (nt:Nat) (tmps:T AV) (params:List Nat) (assign body:Code) (defers:Nat)
inductive St where
 |mk (h:T ABlk) (next fs:Nat) (tch:T Unit) (wr:List Nat)
def St.h:St->T ABlk | .mk h _ _ _ _=>h
structure ER(ρ:Rho)(nt:Nat)(env:T AV)(tmps:Array Value):Prop where
 size:tmps.size=nt
 val:∀t a,env.get t=some a->∃v,tmps[t]? =some v/\VR ρ a v
def gd:AV->Bool
 | .agg _ | .tup _ | .opq _=>false
 |_=>true
def jb{ρ:Rho}{a:AV}{v:Value}(h:VR ρ a v)(ho:gd a=true):v.oneCell'=true:=by cases h <;> first|rfl|assumption|(simp [gd] at ho)
def Own(ρ:Rho)(B b:Nat):Prop:=B<=b∨ρ.own b
def Own.new{ρ:Rho}{B b:Nat}(h:B<=b):Own ρ B b:=.inl h
def Own.mono{ρ ρ':Rho}(hle:ρ.le ρ'){B b:Nat}(h:Own ρ B b):Own ρ' B b:=h.imp id λh=>by rw[hle.own];exact h
def qR(I:Nat->List Nat->World->Prop):Prop:=∀(r:Nat) (fp:List Nat) (w w':World),(∀x∈r::fp,w'.heap[x]? =w.heap[x]?)->I r fp w->I r fp w'
def BR(ρ:Rho)(B:Nat)(w:World)(b:Nat):ABlk->Prop
 | .cells c gen lo hi fl fh ro ty=>
  (∀o x,c.get o=some x->lo<=o/\o<hi/\x.tag<=gen)/\
  (∀g,g<=gen->∃h,ρ.at_ b g=some h/\(ro=false->Own ρ B h.blk)/\(ro=true->b<1048576->h.blk=b/\h.shift=0)/\
   ∃arr fr,w.heap[h.blk]? =some (.cells arr ty fr)/\arr.size=h.size/\
    (ro=false->fr.1<=fr.2/\∀x,(x<h.size∨fl<=fh)->fr.1<=x->x<fr.2->fl<=x+h.shift/\x+h.shift<fh)/\
    ∀o tag a,c.get o=some (.mk tag a)->tag<=g->h.shift<=o/\∃v,arr[o-h.shift]? =some v/\VR ρ a v)
 | .grow c gen ty=>c.len=0∨∃h,ρ.at_ b gen=some h/\h.shift=0/\Own ρ B h.blk/\∃arr fr,w.heap[h.blk]? =some (.cells arr ty fr)/\arr.size=h.size/\c.len * c.es<=h.size/\
  (∀x,x<h.size->fr.1<=x->x<fr.2->False)/\∀i,i<c.len->∀j a,(c.row i)[j]? =some a->∃u,arr[i * c.es+j]? =some u/\VR ρ a u
 | .froz c gen=>c.len=0∨∃h arr ty,ρ.at_ b gen=some h/\h.shift=0/\ρ.frz h.blk=some (arr,ty)/\c.len * c.es<=arr.size/\
  ∀i,i<c.len->∀j a,(c.row i)[j]? =some a->∃u,arr[i * c.es+j]? =some u/\VR ρ a u
 | .tab ty l=>b<1048576/\ρ.frz b=some ((l.map λn=>Value.int .u8 (Int.ofNat n)).toArray,ty)
 | .mapo es clock=>∃h,ρ.at_ b 0=some h/\Own ρ B h.blk/\∃o7,w.heap[h.blk]? =some (.map o7 clock)/\o7.size=es.length/\
  ∀(i:Nat) (k v:AV) (n:Nat) (e:MapEntry),es[i]? =some (.mk k v n)->o7[i]? =some e->VR ρ k e.key/\VR ρ v e.val/\e.born=n
 | .smap m l=>∃h,ρ.at_ b 0=some h/\Own ρ B h.blk/\∃es clock,w.heap[h.blk]? =some (.map es clock)/\es.size=l.length/\
  ∀(i:Nat) (g:G) (e:MapEntry),l[i]? =some g->es[i]? =some e->VR ρ (mJ m g) e.key/\VR ρ (jE m g) e.val
 | .obj k I l=>qR I/\∃h fp,ρ.at_ b 0=some h/\h.shift=0/\(∀x∈h.blk::fp,Own ρ B x/\∃g hx,ρ.at_ b g=some hx/\hx.blk=x)/\I h.blk fp w
 | .siter s pos=>∃h,ρ.at_ b 0=some h/\Own ρ B h.blk/\∃s',bytesOf s'=s/\w.heap[h.blk]? =some (.stringIter s' pos)
 | .miter m since seen stepped=>∃h,ρ.at_ b 0=some h/\Own ρ B h.blk/\∃m' ad0,w.heap[h.blk]? =some (.mapIter m' since ad0 stepped)/\ad0.toList=seen/\
  (match m with|none=>m'=none|some x=>∃hx,ρ.at_ x 0=some hx/\m'=some hx.blk)
 | .dfr live=>∃h,ρ.at_ b 0=some h/\Own ρ B h.blk/\w.heap[h.blk]? =some (.deferred (if live then some [] else none))
 | .loop state jump fn nt tmps params assign body defers=>∃h,ρ.at_ b 0=some h/\Own ρ B h.blk/\∃Z' hd fn',ER ρ nt tmps Z'/\ρ.at_ defers 0=some hd/\
  w.heap[h.blk]? =some (.loop {state,pending:=jump,fn:=fn',tmps:=Z',params:=params.toArray,assign,body,defers:=hd.blk})
def JH(g:Nat):ABlk->Prop
 | .cells _ gen _ _ _ _ _ _=>g<=gen
 | .grow _ gen _=>g<=gen
 | .froz _ gen=>g<=gen
 |_=>True
def yu:ABlk->Prop
 | .froz _ _=>True
 |_=>False
structure Kept(own:Nat->Prop)(B:Nat)(w w':World):Prop where
 os:w'.os=w.os
 tape:w'.tape=w.tape
 output:w'.output=w.output
 size:w.heap.size<=w'.heap.size
 block:∀b,b<B->¬own b->w'.heap[b]? =w.heap[b]?
def Kept.refl(own:Nat->Prop)(B:Nat)(w:World):Kept own B w w:=⟨rfl,rfl,rfl,aao _,λ_ _ _=>rfl⟩
def Kept.trans{own:Nat->Prop}{B:Nat}{a b c:World}(h:Kept own B a b)(h':Kept own B b c):Kept own B a c:=
 ⟨h'.os.trans h.os,h'.tape.trans h.tape,h'.output.trans h.output,aaV h.size h'.size,λx h1 h2=>(h'.block x h1 h2).trans (h.block x h1 h2)⟩
def Kept.of{own:Nat->Prop}{B:Nat}{a b:World}(h:Below B a b):Kept own B a b:=⟨h.os,h.tape,h.output,h.size,λx h1 _=>h.block x h1⟩
def Kept.below{own:Nat->Prop}{B:Nat}{a b:World}(h:Kept own B a b)(ho:∀x,¬own x):Below B a b:=⟨h.os,h.tape,h.output,h.size,λx h1=>h.block x h1 (ho x)⟩
def Kept.alloc{own:Nat->Prop}{B:Nat}{a w:World}(h:Kept own B a w)(hB:B<=w.heap.size)(o:Obj):Kept own B a (w.alloc o):=
 h.trans (Kept.of ((Below.refl B w).alloc hB o))
def Kept.setCell{ρ:Rho}{B:Nat}{w:World}{p:Addr}(hp:Own ρ B p.block)(v:Value):Kept ρ.own B w (w.setCell p v):=
 ⟨rfl,rfl,rfl,by simp [World.setCell],λk hk ho=>Below.heap_setCell _ _ _ _ (λe=>by subst e;rcases hp with h|h;omega;exact ho h)⟩
def Kept.of_set{ρ:Rho}{B b:Nat}{w w':World}(h0:Below 0 w w')(hs:∀k,k≠b->w'.heap[k]? =w.heap[k]?)(hb:Own ρ B b):Kept ρ.own B w w':=
 ⟨h0.os,h0.tape,h0.output,h0.size,λk hk ho=>hs k (λe=>by subst e;rcases hb with h|h;omega;exact ho h)⟩
structure Good0(w0:World)(ρ:Rho)(H:T ABlk)(w:World):Prop where
 below:Kept ρ.own w0.heap.size w0 w
 blk:∀b x,H.get b=some x->BR ρ w0.heap.size w b x
 dom:∀b g h,ρ.at_ b g=some h->h.blk<w.heap.size/\∃x,H.get b=some x
 inj:∀b g h b' g' h',ρ.at_ b g=some h->ρ.at_ b' g'=some h'->h.blk=h'.blk->b=b'/\h=h'
 gens:∀b g h x,ρ.at_ b g=some h->H.get b=some x->JH g x
 frz:∀b arr ty,ρ.frz b=some (arr,ty)->(∃fr,w.heap[b]? =some (.cells arr ty fr))/\∀b' g h,ρ.at_ b' g=some h->h.blk=b->∃x,H.get b'=some x/\yu x
 frzB:∀b x,ρ.frz b=some x->b<w0.heap.size->ρ.frz0 b=some x
 objO:∀b k I l,H.get b=some (.obj k I l)->∀g h,ρ.at_ b g=some h->Own ρ w0.heap.size h.blk/\(g=0∨g=h.blk+1)
structure Good(w0:World)(ρ:Rho)(H:T ABlk)(w:World):Prop extends Good0 w0 ρ H w where
 ownB:∀x,ρ.own x->∃b g h,b<base+64/\ρ.at_ b g=some h/\h.blk=x
def Good0.frzE{w0:World}{ρ:Rho}{H:T ABlk}{w:World}(hG:Good0 w0 ρ H w){b:Nat}{arr:Array Value}{ty:TypeId}(hf:ρ.frz b=some (arr,ty)){b' g:Nat}{h:Home}{x:ABlk}(hh:ρ.at_ b' g=some h)(hx:H.get b'=some x)(hn:¬yu x):h.blk≠b:=λe=>by obtain⟨y,h1,h2⟩:=(hG.frz _ _ _ hf).2 _ _ _ hh e;rw[hx] at h1;injection h1 with h1;subst h1;exact hn h2
end
end Go.Sym
namespace Go.Sym
noncomputable section
structure Sy where
 i:Nat->Int
 s:Nat->List Nat
 p:Nat->Prop
 g:Nat->List G
inductive Tr where
 |fail
 |ret (a:AV)
 |rd (b:Nat) (k:ABlk->Tr)
 |wr (b:Nat) (x:ABlk) (k:Tr)
 |new (x:ABlk) (k:Nat->Tr)
 |pick (n:Nat) (k:Nat->Tr)
 |sub (t:Tr) (k:AV->Nat->Nat->T Unit->List Nat->Tr)
 |ask (p:Prop) (t e:Tr)
 |req (p:Prop) (t:Tr)
 |sk (p:Sy->Prop) (z:{y:Sy // p y}) (k:Sy->Tr)
abbrev Fin:=AV->St->Bool
def pp(fs b:Nat)(t:T Unit)(k:T Unit->Bool):Bool:=ac (Nat.ble fs b) (k t) (T.setK t b () k)
def note(fs b:Nat)(t:T Unit):T Unit:=if fs<=b then t else t.set b ()
def qS(fs b:Nat)(t:T Unit)(k:T Unit->Bool):pp fs b t k=k (note fs b t):=by
 unfold pp note;rw[ar,T.setK_eq];by_cases h:fs<=b
 ·simp [Nat.ble_eq,h]
 ·have:Nat.ble fs b=false:=by
   cases hb:Nat.ble fs b with
   |false=>rfl
   |true=>exact absurd (Nat.ble_eq.mp hb) h
  simp [this,h]
def oe(fs b:Nat)(w:List Nat)(k:List Nat->Bool):Bool:=ac (Nat.ble fs b) (k w) (k (b::w))
def gB(fs b:Nat)(w:List Nat):List Nat:=if fs<=b then w else b::w
def ub(fs b:Nat)(w:List Nat)(k:List Nat->Bool):oe fs b w k=k (gB fs b w):=by
 unfold oe gB;rw[ar];by_cases h:fs<=b
 ·simp [Nat.ble_eq,h]
 ·have:Nat.ble fs b=false:=by
   cases hb:Nat.ble fs b with
   |false=>rfl
   |true=>exact absurd (Nat.ble_eq.mp hb) h
  simp [this,h]
def T.keys{α:Type}:T α->(Nat->Nat)->List Nat->List Nat
 | .leaf,_,acc=>acc
 | .node l v r,f,acc=>T.keys l (λn=>f (2 * n+1)) (T.keys r (λn=>f (2 * n+2)) (match v with|some _=>f 0::acc|none=>acc))
def mK(fs:Nat):List Nat->T Unit->(T Unit->Bool)->Bool:=λl=>
 List.rec (motive:=λ_=>T Unit->(T Unit->Bool)->Bool) (λt k=>k t) (λb _ ih t k=>pp fs b t λt=>ih t k) l
def fO(fs:Nat):List Nat->T Unit->T Unit
 | [],t=>t
 |b::l,t=>fO fs l (note fs b t)
def yv(fs:Nat):∀(l:List Nat) (t:T Unit) (k:T Unit->Bool),mK fs l t k=k (fO fs l t):=by
 intro l
 induction l with
 |nil=>intro t k;rfl
 |cons b l ih=>intro t k;show pp fs b t (λt=>mK fs l t k)=_;rw[qS,ih];rfl
def kQ(fs:Nat):List Nat->List Nat->(List Nat->Bool)->Bool:=λl=>
 List.rec (motive:=λ_=>List Nat->(List Nat->Bool)->Bool) (λt k=>k t) (λb _ ih t k=>oe fs b t λt=>ih t k) l
def fi(fs:Nat):List Nat->List Nat->List Nat
 | [],t=>t
 |b::l,t=>fi fs l (gB fs b t)
def vU(fs:Nat):∀(l:List Nat) (t:List Nat) (k:List Nat->Bool),kQ fs l t k=k (fi fs l t):=by
 intro l
 induction l with
 |nil=>intro t k;rfl
 |cons b l ih=>intro t k;show oe fs b t (λt=>kQ fs l t k)=_;rw[ub,ih];rfl
def dP(p:Prop):Bool:=@decide p (Classical.propDecidable p)
def fA{p:Prop}:dP p=true↔p:=by simp [dP]
def Va{p:Prop}:dP p=false↔¬p:=by simp [dP]
def Yq(_:St)(_:Fin):Bool:=false
def rRet(a:AV)(σ:St)(K:Fin):Bool:=K a σ
def rRd(b:Nat)(_:ABlk->Tr)(ih:ABlk->St->Fin->Bool)(σ:St)(K:Fin):Bool:=
 St.rec (motive:=λ_=>Bool) (λh n fs t w=>ac (Nat.ble (Nat.succ b) n) (T.getK h b false λx=>pp fs b t λt=>ih x (.mk h n fs t w) K) false) σ
def rWr(b:Nat)(x:ABlk)(_:Tr)(ih:St->Fin->Bool)(σ:St)(K:Fin):Bool:=
 St.rec (motive:=λ_=>Bool) (λh n fs t w=>ac (Nat.ble (Nat.succ b) n) (T.getK h b false λ_=>T.setK h b x λh=>pp fs b t λt=>oe fs b w λw=>ih (.mk h n fs t w) K) false) σ
def rNew(x:ABlk)(_:Nat->Tr)(ih:Nat->St->Fin->Bool)(σ:St)(K:Fin):Bool:=
 St.rec (motive:=λ_=>Bool) (λh n fs t w=>ac (Nat.ble n 1000000000) (T.getK h n (T.setK h n x λh=>fN (Nat.succ n) λm=>ih n (.mk h m fs t w) K) λ_=>false) false) σ
def iy(f:Nat->Bool)(n:Nat):Bool:=Nat.rec (motive:=λ_=>Bool) true (λm ih=>ac (f m) ih false) n
def Yr(n:Nat)(_:Nat->Tr)(ih:Nat->St->Fin->Bool)(σ:St)(K:Fin):Bool:=
 ac (Nat.ble n 1) (ih 0 σ K) (St.rec (motive:=λ_=>Bool) (λh m fs t w=>ac (Nat.beq fs 0) (iy (λi=>ih i (.mk h m fs t w) K) n) false) σ)
def rSub(_:Tr)(_:AV->Nat->Nat->T Unit->List Nat->Tr)(it:St->Fin->Bool)(ik:AV->Nat->Nat->T Unit->List Nat->St->Fin->Bool)(σ:St)(K:Fin):Bool:=
 St.rec (motive:=λ_=>Bool) (λh n fs t w=>it (.mk h n n .leaf []) λa a8=>
  St.rec (motive:=λ_=>Bool) (λh' n' _ t' w'=>ac (Nat.beq fs 0) (ik a n n' t' w' (.mk h' n' fs t w) K)
   (mK fs (T.keys t' id []) t λt2=>kQ fs w' w λw2=>ik a n n' t' w' (.mk h' n' fs t2 w2) K)) a8) σ
def rAsk(p:Prop)(_ _:Tr)(it ie:St->Fin->Bool)(σ:St)(K:Fin):Bool:=dP ((p->it σ K=true)/\(¬p->ie σ K=true))
def rReq(p:Prop)(_:Tr)(it:St->Fin->Bool)(σ:St)(K:Fin):Bool:=dP (p/\it σ K=true)
def rSk(p:Sy->Prop)(z:{y:Sy // p y})(_:Sy->Tr)(ik:Sy->St->Fin->Bool)(σ:St)(K:Fin):Bool:=ik z.1 σ K
def run(t:Tr):St->Fin->Bool:=Tr.rec (motive:=λ_=>St->Fin->Bool) Yq rRet rRd rWr rNew Yr rSub rAsk rReq rSk t
def gY(b:Nat)(k:ABlk->Tr)(h:T ABlk)(n fs:Nat)(t:T Unit)(w:List Nat)(K:Fin):
 run (.rd b k) (.mk h n fs t w) K=if b<n then(match h.get b with|none=>false|some x=>run (k x) (.mk h n fs (note fs b t) w) K) else false:=by
 show ac (Nat.ble (Nat.succ b) n) (T.getK h b false (λx=>pp fs b t λt=>run (k x) (.mk h n fs t w) K)) false=_
 rw[ar,T.getK_eq]
 by_cases hn:b<n
 ·rw[if_pos (Nat.ble_eq.mpr hn),if_pos hn];split <;> simp_all [qS]
 ·rw[if_neg (λh=>hn (Nat.ble_eq.mp h)),if_neg hn]
def jX(b:Nat)(x:ABlk)(k:Tr)(h:T ABlk)(n fs:Nat)(t:T Unit)(w:List Nat)(K:Fin):
 run (.wr b x k) (.mk h n fs t w) K=if b<n then(match h.get b with|none=>false|some _=>run k (.mk (h.set b x) n fs (note fs b t) (gB fs b w)) K) else false:=by
 show ac (Nat.ble (Nat.succ b) n) (T.getK h b false (λ_=>T.setK h b x λh=>pp fs b t λt=>oe fs b w λw=>run k (.mk h n fs t w) K)) false=_
 rw[ar,T.getK_eq]
 by_cases hn:b<n
 ·rw[if_pos (Nat.ble_eq.mpr hn),if_pos hn];split <;> simp_all [qS,ub,T.setK_eq]
 ·rw[if_neg (λh=>hn (Nat.ble_eq.mp h)),if_neg hn]
def gC(x:ABlk)(k:Nat->Tr)(h:T ABlk)(n fs:Nat)(t:T Unit)(w:List Nat)(K:Fin):
 run (.new x k) (.mk h n fs t w) K=if n<=1000000000 then(match h.get n with|some _=>false|none=>run (k n) (.mk (h.set n x) (n+1) fs t w) K) else false:=by
 show ac (Nat.ble n 1000000000) (T.getK h n (T.setK h n x λh=>fN (Nat.succ n) λm=>run (k n) (.mk h m fs t w) K) λ_=>false) false=_
 rw[ar]
 by_cases hn:n<=1000000000
 ·rw[if_pos (Nat.ble_eq.mpr hn),if_pos hn,T.getK_eq];split <;> simp_all [T.setK_eq,qP]
 ·rw[if_neg (λh=>hn (Nat.ble_eq.mp h)),if_neg hn]
def mL{f:Nat->Bool}:∀{n:Nat},iy f n=true↔∀i,i<n->f i=true:=by
 intro n
 induction n with
 |zero=>exact⟨λ_ i hi=>absurd hi (by omega),λ_=>rfl⟩
 |succ n ih=>
  show ac (f n) (iy f n) false=true↔_;constructor
  ·intro h i hi;obtain⟨h1,h2⟩:=aC h;rcases aat i n with h'|h'
   ·exact ih.mp h2 i h'
   ·have:i=n:=by omega
    subst this;exact h1
  ·intro h;rw[h n (by omega),ar,if_pos rfl];exact ih.mpr λi hi=>h i (by omega)
def gD(t:Tr)(k:AV->Nat->Nat->T Unit->List Nat->Tr)(h:T ABlk)(n fs:Nat)(tc:T Unit)(w:List Nat)(K:Fin):
 run (.sub t k) (.mk h n fs tc w) K=run t (.mk h n n .leaf []) λa a8=>match a8 with
  | .mk h' n' _ t' w'=>if fs=0 then run (k a n n' t' w') (.mk h' n' fs tc w) K else run (k a n n' t' w') (.mk h' n' fs (fO fs (T.keys t' id []) tc) (fi fs w' w)) K:=by
 show run t (.mk h n n .leaf []) (λa a8=>St.rec (motive:=λ_=>Bool) (λh' n' _ t' w'=>ac (Nat.beq fs 0) (run (k a n n' t' w') (.mk h' n' fs tc w) K)
  (mK fs (T.keys t' id []) tc λt2=>kQ fs w' w λw2=>run (k a n n' t' w') (.mk h' n' fs t2 w2) K)) a8)=_
 congr 1
 funext a a8
 cases a8 with
 |mk h' n' f' t' w'=>
  show ac (Nat.beq fs 0) _ _=_
  rw[ar,yv,vU]
  by_cases hf:fs=0
  ·subst hf;rfl
  ·have:Nat.beq fs 0=false:=by
    cases hb:Nat.beq fs 0 with
    |false=>rfl
    |true=>exact absurd (aaq hb) hf
   simp [this,hf]
def fj{p:Prop}(t e:Tr)(σ:St)(K:Fin)(h:p):run (.ask p t e) σ K=run t σ K:=by show dP ((p->run t σ K=true)/\(¬p->run e σ K=true))=_;rw[Bool.eq_iff_iff,fA];exact⟨λq=>q.1 h,λq=>⟨λ_=>q,λn=>absurd h n⟩⟩
def fk{p:Prop}(t e:Tr)(σ:St)(K:Fin)(h:¬p):run (.ask p t e) σ K=run e σ K:=by show dP ((p->run t σ K=true)/\(¬p->run e σ K=true))=_;rw[Bool.eq_iff_iff,fA];exact⟨λq=>q.2 h,λq=>⟨λn=>absurd n h,λ_=>q⟩⟩
def fm{p:Prop}(t:Tr)(σ:St)(K:Fin)(h:p):run (.req p t) σ K=run t σ K:=by show dP (p/\run t σ K=true)=_;rw[Bool.eq_iff_iff,fA];exact⟨λq=>q.2,λq=>⟨h,q⟩⟩
def pq{p:Prop}(t:Tr)(σ:St)(K:Fin)(h:¬p):run (.req p t) σ K=false:=by show dP (p/\run t σ K=true)=_;rw[Va];exact λq=>h q.1
end
attribute [irreducible] dP
end Go.Sym
namespace Go.Sym
def T.mem_keys_acc{α:Type}:∀(t:T α) (f:Nat->Nat) (acc:List Nat) (x:Nat),x∈acc->x∈T.keys t f acc:=by
 intro t
 induction t with
 |leaf=>intro f acc x h;exact h
 |node l v r ihl ihr=>intro f acc x h;simp only [T.keys];refine ihl _ _ _ (ihr _ _ _ ?_);cases v <;> simp [h]
def T.mem_keys{α:Type}:∀(t:T α) (f:Nat->Nat) (acc:List Nat) (b:Nat) (a:α),t.get b=some a->f b∈T.keys t f acc:=by
 intro t
 induction t with
 |leaf=>intro f acc b a h;simp [T.get] at h
 |node l v r ihl ihr=>
  intro f acc b a h
  simp only [T.keys]
  cases b with
  |zero=>simp only [T.get] at h;subst h;exact T.mem_keys_acc _ _ _ _ (T.mem_keys_acc _ _ _ _ (by simp))
  |succ m=>
   simp only [T.get] at h;split at h
   ·have e:m+1=2 * (m/2)+1:=by omega
    rw[e];exact ihl (λn=>f (2 * n+1)) _ _ _ h
   ·have e:m+1=2 * (m/2)+2:=by omega
    rw[e];exact T.mem_keys_acc _ _ _ _ (ihr (λn=>f (2 * n+2)) _ _ _ h)
def dJ{fs b:Nat}{t:T Unit}{x:Nat}(hb:b+1<2 ^ 64)(h:t.get x=some ()):(note fs b t).get x=some ():=by
 unfold note;split
 ·exact h
 ·by_cases e:x=b
  ·subst e;exact T.get_set_same _ _ _ hb
  ·rw[T.get_set_ne _ e];exact h
def jY{fs b:Nat}{t:T Unit}(hb:b+1<2 ^ 64)(h:b<fs):(note fs b t).get b=some ():=by unfold note;rw[if_neg (by omega)];exact T.get_set_same _ _ _ hb
def eY{fs:Nat}:∀(l:List Nat) (t:T Unit) (x:Nat),(∀b∈l,b+1<2 ^ 64)->t.get x=some ()->(fO fs l t).get x=some ():=by
 intro l
 induction l with
 |nil=>intro t x _ h;exact h
 |cons b l ih=>intro t x hl h;exact ih _ _ (λb hb=>hl b (by simp [hb])) (dJ (hl b (by simp)) h)
def jZ{fs:Nat}:∀(l:List Nat) (t:T Unit) (x:Nat),(∀b∈l,b+1<2 ^ 64)->x∈l->x<fs->(fO fs l t).get x=some ():=by
 intro l
 induction l with
 |nil=>intro t x _ h;cases h
 |cons b l ih=>
  intro t x hl h hx;have l3:∀b∈l,b+1<2 ^ 64:=λb hb=>hl b (by simp [hb]);rcases List.mem_cons.mp h with e|h
  ·subst e;exact eY l _ _ l3 (jY (hl x (by simp)) hx)
  ·exact ih _ _ l3 h hx
def pt{fs b:Nat}{w:List Nat}{x:Nat}(h:x∈w):x∈gB fs b w:=by unfold gB;split <;> simp [h]
def uc{fs b:Nat}{w:List Nat}(h:b<fs):b∈gB fs b w:=by unfold gB;rw[if_neg (by omega)];simp
def og{fs b:Nat}{w:List Nat}{x:Nat}(h:x∈gB fs b w):x∈w∨(x=b/\b<fs):=by
 unfold gB at h;split at h
 ·exact .inl h
 ·rcases List.mem_cons.mp h with e|h
  ·exact .inr ⟨e,by omega⟩
  ·exact .inl h
def j_{fs:Nat}:∀(l w:List Nat) (x:Nat),x∈w->x∈fi fs l w:=by
 intro l
 induction l with
 |nil=>intro w x h;exact h
 |cons b l ih=>intro w x h;exact ih _ _ (pt h)
def vV{fs:Nat}:∀(l w:List Nat) (x:Nat),x∈l->x<fs->x∈fi fs l w:=by
 intro l
 induction l with
 |nil=>intro w x h;cases h
 |cons b l ih=>
  intro w x h hx;rcases List.mem_cons.mp h with e|h
  ·subst e;exact j_ l _ _ (uc hx)
  ·exact ih _ _ h hx
def mM{fs:Nat}:∀(l w:List Nat) (x:Nat),x∈fi fs l w->x∈w∨(x∈l/\x<fs):=by
 intro l
 induction l with
 |nil=>intro w x h;exact .inl h
 |cons b l ih=>
  intro w x h;rcases ih _ _ h with h|h
  ·rcases og h with h|⟨e,h⟩
   ·exact .inl h
   ·subst e;exact .inr ⟨by simp,h⟩
  ·exact .inr ⟨by simp [h.1],h.2⟩
def Vb(fs n':Nat)(tc':T Unit)(b:Nat):Prop:=tc'.get b=some ()∨(fs<=b/\b<n')
def To(fs n':Nat)(w':List Nat)(b:Nat):Prop:=b∈w'∨(fs<=b/\b<n')
def ud{α:Type}:∀(t:T α) (f:Nat->Nat) (acc:List Nat) (b:Nat),b∈T.keys t f acc->b∈acc∨∃x a,b=f x/\t.get x=some a:=by
 intro t
 induction t with
 |leaf=>intro f acc b h;exact .inl h
 |node l v r ihl ihr=>
  intro f acc b h;simp only [T.keys] at h;rcases ihl _ _ _ h with h|⟨x,a,e,hx⟩
  ·rcases ihr _ _ _ h with h|⟨x,a,e,hx⟩
   ·cases v with
    |none=>exact .inl h
    |some a=>
     simp only [List.mem_cons] at h;rcases h with h|h
     ·exact .inr ⟨0,a,h,by simp [T.get]⟩
     ·exact .inl h
   ·refine .inr ⟨2 * x+2,a,e, ?_⟩;show(if(2 * x+1)%2=0 then _ else _)=_;rw[if_neg (by omega),show(2 * x+1)/2=x by omega];exact hx
  ·refine .inr ⟨2 * x+1,a,e, ?_⟩;show(if(2 * x)%2=0 then _ else _)=_;rw[if_pos (by omega),show(2 * x)/2=x by omega];exact hx
structure LocAt(t:Tr)(h:T ABlk)(n fs:Nat)(tc:T Unit)(w:List Nat)(a:AV)(h':T ABlk)(n':Nat)(tc':T Unit)(w':List Nat):Prop where
 run:∀K,run t (.mk h n fs tc w) K=K a (.mk h' n' fs tc' w')
 le:n<=n'
 lid:n'<=1000000001
 tch:∀b,tc.get b=some ()->tc'.get b=some ()
 wrt:∀b∈w,b∈w'
 sub:∀b∈w',tc'.get b=some ()
 low:∀b,tc'.get b=some ()->b<fs
 same:∀b,¬To fs n' w' b->h'.get b=h.get b
 like:∀h2,(∀b,Vb fs n' tc' b->h2.get b=h.get b)->∃h2',(∀K,Sym.run t (.mk h2 n fs tc w) K=K a (.mk h2' n' fs tc' w'))/\
  (∀b,Vb fs n' tc' b->h2'.get b=h'.get b)/\∀b,¬To fs n' w' b->h2'.get b=h2.get b
def loc(t:Tr):∀(h:T ABlk) (n fs:Nat) (tc:T Unit) (w:List Nat),0<fs->fs<=n->n<=1000000001->(∀b∈w,tc.get b=some ())->(∀b,tc.get b=some ()->b<fs)->
 (∀K,run t (.mk h n fs tc w) K=false)∨∃a h' n' tc' w',LocAt t h n fs tc w a h' n' tc' w':=by
 induction t with
 |fail=>intro h n fs tc w _ _ _ _ _;exact .inl λK=>rfl
 |ret a=>
  intro h n fs tc w h0 h1 h2 h4 h5
  exact .inr ⟨a,h,n,tc,w,λK=>rfl,aao _,h2,λ_ x=>x,λ_ x=>x,h4,h5,λ_ _=>rfl,λg hg=>⟨g,λK=>rfl,hg,λ_ _=>rfl⟩⟩
 |rd b k ih=>
  intro h n fs tc w h0 h1 h2 h4 h5
  by_cases hbn:b<n
  case neg=>exact .inl λK=>by rw[gY,if_neg hbn]
  cases hb:h.get b with
  |none=>exact .inl λK=>by rw[gY,if_pos hbn,hb]
  |some x=>
   have ac7:b+1<2 ^ 64:=by omega
   rcases ih x h n fs (note fs b tc) w h0 h1 h2 (λy hy=>dJ ac7 (h4 y hy)) (λy hy=>by
    by_cases e:fs<=b
    ·rw[note,if_pos e] at hy;exact h5 y hy
    ·by_cases ey:y=b
     ·omega
     ·rw[note,if_neg e,T.get_set_ne _ ey] at hy;exact h5 y hy) with hf|⟨a,h',n',tc',w',L⟩
   ·exact .inl λK=>by rw[gY,if_pos hbn,hb];exact hf K
   ·refine .inr ⟨a,h',n',tc',w',λK=>?_,L.le,L.lid,λy hy=>L.tch y (dJ ac7 hy),L.wrt,L.sub,L.low,L.same,λg hg=>?_⟩
    ·rw[gY,if_pos hbn,hb];exact L.run K
    ·obtain⟨g',r1,r2,r3⟩:=L.like g hg;refine⟨g',λK=>?_,r2,r3⟩;have hgb:g.get b=some x:=by
      rw[hg b ?_,hb];by_cases e:b<fs
      ·exact .inl (L.tch b (jY ac7 e))
      ·exact .inr ⟨by omega,by have:=L.le;omega⟩
     rw[gY,if_pos hbn,hgb];exact r1 K
 |wr b x k ih=>
  intro h n fs tc w h0 h1 h2 h4 h5
  by_cases hbn:b<n
  case neg=>exact .inl λK=>by rw[jX,if_neg hbn]
  cases hb:h.get b with
  |none=>exact .inl λK=>by rw[jX,if_pos hbn,hb]
  |some x0=>
   have ac7:b+1<2 ^ 64:=by omega
   rcases ih (h.set b x) n fs (note fs b tc) (gB fs b w) h0 h1 h2 (λy hy=>by
    rcases og hy with hy|⟨e,hy⟩
    ·exact dJ ac7 (h4 y hy)
    ·subst e;exact jY ac7 hy) (λy hy=>by
    by_cases e:fs<=b
    ·rw[note,if_pos e] at hy;exact h5 y hy
    ·by_cases ey:y=b
     ·omega
     ·rw[note,if_neg e,T.get_set_ne _ ey] at hy;exact h5 y hy) with hf|⟨a,h',n',tc',w',L⟩
   ·exact .inl λK=>by rw[jX,if_pos hbn,hb];exact hf K
   ·have hwb:To fs n' w' b:=by
     by_cases e:b<fs
     ·exact .inl (L.wrt b (uc e))
     ·exact .inr ⟨by omega,by have:=L.le;omega⟩
    have htb:Vb fs n' tc' b:=by
     by_cases e:b<fs
     ·exact .inl (L.tch b (jY ac7 e))
     ·exact .inr ⟨by omega,by have:=L.le;omega⟩
    refine .inr ⟨a,h',n',tc',w',λK=>?_,L.le,L.lid,λy hy=>L.tch y (dJ ac7 hy),λy hy=>L.wrt y (pt hy),L.sub,L.low,λy hy=>?_,λg hg=>?_⟩
    ·rw[jX,if_pos hbn,hb];exact L.run K
    ·rw[L.same y hy,T.get_set_ne];intro e;subst e;exact hy hwb
    ·have hgb:g.get b=some x0:=by rw[hg b htb,hb]
     obtain⟨g',r1,r2,r3⟩:=L.like (g.set b x) (λy hy=>by
      by_cases e:y=b
      ·subst e;rw[T.get_set_same _ _ _ ac7,T.get_set_same _ _ _ ac7]
      ·rw[T.get_set_ne _ e,T.get_set_ne _ e];exact hg y hy)
     refine⟨g',λK=>?_,r2,λy hy=>?_⟩
     ·rw[jX,if_pos hbn,hgb];exact r1 K
     ·rw[r3 y hy,T.get_set_ne];intro e;subst e;exact hy hwb
 |new x k ih=>
  intro h n fs tc w h0 h1 h2 h4 h5
  by_cases hn:n<=1000000000
  case neg=>exact .inl λK=>by rw[gC,if_neg hn]
  cases j5:h.get n with
  |some x0=>exact .inl λK=>by rw[gC,if_pos hn,j5]
  |none=>
  have aj_:n+1<2 ^ 64:=by omega
  rcases ih n (h.set n x) (n+1) fs tc w h0 (by omega) (by omega) h4 h5 with hf|⟨a,h',n',tc',w',L⟩
  ·exact .inl λK=>by rw[gC,if_pos hn,j5];exact hf K
  ·have hle:=L.le;have hwn:To fs n' w' n:=.inr ⟨h1,by omega⟩;refine .inr ⟨a,h',n',tc',w',λK=>?_,by omega,L.lid,L.tch,L.wrt,L.sub,L.low,λy hy=>?_,λg hg=>?_⟩
   ·rw[gC,if_pos hn,j5];exact L.run K
   ·rw[L.same y hy,T.get_set_ne];intro e;subst e;exact hy hwn
   ·have hgn:g.get n=none:=by rw[hg n (.inr ⟨h1,by omega⟩),j5]
    obtain⟨g',r1,r2,r3⟩:=L.like (g.set n x) (λy hy=>by
     by_cases e:y=n
     ·subst e;rw[T.get_set_same _ _ _ aj_,T.get_set_same _ _ _ aj_]
     ·rw[T.get_set_ne _ e,T.get_set_ne _ e];exact hg y hy)
    refine⟨g',λK=>?_,r2,λy hy=>?_⟩
    ·rw[gC,if_pos hn,hgn];exact r1 K
    ·rw[r3 y hy,T.get_set_ne];intro e;subst e;exact hy hwn
 |pick m k ih=>
  intro h n fs tc w h0 h1 h2 h4 h5
  by_cases hm:m<=1
  ·have e:∀g K,run (.pick m k) (.mk g n fs tc w) K=run (k 0) (.mk g n fs tc w) K:=λg K=>by show ac (Nat.ble m 1) (run (k 0) (.mk g n fs tc w) K) _=_;rw[ar,if_pos (Nat.ble_eq.mpr hm)]
   rcases ih 0 h n fs tc w h0 h1 h2 h4 h5 with hf|⟨a,h',n',tc',w',L⟩
   ·exact .inl λK=>by rw[e];exact hf K
   ·refine .inr ⟨a,h',n',tc',w',λK=>by rw[e];exact L.run K,L.le,L.lid,L.tch,L.wrt,L.sub,L.low,L.same,λg hg=>?_⟩;obtain⟨g',r1,r2,r3⟩:=L.like g hg;exact⟨g',λK=>by rw[e];exact r1 K,r2,r3⟩
  ·refine .inl λK=>?_;show ac (Nat.ble m 1) (run (k 0) (.mk h n fs tc w) K) (ac (Nat.beq fs 0) (iy _ m) false)=_;have e1:Nat.ble m 1=false:=by
    cases hb:Nat.ble m 1 with
    |false=>rfl
    |true=>exact absurd (Nat.ble_eq.mp hb) hm
   have e2:Nat.beq fs 0=false:=by
    cases hb:Nat.beq fs 0 with
    |false=>rfl
    |true=>have:=aaq hb;omega
   rw[e1,e2];rfl
 |sub t k iht ihk=>
  intro h n fs tc w h0 h1 h2 h4 h5
  have hfs:fs≠0:=by omega
  rcases iht h n n .leaf [] (by omega) (aao _) h2 (by simp) (λb hb=>by simp [T.get] at hb) with hf|⟨a1,h1',n1,t1,w1,L1⟩
  ·exact .inl λK=>by rw[gD];exact hf _
  ·have hk1:∀b∈T.keys t1 id [],b+1<2 ^ 64/\b<n:=λb hb=>by
    rcases ud t1 id [] b hb with hb|⟨x,u,e,hx⟩
    ·cases hb
    ·have:=L1.low x hx;have e':b=x:=e;subst e';omega
   have ae9:∀b∈T.keys t1 id [],b+1<2 ^ 64:=λb hb=>(hk1 b hb).1;rcases ihk a1 n n1 t1 w1 h1' n1 fs (fO fs (T.keys t1 id []) tc) (fi fs w1 w) h0 (by have:=L1.le;omega) L1.lid (λb hb=>by
    rcases mM _ _ _ hb with hb|⟨hb,c8⟩
    ·exact eY _ _ _ ae9 (h4 b hb)
    ·exact jZ _ _ _ ae9 (by have:=T.mem_keys t1 id [] b () (L1.sub b hb);simpa using this) c8) (λb hb=>by
    have key:∀(l:List Nat) (t:T Unit),(∀b,t.get b=some ()->b<fs)->∀b,(fO fs l t).get b=some ()->b<fs:=by
     intro l
     induction l with
     |nil=>intro t ht b hb;exact ht b hb
     |cons x l ih=>
      intro t ht b hb;refine ih _ (λy hy=>?_) b hb;by_cases e:fs<=x
      ·rw[note,if_pos e] at hy;exact ht y hy
      ·by_cases ey:y=x
       ·omega
       ·rw[note,if_neg e,T.get_set_ne _ ey] at hy;exact ht y hy
    exact key _ _ h5 b hb) with hf|⟨a,h',n',tc',w',L⟩
   ·refine .inl λK=>?_;rw[gD,L1.run];simp only [hfs,if_false];exact hf K
   ·have m8:=L1.le;have hle:=L.le;have ap3:∀b,Vb n n1 t1 b->Vb fs n' tc' b:=λb hb=>by
     rcases hb with hb|hb
     ·by_cases e:b<fs
      ·exact .inl (L.tch b (jZ _ _ _ ae9 (by have:=T.mem_keys t1 id [] b () hb;simpa using this) e))
      ·have:=L1.low b hb;exact .inr ⟨by omega,by omega⟩
     ·exact .inr ⟨by omega,by omega⟩
    have al_:∀b,To n n1 w1 b->To fs n' w' b:=λb hb=>by
     rcases hb with hb|hb
     ·by_cases e:b<fs
      ·exact .inl (L.wrt b (vV _ _ _ hb e))
      ·have:=L1.low b (L1.sub b hb);exact .inr ⟨by omega,by omega⟩
     ·exact .inr ⟨by omega,by omega⟩
    refine .inr ⟨a,h',n',tc',w',λK=>?_,by omega,L.lid,λb hb=>L.tch b (eY _ _ _ ae9 hb),λb hb=>L.wrt b (j_ _ _ _ hb),L.sub,L.low,λb hb=>?_,λg hg=>?_⟩
    ·rw[gD,L1.run];simp only [hfs,if_false];exact L.run K
    ·rw[L.same b hb,L1.same b (λhw=>hb (al_ b hw))]
    ·obtain⟨g1,r1,r2,r3⟩:=L1.like g (λb hb=>hg b (ap3 b hb));obtain⟨g',q1,q2,q3⟩:=L.like g1 (λb hb=>by
      by_cases e:Vb n n1 t1 b
      ·exact r2 b e
      ·have hnw:¬To n n1 w1 b:=λhw=>e (by
        rcases hw with hw|hw
        ·exact .inl (L1.sub b hw)
        ·exact .inr hw)
       rw[r3 b hnw,L1.same b hnw];exact hg b hb)
     refine⟨g',λK=>?_,q2,λb hb=>?_⟩
     ·rw[gD,r1];simp only [hfs,if_false];exact q1 K
     ·rw[q3 b hb,r3 b (λhw=>hb (al_ b hw))]
 |ask p t e iht ihe=>
  intro h n fs tc w h0 h1 h2 h4 h5
  by_cases hp:p
  ·have e1:∀g K,run (.ask p t e) (.mk g n fs tc w) K=run t (.mk g n fs tc w) K:=λg K=>fj _ _ _ _ hp;rcases iht h n fs tc w h0 h1 h2 h4 h5 with hf|⟨a,h',n',tc',w',L⟩
   ·exact .inl λK=>by rw[e1];exact hf K
   ·refine .inr ⟨a,h',n',tc',w',λK=>by rw[e1];exact L.run K,L.le,L.lid,L.tch,L.wrt,L.sub,L.low,L.same,λg hg=>?_⟩;obtain⟨g',r1,r2,r3⟩:=L.like g hg;exact⟨g',λK=>by rw[e1];exact r1 K,r2,r3⟩
  ·have e1:∀g K,run (.ask p t e) (.mk g n fs tc w) K=run e (.mk g n fs tc w) K:=λg K=>fk _ _ _ _ hp;rcases ihe h n fs tc w h0 h1 h2 h4 h5 with hf|⟨a,h',n',tc',w',L⟩
   ·exact .inl λK=>by rw[e1];exact hf K
   ·refine .inr ⟨a,h',n',tc',w',λK=>by rw[e1];exact L.run K,L.le,L.lid,L.tch,L.wrt,L.sub,L.low,L.same,λg hg=>?_⟩;obtain⟨g',r1,r2,r3⟩:=L.like g hg;exact⟨g',λK=>by rw[e1];exact r1 K,r2,r3⟩
 |req p t ih=>
  intro h n fs tc w h0 h1 h2 h4 h5
  by_cases hp:p
  ·have e1:∀g K,run (.req p t) (.mk g n fs tc w) K=run t (.mk g n fs tc w) K:=λg K=>fm _ _ _ hp;rcases ih h n fs tc w h0 h1 h2 h4 h5 with hf|⟨a,h',n',tc',w',L⟩
   ·exact .inl λK=>by rw[e1];exact hf K
   ·refine .inr ⟨a,h',n',tc',w',λK=>by rw[e1];exact L.run K,L.le,L.lid,L.tch,L.wrt,L.sub,L.low,L.same,λg hg=>?_⟩;obtain⟨g',r1,r2,r3⟩:=L.like g hg;exact⟨g',λK=>by rw[e1];exact r1 K,r2,r3⟩
  ·exact .inl λK=>pq _ _ _ hp
 |sk p z k ih=>
  intro h n fs tc w h0 h1 h2 h4 h5
  rcases ih z.1 h n fs tc w h0 h1 h2 h4 h5 with hf|⟨a,h',n',tc',w',L⟩
  ·exact .inl λK=>hf K
  ·exact .inr ⟨a,h',n',tc',w',λK=>L.run K,L.le,L.lid,L.tch,L.wrt,L.sub,L.low,L.same,L.like⟩
end Go.Sym
namespace Go.Sym
noncomputable section
def DU(v:AV)(k:Bool->Tr):Tr:=match v with | .bool b=>k b | .sB p=>.ask p (k true) (k false)|_=>.fail
def Tp(v:AV)(t e:Tr):Tr:=match v with
 | .bool b=>ac b t e
 | .anyB=>.pick 2 λi=>Nat.rec (motive:=λ_=>Tr) t (λ_ _=>e) i
 | .sB p=>.ask p t e
 |_=>.fail
def qU(v:AV)(k:IntKind->Int->Tr):Tr:=match v with | .int j n=>k j n|_=>.fail
def gZ(v:AV)(k:List AV->Tr):Tr:=match v with | .agg l=>k l | .opq _=>.fail|v=>k [v]
def Hr(n:Int)(k:Nat->Tr):Tr:=match n with | .ofNat a=>k a | .negSucc _=>.fail
def mO(l:List Nat):List AV:=l.map λn=>.int .u8 (Int.ofNat n)
def fB(env:T AV)(x:Operand)(k:AV->Tr):Tr:=match x with
 | .tmp t=>T.getK env t .fail k
 | .const v=>dr (U_ 8 v) .fail k
 | .global g=>ac (Nat.ble (Nat.succ g) 1048576) (.rd g λx=>match x with | .cells _ _ _ _ _ _ ro _=>ac ro (k (.ptr g 0 0)) .fail | .tab _ l=>k (.cptr (mO l))|_=>.fail) .fail
 | .func f=>k (.func (.func f) [] [])
def mP(env:T AV)(l:List Operand)(k:List AV->Tr):Tr:=
 List.rec (motive:=λ_=>(List AV->Tr)->Tr) (λk=>k []) (λx _ ih k=>fB env x λa=>ih λl=>k (a::l)) l k
def Hs(env:T AV)(o:Option Operand)(k:Option AV->Tr):Tr:=match o with|none=>k none|some x=>fB env x λa=>k (some a)
def gE(k:IntKind)(n:Int)(f:Int->Tr):Tr:=match k,n with
 | .i64,.ofNat a=>ac (Nat.ble a 9223372036854775807) (fN a λa=>f (.ofNat a)) (fI (IntKind.wrap .i64 n) f)
 | .u64,.ofNat a=>fN (Nat.mod a 18446744073709551616) λa=>f (.ofNat a)
 | .u32,.ofNat a=>fN (Nat.mod a 4294967296) λa=>f (.ofNat a)
 | .u8,.ofNat a=>fN (Nat.mod a 256) λa=>f (.ofNat a)
 | .u64,.negSucc a=>fN (Nat.sub 18446744073709551615 (Nat.mod a 18446744073709551616)) λa=>f (.ofNat a)
 | .u32,.negSucc a=>fN (Nat.sub 4294967295 (Nat.mod a 4294967296)) λa=>f (.ofNat a)
 | .u8,.negSucc a=>fN (Nat.sub 255 (Nat.mod a 256)) λa=>f (.ofNat a)
 | .i64,.negSucc a=>ac (Nat.ble a 9223372036854775807) (fN a λa=>f (.negSucc a)) (fI (IntKind.wrap .i64 n) f)
 |_,_=>fI (k.wrap n) f
def am(k:IntKind):Nat:=match k with
 | .i8 | .u8=>256
 | .i16 | .u16=>65536
 | .i32 | .u32=>4294967296
 | .i64 | .u64=>18446744073709551616
def aE(m:Nat)(n:Int):Nat:=match n with
 | .ofNat a=>Nat.mod a m
 | .negSucc a=>Nat.sub (Nat.sub m 1) (Nat.mod a m)
def bj(k:IntKind):Nat:=match k with | .i8 | .u8=>8 | .i16 | .u16=>16 | .i32 | .u32=>32 | .i64 | .u64=>64
def Vc(op:BinOp)(x y:Int)(k:Bool->Tr)(z:Tr):Tr:=match x,y with
 | .ofNat a,.ofNat b=>(match op with
  | .eql=>k (Nat.beq a b) | .neq=>k (ac (Nat.beq a b) false true) | .lss=>k (Nat.ble (Nat.succ a) b) | .leq=>k (Nat.ble a b) | .gtr=>k (Nat.ble (Nat.succ b) a) | .geq=>k (Nat.ble b a)|_=>z)
 |_,_=>(match op with
  | .eql=>k (x==y) | .neq=>k (x !=y) | .lss=>k (x<y) | .leq=>k (x<=y) | .gtr=>k (x > y) | .geq=>k (x≥y)|_=>z)
def lA(b:Bool)(k:AV->Tr):Tr:=ac b (k (.bool true)) (k (.bool false))
def isZ(n:Int):Bool:=match n with | .ofNat 0=>true|_=>false
def DV(op:BinOp)(j:IntKind)(x y:Int)(k:AV->Tr):Tr:=match op with
 | .add=>gE j (Int.add x y) λn=>k (.int j n)
 | .sub=>gE j (Int.sub x y) λn=>k (.int j n)
 | .mul=>gE j (Int.mul x y) λn=>k (.int j n)
 | .quo=>ac (isZ y) .fail (gE j (x.tdiv y) λn=>k (.int j n))
 | .rem=>ac (isZ y) .fail (fI (x.tmod y) λn=>k (.int j n))
 | .and=>gE j (.ofNat (Nat.land (aE (am j) x) (aE (am j) y))) λn=>k (.int j n)
 | .or=>gE j (.ofNat (Nat.lor (aE (am j) x) (aE (am j) y))) λn=>k (.int j n)
 | .xor=>gE j (.ofNat (Nat.xor (aE (am j) x) (aE (am j) y))) λn=>k (.int j n)
 | .andNot=>gE j (.ofNat (Nat.land (aE (am j) x) (Nat.sub (Nat.sub (am j) 1) (aE (am j) y)))) λn=>k (.int j n)
 |op=>Vc op x y (λb=>lA b k) .fail
def lV(a b:Nat):Nat:=ac (Nat.ble a b) a b
def JI(op:BinOp)(j:IntKind)(x:Int)(y:Int)(k:AV->Tr):Tr:=Hr y λn=>match op with
 | .shl=>gE j (Int.mul x (.ofNat (Nat.pow 2 (lV n (bj j))))) λn=>k (.int j n)
 | .shr=>(match x with
  | .ofNat a=>fN (Nat.div a (Nat.pow 2 (lV n (bj j)))) λn=>k (.int j (.ofNat n))
  | .negSucc _=>fI (x.fdiv (.ofNat (Nat.pow 2 (lV n (bj j))))) λn=>k (.int j n))
 |_=>.fail
def DW:List Nat->List Nat->Bool
 | [],[]=>true
 |a::x,b::y=>ac (Nat.beq a b) (DW x y) false
 |_,_=>false
def mB:List Nat->List Nat->Bool
 |_,[]=>false
 | [],_::_=>true
 |a::x,b::y=>ac (Nat.ble (Nat.succ a) b) true (ac (Nat.beq a b) (mB x y) false)
def vW(l:List Nat)(k:List Nat->Tr):Tr:=List.rec (motive:=λ_=>(List Nat->Tr)->Tr) (λk=>k []) (λa _ ih k=>fN a λa=>ih λl=>k (a::l)) l k
def DX(op:BinOp)(x y:List Nat)(k:AV->Tr):Tr:=match op with
 | .eql=>lA (DW x y) k
 |_=>.fail
def g_(l:List AV)(k:List AV->Tr):Tr:=List.rec (motive:=λ_=>(List AV->Tr)->Tr) (λk=>k []) (λa _ ih k=>ih λl=>k (a::l)) l k
def co(v:AV):Option (IntKind×Int):=match v with | .int k n=>some (k,n) | .sI k n=>some (k,n)|_=>none
def ge(v:AV):Option (List Nat):=match v with | .str s=>some s | .sS s=>some s|_=>none
def dQ(v:AV):Option Prop:=match v with | .bool b=>some (b=true) | .sB p=>some p|_=>none
def BP(v:AV):Bool:=match v with | .sI _ _=>true | .sB _=>true | .sS _=>true|_=>false
def lB(j:IntKind)(n:Int)(f:Int->Tr):Tr:=match j with
 | .u8=>f (n%256)
 | .u16=>f (n%65536)
 | .u32=>f (n%4294967296)
 | .u64=>f (n%18446744073709551616)
 | .i64=>.ask (-9223372036854775808<=n/\n<=9223372036854775807) (f n) (f (IntKind.wrap .i64 n))
 |j=>f (j.wrap n)
def JJ(op:BinOp)(j:IntKind)(x y:Int)(k:AV->Tr):Tr:=match op with
 | .add=>lB j (x+y) λn=>k (.sI j n)
 | .sub=>lB j (x-y) λn=>k (.sI j n)
 | .mul=>lB j (x * y) λn=>k (.sI j n)
 | .quo=>.req (y≠0) (.ask (0<=x/\0<y) (lB j (x/y) λn=>k (.sI j n)) (lB j (x.tdiv y) λn=>k (.sI j n)))
 | .rem=>.req (y≠0) (.ask (0<=x/\0<y) (k (.sI j (x%y))) (k (.sI j (x.tmod y))))
 | .and=>k (.sI j (j.wrap (.ofNat (Nat.land (aE (am j) x) (aE (am j) y)))))
 | .or=>k (.sI j (j.wrap (.ofNat (Nat.lor (aE (am j) x) (aE (am j) y)))))
 | .xor=>k (.sI j (j.wrap (.ofNat (Nat.xor (aE (am j) x) (aE (am j) y)))))
 | .andNot=>k (.sI j (j.wrap (.ofNat (Nat.land (aE (am j) x) (Nat.sub (Nat.sub (am j) 1) (aE (am j) y))))))
 | .eql=>k (.sB (x=y))
 | .neq=>k (.sB (x≠y))
 | .lss=>k (.sB (x<y))
 | .leq=>k (.sB (x<=y))
 | .gtr=>k (.sB (y<x))
 | .geq=>k (.sB (y<=x))
 |_=>.fail
def yw(op:BinOp)(j:IntKind)(x y:Int)(k:AV->Tr):Tr:=Hr y λn=>fN (Nat.pow 2 (lV n (bj j))) λm=>match op with
 | .shl=>lB j (x * (m:Int)) λn=>k (.sI j n)
 | .shr=>k (.sI j (x/(m:Int)))
 |_=>.fail
def ue(op:BinOp)(j:IntKind)(x y:Int)(k:AV->Tr):Tr:=.req (0<=y) (match op with
 | .shl=>lB j (x * ((2 ^ min y.toNat (bj j):Nat):Int)) λn=>k (.sI j n)
 | .shr=>k (.sI j (x/((2 ^ min y.toNat (bj j):Nat):Int)))
 |_=>.fail)
def Ys(v:AV):Bool:=match v with | .sI _ _=>true|_=>false
def JK(op:BinOp)(x y:List Nat)(k:AV->Tr):Tr:=match op with
 | .add=>.req ((x++y).length<=1000000000) (k (.sS (x++y)))
 | .eql=>k (.sB (x=y))
 | .neq=>k (.sB (x≠y))
 | .lss=>k (.sB (mB x y=true))
 | .leq=>k (.sB (mB y x=false))
 | .gtr=>k (.sB (mB y x=true))
 | .geq=>k (.sB (mB x y=false))
 |_=>.fail
def PV(op:BinOp):Bool:=match op with | .shl=>true | .shr=>true|_=>false
def vX(op:BinOp)(x y:AV)(k:AV->Tr):Tr:=match co x,co y with
 |some (j,a),some (j',b)=>ac (PV op) (ac (Ys y) (ue op j a b k) (yw op j a b k)) (ac (decide (j=j')) (JJ op j a b k) .fail)
 |_,_=>(match ge x,ge y with
  |some a,some b=>JK op a b k
  |_,_=>.fail)
def BQ(op:UnOp)(x:AV)(k:AV->Tr):Tr:=match op,x with
 | .neg,.sI j n=>lB j (0-n) λn=>k (.sI j n)
 | .xor,.sI j n=>k (.sI j (j.wrap (.ofNat (Nat.xor (aE (am j) (if j.signed then -1 else j.max)) (aE (am j) n)))))
 | .not,.sB p=>k (.sB (¬p))
 |_,_=>.fail
def pI(p:Prop):Int:=@ite Int p (Classical.propDecidable p) 1 0
def JL(s:List Nat):List Nat:=s.map (· % 256)
def DY:Nat->List AV->Option (List G×List AV)
 |0,cs=>some ([],cs)
 |n+1,a::r=>match co a with
  |some (.u8,v)=>(match DY n r with|some (l,q)=>some (.int v::l,q)|none=>none)
  |_=>none
 |_+1,[]=>none
def JM(x:Sc)(cs:List AV)(z:Option (List G×List AV))(k:G->List AV->Option (List G×List AV)):Option (List G×List AV):=match cs with
 | []=>z
 |a::r=>(match x with
  | .i j=>(match co a with|some (j',n)=>ac (decide (j=j')) (k (.int n) r) z|none=>z)
  | .b=>(match dQ a with|some p=>k (.int (pI p)) r|none=>z)
  | .s=>(match ge a with|some l=>k (.str l) r|none=>z)
  | .o=>ac (gd a) (k (.int 0) r) z
  | .sl m=>(match a with | .nils=>k (.node []) r | .cv (.rows m' l)=>ac (Nat.beq m m') (k (.node l) r) z|_=>z)
  | .bs=>(match a with | .nils=>k (.str []) r | .cv (.bytes l)=>k (.str l) r|_=>z)
  | .h n=>(match DY n (a::r) with|some (l,q)=>k (.node l) q|none=>z))
def fP:List Sc->List AV->Option (List G×List AV)
 | [],cs=>some ([],cs)
 |x::xs,cs=>JM x cs none λg r=>match fP xs r with|some (gs,r)=>some (g::gs,r)|none=>none
def dV(xs:List Sc):Nat->List AV->Option (List G×List AV)
 |0,cs=>some ([],cs)
 |n+1,cs=>match fP xs cs with
  |some (g,r)=>(match dV xs n r with|some (gs,r)=>some (.node g::gs,r)|none=>none)
  |none=>none
def gf:List AV->Option (List Int)
 | []=>some []
 |a::r=>match co a with
  |some (.u8,n)=>(match gf r with|some l=>some (n::l)|none=>none)
  |_=>none
def br:List Int->Prop
 | []=>True
 |x::l=>0<=x/\br l
def aH:List Int->List Nat
 | []=>[]
 |x::l=>x.toNat::aH l
def Ct.app(c:Ct)(new:List AV)(n:Nat):Option (Ct×Prop):=match c with
 | .rows m l=>(match dV (cP m) n new with|some (gs,[])=>some (.rows m (l++gs),True)|_=>none)
 | .bytes s=>(match gf new with|some ns=>ac (Nat.beq ns.length n) (some (.bytes (s++aH ns),br ns)) none|none=>none)
def Ct.upd(c:Ct)(i o:Nat)(new:List AV):Option (Ct×Prop):=match c with
 | .rows m l=>(match fP (cP m) ((c.row i).take o++new++(c.row i).drop (o+new.length)) with|some (gs,[])=>some (.rows m (l.set i (.node gs)),True)|_=>none)
 | .bytes s=>(match new with
  | [a]=>(match o,co a with|0,some (.u8,n)=>some (.bytes (s.set i n.toNat),0<=n)|_,_=>none)
  |_=>none)
variable(P:Program)
def cq(t:TypeId)(k:TypeDesc->Tr):Tr:=dr (P.underlying t) .fail k
def Tq(t:TypeId)(k:TypeInfo->Tr):Tr:=dr (P.info? t) .fail k
def cu(t:TypeId)(k:Nat->Tr):Tr:=dr (P.info? t) .fail λi=>fN i.size k
def cw(d:TypeDesc):Bool:=match d with | .struct _ | .array _ _=>true|_=>false
def qV(t:TypeId)(k:AV->Tr):Tr:=dr (P.info? t) .fail λi=>dr i.zero .fail λv=>dr (U_ 8 v) .fail k
def fF:Nat->TypeDesc->AV->AV->Option Bool
 |0,_,_,_=>none
 |f+1,d,x,y=>match d,x,y with
  | .bool,.bool a,.bool b=>some (a==b)
  | .int _,.int j a,.int j' b=>if j=j' then some (a==b) else none
  | .string,.str a,.str b=>some (DW a b)
  | .pointer _,.nilp,.nilp=>some true
  | .pointer _,.nilp,.ptr _ _ _=>some false
  | .pointer _,.ptr _ _ _,.nilp=>some false
  | .interface _,.nili,.nili=>some true
  | .interface _,.nili,.iface _ _=>some false
  | .interface _,.iface _ _,.nili=>some false
  | .slice _,.nils,.nils=>some true
  | .slice _,.nils,.slc .. =>some false
  | .slice _,.slc ..,.nils=>some false
  | .map _ _,.nilm,.nilm=>some true
  | .map _ _,.nilm,.map _=>some false
  | .map _ _,.map _,.nilm=>some false
  | .func _ _ _,.nilf,.nilf=>some true
  | .func _ _ _,.nilf,.func _ _ _=>some false
  | .func _ _ _,.func _ _ _,.nilf=>some false
  | .array len e,.agg xs,.agg ys=>match P.info? e,P.underlying e with
   |some i,some d'=>if i.size=1 && !cw d' && xs.length==len && ys.length==len then eqArr (fF f d') xs ys else none
   |_,_=>none
  | .struct fs,.agg xs,.agg ys=>eqFs (fF f) fs.toList xs ys
  |_,_,_=>none
where
 eqArr (q:AV->AV->Option Bool):List AV->List AV->Option Bool
  | [],[]=>some true
  |a::xs,b::ys=>match q a b with
   |some true=>eqArr q xs ys
   |r=>r
  |_,_=>none
 eqFs (q:TypeDesc->AV->AV->Option Bool):List Field->List AV->List AV->Option Bool
  | [],_,_=>some true
  |fd::fs,xs,ys=>if fd.name= "_" then eqFs q fs xs ys else
   match P.info? fd.type,P.underlying fd.type with
   |some i,some d'=>
    (match(if cw d' then some (AV.agg ((xs.drop fd.offset).take i.size)) else xs[fd.offset]?),(if cw d' then some (AV.agg ((ys.drop fd.offset).take i.size)) else ys[fd.offset]?) with
    |some a,some b=>(match q d' a b with
     |some true=>eqFs q fs xs ys
     |r=>r)
    |_,_=>none)
   |_,_=>none
def qa(i:Nat):List Field->Option (List IntKind)
 | []=>some []
 |fd::fs=>if fd.name= "_" then none else if fd.offset=i then(match P.info? fd.type,P.underlying fd.type with
  |some _,some (.int j)=>(match qa (i+1) fs with|some l=>some (j::l)|none=>none)
  |_,_=>none) else none
def vY(d:TypeDesc):Option (List IntKind):=match d with
 | .array n e=>(match P.info? e,P.underlying e with
  |some i,some (.int j)=>ac (Nat.beq i.size 1) (some (List.replicate n j)) none
  |_,_=>none)
 | .struct fs=>qa P 0 fs.toList
 |_=>none
def dA:List IntKind->List AV->Option (List Int)
 | [],[]=>some []
 |j::ks,a::as=>(match co a with
  |some (j',n)=>ac (decide (j=j')) (match dA ks as with|some l=>some (n::l)|none=>none) none
  |none=>none)
 |_,_=>none
def eqS(d:TypeDesc)(xs ys:List AV):Option Prop:=match vY P d with
 |some ks=>(match dA ks xs,dA ks ys with|some l,some m=>some (l=m)|_,_=>none)
 |none=>none
def DZ(d:TypeDesc)(a b:List AV)(k:Bool->Tr)(ks:Prop->Tr):Tr:=match fF P 16 d (.agg a) (.agg b) with
 |some r=>k r
 |none=>dr (eqS P d a b) .fail ks
def gg:Nat->TypeId->Bool
 |0,_=>false
 |f+1,t=>match P.underlying t with
  |some (.interface _)=>false
  |some (.struct fs)=>!P.stoodInHeld t && fs.toList.all λfd=>gg f fd.type
  |some (.array _ e)=>gg f e
  |some _=>true
  |none=>false
def vZ(lit:Bool)(x y:AV):Bool:=match x,y with
 | .nili,.nili=>lit
 | .opq _,_=>false
 |_,.opq _=>false
 | .anyB,_=>false
 |_,.anyB=>false
 | .anyI _,_=>false
 |_,.anyI _=>false
 | .osl _,_=>false
 |_,.osl _=>false
 | .opc _,_=>false
 |_,.opc _=>false
 | .sI _ _,_=>false
 |_,.sI _ _=>false
 | .sB _,_=>false
 |_,.sB _=>false
 | .sS _,_=>false
 |_,.sS _=>false
 | .any1,_=>false
 |_,.any1=>false
 | .cptr _,_=>false
 |_,.cptr _=>false
 | .cv _,_=>false
 |_,.cv _=>false
 | .gsl ..,_=>false
 |_,.gsl .. =>false
 | .gptr ..,_=>false
 |_,.gptr .. =>false
 |_,_=>true
def D0(op:BinOp):Bool:=match op with | .lss | .leq | .gtr | .geq=>true|_=>false
def pu(x:Operand):Bool:=match x with | .const _=>true|_=>false
def qb(lit:Bool)(op:BinOp)(t:TypeId)(x y:AV)(k:AV->Tr):Tr:=match op,x,y with
 | .shl,.int j a,.int _ b | .shr,.int j a,.int _ b=>JI op j a b k
 |_,.int j a,.int j' b=>ac (decide (j=j')) (DV op j a b k) .fail
 |_,.str a,.str b=>DX op a b k
 | .eql,.agg a,.agg b=>ac (ac (P.eqGuardType P.depth t) false (gg P 16 t)) (cq P t λd=>DZ P d a b (λr=>lA r k) λp=>k (.sB p)) .fail
 | .neq,.agg a,.agg b=>ac (ac (P.eqGuardType P.depth t) false (gg P 16 t)) (cq P t λd=>DZ P d a b (λr=>lA (ac r false true) k) λp=>k (.sB (¬p))) .fail
 | .eql,x,y=>ac (vZ lit x y) (cq P t λd=>dr (fF P 16 d x y) .fail λr=>lA r k) .fail
 | .neq,x,y=>ac (vZ lit x y) (cq P t λd=>dr (fF P 16 d x y) .fail λr=>lA (ac r false true) k) .fail
 | .and,.anyI .i64,.int .i64 n=>ac (decide (n=3)) (.pick 4 λi=>k (.int .i64 (.ofNat i))) .fail
 |op,.anyI j,.int j' _=>ac (decide (j=j')) (ac (D0 op) (k .anyB) .fail) .fail
 |_,_,_=>.fail
def D1(x:AV)(k:AV->Tr):Tr:=match x with | .sB p=>.ask p (k (.bool true)) (k (.bool false))|x=>k x
def Yt(x y:AV):Bool:=match dQ x,dQ y with|some _,some _=>true|_,_=>false
def PW(x y:AV):Bool:=match x,y with | .cv _,.nils=>true | .gsl ..,.nils=>true|_,_=>false
def v_(x:AV):Nat:=match x with | .cv c=>c.len | .gsl _ _ n _=>n|_=>0
def JN(op:BinOp)(t:TypeId)(x:AV)(k:AV->Tr):Tr:=cq P t λd=>match d,op with | .slice _,.eql=>.ask (v_ x=0) (k .anyB) (k (.bool false)) | .slice _,.neq=>.ask (v_ x=0) (k .anyB) (k (.bool true))|_,_=>.fail
def JO(lit:Bool)(op:BinOp)(t:TypeId)(x y:AV)(k:AV->Tr):Tr:=ac (PW x y) (JN P op t x k) (ac (ac (BP x) true (BP y)) (ac (Yt x y) (D1 x λx=>D1 y λy=>qb P lit op t x y k) (vX op x y k)) (qb P lit op t x y k))
def BS(op:UnOp)(x:AV)(k:AV->Tr):Tr:=match op,x with
 | .neg,.int j n=>gE j (Int.sub 0 n) λn=>k (.int j n)
 | .xor,.int j n=>gE j (.ofNat (Nat.xor (aE (am j) (if j.signed then -1 else j.max)) (aE (am j) n))) λn=>k (.int j n)
 | .not,.bool b=>lA (ac b false true) k
 |_,_=>.fail
def Ts(op:UnOp)(x:AV)(k:AV->Tr):Tr:=ac (BP x) (BQ op x k) (BS op x k)
def PX(l:List AV)(i:Nat)(t:T Cell)(k:T Cell->Tr):Tr:=
 List.rec (motive:=λ_=>Nat->T Cell->(T Cell->Tr)->Tr) (λ_ t k=>k t) (λa _ ih i t k=>T.setK t i (.mk 0 a) λt=>fN (Nat.succ i) λi=>ih i t k) l i t k
def D2(fl ty:Nat)(l:List AV)(k:Nat->Tr):Tr:=PX l 0 .leaf λt=>fN (List.length l) λn=>.new (.cells t 0 0 n fl 0 false ty) k
def qc(ty:Nat)(l:List AV)(k:Nat->Tr):Tr:=D2 0 ty l k
def mQ(ty:Nat)(v:AV)(k:AV->Tr):Tr:=gZ v λl=>qc ty l λb=>k (.ptr b 0 0)
def PY(c:T Cell)(g:Nat)(n:Nat)(o:Nat)(k:List AV->Tr):Tr:=
 Nat.rec (motive:=λ_=>Nat->(List AV->Tr)->Tr) (λ_ k=>k []) (λ_ ih o k=>T.getK c o .fail λx=>match x with
  | .mk tag v=>ac (Nat.ble tag g) (fN (Nat.succ o) λo=>ih o λl=>k (v::l)) .fail) n o k
def ke(b g o n:Nat)(k:List AV->Tr):Tr:=.rd b λx=>match x with | .cells c gen _ _ _ _ _ _=>ac (Nat.ble g gen) (PY c g n o k) .fail|_=>.fail
def JP(b g o:Nat)(k:AV->Tr):Tr:=.rd b λx=>match x with
 | .cells c gen _ _ _ _ _ _=>ac (Nat.ble g gen) (T.getK c o .fail λx=>(match x with | .mk tag v=>ac (Nat.ble tag g) (k v) .fail)) .fail
 |_=>.fail
def yx(t:TypeId)(x:AV)(k:AV->Tr):Tr:=match x with
 | .ptr b g o=>cq P t λd=>ac (cw d) (cu P t λn=>ke b g o n λl=>k (.agg l)) (JP b g o k)
 | .cptr l=>cq P t λd=>ac (cw d) (cu P t λn=>g_ (l.take n) λr=>ac (Nat.beq r.length n) (k (.agg r)) .fail) (dr l[0]? .fail k)
 | .gptr b g i o es=>.rd b λq=>(match q with
  | .grow c gen _=>ac (Nat.beq g gen) (ac (Nat.beq es c.es) (.req (i<c.len) (cq P t λd=>ac (cw d) (cu P t λm=>g_ (((c.row i).drop o).take m) λr=>ac (Nat.beq r.length m) (k (.agg r)) .fail) (dr (c.row i)[o]? .fail k))) .fail) .fail
  |_=>.fail)
 |_=>.fail
def Vd(g fl fh:Nat)(l:List AV)(o:Nat)(c:T Cell)(k:T Cell->Tr):Tr:=
 List.rec (motive:=λ_=>Nat->T Cell->(T Cell->Tr)->Tr) (λ_ c k=>k c) (λv _ ih o c k=>
  ac (gd v) (ac (ac (Nat.ble fl o) (Nat.ble (Nat.succ o) fh) false) .fail (T.getK c o .fail λx=>match x with | .mk tag _=>ac (Nat.ble tag g) (T.setK c o (.mk g v) λc=>fN (Nat.succ o) λo=>ih o c k) .fail)) .fail) l o c k
def oh(b g o:Nat)(l:List AV)(k:Tr):Tr:=.rd b λx=>match x with
 | .cells c gen lo hi fl fh ro ty=>ac ro .fail (ac (Nat.beq g gen) (Vd g fl fh l o c λc=>.wr b (.cells c gen lo hi fl fh false ty) k) .fail)
 |_=>.fail
def JQ(t:TypeId)(x v:AV)(k:Tr):Tr:=match x with
 | .ptr b g o=>cu P t λn=>gZ v λl=>ac (Nat.beq (List.length l) n) (oh b g o l k) .fail
 | .gptr b g i o es=>cu P t λn=>gZ v λl=>ac (Nat.beq (List.length l) n) (ac (Nat.ble 1 n) (.rd b λq=>(match q with
  | .grow c gen ty=>ac (Nat.beq g gen) (ac (Nat.beq es c.es) (ac (Nat.ble (o+n) es) (ac (l.all gd) (match c.upd i o l with
   |some (c',p)=>.req (i<c.len/\p) (.wr b (.grow c' gen ty) k)
   |none=>.fail) .fail) .fail) .fail) .fail
  |_=>.fail)) .fail) .fail
 |_=>.fail
def dW(cells:List AV)(off:Nat)(cs:List AV):List AV:=cells.take off++cs++cells.drop (off+cs.length)
def yy(place:Nat->Option (Nat×Nat))(cells:List AV)(parts:List (Nat×AV))(k:List AV->Tr):Tr:=
 List.rec (motive:=λ_=>List AV->(List AV->Tr)->Tr) (λcells k=>k cells) (λp _ ih cells k=>
  dr (place p.1) .fail λq=>gZ p.2 λcs=>ac (Nat.beq cs.length q.2) (ac (Nat.ble (q.1+q.2) cells.length) (g_ (dW cells q.1 cs) λcells=>ih cells k) .fail) .fail) parts cells k
def iz(env:T AV)(l:List (Nat×Operand))(k:List (Nat×AV)->Tr):Tr:=
 List.rec (motive:=λ_=>(List (Nat×AV)->Tr)->Tr) (λk=>k []) (λx _ ih k=>fB env x.2 λa=>ih λl=>k ((x.1,a)::l)) l k
def wd(fs:Array Field)(i:Nat):Option (Nat×Nat):=match fs[i]? with
 |some f=>(match P.info? f.type with|some i=>some (f.offset,i.size)|none=>none)
 |none=>none
def qd(fs:Array Field):Bool:=fs.toList.all λf=>(P.info? f.type).isSome
def JR(t:TypeId)(parts:List (Nat×AV))(k:AV->Tr):Tr:=qV P t λz=>cq P t λd=>match d with
 | .struct fs=>ac (qd P fs) (gZ z λz=>yy (wd P fs) z parts λl=>k (.agg l)) .fail
 | .array _ e=>cu P e λn=>gZ z λz=>yy (λi=>some (i * n,n)) z parts λl=>k (.agg l)
 |_=>.fail
def dX(z:List AV):Nat->List AV
 |0=>[]
 |n+1=>z++dX z n
def pw(t:TypeId)(len:Nat)(parts:List (Nat×AV))(k:AV->Tr):Tr:=cq P t λd=>match d with
 | .slice e=>cu P e λn=>ac (Nat.ble (len * n) 1000000) (ac (Nat.ble 1 n) (qV P e λz=>gZ z λz=>ac (Nat.beq z.length n)
  (yy (λi=>some (i * n,n)) (dX z len) parts λl=>qc e l λb=>k (.slc b 0 0 len (some len) n)) .fail) .fail) .fail
 |_=>.fail
def eO(l:List Nat):List AV:=l.map λb=>.int .u8 (.ofNat b)
def yz(src dst:TypeId)(x:AV)(k:AV->Tr):Tr:=cq P src λs=>cq P dst λd=>match s,d,x with
 |_,.int j,.sI _ n=>lB j n λn=>k (.sI j n)
 |_,.string,.sS s=>k (.sS s)
 | .slice e,.string,.cv (.bytes s)=>cq P e λde=>(match de with | .int .u8=>k (.sS (JL s))|_=>.fail)
 | .slice e,.string,.gsl b g n es=>cq P e λde=>(match de with
  | .int .u8=>.rd b λq=>(match q with
   | .grow (.bytes s) gen _=>ac (Nat.beq g gen) (ac (Nat.beq es 1) (.req (s.length=n) (k (.sS (JL s)))) .fail) .fail
   |_=>.fail)
  |_=>.fail)
 |_,_,_=>.fail
def JS:List AV->Option (List Nat)
 | []=>some []
 | .int .u8 (.ofNat n)::r=>if n<256 then(match JS r with|some l=>some (n::l)|none=>none) else none
 |_=>none
def inB:List Int->Prop
 | []=>True
 |x::l=>(0<=x/\x<256)/\inB l
def mR(l:List AV)(k:AV->Tr):Tr:=match JS l with
 |some l=>k (.str l)
 |none=>dr (gf l) .fail λns=>.req (inB ns) (k (.sS (aH ns)))
def JT(src dst:TypeId)(x:AV)(k:AV->Tr):Tr:=cq P src λs=>cq P dst λd=>match s,d,x with
 |_,.int j,.int _ n=>gE j n λn=>k (.int j n)
 |_,.string,.str s=>k (.str s)
 | .slice e,.string,x=>cq P e λde=>(match de,x with
  | .int .u8,.nils=>k (.str [])
  | .int .u8,.slc b g o len _ es=>ac (Nat.beq len 0) (k (.str [])) (ke b g o len λl=>mR l k)
  |_,_=>.fail)
 |_,_,_=>.fail
def isBy(v:AV):Bool:=match v with | .sI _ _=>true | .sB _=>true | .sS _=>true | .cv _=>true | .gsl .. =>true|_=>false
def Tt(src dst:TypeId)(x:AV)(k:AV->Tr):Tr:=ac (isBy x) (yz P src dst x k) (JT P src dst x k)
def Tu(t:TypeId)(cs:List AV)(off:Nat)(k:AV->Tr):Tr:=cq P t λd=>
 ac (cw d) (cu P t λn=>g_ ((cs.drop off).take n) λl=>k (.agg l)) (dr cs[off]? .fail k)
def qW(t:TypeId)(x:AV)(i:Nat)(k:AV->Tr):Tr:=cq P t λd=>match d,x with
 | .struct fs,.ptr b g o=>dr fs[i]? .fail λf=>cu P f.type λn=>ac (Nat.beq n 0) .fail (fN (o+f.offset) λo=>k (.ptr b g o))
 | .struct fs,.gptr b g m o es=>dr fs[i]? .fail λf=>cu P f.type λn=>ac (Nat.beq n 0) .fail (k (.gptr b g m (o+f.offset) es))
 | .struct fs,.cptr l=>dr fs[i]? .fail λf=>cu P f.type λn=>ac (Nat.beq n 0) .fail (ac (Nat.ble f.offset l.length) (g_ (l.drop f.offset) λl=>k (.cptr l)) .fail)
 |_,_=>.fail
def D3(t:TypeId)(c:Ct)(ix:AV)(k:AV->Tr):Tr:=cq P t λd=>match d,co ix with
 | .slice e,some (_,i)=>cu P e λs=>ac (Nat.beq s c.es) (.req (0<=i/\i<(c.len:Int)) (g_ (c.row i.toNat) λl=>k (.cptr l))) .fail
 |_,_=>.fail
def kf(t:TypeId)(x ix:AV)(k:AV->Tr):Tr:=qU ix λ_ i=>Hr i λi=>cq P t λd=>match d,x with
 | .array len e,.ptr b g o=>ac (Nat.ble (Nat.succ i) len) (cu P e λn=>fN (o+i * n) λo=>k (.ptr b g o)) .fail
 | .slice e,.slc b g o len _ _=>ac (Nat.ble (Nat.succ i) len) (cu P e λn=>fN (o+i * n) λo=>k (.ptr b g o)) .fail
 |_,_=>.fail
def D4(t:TypeId)(b g n es:Nat)(ix:AV)(k:AV->Tr):Tr:=cq P t λd=>match d,co ix with
 | .slice e,some (_,i)=>cu P e λs=>ac (Nat.beq s es) (.req (0<=i/\i<(n:Int)) (k (.gptr b g i.toNat 0 es))) .fail
 |_,_=>.fail
def kg(b:Nat)(l:List (Nat×Nat×Nat)):Bool:=List.rec (motive:=λ_=>Bool) true (λx _ ih=>ac (Nat.beq x.2.1 b) false ih) l
def bA{α β:Type}(o:Option α)(k:α->Option β):Option β:=Option.rec (motive:=λ_=>Option β) none k o
def PM(c:T Cell)(g:Nat)(n o:Nat):Option (List AV):=
 Nat.rec (motive:=λ_=>Nat->Option (List AV)) (λ_=>some []) (λ_ ih o=>T.getK c o none λx=>match x with
  | .mk tag v=>ac (Nat.ble tag g) (fN (Nat.succ o) λo=>bA (ih o) λl=>some (v::l)) none) n o
def lD(cap:Option Nat)(len:Nat):Nat:=match cap with|some k=>k|none=>len
def PZ(loc:List (Nat×Nat×Nat))(b g o len:Nat)(cap:Option Nat)(es:Nat)(rows:Nat->List AV->(Ct->Nat->Tr)->Tr)(k:Ct->Nat->Tr):Tr:=.rd b λq=>match q with
 | .cells c gen lo hi fl fh ro ty=>ac ro .fail (ac (Nat.beq gen g) (ac (Nat.beq lo 0) (ac (Nat.beq fl 0) (ac (Nat.beq fh 0) (ac (Nat.beq g g) (ac (Nat.beq o 0) (ac (Nat.ble 1 len) (ac (ac (kg b loc) (ac (Nat.ble 1 es) (Nat.ble len (lD cap len)) false) false)
  (dr (PM c g (lD cap len * es) 0) .fail λas=>rows ty (as.take (len * es)) λct G'=>ac (Nat.beq ty G') (ac (Nat.beq ct.es es) (.req (ct.len=len) (k ct ty)) .fail) .fail)
  .fail) .fail) .fail) .fail) .fail) .fail) .fail) .fail)
 |_=>.fail
def ol(loc:List (Nat×Nat×Nat))(b g o len:Nat)(cap:Option Nat)(es:Nat)(rows:Nat->List AV->(Ct->Nat->Tr)->Tr)(k:AV->Tr):Tr:=PZ loc b g o len cap es rows λct ty=>.wr b (.grow ct g ty) (k (.gsl b g len es))
def qX(m len:Nat)(ty:Nat)(as:List AV)(k:Ct->Nat->Tr):Tr:=dr (dV (cP m) len as) .fail λq=>match q with|(gs,[])=>k (.rows m gs) ty|_=>.fail
def qY(ty:Nat)(as:List AV)(k:Ct->Nat->Tr):Tr:=dr (gf as) .fail λns=>.req (br ns) (k (.bytes (aH ns)) ty)
def qe(e:TypeId)(len:Nat):Option (Nat->List AV->(Ct->Nat->Tr)->Tr):=match P.underlying e with
 |some (.int .u8)=>some qY
 |some (.int .u32)=>some (qX 9 len)
 |some (.int .i64)=>some (qX 8 len)
 |some (.int .u64)=>some (qX 10 len)
 |_=>none
def JU(t:TypeId)(b g o:Nat)(ix:AV)(k:AV->Tr):Tr:=cq P t λd=>match d,co ix with
 | .array len e,some (_,i)=>cu P e λs=>ac (Nat.beq o 0) (ac (Nat.beq s 1) (.req (0<=i/\i<(len:Int)) (.rd b λq=>(match q with
  | .grow c gen _=>ac (Nat.beq g gen) (ac (Nat.beq c.es 1) (.req (0<c.len) (k (.gptr b g i.toNat 0 1))) .fail) .fail
  |_=>ac (Nat.beq g 0) (dr (qe P e len) .fail λrows=>ol [] b g 0 len (some len) 1 rows λ_=>k (.gptr b 0 i.toNat 0 1)) .fail))) .fail) .fail
 |_,_=>.fail
def JV(t:TypeId)(l:List AV)(ix:AV)(k:AV->Tr):Tr:=cq P t λd=>match d,co ix with
 | .array len e,some (_,i)=>cu P e λs=>ac (Nat.beq s 1) (dr (JS l) .fail λbs=>ac (Nat.ble len bs.length) (.req (0<=i/\i<(len:Int)) (k (.cptr [.sI .u8 ((bs.getD i.toNat 0:Nat):Int)]))) .fail) .fail
 |_,_=>.fail
def lW(t:TypeId)(x ix:AV)(k:AV->Tr):Tr:=match x with
 | .cptr l=>JV P t l ix k
 | .cv c=>D3 P t c ix k
 | .gsl b g n es=>D4 P t b g n es ix k
 | .ptr b g o=>ac (Ys ix) (JU P t b g o ix k) (kf P t (.ptr b g o) ix k)
 |x=>kf P t x ix k
def JW(t:TypeId)(s:List Nat)(i:Int)(k:AV->Tr):Tr:=cq P t λd=>match d with
 | .string=>.req (0<=i/\i<(s.length:Int)) (k (.sI .u8 ((jW s i.toNat:Nat):Int)))
 |_=>.fail
def D5(t:TypeId)(x ix:AV)(k:AV->Tr):Tr:=qU ix λ_ i=>Hr i λi=>cq P t λd=>match d,x with
 | .array len e,.agg cs=>ac (Nat.ble (Nat.succ i) len) (cu P e λn=>Tu P e cs (i * n) k) .fail
 | .string,.str s=>dr s[i]? .fail λb=>fN b λb=>k (.int .u8 (.ofNat b))
 |_,_=>.fail
def JX(t:TypeId)(x ix:AV)(k:AV->Tr):Tr:=ac (ac (BP x) true (BP ix)) (match ge x,co ix with|some s,some (_,i)=>JW P t s i k|_,_=>.fail) (D5 P t x ix k)
def ki(o:Option AV)(dflt top:Nat)(k:Nat->Tr):Tr:=match o with
 |none=>k dflt
 |some v=>qU v λ_ i=>Hr i λi=>ac (Nat.ble i top) (k i) .fail
def JY(len:Nat)(lo hi mx:Option AV)(k:Nat->Nat->Nat->Tr)(m:Nat):Tr:=match hi,mx with
 |none,some _=>.fail
 |_,_=>ki hi len m λh=>ki lo 0 h λl=>k l h m
def jd(len cap:Nat)(lo hi mx:Option AV)(k:Nat->Nat->Nat->Tr):Tr:=ki mx cap cap (JY len lo hi mx k)
def yA(b g o s l h m:Nat)(k:AV->Tr):Tr:=fN (h-l) λlen=>fN (m-l) λcap=>
 ac (Nat.beq m l) (k (.slc b g o len (some cap) s)) (fN (o+l * s) λo=>k (.slc b g o len (some cap) s))
def JZ(b g o s l h:Nat)(k:AV->Tr):Tr:=fN (h-l) λlen=>ac (Nat.beq l 0) (k (.slc b g o len none s)) (fN (o+l * s) λo=>k (.slc b g o len none s))
def D6(b g o len s:Nat)(lo hi mx:Option AV)(k:AV->Tr):Tr:=match mx with
 |none=>ki hi len len λh=>ki lo 0 h λl=>JZ b g o s l h k
 |some _=>ac (Nat.beq len 0) .fail (jd len len lo hi mx λl h m=>yA b g o s l h m k)
def BU(s:List Nat)(lo hi mx:Option AV)(k:AV->Tr):Tr:=match mx with
 |some _=>.fail
 |none=>fN s.length λn=>jd n n lo hi none λl h _=>vW ((s.take h).drop l) λr=>k (.str r)
def cN(o:Option AV)(dflt:Int)(k:Int->Tr):Tr:=match o with
 |none=>k dflt
 |some v=>(match co v with|some (_,i)=>k i|none=>.fail)
def Tw(o:Option AV):Bool:=match o with|some v=>BP v|none=>false
def uf(t:TypeId)(x:AV)(lo hi mx:Option AV)(k:AV->Tr):Tr:=cq P t λd=>match mx,d,x with
 |none,.slice e,.cv c=>cu P e λs=>ac (Nat.beq s c.es) (cN hi (c.len:Int) λh=>cN lo 0 λl=>.req (0<=l/\l<=h/\h<=(c.len:Int)) (k (.cv (c.cut l.toNat h.toNat)))) .fail
 |none,.string,x=>(match ge x with
  |some s=>cN hi (s.length:Int) λh=>cN lo 0 λl=>.req (0<=l/\l<=h/\h<=(s.length:Int)) (k (.sS ((s.take h.toNat).drop l.toNat)))
  |none=>.fail)
 |_,_,_=>.fail
def Ve(v:AV):Bool:=match v with | .cv _=>true|_=>false
def D7(t:TypeId)(x:AV)(lo hi mx:Option AV)(k:AV->Tr):Tr:=cq P t λd=>match d,x with
 | .array n e,.ptr b g o=>jd n n lo hi mx λl h m=>cu P e λs=>yA b g o s l h m k
 | .string,.str s=>BU s lo hi mx k
 | .slice e,.nils=>cu P e λ_=>jd 0 0 lo hi mx λ_ _ _=>k .nils
 | .slice e,.slc b g o len (some c) s=>cu P e λs'=>ac (Nat.beq s s') (jd len c lo hi mx λl h m=>yA b g o s l h m k) .fail
 | .slice e,.slc b g o len none s=>cu P e λs'=>ac (Nat.beq s s') (D6 b g o len s lo hi mx k) .fail
 |_,_=>.fail
def we(t:TypeId)(x:AV)(lo hi mx:Option AV)(k:AV->Tr):Tr:=ac (ac (BP x) true (ac (Ve x) true (ac (Tw lo) true (Tw hi)))) (uf P t x lo hi mx k) (D7 P t x lo hi mx k)
def isNone(o:Option AV):Bool:=match o with|none=>true|_=>false
def wg(n:Nat)(c:Ct)(lo hi:Option AV)(k:AV->Tr):Tr:=cN hi (n:Int) λh=>cN lo 0 λl=>.req (0<=l/\l<=h/\h<=(n:Int)) (k (.cv (c.cut l.toNat h.toNat)))
def J0(t:TypeId)(b g o:Nat)(q:ABlk)(lo hi mx:Option AV)(k:AV->Tr):Tr:=cq P t λd=>match mx,d with
 |none,.array n e=>cu P e λs=>ac (Nat.beq o 0) (match q with
  | .grow c gen _=>ac (Nat.beq g gen) (ac (Nat.beq c.es s) (ac (Nat.ble 1 n) (.req (c.len=n) (ac (ac (isNone lo) (isNone hi) false) (k (.gsl b g n s))
   (ac (Nat.ble (base+64) b) (.wr b (.froz c gen) (wg n c lo hi k)) .fail))) .fail) .fail) .fail
  | .froz c gen=>ac (Nat.beq g gen) (ac (Nat.beq c.es s) (ac (Nat.ble 1 n) (.req (c.len=n) (wg n c lo hi k)) .fail) .fail) .fail
  |_=>.fail) .fail
 |_,_=>.fail
def isGF(q:ABlk):Bool:=match q with | .grow _ _ _=>true | .froz _ _=>true|_=>false
def Tx(t:TypeId)(b g n es:Nat)(lo hi mx:Option AV)(k:AV->Tr):Tr:=cq P t λd=>match mx,d with
 |none,.slice e=>cu P e λs=>ac (Nat.beq s es) (cN hi (n:Int) λh=>cN lo 0 λl=>.ask (n=0) (.req (l=0/\h=0) (k (.gsl b g 0 es))) (.req (0<=l/\l<=h/\h<=(n:Int)) (k (.slc b g (l.toNat * es) (h-l).toNat none es)))) .fail
 |_,_=>.fail
def BV(t:TypeId)(x:AV)(lo hi mx:Option AV)(k:AV->Tr):Tr:=match x with
 | .gsl b g n es=>Tx P t b g n es lo hi mx k
 | .ptr b g o=>.rd b λq=>ac (isGF q) (J0 P t b g o q lo hi mx k) (we P t (.ptr b g o) lo hi mx k)
 |x=>we P t x lo hi mx k
def yB(x:AV)(i:Nat)(k:AV->Tr):Tr:=match x with | .tup l=>dr l[i]? .fail k|_=>.fail
def J1(x:AV)(k:Nat->Tr):Tr:=match x with
 | .nils=>k 0
 | .slc _ _ _ len _ _=>k len
 | .str s=>fN s.length k
 |_=>.fail
def om(size n:Nat)(x:AV)(k:List AV->Tr):Tr:=match x with
 | .nils=>k []
 | .slc b g o _ _ _=>ac (Nat.beq (n * size) 0) (k []) (fN (n * size) λm=>ke b g o m k)
 | .str s=>ac (Nat.beq size 1) (vW (s.take n) λs=>g_ (eO s) k) .fail
 |_=>.fail
def J2(g:Nat)(l:List AV)(i:Nat)(t:T Cell)(k:T Cell->Tr):Tr:=
 List.rec (motive:=λ_=>Nat->T Cell->(T Cell->Tr)->Tr) (λ_ t k=>k t) (λa _ ih i t k=>ac (gd a) (T.setK t i (.mk g a) λt=>fN (Nat.succ i) λi=>ih i t k) .fail) l i t k
def lX(e:TypeId)(size:Nat)(old new:List AV)(need:Nat)(k:AV->Tr):Tr:=
 g_ (old++new) λl=>qc e l λb=>k (.slc b 0 0 need none size)
def Yu(e:Nat)(b g o len size n need:Nat)(new:List AV)(k:AV->Tr):Tr:=.rd b λq=>match q with
 | .cells c gen lo hi fl fh ro ty=>ac ro .fail (ac (Nat.beq g gen) (ac (Nat.beq o lo) (ac (Nat.beq (o+len * size) hi) (ac (Nat.ble fh hi) (ac (Nat.beq ty e)
  (fN (Nat.succ gen) λg'=>J2 g' new hi c λc=>fN (hi+n * size) λhi'=>.wr b (.cells c g' lo hi' fl fh false e) (k (.slc b g' o need none size))) .fail) .fail) .fail) .fail) .fail)
 |_=>.fail
def J3(e:TypeId)(b g len size n:Nat)(new:List AV)(k:AV->Tr):Tr:=.rd b λq=>match q with
 | .grow c gen ty=>ac (Nat.beq g gen) (ac (Nat.beq c.es size) (ac (Nat.beq ty e) (ac (Nat.beq new.length (n * size)) (ac (new.all gd) (match c.app new n with
  |some (c',p)=>.req (c.len=len/\len<=1000000000/\p) (.wr b (.grow c' (gen+1) ty) (k (.gsl b (gen+1) (len+n) size)))
  |none=>.fail) .fail) .fail) .fail) .fail) .fail
 |_=>.fail
def kj(e:TypeId)(size n:Nat)(new:List AV)(s:AV)(k:AV->Tr):Tr:=match s with
 | .gsl b g len es=>ac (Nat.beq es size) (ac (Nat.beq n 0) (k (.gsl b g len es)) (J3 e b g len size n new k)) .fail
 | .nils=>ac (Nat.beq n 0) (k .nils) (lX e size [] new n k)
 | .slc b g o len cap es=>ac (Nat.beq es size) (ac (Nat.ble len 1000000) (ac (Nat.beq n 0) (k (.slc b g o len cap es))
  (fN (len+n) λneed=>match cap with
   |some c=>ac (Nat.ble need c) (fN (o+len * size) λp=>oh b g p new (k (.slc b g o need (some c) es)))
    (om size len s λold=>lX e size old new need k)
   |none=>Yu e b g o len size n need new k)) .fail) .fail
 |_=>.fail
def BW(x:AV):Option (List Nat):=match x with
 | .sS t=>some t
 | .cv (.bytes t)=>some t
 |_=>none
def Ty(e:TypeId)(b g len:Nat)(t:List Nat)(k:AV->Tr):Tr:=.rd b λq=>match q with
 | .grow (.bytes l0) gen ty=>ac (Nat.beq g gen) (ac (Nat.beq ty e) (.req (l0.length=len/\len<=1000000000/\t.length<=1000000) (.wr b (.grow (.bytes (l0++t)) (gen+1) ty) (k (.gsl b (gen+1) (len+t.length) 1)))) .fail) .fail
 |_=>.fail
def yC(e:TypeId)(t:List Nat)(k:AV->Tr)(a:AV):Tr:=match a with
 | .gsl b g len es=>ac (Nat.beq es 1) (Ty e b g len t k) .fail
 |_=>.fail
def wh(cap:Option Nat):Bool:=match cap with|some 0=>true|_=>false
def qf(e:TypeId)(size:Nat)(t:List Nat)(s:AV)(k:AV->Tr):Tr:=ac (Nat.beq size 1) (match s with
 | .gsl b g len es=>yC e t k (.gsl b g len es)
 | .nils=>.new (.grow (.bytes []) 0 e) λb=>yC e t k (.gsl b 0 0 1)
 | .slc b g o len cap es=>ac (Nat.beq es 1) (ac (Nat.beq len 0) (ac (wh cap) (.new (.grow (.bytes []) 0 e) λb=>yC e t k (.gsl b 0 0 1)) .fail) (ol [] b g o len cap 1 qY (yC e t k))) .fail
 |_=>.fail) .fail
def ug(e:TypeId)(size m:Nat)(l:List G)(k:AV->Tr)(a:AV):Tr:=match a with
 | .gsl b g len es=>ac (Nat.beq es size) (.rd b λq=>match q with
  | .grow (.rows m0 l0) gen ty=>ac (Nat.beq g gen) (ac (Nat.beq ty e) (ac (Nat.beq m0 m) (ac (Nat.beq (bn (cP m)) size) (.req (l0.length=len/\len<=1000000000/\l.length<=1000000) (.wr b (.grow (.rows m (l0++l)) (gen+1) ty) (k (.gsl b (gen+1) (len+l.length) es)))) .fail) .fail) .fail) .fail
  |_=>.fail) .fail
 |_=>.fail
def kR(e:TypeId)(size m:Nat)(l:List G)(s:AV)(k:AV->Tr):Tr:=match s with
 | .gsl b g len es=>ug e size m l k (.gsl b g len es)
 | .nils=>.new (.grow (.rows m []) 0 e) λb=>ug e size m l k (.gsl b 0 0 size)
 | .slc b g o len cap es=>ac (Nat.beq es size) (ac (Nat.beq len 0) (ac (wh cap) (.new (.grow (.rows m []) 0 e) λb=>ug e size m l k (.gsl b 0 0 size)) .fail) (ol [] b g o len cap es (qX m len) (ug e size m l k))) .fail
 |_=>.fail
def D8(x:AV):Option (Nat×List G):=match x with | .cv (.rows m l)=>some (m,l)|_=>none
def D9(e:TypeId)(size:Nat)(s x:AV)(k:AV->Tr):Tr:=match x with
 | .gsl b g n es=>.rd b λq=>match q with
  | .grow (.bytes t) gen _=>ac (Nat.beq g gen) (ac (Nat.beq es 1) (.req (t.length=n) (qf e size t s k)) .fail) .fail
  | .grow (.rows m l) gen _=>ac (Nat.beq g gen) (ac (Nat.beq es (bn (cP m))) (.ask (l.length=n) (kR e size m l s k) (.req (n<=l.length) (kR e size m (l.take n) s k))) .fail) .fail
  |_=>.fail
 | .slc b g o n none es=>.rd b λq=>match q with
  | .grow (.rows m l) gen _=>ac (Nat.beq g gen) (ac (Nat.beq es (bn (cP m))) (.req (o=o/es * es/\o/es+n<=l.length) (kR e size m ((l.drop (o/es)).take n) s k)) .fail) .fail
  |_=>J1 (.slc b g o n none es) λn'=>ac (Nat.ble n' 1000000) (om size n' (.slc b g o n none es) λnew=>kj e size n' new s k) .fail
 |x=>match D8 x with
  |some (m,l)=>kR e size m l s k
  |none=>match BW x with
   |some t=>qf e size t s k
   |none=>J1 x λn=>ac (Nat.ble n 1000000) (om size n x λnew=>kj e size n new s k) .fail
def D_(e:TypeId)(s x:AV)(k:AV->Tr):Tr:=Tq P e λi=>ac (Nat.ble i.bytes 1000) (fN i.size λsize=>ac (Nat.ble 1 size)
 (qV P e λz=>gZ z λz=>ac (Nat.beq z.length size) (D9 e size s x k) .fail) .fail) .fail
def wi(tys:Array TypeId)(args:List AV)(k:AV->Tr):Tr:=match tys[0]?,tys[1]?,args with
 |some ts,some tx,[s,x]=>cq P ts λd=>cq P tx λdx=>(match d,dx with
  |_,.int _=>.fail
  | .slice e,_=>D_ P e s x k
  |_,_=>.fail)
 |_,_,_=>.fail
def BX(tys:Array TypeId)(args:List AV)(k:AV->Tr):Tr:=match tys[0]?,args with
 |some t,[x]=>cq P t λd=>(match d,x with
  | .string,.str s=>fN s.length λn=>k (.int .i64 (.ofNat n))
  | .array n _,_=>k (.int .i64 (.ofNat n))
  | .slice _,.nils=>k (.int .i64 0)
  | .slice _,.slc _ _ _ len _ _=>k (.int .i64 (.ofNat len))
  | .slice _,.osl _=>k (.anyI .i64)
  | .slice _,.cv c=>k (.sI .i64 (c.len:Int))
  | .slice _,.gsl _ _ n _=>k (.sI .i64 (n:Int))
  | .string,.sS s=>k (.sI .i64 (s.length:Int))
  | .map _ _,.nilm=>k (.int .i64 0)
  | .map _ _,.map b=>.rd b λq=>(match q with | .mapo es _=>fN es.length λn=>k (.int .i64 (.ofNat n)) | .smap _ l=>k (.sI .i64 (l.length:Int))|_=>.fail)
  |_,_=>.fail)
 |_,_=>.fail
def Tz(b g len:Nat)(t:List Nat)(k:AV->Tr):Tr:=.rd b λq=>match q with
 | .grow (.bytes l0) gen ty=>ac (Nat.beq g gen) (.req (l0.length=len) (.wr b (.grow (.bytes (t.take len++l0.drop t.length)) gen ty) (k (.sI .i64 ((min t.length len:Nat):Int))))) .fail
 |_=>.fail
def J4(t:List Nat)(k:AV->Tr)(a:AV):Tr:=match a with
 | .gsl b g len es=>ac (Nat.beq es 1) (Tz b g len t k) .fail
 |_=>.fail
def Yv(t:List Nat)(d:AV)(k:AV->Tr):Tr:=match d with
 | .gsl b g len es=>J4 t k (.gsl b g len es)
 | .slc b g o len cap es=>ac (Nat.beq es 1) (ol [] b g o len cap 1 qY (J4 t k)) .fail
 |_=>.fail
def J5(tys:Array TypeId)(args:List AV)(k:AV->Tr):Tr:=(λ_=>.fail) P
def J6(tys:Array TypeId)(args:List AV)(k:AV->Tr):Tr:=match args with
 | [d,x]=>(match BW x with
  |some t=>(match tys[0]? with
   |some ty=>cq P ty λdd=>(match dd with
    | .slice e=>cu P e λsize=>ac (Nat.beq size 1) (Yv t d k) .fail
    |_=>.fail)
   |none=>.fail)
  |none=>J5 P tys [d,x] k)
 |_=>.fail
end
end Go.Sym
namespace Go.Sym
noncomputable section
variable(P:Program)
def dt:Nat->AV->AV->Bool
 |0,_,_=>false
 |f+1,x,y=>match x,y with
  | .bool a,.bool b=>a==b
  | .int j a,.int j' b=>ac (decide (j=j')) (a==b) false
  | .str a,.str b=>DW a b
  | .agg a,.agg b=>sameAll (dt f) a b
  |_,_=>false
where
 sameAll (q:AV->AV->Bool):List AV->List AV->Bool
  | [],[]=>true
  |a::x,b::y=>ac (q a b) (sameAll q x y) false
  |_,_=>false
def gG(q:AV->AV->Option Bool)(key:AV):List ME->Nat->Option (Option (Nat×AV))
 | [],_=>some none
 | .mk k v _::es,i=>match q key k with
  |some true=>some (some (i,v))
  |some false=>gG q key es (i+1)
  |none=>none
def BY:Nat->TypeId->Bool
 |0,_=>false
 |f+1,t=>match P.underlying t with
  |some .bool|some (.int _)|some .string=>true
  |some (.struct fs)=>!P.stoodInHeld t && fs.toList.all λfd=>fd.name != "_" && BY f fd.type
  |some (.array _ e)=>BY f e
  |_=>false
def BZ:Nat->TypeId->AV->Bool
 |0,_,_=>false
 |f+1,t,v=>match P.underlying t with
  |some .bool|some (.int _)|some .string=>true
  |some (.struct fs)=>(match v with
   | .agg l=>fs.toList.all λfd=>match P.info? fd.type,P.underlying fd.type with
    |some i,some d=>(match(if cw d then some (AV.agg ((l.drop fd.offset).take i.size)) else l[fd.offset]?) with
     |some a=>BZ f fd.type a
     |none=>false)
    |_,_=>false
   |_=>false)
  |some (.array n e)=>(match v,P.info? e,P.underlying e with
   | .agg l,some i,some d=>Nat.beq i.size 1 && !cw d && Nat.beq l.length n && l.all (BZ f e)
   |_,_,_=>false)
  |_=>false
def J7(x:AV)(k1:Nat->Nat->List G->Tr)(k0:Tr):Tr:=match x with
 | .map b=>.rd b λq=>(match q with | .smap m l=>k1 b m l|_=>k0)
 |_=>k0
def Ht(m:Nat)(d:TypeDesc):Bool:=match(bI m).ka with
 |true=>(match vY P d with|some ks=>decide (ks=(bI m).ks)|none=>false)
 |false=>(match d with | .int j=>decide ((bI m).ks= [j])|_=>false)
def Vf(m:Nat)(ix:AV):Option (List Int):=match(bI m).ka,ix with
 |true,.agg xs=>dA (bI m).ks xs
 |true,_=>none
 |false,a=>dA (bI m).ks [a]
def J8(m:Nat)(kt:TypeId)(ix:AV)(k:List Int->Tr):Tr:=
 ac (BY P 8 kt) (ac (BZ P 8 kt ix) (cq P kt λd=>ac (Ht P m d) (dr (Vf m ix) .fail k) .fail) .fail) .fail
def Vg(m:Nat)(v:AV):Option (List G):=match(bI m).va,v with
 |true,.agg l=>(match fP (bI m).vs l with|some (gs,[])=>some gs|_=>none)
 |true,_=>none
 |false,a=>(match fP (bI m).vs [a] with|some ([g],[])=>some [g]|_=>none)
def Vh(kt e:TypeId)(m:Nat)(l:List G)(ix:AV)(ok:Bool)(k:AV->Tr):Tr:=J8 P m kt ix λns=>
 .ask (jM m l ns) (ac ok (k (.tup [jE m (eM m l ns),.bool true])) (k (jE m (eM m l ns)))) (qV P e λz=>ac ok (k (.tup [z,.bool false])) (k z))
def yD(t:TypeId)(x ix:AV)(ok:Bool)(k:AV->Tr):Tr:=(λ_=>.fail) P
def Ea(t:TypeId)(x ix:AV)(ok:Bool)(k:AV->Tr):Tr:=J7 x (λ_ m l=>cq P t λd=>match d with
 | .map kt e=>Vh P kt e m l ix ok k
 |_=>.fail) (yD P t x ix ok k)
def px(t:TypeId)(x key v:AV)(k:Tr):Tr:=(λ_=>.fail) P
def qZ(t:TypeId)(x key v:AV)(k:Tr):Tr:=J7 x (λb m l=>cq P t λd=>match d with
 | .map kt e=>J8 P m kt key λns=>dr (Vg m v) .fail λvs=>.wr b (.smap m (cU m l ns vs)) k
 |_=>.fail) (px P t x key v k)
def J9(t:TypeId)(x:AV)(k:AV->Tr):Tr:=cq P t λd=>match d,x with
 | .map _ _,.map m=>.rd m λq=>(match q with | .mapo _ clock=>.new (.miter (some m) clock [] clock) λb=>k (.ptr b 0 0)|_=>.fail)
 |_,_=>.fail
def wj(l:List Nat)(n:Nat):Bool:=List.rec (motive:=λ_=>Bool) false (λa _ ih=>ac (Nat.beq a n) true ih) l
def yE(seen:List Nat)(since:Nat):List ME->Option (List ME)
 | []=>some []
 | .mk a v n::es=>if n<since then(match yE seen since es with|some l=>some (ac (wj seen n) l (.mk a v n::l))|none=>none) else none
def TA(it:AV)(isStr:Bool)(k:AV->Tr):Tr:=match it with
 | .ptr b 0 0=>.rd b λq=>(match q,isStr with
  | .miter none _ _ _,false=>k (.tup [.bool false])
  | .miter (some m) since seen stepped,false=>.rd m λq=>(match q with
   | .mapo es clock=>ac (Nat.ble since stepped) (dr (yE seen since es) .fail λleft=>(match left with
    | []=>k (.tup [.bool false])
    |_=>.fail)) .fail
   |_=>.fail)
  |_,_=>.fail)
 |_=>.fail
def uh(x:AV)(k:AV->Tr):Tr:=match x with
 | .ptr b g o=>k (.ptr b g o)
 | .cptr l=>k (.cptr l)
 | .func (.func f) l m=>k (.func (.func f) l m)
 | .func (.yield f) l m=>k (.func (.yield f) l m)
 |_=>.fail
def ltI(a b:Int):Bool:=match a,b with
 | .ofNat a,.ofNat b=>Nat.ble (Nat.succ a) b
 |a,b=>decide (a<b)
def gh(mx:Bool):List AV->AV->(AV->Tr)->Tr
 | [],x,k=>k x
 |y::rest,x,k=>(match x,y with
  | .int j a,.int j' b=>ac (decide (j=j')) (ac (ac mx (ltI a b) (ltI b a)) (gh mx rest (.int j b) k) (gh mx rest (.int j a) k)) .fail
  |x,y=>(match co x,co y with
   |some (j,a),some (j',b)=>ac (decide (j=j')) (gh mx rest (.sI j (match mx with|true=>max a b|false=>min a b)) k) .fail
   |_,_=>.fail))
def Eb(mx:Bool)(l:List AV)(k:AV->Tr):Tr:=match l with
 | []=>.fail
 |x::rest=>gh mx rest x k
def q_(x:AV)(k:AV->Tr):Tr:=match x with
 | .gsl b g n es=>.rd b λq=>(match q with
  | .froz c gen=>ac (Nat.beq g gen) (ac (Nat.beq c.es es) (.req (c.len=n) (k (.cv c))) .fail) .fail
  |_=>k (.gsl b g n es))
 |x=>k x
def P0(x:AV)(k:AV->Tr):Tr:=match x with
 | .ptr b g o=>.rd b λq=>(match q with
  | .grow c gen _=>ac (Nat.beq g gen) (ac (Nat.beq c.es 1) (.req (0<c.len) (k (.gptr b g o 0 1))) .fail) .fail
  |_=>k (.ptr b g o))
 |x=>k x
def oo(l:List AV)(k:List AV->Tr):Tr:=List.rec (motive:=λ_=>(List AV->Tr)->Tr) (λk=>k []) (λx _ ih k=>q_ x λx=>ih λl=>k (x::l)) l k
def frz0(x:AV)(k:AV->Tr):Tr:=match x with
 | .gsl b g n es=>.rd b λq=>(match q with
  | .grow c gen _=>ac (ac (ac (Nat.beq g gen) (Nat.beq c.es es) false) (Nat.ble (base+64) b) false) (.req (c.len=n) (.wr b (.froz c gen) (k (.cv c)))) (k (.gsl b g n es))
  | .froz c gen=>ac (Nat.beq g gen) (ac (Nat.beq c.es es) (.req (c.len=n) (k (.cv c))) .fail) .fail
  |_=>k (.gsl b g n es))
 |x=>k x
def J_(x:AV)(k:AV->Tr):Tr:=match x with
 | .slc b g o len cap es=>ac (ac (Nat.beq es 6) (Nat.ble 1 len) false) (ol [] b g o len cap es (qX 2 len) λa=>frz0 a k) (k (.slc b g o len cap es))
 |x=>frz0 x k
def Ka(l:List AV)(k:List AV->Tr):Tr:=List.rec (motive:=λ_=>(List AV->Tr)->Tr) (λk=>k []) (λx _ ih k=>J_ x λx=>ih λl=>k (x::l)) l k
def yF(x:AV)(k:AV->Tr):Tr:=match x with
 | .agg l=>Ka l λl=>k (.agg l)
 |x=>J_ x k
def Kb(l:List (Nat×AV))(k:List (Nat×AV)->Tr):Tr:=List.rec (motive:=λ_=>(List (Nat×AV)->Tr)->Tr) (λk=>k []) (λx _ ih k=>yF x.2 λa=>ih λl=>k ((x.1,a)::l)) l k
def Kc(a v:AV)(k:AV->Tr):Tr:=match a with
 | .gptr _ _ _ _ _=>yF v k
 |_=>k v
abbrev cS:=Nat->List AV->(AV->Tr)->Tr
def mS(b:Builtin)(tys:Array TypeId)(args:List AV)(k:AV->Tr):Tr:=match b with
 | .append=>wi P tys args k
 | .len=>BX P tys args k
 | .copy=>J6 P tys args k
 | .max=>Eb true args k
 |_=>.fail
def Ec(f:Nat):Bool:=match P.funcs[f]? with
 |some fn=>(match fn.body with
  |none=>decide (fn.origin= "")
  |some _=>false)
 |none=>false
def P1(i:Nat)(args:List AV)(k:AV->Tr):Tr:=match P.funcs[i]? with
 |some fn=>ac (decide (fn.name= "internal/abi.NoEscape")) (match args with | [x]=>k x|_=>.fail)
  .fail
 |none=>.fail
def Ed(en:cS)(rn:cS)(f:AV)(args:List AV)(k:AV->Tr):Tr:=match f with
 | .func (.func i) first cap=>ac (Ec P i) (P1 P i (first++args++cap) k) (en i (first++args++cap) k)
 | .func (.yield l) first cap=>rn l (first++args) k
 |_=>.fail
def Kd(k:AV->Tr):Tr:=k (.tup [])
def P2(en rn:cS)(env:T AV)(op:Op)(k:AV->Tr):Tr:=match op with
 | .move x=>fB env x k
 | .assign x=>fB env x k
 | .pick c a b=>fB env c λc=>DU c λc=>ac c (fB env a k) (fB env b k)
 | .alloc t=>qV P t λz=>mQ t z k
 | .box t x=>fB env x λv=>mQ t v k
 | .build t ps=>iz env ps.toList λl=>JR P t l k
 | .buildSlice t n ps=>iz env ps.toList λl=>Kb l λl=>pw P t n l k
 | .load t a=>fB env a λa=>P0 a λa=>yx P t a k
 | .store t a v=>fB env a λa=>fB env v λv=>P0 a λa=>Kc a v λv=>JQ P t a v (Kd k)
 | .nilCheck x=>fB env x λx=>uh x k
 | .binOp op t x y _=>fB env x λa=>fB env y λb=>JO P (ac (pu x) true (pu y)) op t a b k
 | .unOp op _ x=>fB env x λx=>Ts op x k
 | .convert s d x=>fB env x λx=>q_ x λx=>Tt P s d x k
 | .makeFunc fn first cap=>ac (yt fn) (mP env first.toList λa=>mP env cap.toList λb=>k (.func fn a b)) .fail
 | .makeMap t r=>(match r with
  |none=>.new (.mapo [] 0) λb=>k (.map b)
  |some x=>cq P t λd=>(match d with | .map _ _=>fB env x λv=>qU v λ_ _=>.new (.mapo [] 0) λb=>k (.map b)|_=>.fail))
 | .slice t x lo hi mx=>fB env x λx=>Hs env lo λlo=>Hs env hi λhi=>Hs env mx λmx=>q_ x λx=>BV P t x lo hi mx k
 | .fieldAddr t x f=>fB env x λx=>qW P t x f k
 | .indexAddr t x i=>fB env x λx=>fB env i λi=>q_ x λx=>lW P t x i k
 | .index t x i=>fB env x λx=>fB env i λi=>JX P t x i k
 | .lookup t x i ok=>fB env x λx=>fB env i λi=>Ea P t x i ok k
 | .mapUpdate t m i v=>fB env m λm=>fB env i λi=>fB env v λv=>qZ P t m i v (Kd k)
 | .range t x=>fB env x λx=>J9 P t x k
 | .next it s=>fB env it λit=>TA it s k
 | .extract t i=>fB env t λt=>yB t i k
 | .call c=>(match c.callee with
  | .builtin b=>mP env c.args.toList λl=>oo l λl=>mS P b c.argTypes l k
  | .value f=>fB env f λf=>mP env c.args.toList λl=>Ed P en rn f l k
  | .invoke _ _=>.fail)
 |_=>.fail
inductive AEx where
 |normal
 |exit (id:Nat)
 |goto (l:Nat)
 |ret
abbrev XK:=AEx->T AV->List Nat->Tr
abbrev X:=Code->T AV->Nat->Nat->Option Nat->List Nat->XK->Tr
def yG(nt:Nat)(dst:Option Nat)(v:AV)(env:T AV)(k:T AV->Tr):Tr:=match dst with
 |none=>k env
 |some d=>ac (Nat.ble (Nat.succ d) nt) (T.setK env d v k) .fail
def kn(ops:Array Oper)(env:T AV)(o:Oper)(yes no:Tr):Tr:=match o.guard with
 |none=>yes
 |some (j,want)=>(match ops[j]? with
  |some oj=>(match oj.dst with
   |some d=>T.getK env d .fail λv=>(match v with | .bool b=>ac (b==want) yes no | .sB p=>ac want (.ask p yes no) (.ask p no yes) | .tup _=>no|_=>.fail)
   |none=>.fail)
  |none=>.fail)
def qg(ops:Array Oper)(env:T AV)(o:Oper)(yes no:T AV->Tr):Tr:=match o.guard with
 |none=>yes env
 |some (j,want)=>(match ops[j]? with
  |some oj=>(match oj.dst with
   |some d=>T.getK env d .fail λv=>(match v with
    | .bool b=>ac (b==want) (yes env) (no env)
    | .sB p=>.ask p (T.setK env d (.bool true) λenv=>ac want (yes env) (no env)) (T.setK env d (.bool false) λenv=>ac want (no env) (yes env))
    | .tup _=>no env
    |_=>.fail)
   |none=>.fail)
  |none=>.fail)
def P3(en rn:cS)(nt:Nat)(ops:Array Oper)(l:List Oper)(env:T AV)(k:T AV->Tr):Tr:=
 List.rec (motive:=λ_=>T AV->(T AV->Tr)->Tr) (λenv k=>k env) (λo _ ih env k=>
  qg ops env o (λenv=>P2 P en rn env o.op λv=>yG nt o.dst v env λenv=>ih env k) (λenv=>yG nt o.dst (.tup []) env λenv=>ih env k)) l env k
inductive Note where
 |mk (c c':Nat) (t:T Unit) (w:List Nat)
def oq(t:T Unit)(l:List Nat):Bool:=List.rec (motive:=λ_=>Bool) true (λb _ ih=>T.getK t b ih λ_=>false) l
def cW(c c':Nat)(l:List Nat):Bool:=List.rec (motive:=λ_=>Bool) true (λb _ ih=>ac (Nat.ble c b) (ac (Nat.ble (Nat.succ b) c') false ih) ih) l
def B0(a b:Note):Bool:=match a,b with
 | .mk c c' t w,.mk d d' u v=>ac (oq u w) (ac (oq t v) (ac (cW c c' (T.keys u id [])) (ac (cW c c' v) true false) false) false) false
def je:List Oper->List Nat->List Nat
 | [],acc=>acc
 |o::l,acc=>je l (acc++ [o.after.toList.foldl (λs e=>if Region.binds .any e then s ||| 2 ^ e.on ||| acc.getD e.on 0 else s) 0])
def looks(ops:Array Oper)(o:Oper):List Nat:=
 o.op.operands.toList.filterMap (λ| .tmp t=>some t|_=>none)++(match o.guard with|some (j,_)=>(match ops[j]? with|some oj=>oj.dst.toList|none=>[])|none=>[])
def wk(ops:Array Oper)(a b:Oper):Bool:=
 (match a.dst with|some d=>!(looks ops b).contains d|none=>true) && (match b.dst with|some d=>!(looks ops a).contains d|none=>true) && (match a.dst,b.dst with|some d,some e=>d !=e|_,_=>true)
def ot(ops:Array Oper):Bool:=
 let bs:=je ops.toList []
 ops.toList.zipIdx.all λ(o,j)=>o.after.toList.all (λe=>!Region.binds .any e || decide (e.on<j)) && (ops.toList.zipIdx.all λ(p,i)=>!(decide (i<j)) || (bs.getD j 0).testBit i || wk ops p o)
def ou(bs:List Nat):List (Nat×Note)->Bool
 | []=>true
 |(j,b)::l=>ac (l.all λ(i,a)=>ac ((bs.getD j 0).testBit i) true (B0 a b)) (ou bs l) false
def Ee(en rn:cS)(nt:Nat)(ops:Array Oper)(l:List Oper)(i:Nat)(env:T AV)(ns:List (Nat×Note))(k:T AV->Tr):Tr:=
 List.rec (motive:=λ_=>Nat->T AV->List (Nat×Note)->(T AV->Tr)->Tr) (λ_ env ns k=>ac (ou (je ops.toList []) ns) (k env) .fail) (λo _ ih i env ns k=>
  .sub (kn ops env o (P2 P en rn env o.op .ret) (.ret (.tup []))) λv c c' t w=>yG nt o.dst v env λenv=>fN (Nat.succ i) λi'=>ih i' env ((i,.mk c c' t w)::ns) k) l i env ns k
def Ke(l:List AV)(i:Nat)(t:T AV)(k:T AV->Tr):Tr:=
 List.rec (motive:=λ_=>Nat->T AV->(T AV->Tr)->Tr) (λ_ t k=>k t) (λa _ ih i t k=>T.setK t i a λt=>fN (Nat.succ i) λi=>ih i t k) l i t k
def Kf(env:T AV)(l:List ResultVar)(k:List AV->Tr):Tr:=
 List.rec (motive:=λ_=>(List AV->Tr)->Tr) (λk=>k []) (λr _ ih k=>(match r with
  | .tmp t=>T.getK env t .fail λv=>ih λl=>k (v::l)
  | .cell a t=>T.getK env a .fail λp=>yx P t p λv=>ih λl=>k (v::l))) l k
def wl(df:List Nat)(k:Tr):Tr:=
 List.rec (motive:=λ_=>Tr->Tr) (λk=>k) (λb _ ih k=>.rd b λq=>(match q with | .dfr true=>.wr b (.dfr false) (ih k)|_=>.fail)) df k
def mT(x:X):cS:=λf args k=>dr P.funcs[f]? .fail λfn=>dr fn.body .fail λc=>
 ac (decide (fn.name= "runtime.NumGoroutine")) .fail (ac (Nat.ble args.length fn.ntmps) (Ke args 0 .leaf λenv=>x c env fn.ntmps f none [] λex env df=>
  (match ex with
  | .normal | .ret=>wl df (Kf P env fn.results.toList λl=>(match l with | [v]=>k v|l=>k (.tup l)))
  |_=>.fail)) .fail)
def Ef(l:List Nat)(vs:List AV)(nt:Nat)(t:T AV)(k:T AV->Tr):Tr:=match l,vs with
 | [],[]=>k t
 |p::l,v::vs=>ac (Nat.ble (Nat.succ p) nt) (T.setK t p v λt=>Ef l vs nt t k) .fail
 |_,_=>.fail
def iA(l:Nat)(jump:Option Code)(k:AV->Tr):Tr:=.rd l λq=>match q with
 | .loop _ _ fn nt tmps ps as bd d=>.wr l (.loop (match jump with|none=>.ready|some _=>.done) jump fn nt tmps ps as bd d) (k (.bool (match jump with|none=>true|some _=>false)))
 |_=>.fail
def B1(x:X):cS:=λl args k=>.rd l λq=>match q with
 | .loop _ _ fn nt tmps ps as bd d=>Ef ps args nt tmps λenv=>x as env nt fn (some l) [] λex env df=>(match ex,df with
  | .normal,[]=>.rd l λq=>(match q with
   | .loop .ready jump fn nt' tmps ps j6 bd' d=>.wr l (.loop .busy jump fn nt' tmps ps j6 bd' d) (x bd env nt fn (some l) [] λex env df=>(match df with
    | []=>(match ex with
     | .normal=>iA l none k
     | .ret=>iA l (some .ret) k
     | .exit id=>iA l (some (.exit id)) k
     | .goto t=>iA l (some (.goto t)) k)
    |_=>.fail))
   |_=>.fail)
  |_,_=>.fail)
 |_=>.fail
def B2(fn nt:Nat)(tmps:T AV)(ps:List Nat)(as bd:Code)(eJ:Option Nat)(df:List Nat)(k:Nat->List Nat->Tr):Tr:=match eJ with
 |none=>.new (.dfr true) λd=>.new (.loop .ready none fn nt tmps ps as bd d) λl=>k l (d::df)
 |some _=>.fail
def B3(x:X)(g:AV)(l:Nat)(k:Tr->Tr)(go:Code->Tr)(z:Tr):Tr:=
 match g with
 | .func (.func i) first cap=>mT P x i (first++ [.func (.yield l) [] []]++cap) λ_=>.rd l λq=>(match q with
  | .loop st jump fn nt tmps ps as bd d=>(match st with
   | .busy=>.fail
   |_=>.wr l (.loop .exhausted jump fn nt tmps ps as bd d) (match jump with|none=>z|some c=>go c))
  |_=>.fail)
 |_=>.fail
inductive Memo where
 |mk (f:Nat) (ty:Option Nat) (arg:List Nat) (res:AV)
def memF(f:Nat)(l:List Memo):Bool:=List.rec (motive:=λ_=>Bool) false (λm _ ih=>match m with | .mk g _ _ _=>ac (Nat.beq f g) true ih) l
def B4(a b:Option Nat):Bool:=match a,b with
 |none,none=>true
 |some a,some b=>Nat.beq a b
 |_,_=>false
def dY(f:Nat)(ty:Option Nat)(arg:List Nat)(l:List Memo):Option AV:=List.rec (motive:=λ_=>Option AV) none (λm _ ih=>match m with
 | .mk g u a r=>ac (Nat.beq f g) (ac (B4 ty u) (ac (DW arg a) (some r) ih) ih) ih) l
def lE(f:Nat):Bool:=match P.funcs[f]? with
 |some fn=>(match fn.body with|some _=>!decide (fn.name= "runtime.NumGoroutine")|none=>false)
 |none=>false
def Yw(M:List Memo)(f:Nat)(a:AV)(k:AV->Tr)(z:Tr):Tr:=match a with
 | .slc b g o n none es=>ac (Nat.beq o 0) (ac (Nat.beq es 1) (.rd b λq=>(match q with
  | .cells c gen lo _ _ _ _ ty=>ac (Nat.beq lo 0) (ac (Nat.ble g gen) (ac (Nat.ble 1 n) (PY c g n 0 λl=>dr (JS l) .fail λbs=>dr (dY f (some ty) bs M) z λr=>ac (lE P f) (k r) .fail) .fail) .fail) .fail
  |_=>.fail)) z) z
 | .str s=>dr (dY f none s M) z λr=>ac (lE P f) (k r) .fail
 |_=>z
def Kg(M:List Memo)(en:cS):cS:=λf args k=>ac (memF f M) (match args with | [a]=>Yw P M f a k (en f args k) | []=>dr (dY f (some 0) [] M) (en f args k) λr=>ac (lE P f) (k r) .fail|_=>en f args k) (en f args k)
structure Tab where
 memos:List Memo
 con:Nat->List AV->Option ((AV->Tr)->Tr)
 blk:Nat->Nat->Option (Nat->T AV->(AEx->T AV->Tr)->Tr)
def Kh(M:Tab)(en:cS):cS:=λf args k=>dr (M.con f args) (Kg P M.memos en f args k) λt=>t k
def yH(c:Code):Bool:=match c with | .ret=>true | .exit _=>true | .goto _=>true|_=>false
variable(M:Tab)
def FX(x:X):X:=λc env nt fn eJ df k=>match c with
 | .skip=>k .normal env df
 | .label _=>k .normal env df
 | .ret=>k .ret env df
 | .exit id=>k (.exit id) env df
 | .goto l=>k (.goto l) env df
 | .region _ ops draw=>ac draw (ac (P.follows .mixedOrders) (ac (Nat.ble nt 1000000000) (ac (ot ops) (Ee P (Kh P M (mT P x)) (B1 x) nt ops ops.toList 0 env [] λenv=>k .normal env df) .fail) .fail) .fail)
  (P3 P (Kh P M (mT P x)) (B1 x) nt ops ops.toList env λenv=>k .normal env df)
 | .seq a b=>x a env nt fn eJ df λex env df=>(match ex with
  | .normal=>x b env nt fn eJ df k
  |ex=>k ex env df)
 | .cond c a b=>fB env c λv=>Tp v (x a env nt fn eJ df k) (x b env nt fn eJ df k)
 | .block id c=>dr (match eJ,df with|none,[]=>M.blk fn id|_,_=>none) (x c env nt fn eJ df λex env df=>(match ex with
  | .exit id'=>ac (Nat.beq id' id) (k .normal env df) (k (.exit id') env df)
  |ex=>k ex env df)) λt=>t nt env λex env=>k ex env df
 | .loop c=>x c env nt fn eJ df λex env df=>(match ex with
  | .normal=>x (.loop c) env nt fn eJ df k
  |ex=>k ex env df)
 | .rangeFunc g ps as bd=>B2 fn nt env ps.toList as bd eJ df λl df=>fB env g λg=>
  B3 P x g l id (λc=>ac (yH c) (x c env nt fn eJ df k) .fail) (k .normal env df)
 |_=>.fail
def wm(n:Nat):X:=Nat.rec (motive:=λ_=>X) (λ_ _ _ _ _ _ _=>.fail) (λ_ x=>FX P M x) n
def start(H:T ABlk)(next:Nat):St:=.mk H next 0 .leaf []
end
end Go.Sym
namespace Go.Sym
open Go.RowKit (Below)
def SI:St->Prop
 | .mk h n fs tc w=>1<=n/\n<=1000000001/\fs<=n/\(∀b∈w,tc.get b=some ())/\∀b,tc.get b=some ()->b<fs
def cX{b:Nat}{k:ABlk->Tr}{σ:St}{K:Fin}(hS:SI σ)(h:run (.rd b k) σ K=true):b+1<2 ^ 64:=by
 cases σ with
 |mk H n fs tc w=>
  rw[gY] at h;split at h;case isFalse=>cases h
  obtain⟨h1,h2,_⟩:=hS;omega
def bG{b:Nat}{k:ABlk->Tr}{σ:St}{K:Fin}(hS:SI σ)(h:run (.rd b k) σ K=true):
 ∃x a8,σ.h.get b=some x/\a8.h=σ.h/\SI a8/\run (k x) a8 K=true:=by
 cases σ with
 |mk H n fs tc w=>
  rw[gY] at h
  split at h
  case isFalse=>cases h
  rename_i hbn
  split at h
  ·cases h
  ·rename_i x hb;refine⟨x,_,hb, ?_, ?_,h⟩
   ·rfl
   ·obtain⟨h1,h2,h3,h5,h6⟩:=hS;have c7:b+1<2 ^ 64:=by omega
    show 1<=n/\n<=1000000001/\fs<=n/\(∀y∈w,(note fs b tc).get y=some ())/\∀y,(note fs b tc).get y=some ()->y<fs;refine⟨h1,h2,h3,λy hy=>dJ c7 (h5 y hy),λy hy=>?_⟩;by_cases e:fs<=b
    ·rw[note,if_pos e] at hy;exact h6 y hy
    ·by_cases ey:y=b
     ·omega
     ·rw[note,if_neg e,T.get_set_ne _ ey] at hy;exact h6 y hy
def fo{b:Nat}{x:ABlk}{k:Tr}{σ:St}{K:Fin}(hS:SI σ)(h:run (.wr b x k) σ K=true):
 ∃x0 a8,σ.h.get b=some x0/\a8.h=σ.h.set b x/\SI a8/\b+1<2 ^ 64/\run k a8 K=true:=by
 cases σ with
 |mk H n fs tc w=>
  rw[jX] at h
  split at h
  case isFalse=>cases h
  rename_i hbn
  split at h
  ·cases h
  ·rename_i x0 hb;obtain⟨h1,h2,h3,h5,h6⟩:=hS;have c7:b+1<2 ^ 64:=by omega
   refine⟨x0,_,hb,rfl, ?_,c7,h⟩;show 1<=n/\n<=1000000001/\fs<=n/\(∀y∈gB fs b w,(note fs b tc).get y=some ())/\∀y,(note fs b tc).get y=some ()->y<fs;refine⟨h1,h2,h3,λy hy=>?_,λy hy=>?_⟩
   ·rcases og hy with hy|⟨e,hy⟩
    ·exact dJ c7 (h5 y hy)
    ·subst e;exact jY c7 hy
   ·by_cases e:fs<=b
    ·rw[note,if_pos e] at hy;exact h6 y hy
    ·by_cases ey:y=b
     ·omega
     ·rw[note,if_neg e,T.get_set_ne _ ey] at hy;exact h6 y hy
def gi{x:ABlk}{k:Nat->Tr}{σ:St}{K:Fin}(hS:SI σ)(h:run (.new x k) σ K=true):
 ∃n a8,σ.h.get n=none/\n+1<2 ^ 64/\a8.h=σ.h.set n x/\SI a8/\run (k n) a8 K=true:=by
 cases σ with
 |mk H n fs tc w=>
  rw[gC] at h
  split at h
  ·split at h
   ·cases h
   ·rename_i hn j5;obtain⟨h1,h2,h3,h5,h6⟩:=hS;refine⟨n,_,j5,by omega,rfl, ?_,h⟩;show 1<=n+1/\n+1<=1000000001/\fs<=n+1/\(∀y∈w,tc.get y=some ())/\∀y,tc.get y=some ()->y<fs;exact⟨by omega,by omega,by omega,h5,h6⟩
  ·cases h
def Eg{n:Nat}{k:Nat->Tr}{σ:St}{K:Fin}(h:run (.pick n k) σ K=true):∀i,(i=0∨i<n)->(n<=1->i=0)->run (k i) σ K=true:=by
 intro i hi h1;by_cases hn:n<=1
 ·rw[h1 hn];have:run (.pick n k) σ K=run (k 0) σ K:=by show ac (Nat.ble n 1) (run (k 0) σ K) _=_;rw[ar,if_pos (Nat.ble_eq.mpr hn)]
  rw[←this];exact h
 ·cases σ with
  |mk H m fs tc w=>
   have hb:Nat.ble n 1=false:=by
    cases hb:Nat.ble n 1 with
    |false=>rfl
    |true=>exact absurd (Nat.ble_eq.mp hb) hn
   have h':ac (Nat.ble n 1) (run (k 0) (.mk H m fs tc w) K) (ac (Nat.beq fs 0) (iy (λi=>run (k i) (.mk H m fs tc w) K) n) false)=true:=h;rw[hb] at h';have h2:=(aC (b:=Nat.beq fs 0) h').2;exact mL.mp h2 i (by omega)
def du{p:Prop}{t e:Tr}{σ:St}{K:Fin}(h:run (.ask p t e) σ K=true):(p/\run t σ K=true)∨(¬p/\run e σ K=true):=by
 by_cases hp:p
 ·exact .inl ⟨hp,by rw[←fj t e σ K hp];exact h⟩
 ·exact .inr ⟨hp,by rw[←fk t e σ K hp];exact h⟩
def aQ{p:Prop}{t:Tr}{σ:St}{K:Fin}(h:run (.req p t) σ K=true):p/\run t σ K=true:=by
 by_cases hp:p
 ·exact⟨hp,by rw[←fm t σ K hp];exact h⟩
 ·rw[pq t σ K hp] at h;cases h
def Ext(w w':World):Prop:=∀k,k<w.heap.size->w'.heap[k]? =w.heap[k]?
def ER.mono{ρ ρ':Rho}(hle:ρ.le ρ'){nt:Nat}{env:T AV}{tmps:Array Value}(h:ER ρ nt env tmps):ER ρ' nt env tmps:=
 ⟨h.size,λt a ha=>let⟨v,hv,r⟩:=h.val t a ha;⟨v,hv,r.mono hle⟩⟩
def BR.keep{ρ ρ':Rho}{B:Nat}{w w':World}{b:Nat}{x:ABlk}(hle:ρ.le ρ')(hg:∀g h,ρ.at_ b g=some h->w'.heap[h.blk]? =w.heap[h.blk]?)(h:BR ρ B w b x):BR ρ' B w' b x:=by
 cases x with
 |cells c gen lo hi fl fh ro ty=>
  refine⟨h.1,λg hgg=>?_⟩
  obtain⟨hm,h1,h2,h2',arr,fr,h3,h4,h5,h6⟩:=h.2 g hgg
  refine⟨hm,hle.at_ _ _ _ h1,λhr=>(h2 hr).mono hle,h2',arr,fr,by rw[hg g hm h1];exact h3,h4,h5,λo tag a ho ht=>?_⟩
  obtain⟨q1,v,q2,q3⟩:=h6 o tag a ho ht
  exact⟨q1,v,q2,q3.mono hle⟩
 |grow c gen ty=>
  rcases h with h1|⟨hm,h1,hs,h2,arr,fr,h3,h4,h5,h6,h7⟩
  ·exact .inl h1
  ·refine .inr ⟨hm,hle.at_ _ _ _ h1,hs,h2.mono hle,arr,fr,by rw[hg gen hm h1];exact h3,h4,h5,h6,λi hi j a ha=>?_⟩;obtain⟨u,q1,q2⟩:=h7 i hi j a ha;exact⟨u,q1,q2.mono hle⟩
 |tab ty l=>exact⟨h.1,hle.frz _ _ h.2⟩
 |froz c gen=>
  rcases h with h1|⟨hm,arr,ty,h1,hs,h2,h3,h4⟩
  ·exact .inl h1
  ·refine .inr ⟨hm,arr,ty,hle.at_ _ _ _ h1,hs,hle.frz _ _ h2,h3,λi hi j a ha=>?_⟩;obtain⟨u,q1,q2⟩:=h4 i hi j a ha;exact⟨u,q1,q2.mono hle⟩
 |mapo es clock=>
  obtain⟨hm,h1,h2,o7,h3,h4,h5⟩:=h
  refine⟨hm,hle.at_ _ _ _ h1,h2.mono hle,o7,by rw[hg 0 hm h1];exact h3,h4,λi k v n e hi he=>?_⟩
  obtain⟨q1,q2,q3⟩:=h5 i k v n e hi he
  exact⟨q1.mono hle,q2.mono hle,q3⟩
 |smap m l=>
  obtain⟨hm,h1,h2,es,clock,h3,h4,h5⟩:=h
  refine⟨hm,hle.at_ _ _ _ h1,h2.mono hle,es,clock,by rw[hg 0 hm h1];exact h3,h4,λi g e hi he=>?_⟩
  obtain⟨q1,q2⟩:=h5 i g e hi he
  exact⟨q1.mono hle,q2.mono hle⟩
 |obj k I l=>
  obtain⟨hl,hm,fp,h1,h2,h3,h4⟩:=h
  refine⟨hl,hm,fp,hle.at_ _ _ _ h1,h2,λx hx=>?_,hl _ _ _ _ (λx hx=>?_) h4⟩
  ·obtain⟨q1,g,hh,q2,q3⟩:=h3 x hx;exact⟨q1.mono hle,g,hh,hle.at_ _ _ _ q2,q3⟩
  ·obtain⟨_,g,hh,q2,q3⟩:=h3 x hx;rw[←q3];exact hg g hh q2
 |siter s pos=>
  obtain⟨hm,h1,h2,s',h3,h4⟩:=h
  exact⟨hm,hle.at_ _ _ _ h1,h2.mono hle,s',h3,by rw[hg 0 hm h1];exact h4⟩
 |miter m since seen stepped=>
  obtain⟨hm,h1,h2,m',ad0,h3,h4,h5⟩:=h
  refine⟨hm,hle.at_ _ _ _ h1,h2.mono hle,m',ad0,by rw[hg 0 hm h1];exact h3,h4, ?_⟩
  cases m with
  |none=>exact h5
  |some x=>obtain⟨hx,q1,q2⟩:=h5;exact⟨hx,hle.at_ _ _ _ q1,q2⟩
 |dfr live=>
  obtain⟨hm,h1,h2,h3⟩:=h
  exact⟨hm,hle.at_ _ _ _ h1,h2.mono hle,by rw[hg 0 hm h1];exact h3⟩
 |loop state jump fn nt tmps params assign body defers=>
  obtain⟨hm,h1,h2,Z',hd,fn',h3,h4,h5⟩:=h
  exact⟨hm,hle.at_ _ _ _ h1,h2.mono hle,Z',hd,fn',h3.mono hle,hle.at_ _ _ _ h4,by rw[hg 0 hm h1];exact h5⟩
def Rho.put(ρ:Rho)(b g:Nat)(h:Home):Rho:={at_:=λx y=>if x=b/\y=g then some h else ρ.at_ x y,val:=ρ.val,own:=ρ.own,frz:=ρ.frz,frz0:=ρ.frz0}
def Rho.put_at(ρ:Rho)(b g:Nat)(h:Home):(ρ.put b g h).at_ b g=some h:=by simp [Rho.put]
def Rho.le_put{ρ:Rho}{b g:Nat}{h:Home}(j5:ρ.at_ b g=none):ρ.le (ρ.put b g h):=
 ⟨λx y z hz=>by
  show(if x=b/\y=g then some h else ρ.at_ x y)=some z;by_cases e:x=b/\y=g
  ·rw[e.1,e.2,j5] at hz;cases hz
  ·rw[if_neg e];exact hz,rfl,rfl,λ_ _ h=>h,rfl⟩
def Good.none_at{w0:World}{ρ:Rho}{H:T ABlk}{w:World}(hG:Good w0 ρ H w){n:Nat}(hn:H.get n=none)(g:Nat):ρ.at_ n g=none:=by
 cases h:ρ.at_ n g with
 |none=>rfl
 |some x=>obtain⟨_,y,hy⟩:=hG.dom _ _ _ h;rw[hn] at hy;cases hy
def Good.alloc{w0:World}{ρ:Rho}{H:T ABlk}{w:World}(hG:Good w0 ρ H w){n:Nat}(hn:H.get n=none)(c7:n+1<2 ^ 64)(x:ABlk)(o:Obj)(shift size:Nat)(hB:∀ρ':Rho,ρ.le ρ'->ρ'.at_ n 0=some ⟨w.heap.size,shift,size⟩->ρ'=ρ.put n 0 ⟨w.heap.size,shift,size⟩->BR ρ' w0.heap.size {w with heap:=w.heap.push o} n x):
 ρ.le (ρ.put n 0 ⟨w.heap.size,shift,size⟩)/\Good w0 (ρ.put n 0 ⟨w.heap.size,shift,size⟩) (H.set n x) {w with heap:=w.heap.push o}:=by
 have j5:=hG.none_at hn 0
 have hle:ρ.le (ρ.put n 0 ⟨w.heap.size,shift,size⟩):=Rho.le_put j5
 refine⟨hle,⟨⟨?_,λb y hy=>?_,λb g h hh=>?_,λb g h b' g' h' hh f7 e=>?_,λb g h y hh hy=>?_,λb arr ty hf=>?_,hG.frzB,λb k I l hb g h hh=>?_⟩,λx hx=>by obtain⟨b,g,h,q1,q2,q3⟩:=hG.ownB x hx;exact⟨b,g,h,q1,hle.at_ _ _ _ q2,q3⟩⟩⟩
 ·exact hG.below.alloc hG.below.size o
 ·by_cases e:b=n
  ·subst e;rw[T.get_set_same _ _ _ c7] at hy;injection hy with hy;subst hy;exact hB _ hle (Rho.put_at _ _ _ _) rfl
  ·rw[T.get_set_ne _ e] at hy;refine(hG.blk b y hy).keep hle λg h hh=>?_;have:=(hG.dom _ _ _ hh).1;show(w.heap.push o)[h.blk]? =_;rw[Array.getElem?_push,if_neg (by omega)]
 ·simp only [Rho.put] at hh;split at hh
  ·rename_i e;injection hh with hh;subst hh;obtain⟨e1,e2⟩:=e;subst e1;exact⟨by simp,x,T.get_set_same _ _ _ c7⟩
  ·obtain⟨q1,y,q2⟩:=hG.dom _ _ _ hh;refine⟨by show h.blk<(w.heap.push o).size;simp;omega,y, ?_⟩;rw[T.get_set_ne]
   ·exact q2
   ·intro e;subst e;rw[hn] at q2;cases q2
 ·simp only [Rho.put] at hh f7;split at hh
  ·rename_i c;split at f7
   ·rename_i c';injection hh with hh;injection f7 with f7;exact⟨c.1.trans c'.1.symm,hh.symm.trans f7⟩
   ·injection hh with hh;subst hh;have:=(hG.dom _ _ _ f7).1;simp only at e;omega
  ·split at f7
   ·injection f7 with f7;subst f7;have:=(hG.dom _ _ _ hh).1;simp only at e;omega
   ·exact hG.inj _ _ _ _ _ _ hh f7 e
 ·simp only [Rho.put] at hh;split at hh
  ·rename_i c;rw[c.2];cases y <;> first|exact aaD _|trivial
  ·have hbn:b≠n:=λe=>by subst e;rw[hG.none_at hn g] at hh;cases hh
   rw[T.get_set_ne _ hbn] at hy;exact hG.gens b g h y hh hy
 ·have hf:ρ.frz b=some (arr,ty):=hf;obtain⟨⟨fr,q1⟩,q2⟩:=hG.frz b arr ty hf;have c8:b<w.heap.size:=by
   rcases aat b w.heap.size with h'|h'
   ·exact h'
   ·rw[aa7 h'] at q1;cases q1
  refine⟨⟨fr, ?_⟩,λb' g h hh e=>?_⟩
  ·show(w.heap.push o)[b]? =_;rw[Array.getElem?_push,if_neg (by omega)];exact q1
  ·simp only [Rho.put] at hh;split at hh
   ·injection hh with hh;subst hh;have e:w.heap.size=b:=e;omega
   ·obtain⟨y,r1,r2⟩:=q2 _ _ _ hh e;exact⟨y,by rw[T.get_set_ne _ (λe=>by subst e;rw[hn] at r1;cases r1)];exact r1,r2⟩
 ·simp only [Rho.put] at hh;split at hh
  ·rename_i hc;injection hh with hh;subst hh;exact⟨.new hG.below.size,.inl hc.2⟩
  ·have hbn:b≠n:=λe=>by subst e;rw[hG.none_at hn g] at hh;cases hh
   rw[T.get_set_ne _ hbn] at hb;exact hG.objO b k I l hb g h hh
def Good.drawn{w0:World}{ρ:Rho}{H:T ABlk}{w:World}(hG:Good w0 ρ H w)(n:Nat):Good w0 ρ H {w with drawn:=n}:=
 ⟨⟨⟨hG.below.os,hG.below.tape,hG.below.output,hG.below.size,hG.below.block⟩,λb x hx=>BR.keep (w:=w) (w':={w with drawn:=n}) (Rho.le.refl ρ) (λ_ _ _=>rfl) (hG.blk b x hx),hG.dom,hG.inj,hG.gens,hG.frz,hG.frzB,hG.objO⟩,hG.ownB⟩
def Good.turn{w0:World}{ρ:Rho}{H:T ABlk}{w w':World}(hG:Good w0 ρ H w){b:Nat}{x0 x:ABlk}(hb:H.get b=some x0)(c7:b+1<2 ^ 64)(r:Nat)(hr:Own ρ w0.heap.size r)(hbe:Kept ρ.own w0.heap.size w w')(p8:w.heap.size<=w'.heap.size)(Q':∀k,k≠r->k<w.heap.size->w'.heap[k]? =w.heap[k]?)(d4:∀b' g h,ρ.at_ b' g=some h->h.blk=r->b'=b)(hB:BR ρ w0.heap.size w' b x)(R':∀g,JH g x0->JH g x:=by intro g h;exact h)(hrs:∃b' g h,ρ.at_ b' g=some h/\h.blk=r)(hnf:¬yu x0:=by exact λh=>h)(hxo:∀k I l,x≠ .obj k I l:=by intro _ _ _ h;cases h):Good w0 ρ (H.set b x) w':=by
 refine⟨⟨hG.below.trans hbe,λb' y hy=>?_,λb' g h hh=>?_,hG.inj,λb' g h y hh hy=>?_,λb' arr ty hf=>?_,hG.frzB,λb' k I l p7 g h hh=>?_⟩,hG.ownB⟩
 ·by_cases e:b'=b
  ·subst e;rw[T.get_set_same _ _ _ c7] at hy;injection hy with hy;subst hy;exact hB
  ·rw[T.get_set_ne _ e] at hy;refine(hG.blk b' y hy).keep (Rho.le.refl ρ) λg h hh=>?_;exact Q' _ (λer=>e (d4 _ _ _ hh er)) (hG.dom _ _ _ hh).1
 ·obtain⟨q1,y,q2⟩:=hG.dom _ _ _ hh;refine⟨by omega, ?_⟩;by_cases e:b'=b
  ·subst e;exact⟨x,T.get_set_same _ _ _ c7⟩
  ·exact⟨y,by rw[T.get_set_ne _ e];exact q2⟩
 ·by_cases e:b'=b
  ·subst e;rw[T.get_set_same _ _ _ c7] at hy;injection hy with hy;subst hy;exact R' g (hG.gens b' g h x0 hh hb)
  ·rw[T.get_set_ne _ e] at hy;exact hG.gens b' g h y hh hy
 ·obtain⟨⟨fr,q1⟩,q2⟩:=hG.frz b' arr ty hf;have c8:b'<w.heap.size:=by
   rcases aat b' w.heap.size with h'|h'
   ·exact h'
   ·rw[aa7 h'] at q1;cases q1
  refine⟨⟨fr, ?_⟩,λb1 g h hh e=>?_⟩
  ·obtain⟨x1,x2,x3,x4,x5⟩:=hrs;have:=d4 _ _ _ x4 x5;subst this;rw[Q' b' (λe=>hG.frzE hf x4 hb hnf (x5.trans e.symm)) c8];exact q1
  ·obtain⟨y,r1,r2⟩:=q2 _ _ _ hh e;exact⟨y,by rw[T.get_set_ne _ (λe=>by subst e;rw[hb] at r1;injection r1 with r1;subst r1;exact hnf r2)];exact r1,r2⟩
 ·by_cases e:b'=b
  ·subst e;rw[T.get_set_same _ _ _ c7] at p7;injection p7 with p7;exact absurd p7 (hxo _ _ _)
  ·rw[T.get_set_ne _ e] at p7;exact hG.objO b' k I l p7 g h hh
def nf{H H':T ABlk}{b:Nat}{x x0:ABlk}(e:H'=H)(h:H.get b=some x)(hx:H'.get b=some x0)(hn:¬yu x):¬yu x0:=by subst e;rw[h] at hx;injection hx with hx;subst hx;exact hn
end Go.Sym
namespace Go.Sym
open Go.RowKit (Below)
def ah{σ:St}{K:Fin}(h:run .fail σ K=true):False:=by cases h
def cb{α:Type}{o:Option α}{k:α->Tr}{σ:St}{K:Fin}(h:run (dr o .fail k) σ K=true):∃a,o=some a/\run (k a) σ K=true:=by
 cases o with
 |none=>exact(ah h).elim
 |some a=>exact⟨a,rfl,h⟩
def ay{b:Bool}{t:Tr}{σ:St}{K:Fin}(h:run (ac b t .fail) σ K=true):b=true/\run t σ K=true:=by
 cases b with
 |true=>exact⟨rfl,h⟩
 |false=>exact(ah h).elim
def rc{b:Bool}{t:Tr}{σ:St}{K:Fin}(h:run (ac b .fail t) σ K=true):b=false/\run t σ K=true:=by
 cases b with
 |false=>exact⟨rfl,h⟩
 |true=>exact(ah h).elim
def bU{b:Bool}{t e:Tr}{σ:St}{K:Fin}(h:run (ac b t e) σ K=true):(b=true/\run t σ K=true)∨(b=false/\run e σ K=true):=by
 cases b with
 |false=>exact .inr ⟨rfl,h⟩
 |true=>exact .inl ⟨rfl,h⟩
def tH{α:Type}{t:T α}{n:Nat}{k:α->Tr}{σ:St}{K:Fin}(h:run (T.getK t n .fail k) σ K=true):∃a,t.get n=some a/\run (k a) σ K=true:=by
 rw[T.getK_eq] at h;split at h
 ·exact(ah h).elim
 ·exact⟨_,by assumption,h⟩
def jF{n:Nat}{k:Nat->Tr}{σ:St}{K:Fin}(h:run (fN n k) σ K=true):run (k n) σ K=true:=by rw[qP] at h;exact h
def Yx{n:Int}{k:Int->Tr}{σ:St}{K:Fin}(h:run (fI n k) σ K=true):run (k n) σ K=true:=by rw[Yp] at h;exact h
def bV{a b:Nat}(h:Nat.ble a b=true):a<=b:=Nat.ble_eq.mp h
def Yy{a b:Nat}(h:Nat.ble a b=false):b<a:=by
 rcases aat b a with e|e
 ·exact e
 ·rw[Nat.ble_eq.mpr e] at h;cases h
def aN{a b:Nat}(h:Nat.beq a b=true):a=b:=aaq h
def P4{ρ:Rho}{v:AV}{u:Value}{k:Bool->Tr}{σ:St}{K:Fin}(hv:VR ρ v u)(h:run (DU v k) σ K=true):∃b,u= .bool b/\run (k b) σ K=true:=by
 cases hv with
 |bool b=>exact⟨b,rfl,h⟩
 |sB p b hb=>
  rcases du h with⟨hp,h⟩|⟨hp,h⟩
  ·exact⟨b,rfl,by rw[hb.2 hp];exact h⟩
  ·refine⟨b,rfl, ?_⟩
   cases b with
   |true=>exact absurd (hb.1 rfl) hp
   |false=>exact h
 |_=>exact(ah h).elim
def wn{v:AV}{k:IntKind->Int->Tr}{σ:St}{K:Fin}(h:run (qU v k) σ K=true):∃j n,v= .int j n/\run (k j n) σ K=true:=by cases v <;> first|exact⟨_,_,rfl,h⟩|exact(ah h).elim
def Ki{n:Int}{k:Nat->Tr}{σ:St}{K:Fin}(h:run (Hr n k) σ K=true):∃a:Nat,n=(a:Int)/\run (k a) σ K=true:=by
 cases n with
 |ofNat a=>exact⟨a,rfl,h⟩
 |negSucc a=>exact(ah h).elim
def hY{ρ:Rho}{a:AV}{v:Value}{k:List AV->Tr}{σ:St}{K:Fin}(hv:VR ρ a v)(h:run (gZ a k) σ K=true):∃l,LR ρ l v.cells.toList/\run (k l) σ K=true:=by
 cases hv with
 |agg l cs h1 h2=>exact⟨l,LR.of_arr h1 h2,h⟩
 |opq n=>exact(ah h).elim
 |opc n ho=>
  refine⟨_, ?_,h⟩;have e:(ρ.val n).cells.toList= [ρ.val n]:=by cases hv:ρ.val n <;> first|rfl|(rw[hv] at ho;cases ho)
  rw[e];exact LR.cons (.opc n ho) (LR.nil ρ)
 |any1 _ ho=>
  refine⟨_, ?_,h⟩;have e:v.cells.toList= [v]:=by cases v <;> first|rfl|cases ho
  rw[e];exact LR.cons (.any1 v ho) (LR.nil ρ)
 |sB p b hb=>exact⟨_,LR.cons (.sB p b hb) (LR.nil ρ),h⟩
 |_=>exact⟨_,LR.cons (by constructor <;> assumption) (LR.nil ρ),h⟩
def Res(P:Program)(w0:World)(ρ:Rho)(w:World)(k:AV->Tr)(K:Fin)(s:Sem Value):Prop:=
 ∃av a8 ρ' v w',run (k av) a8 K=true/\SI a8/\Good w0 ρ' a8.h w'/\ρ.le ρ'/\VR ρ' av v/\s.run P w= .ok v w'
def Hu(P:Program)(w0:World)(ρ:Rho)(w:World)(k:Tr)(K:Fin)(s:Sem Unit):Prop:=
 ∃a8 w',run k a8 K=true/\SI a8/\Good w0 ρ a8.h w'/\s.run P w= .ok () w'
def Res.plain{P:Program}{w0:World}{ρ:Rho}{w:World}{k:AV->Tr}{K:Fin}{s:Sem Value}{av:AV}{σ:St}{v:Value}(hr:run (k av) σ K=true)(hS:SI σ)(hG:Good w0 ρ σ.h w)(hv:VR ρ av v)(hs:s.run P w= .ok v w):Res P w0 ρ w k K s:=
 ⟨av,σ,ρ,v,w,hr,hS,hG,Rho.le.refl ρ,hv,hs⟩
def Res.of_eq{P:Program}{w0:World}{ρ:Rho}{w:World}{k:AV->Tr}{K:Fin}{s s':Sem Value}(h:Res P w0 ρ w k K s)(e:s'.run P w=s.run P w):Res P w0 ρ w k K s':=by obtain⟨av,a8,ρ',v,w',h1,h2,h3,h4,h5,h6⟩:=h;exact⟨av,a8,ρ',v,w',h1,h2,h3,h4,h5,e.trans h6⟩
section
variable{w0:World}{ρ:Rho}{w:World}{σ:St}{K:Fin}{nt:Nat}{env:T AV}{a:Act}
def ui{x:Operand}{k:AV->Tr}(hS:SI σ)(hG:Good w0 ρ σ.h w)(hE:ER ρ nt env a.tmps)(h:run (fB env x k) σ K=true):
 ∃av a8,a8.h=σ.h/\SI a8/\run (k av) a8 K=true/\VR ρ av (a.eval x):=by
 cases x with
 |tmp t=>
  obtain⟨av,h1,h2⟩:=tH (k:=k) h
  obtain⟨v,hv,hr⟩:=hE.val t av h1
  refine⟨av,σ,rfl,hS,h2, ?_⟩
  show VR ρ av (a.tmps.getD t undef)
  rw[aa8,hv];exact hr
 |const v=>
  obtain⟨av,h1,h2⟩:=cb (k:=k) h
  exact⟨av,σ,rfl,hS,h2,JG ρ _ _ _ h1⟩
 |func f=>exact⟨_,σ,rfl,hS,h,.func _ _ _ _ _ rfl rfl (by simp) (by simp) rfl⟩
 |global g=>
  obtain⟨c8,h⟩:=ay h
  have c8:=bV c8
  obtain⟨x,a8,h1,h2,h3,h4⟩:=bG hS h
  cases x with
  |cells c gen lo hi fl fh ro ty=>
   obtain⟨h5,h6⟩:=ay h4
   subst h5
   obtain⟨hm,q1,_,q2,_⟩:=(hG.blk _ _ h1).2 0 (aaD _)
   obtain⟨e1,e2⟩:=q2 rfl c8
   refine⟨_,a8,h2,h3,h6, ?_⟩
   have:=VR.ptr (ρ:=ρ) g 0 0 hm q1 (by omega)
   rw[e1] at this
   show VR ρ _ (.pointer (some ⟨g,0,none⟩))
   simpa using this
  |tab ty l=>
   refine⟨_,a8,h2,h3,h4, ?_⟩
   obtain⟨_,hf⟩:=hG.blk _ _ h1
   show VR ρ _ (.pointer (some ⟨g,0,none⟩))
   refine .cptr (mO l) g 0 _ _ hf (by simp [mO]) λj a v ha hv=>?_
   unfold mO at ha
   rw[aaW] at ha
   cases e:l[j]? with
   |none=>rw[e] at ha;cases ha
   |some n=>
    rw[e] at ha
    injection ha with ha
    subst ha
    simp [e] at hv
    subst hv
    exact .int _ _
  |_=>exact(ah h4).elim
def wo:∀{l:List Operand} {k:List AV->Tr} {σ:St},SI σ->Good w0 ρ σ.h w->ER ρ nt env a.tmps->run (mP env l k) σ K=true->
 ∃av a8,a8.h=σ.h/\SI a8/\run (k av) a8 K=true/\LR ρ av (l.map a.eval):=by
 intro l
 induction l with
 |nil=>intro k σ hS hG hE h;exact⟨[],σ,rfl,hS,h,LR.nil ρ⟩
 |cons x l ih=>
  intro k σ hS hG hE h
  obtain⟨v,b6,e1,a9,h1,r1⟩:=ui (k:=λa=>mP env l λl=>k (a::l)) hS hG hE h
  obtain⟨vs,c9,e2,d6,h2,r2⟩:=ih a9 (by rw[e1];exact hG) hE h1
  exact⟨v::vs,c9,e2.trans e1,d6,h2,LR.cons r1 r2⟩
def OR(ρ:Rho):Option AV->Option Value->Prop
 |none,none=>True
 |some a,some v=>VR ρ a v
 |_,_=>False
def B5{x:Option Operand}{k:Option AV->Tr}(hS:SI σ)(hG:Good w0 ρ σ.h w)(hE:ER ρ nt env a.tmps)(h:run (Hs env x k) σ K=true):
 ∃av a8,a8.h=σ.h/\SI a8/\run (k av) a8 K=true/\OR ρ av (x.map a.eval):=by
 cases x with
 |none=>exact⟨none,σ,rfl,hS,h,trivial⟩
 |some x=>
  obtain⟨v,b6,e1,a9,h1,r1⟩:=ui (k:=λa=>k (some a)) hS hG hE h
  exact⟨some v,b6,e1,a9,h1,r1⟩
def re:∀{l:List (Nat×Operand)} {k:List (Nat×AV)->Tr} {σ:St},SI σ->Good w0 ρ σ.h w->ER ρ nt env a.tmps->run (iz env l k) σ K=true->
 ∃av a8,a8.h=σ.h/\SI a8/\run (k av) a8 K=true/\av.map (·.1)=l.map (·.1)/\LR ρ (av.map (·.2)) (l.map λx=>a.eval x.2):=by
 intro l
 induction l with
 |nil=>intro k σ hS hG hE h;exact⟨[],σ,rfl,hS,h,rfl,LR.nil ρ⟩
 |cons x l ih=>
  intro k σ hS hG hE h
  obtain⟨v,b6,e1,a9,h1,r1⟩:=ui (k:=λa=>iz env l λl=>k ((x.1,a)::l)) hS hG hE h
  obtain⟨vs,c9,e2,d6,h2,r2,r3⟩:=ih a9 (by rw[e1];exact hG) hE h1
  exact⟨(x.1,v)::vs,c9,e2.trans e1,d6,h2,by simp [r2],LR.cons r1 r3⟩
end
end Go.Sym
namespace Go.Sym
def ow(n:Int):IntKind.wrap .u64 n=n%18446744073709551616:=by unfold IntKind.wrap;simp only [IntKind.signed,Bool.false_and,Bool.false_eq_true,if_false,IntKind.bits];rfl
def jG{j:IntKind}{n:Int}{f:Int->Tr}{σ:St}{K:Fin}(h:run (gE j n f) σ K=true):run (f (j.wrap n)) σ K=true:=by
 unfold gE at h;split at h
 ·rename_i a;rcases bU h with⟨hb,h⟩|⟨_,h⟩
  ·have hb:=bV hb;have h:=jF h;have e:IntKind.wrap .i64 (Int.ofNat a)=Int.ofNat a:=IntWalk.i64_in _ (by rw[abc];omega);rw[e];exact h
  ·exact Yx h
 ·rename_i a;have h:=jF h;have e:IntKind.wrap .u64 (Int.ofNat a)=Int.ofNat (a%18446744073709551616):=by rw[ow,abc,abc];omega
  rw[e];exact h
 ·rename_i a;have h:=jF h;have e:IntKind.wrap .u32 (Int.ofNat a)=Int.ofNat (a%4294967296):=by rw[IntKind.wrap_u32,abc,abc];omega
  rw[e];exact h
 ·rename_i a;have h:=jF h;have e:IntKind.wrap .u8 (Int.ofNat a)=Int.ofNat (a%256):=by rw[IntKind.wrap_u8,abc,abc];omega
  rw[e];exact h
 ·rename_i a;have h:=jF h;have e:IntKind.wrap .u64 (Int.negSucc a)=Int.ofNat (18446744073709551615-a%18446744073709551616):=by rw[ow,Int.negSucc_eq,abc];omega
  rw[e];exact h
 ·rename_i a;have h:=jF h;have e:IntKind.wrap .u32 (Int.negSucc a)=Int.ofNat (4294967295-a%4294967296):=by rw[IntKind.wrap_u32,Int.negSucc_eq,abc];omega
  rw[e];exact h
 ·rename_i a;have h:=jF h;have e:IntKind.wrap .u8 (Int.negSucc a)=Int.ofNat (255-a%256):=by rw[IntKind.wrap_u8,Int.negSucc_eq,abc];omega
  rw[e];exact h
 ·rename_i a;rcases bU h with⟨hb,h⟩|⟨_,h⟩
  ·have hb:=bV hb;have h:=jF h;have e:IntKind.wrap .i64 (Int.negSucc a)=Int.negSucc a:=IntWalk.i64_in _ (by rw[Int.negSucc_eq];omega);rw[e];exact h
  ·exact Yx h
 ·exact Yx h
def Hv(n:Int):IntKind.wrap .u16 n=n%65536:=by unfold IntKind.wrap;simp only [IntKind.signed,Bool.false_and,Bool.false_eq_true,if_false,IntKind.bits];rfl
def jf{j:IntKind}{n:Int}{f:Int->Tr}{σ:St}{K:Fin}(h:run (lB j n f) σ K=true):run (f (j.wrap n)) σ K=true:=by
 cases j with
 |u8=>rw[IntKind.wrap_u8];exact h
 |u16=>rw[Hv];exact h
 |u32=>rw[IntKind.wrap_u32];exact h
 |u64=>rw[ow];exact h
 |i64=>
  rcases du h with⟨hp,h⟩|⟨hp,h⟩
  ·rw[IntWalk.i64_in _ hp];exact h
  ·exact h
 |_=>exact h
def rf(k:IntKind):am k=2 ^ k.bits:=by cases k <;> rfl
def oz(k:IntKind):bj k=k.bits:=by cases k <;> rfl
def rg(k:IntKind)(n:Int):aE (am k) n=(BitVec.ofInt k.bits n).toNat:=by
 rw[BitVec.toNat_ofInt,rf]
 cases n with
 |ofNat a=>show a%2 ^ k.bits=((a:Int)%((2 ^ k.bits:Nat):Int)).toNat;rw[←Int.natCast_emod];rfl
 |negSucc a=>show 2 ^ k.bits-1-a%2 ^ k.bits=_;have hp:0<2 ^ k.bits:=aa3 _;rw[Int.negSucc_emod _ (by exact_mod_cast hp), ←Int.natCast_emod];have:a%2 ^ k.bits<2 ^ k.bits:=Nat.mod_lt _ hp;generalize a%2 ^ k.bits=r at *;generalize 2 ^ k.bits=m at *;omega
def fq(P:Program)(w:World)(j:IntKind)(x y:Int):
 ((Op.intBits .and j x y).run P w= .ok (.int j (j.wrap (Int.ofNat (Nat.land (aE (am j) x) (aE (am j) y))))) w)/\
 ((Op.intBits .or j x y).run P w= .ok (.int j (j.wrap (Int.ofNat (Nat.lor (aE (am j) x) (aE (am j) y))))) w)/\
 ((Op.intBits .xor j x y).run P w= .ok (.int j (j.wrap (Int.ofNat (Nat.xor (aE (am j) x) (aE (am j) y))))) w)/\
 ((Op.intBits .andNot j x y).run P w= .ok (.int j (j.wrap (Int.ofNat (Nat.land (aE (am j) x) (Nat.sub (Nat.sub (am j) 1) (aE (am j) y)))))) w):=by
 refine⟨?_, ?_, ?_, ?_⟩
 ·simp only [Op.intBits,aar,rg,BitVec.toNat_and];rfl
 ·simp only [Op.intBits,aar,rg,BitVec.toNat_or];rfl
 ·simp only [Op.intBits,aar,rg,BitVec.toNat_xor];rfl
 ·have e:Nat.sub (Nat.sub (am j) 1) (aE (am j) y)=(~~~ (BitVec.ofInt j.bits y)).toNat:=by rw[BitVec.toNat_not,rg,rf];rfl
  rw[e];simp only [Op.intBits,aar,rg,BitVec.toNat_and];rfl
section
variable{P:Program}{w0:World}{ρ:Rho}{w:World}{σ:St}{K:Fin}{k:AV->Tr}
def rh{b:Bool}(h:run (lA b k) σ K=true):run (k (.bool b)) σ K=true:=by rcases bU h with⟨e,h⟩|⟨e,h⟩ <;> subst e <;> exact h
def oA{op:BinOp}{j:IntKind}{x y:Int}(hS:SI σ)(hG:Good w0 ρ σ.h w)(h:run (Vc op x y (λb=>lA b k) .fail) σ K=true):
 Res P w0 ρ w k K (Op.intCmp op x y):=by
 have key:∀b,(Op.intCmp op x y).run P w= .ok (.bool b) w->run (lA b k) σ K=true->Res P w0 ρ w k K (Op.intCmp op x y):=
  λb hb hr=>.plain (rh hr) hS hG (.bool b) hb
 unfold Vc at h
 split at h
 ·rename_i a b;cases op <;> first
   |exact(ah h).elim
   |exact key _ (by simp only [Op.intCmp,aar];congr 2;rw[Bool.eq_iff_iff];simp [ar];omega) h
   |exact key _ (by simp only [Op.intCmp,aar];congr 2;rw[Bool.eq_iff_iff];simp) h
   |exact key _ (by simp only [Op.intCmp,aar];congr 2;rw[Bool.eq_iff_iff];simp [ar]) h
 ·cases op <;> first
   |exact(ah h).elim
   |exact key _ (by simp only [Op.intCmp,aar]) h
def uj{n:Int}(h:isZ n=false):n≠0:=by intro e;subst e;cases h
def lY(op:BinOp)(j:IntKind)(x y:Int):Sem Value:=match op with | .add | .sub | .mul=>Op.intArith op j x y | .quo | .rem=>Op.intDiv op j x y | .and | .or | .xor | .andNot=>Op.intBits op j x y|_=>Op.intCmp op x y
def Hw{op:BinOp}{j:IntKind}{x y:Int}(hS:SI σ)(hG:Good w0 ρ σ.h w)(hop:op≠ .shl/\op≠ .shr)(h:run (DV op j x y k) σ K=true):
 Res P w0 ρ w k K (lY op j x y):=by
 obtain⟨b1,b2,b3,b4⟩:=fq P w j x y
 cases op
 case add=>exact .plain (jG h) hS hG (.int _ _) rfl
 case sub=>exact .plain (jG h) hS hG (.int _ _) rfl
 case mul=>exact .plain (jG h) hS hG (.int _ _) rfl
 case quo=>
  obtain⟨h1,h2⟩:=rc h
  exact .plain (jG h2) hS hG (.int _ _) (by show(Op.intDiv .quo j x y).run P w=_;simp only [Op.intDiv,if_neg (uj h1)];rfl)
 case rem=>
  obtain⟨h1,h2⟩:=rc h
  exact .plain (Yx h2) hS hG (.int _ _) (by show(Op.intDiv .rem j x y).run P w=_;simp only [Op.intDiv,if_neg (uj h1)];rfl)
 case and=>exact .plain (jG h) hS hG (.int _ _) b1
 case or=>exact .plain (jG h) hS hG (.int _ _) b2
 case xor=>exact .plain (jG h) hS hG (.int _ _) b3
 case andNot=>exact .plain (jG h) hS hG (.int _ _) b4
 case shl=>exact absurd rfl hop.1
 case shr=>exact absurd rfl hop.2
 case eql=>exact oA (op:=.eql) (j:=j) hS hG h
 case neq=>exact oA (op:=.neq) (j:=j) hS hG h
 case lss=>exact oA (op:=.lss) (j:=j) hS hG h
 case leq=>exact oA (op:=.leq) (j:=j) hS hG h
 case gtr=>exact oA (op:=.gtr) (j:=j) hS hG h
 case geq=>exact oA (op:=.geq) (j:=j) hS hG h
def Eh(a b:Nat):lV a b=min a b:=by
 unfold lV;rw[ar];by_cases h:a<=b
 ·rw[if_pos (Nat.ble_eq.mpr h)];omega
 ·rw[if_neg (λe=>h (bV e))];omega
def yI{op:BinOp}{j jj:IntKind}{x y:Int}(hS:SI σ)(hG:Good w0 ρ σ.h w)(h:run (JI op j x y k) σ K=true):
 Res P w0 ρ w k K (Op.shift op j x jj y):=by
 obtain⟨n,rfl,h⟩:=Ki h
 have e:min ((n:Int).toNat) j.bits=lV n (bj j):=by rw[Eh,oz];rfl
 cases op
 case shl=>
  refine .plain (jG h) hS hG (.int _ _) ?_
  simp only [Op.shift,if_neg (show ¬(n:Int)<0 by omega),e,aar]
  congr 2
 case shr=>
  have e2:(Op.shift .shr j x jj (n:Int)).run P w= .ok (.int j (x.fdiv (((2 ^ lV n (bj j):Nat):Int)))) w:=by simp only [Op.shift,if_neg (show ¬(n:Int)<0 by omega),e,aar];rw[Int.natCast_pow];rfl
  cases x with
  |ofNat a=>
   have h:run (fN (Nat.div a (Nat.pow 2 (lV n (bj j)))) λn=>k (.int j (.ofNat n))) σ K=true:=h
   refine .plain (jF h) hS hG (.int _ _) ?_
   rw[e2]
   congr 2
   show(Int.ofNat a).fdiv (Int.ofNat (2 ^ lV n (bj j)))=Int.ofNat (a/2 ^ lV n (bj j))
   cases a with
   |zero=>rw[Nat.zero_div];rfl
   |succ a=>rfl
  |negSucc a=>
   have h:run (fI ((Int.negSucc a).fdiv (.ofNat (Nat.pow 2 (lV n (bj j))))) λn=>k (.int j n)) σ K=true:=h
   exact .plain (Yx h) hS hG (.int _ _) e2
 all_goals exact(ah h).elim
def wp:∀(x y:List Nat),DW x y=true↔x=y:=by
 intro x
 induction x with
 |nil=>intro y;cases y <;> simp [DW]
 |cons a x ih=>
  intro y
  cases y with
  |nil=>simp [DW]
  |cons b y=>simp only [DW,ar];by_cases e:a=b <;> simp [e,ih]
def gH{s t:ByteArray}(h:bytesOf s=bytesOf t):s=t:=by have:s.data.toList=t.data.toList:=List.map_inj_right (λa b e=>UInt8.toNat_inj.mp e) |>.mp h;cases s;cases t;simp at this;simp [this]
def iB(s t:ByteArray):DW (bytesOf s) (bytesOf t)=(s.toList==t.toList):=by
 rw[Bool.eq_iff_iff,wp];constructor
 ·intro h;rw[gH h];simp
 ·intro h;have h:s.toList=t.toList:=by simpa using h
  rw[ByteArray.toList_eq,ByteArray.toList_eq] at h;unfold bytesOf;rw[h]
def Kj{l:List Nat}{k:List Nat->Tr}(h:run (vW l k) σ K=true):run (k l) σ K=true:=by
 induction l generalizing k with
 |nil=>exact h
 |cons a l ih=>have h:run (fN a λa=>vW l λl=>k (a::l)) σ K=true:=h;exact ih (jF h)
def gJ{l:List AV}{k:List AV->Tr}(h:run (g_ l k) σ K=true):run (k l) σ K=true:=by
 induction l generalizing k with
 |nil=>exact h
 |cons a l ih=>exact ih h
end
end Go.Sym
namespace Go.Sym
def LR.drop{ρ:Rho}{l:List AV}{vs:List Value}(h:LR ρ l vs)(n:Nat):LR ρ (l.drop n) (vs.drop n):=
 ⟨by simp [h.1],λi a v ha hv=>h.2 (n+i) a v (by simpa using ha) (by simpa using hv)⟩
def LR.take{ρ:Rho}{l:List AV}{vs:List Value}(h:LR ρ l vs)(n:Nat):LR ρ (l.take n) (vs.take n):=by
 refine⟨by simp [h.1],λi a v ha hv=>?_⟩;rw[abd] at ha hv;split at ha
 ·rename_i hi;rw[if_pos hi] at hv;exact h.2 i a v ha hv
 ·cases ha
section
variable{P:Program}{w0:World}{ρ:Rho}{w:World}{σ:St}{K:Fin}{k:AV->Tr}
def cG{t:TypeId}{k:TypeDesc->Tr}(h:run (cq P t k) σ K=true):∃d,P.underlying t=some d/\run (k d) σ K=true:=cb h
def Yz{t:TypeId}{k:TypeInfo->Tr}(h:run (Tq P t k) σ K=true):∃i,P.info? t=some i/\run (k i) σ K=true:=cb h
def cB{t:TypeId}{k:Nat->Tr}(h:run (cu P t k) σ K=true):∃i,P.info? t=some i/\run (k i.size) σ K=true:=by obtain⟨i,h1,h2⟩:=cb (k:=λi:TypeInfo=>fN i.size k) h;exact⟨i,h1,jF h2⟩
def cx{t:TypeId}{d:TypeDesc}(h:P.underlying t=some d):(isAgg t).run P w= .ok (cw d) w:=by simp only [isAgg,aap,run_underlying h,aau];cases d <;> rfl
def aA{t:TypeId}{i:TypeInfo}(h:P.info? t=some i):(sizeOf t).run P w= .ok i.size w:=by simp [sizeOf,typeInfo,aap,run_program,h]
def ko{t:TypeId}{d:TypeDesc}{i:TypeInfo}(hu:P.underlying t=some d)(hi:P.info? t=some i){l:List AV}{cs:Array Value}{off:Nat}{a:AV}(hl:LR ρ l cs.toList)(ha:(if cw d then some (AV.agg ((l.drop off).take i.size)) else l[off]?)=some a):∃v,(part t cs off).run P w= .ok v w/\VR ρ a v:=by
 cases hd:cw d with
 |true=>
  rw[hd,if_pos rfl] at ha
  injection ha with ha;subst ha
  refine⟨.agg (cs.extract off (off+i.size)), ?_, ?_⟩
  ·simp only [part,aap,cx hu,hd,aau,if_true,aA hi,aar]
  ·have:(cs.extract off (off+i.size)).toList=(cs.toList.drop off).take i.size:=by rw[Array.toList_extract];simp [List.extract]
   obtain⟨h1,h2⟩:=LR.arr (ρ:=ρ) (l:=(l.drop off).take i.size) (cs:=cs.extract off (off+i.size)) (by rw[this];exact(hl.drop off).take i.size);exact .agg _ _ h1 h2
 |false=>
  rw[hd,if_neg (by simp)] at ha
  obtain⟨v,hv,hr⟩:=hl.get ha
  refine⟨v, ?_,hr⟩
  have B':cs[off]? =some v:=by simpa using hv
  simp only [part,aap,cx hu,hd,aau,Bool.false_eq_true,if_false,B',aar]
set_option maxHeartbeats 2000000 in
theorem mU:∀(f:Nat) (g:Nat) (t:TypeId) (d:TypeDesc) (x y:AV) (v u:Value) (r:Bool) (D:Nat),P.underlying t=some d->(cw d=true->gg P g t=true)->
 VR ρ x v->VR ρ y u->fF P f d x y=some r->f<=D->(Op.equalIn D t v u).run P w= .ok r w:=by
 intro f
 induction f with
 |zero=>intro g t d x y v u r D _ _ _ _ h;simp [fF] at h
 |succ f ih=>
  intro g t d x y v u r D hu hc hx hy h hD
  obtain⟨D,rfl⟩:∃D',D=D'+1:=⟨D-1,by omega⟩
  unfold fF at h
  split at h
  ·cases hx;cases hy;injection h with h;subst h;simp [Op.equalIn,run_underlying hu]
  ·cases hx;cases hy;split at h
   ·rename_i e;subst e;injection h with h;subst h;simp [Op.equalIn,run_underlying hu]
   ·cases h
  ·cases hx;cases hy;injection h with h;subst h;rw[iB, ←beq_toListBytes];simp [Op.equalIn,run_underlying hu]
  all_goals first
   |(cases hx <;> cases hy <;> (injection h with h;subst h;simp [Op.equalIn,run_underlying hu];done))
   |skip
  ·rename_i len e xs ys;split at h
   ·rename_i i d' hi he;split at h
    ·rename_i hc'
     simp only [Bool.and_eq_true,beq_iff_eq,Bool.not_eq_true',decide_eq_true_eq] at hc'
     obtain⟨⟨⟨w8,hna⟩,hlx⟩,hly⟩:=hc'
     cases hx with
     |agg _ cs h1 h2=>
      cases hy with
      |agg _ ds k1 k2=>
       rw[run_equalIn_array w D cs ds hu hi];have p8:P.cellsOf e=1:=by simp [Program.cellsOf,hi,w8]
       rw[p8];have lx:=LR.of_arr h1 h2;have ly:=LR.of_arr k1 k2;have key:∀(n i0:Nat) (xs' ys':List AV) (r:Bool),LR ρ xs' (cs.toList.drop i0)->LR ρ ys' (ds.toList.drop i0)->xs'.length=n->ys'.length=n->fF.eqArr (fF P f d') xs' ys'=some r->
        (Op.eqItems D e 1 cs ds (List.range' i0 n)).run P w= .ok r w:=by
        intro n
        induction n with
        |zero=>
         intro i0 xs' ys' r lx ly l1 l2 h
         rw[List.length_eq_zero_iff] at l1 l2;subst l1;subst l2
         simp only [fF.eqArr] at h;injection h with h;subst h
         simp [Op.eqItems]
        |succ n ihn=>
         intro i0 xs' ys' r lx ly l1 l2 h
         cases xs' with
         |nil=>simp at l1
         |cons a xs'=>
          cases ys' with
          |nil=>simp at l2
          |cons b ys'=>
           obtain⟨v1,vs1,e1,r1,lx'⟩:=lx.cons_inv
           obtain⟨u1,us1,e2,r2,ly'⟩:=ly.cons_inv
           have PO:cs[i0]? =some v1:=by have:=congrArg (·[0]?) e1;simpa using this
           have hu1:ds[i0]? =some u1:=by have:=congrArg (·[0]?) e2;simpa using this
           have lx2:LR ρ xs' (cs.toList.drop (i0+1)):=by
            have:cs.toList.drop (i0+1)=vs1:=by rw[←abe,Nat.add_comm] at *;have:=congrArg (List.drop 1) e1;simpa [abe,Nat.add_comm] using this
            rw[this];exact lx'
           have ly2:LR ρ ys' (ds.toList.drop (i0+1)):=by
            have:ds.toList.drop (i0+1)=us1:=by have:=congrArg (List.drop 1) e2;simpa [abe,Nat.add_comm] using this
            rw[this];exact ly'
           have p1:(part e cs (i0 * 1)).run P w= .ok v1 w:=by simp only [aaU,part,aap,cx he,hna,aau,Bool.false_eq_true,if_false,PO,aar]
           have p2:(part e ds (i0 * 1)).run P w= .ok u1 w:=by simp only [aaU,part,aap,cx he,hna,aau,Bool.false_eq_true,if_false,hu1,aar]
           simp only [fF.eqArr] at h
           simp only [List.range'_succ,Op.eqItems,aap,p1,p2,aau]
           split at h
           ·rename_i hq;rw[ih g e d' a b v1 u1 true D he (by rw[hna];intro c;cases c) r1 r2 hq (by omega)];simp only [aau,Bool.not_true,Bool.false_eq_true,if_false];exact ihn (i0+1) xs' ys' r lx2 ly2 (by simpa using l1) (by simpa using l2) h
           ·rename_i hq
            cases r with
            |true=>exact absurd h hq
            |false=>rw[ih g e d' a b v1 u1 false D he (by rw[hna];intro c;cases c) r1 r2 h (by omega)];simp
       rw[List.range_eq_range'];exact key len 0 xs ys r (by simpa using lx) (by simpa using ly) hlx hly h
    ·cases h
   ·cases h
  ·rename_i fs xs ys
   cases hx with
   |agg _ cs h1 h2=>
    cases hy with
    |agg _ ds k1 k2=>
     have af5:=hc rfl;obtain⟨g,rfl⟩:∃g',g=g'+1:=by
      cases g with
      |zero=>simp [gg] at af5
      |succ g=>exact⟨g,rfl⟩
     simp only [gg,hu,Bool.and_eq_true,Bool.not_eq_true',abx] at af5;have hfs:P.fieldsOf t=fs:=by simp [Program.fieldsOf,hu]
     rw[run_equalIn_struct w D t cs ds (by rw[hfs];exact hu) af5.1,hfs];have lx:=LR.of_arr h1 h2;have ly:=LR.of_arr k1 k2;have key:∀(l:List Field) (r:Bool),(∀fd∈l,gg P g fd.type=true)->fF.eqFs P (fF P f) l xs ys=some r->(Op.eqFields D cs ds l).run P w= .ok r w:=by
      intro l
      induction l with
      |nil=>intro r _ h;simp only [fF.eqFs] at h;injection h with h;subst h;simp [Op.eqFields]
      |cons fd l ihl=>
       intro r hl h;simp only [fF.eqFs] at h;simp only [Op.eqFields];by_cases hn:fd.name= "_"
       ·rw[if_pos hn] at h;rw[if_neg (by simp [hn])];exact ihl r (λx hx=>hl x (by simp [hx])) h
       ·rw[if_neg hn] at h;rw[if_pos hn];split at h
        ·rename_i i d' hi he;split at h
         ·rename_i a b ha hb;obtain⟨v1,p1,r1⟩:=ko (w:=w) he hi lx ha;obtain⟨u1,p2,r2⟩:=ko (w:=w) he hi ly hb;simp only [aap,p1,p2,aau];split at h
          ·rename_i hq;rw[ih g fd.type d' a b v1 u1 true D he (λ_=>hl fd (by simp)) r1 r2 hq (by omega)];simp only [aau,Bool.not_true,Bool.false_eq_true,if_false];exact ihl r (λx hx=>hl x (by simp [hx])) h
          ·rename_i hq
           cases r with
           |true=>exact absurd h hq
           |false=>rw[ih g fd.type d' a b v1 u1 false D he (λ_=>hl fd (by simp)) r1 r2 h (by omega)];simp
         ·cases h
        ·cases h
     exact key fs.toList r (λfd hfd=>af5.2 fd hfd) h
  ·cases h
end
end Go.Sym
namespace Go.Sym
section
variable{P:Program}{w0:World}{ρ:Rho}{w:World}{σ:St}{K:Fin}{k:AV->Tr}
def oB:Value->Value->Bool
 | .int _ _,.int _ _ | .float _ _,.float _ _ | .complex _ _ _,.complex _ _ _ | .string _,.string _=>false
 |_,_=>true
def iC{t:TypeId}{v u:Value}(h:oB v u=true):binOp .eql t v u=(do pure (.bool (←Op.equal t v u))):=by cases v <;> cases u <;> first|rfl|cases h
def iD{t:TypeId}{v u:Value}(h:oB v u=true):binOp .neq t v u=(do pure (.bool (!(←Op.equal t v u)))):=by cases v <;> cases u <;> first|rfl|cases h
def bo:AV->Nat
 | .int _ _=>1 | .str _=>2 | .opq _=>3 | .anyB=>3 | .anyI _=>3 | .osl _=>3 | .opc _=>3 | .sI _ _=>3 | .sB _=>3 | .sS _=>3 | .any1=>3 | .cptr _=>3 | .cv _=>3 | .gsl .. =>3 | .gptr .. =>3 | .agg _=>4 | .nili=>5|_=>0
def mV{x y:AV}{v u:Value}(hx:VR ρ x v)(hy:VR ρ y u)(h1:bo x≠3)(h2:bo y≠3)(hi:¬(bo x=1/\bo y=1))(hs:¬(bo x=2/\bo y=2)):oB v u=true:=by cases hx <;> simp [bo] at h1 <;> cases hy <;> simp [bo] at h2 hi hs <;> rfl
def Vi:Value->Value->Bool
 | .nilIface,.nilIface | .agg _,.agg _=>false
 |_,_=>true
def bJ{op:BinOp}{t:TypeId}{ox oy:Operand}{v u:Value}(h:Vi v u=true):(eqGuard op t ox oy v u).run P w= .ok () w:=by cases op <;> first|rfl|(cases v <;> cases u <;> first|rfl|cases h)
def lF{op:BinOp}{t:TypeId}{ox oy:Operand}{x y:AV}{v u:Value}(hx:VR ρ x v)(hy:VR ρ y u)(h1:bo x≠3)(h2:bo y≠3)(hn:¬(bo x=5/\bo y=5)∨pu ox=true∨pu oy=true)(ha:¬(bo x=4/\bo y=4)):
 (eqGuard op t ox oy v u).run P w= .ok () w:=by
 rcases hn with hn|hn
 ·refine bJ ?_;cases hx <;> simp [bo] at h1 <;> cases hy <;> simp [bo] at h2 hn ha <;> rfl
 ·by_cases h5:bo x=5/\bo y=5
  ·have e1:x= .nili:=by cases x <;> first|rfl|(simp [bo] at h5)
   have e2:y= .nili:=by cases y <;> first|rfl|(simp [bo] at h5)
   subst e1;subst e2;cases hx;cases hy;rcases hn with hn|hn
   ·cases ox <;> first|(cases hn;done)|skip
    cases op <;> first|rfl|(simp [eqGuard];done)
   ·cases oy <;> first|(cases hn;done)|skip
    cases op <;> first|rfl|(simp [eqGuard];done)
  ·refine bJ ?_;cases hx <;> simp [bo] at h1 <;> cases hy <;> simp [bo] at h2 h5 ha <;> rfl
def gM{op:BinOp}{t:TypeId}{ox oy:Operand}{xs ys:Array Value}(h:P.eqGuardType P.depth t=false):(eqGuard op t ox oy (.agg xs) (.agg ys)).run P w= .ok () w:=
 run_eqGuard_agg w op t ox oy xs ys h
def uk:∀(x y:List UInt8),mB (x.map UInt8.toNat) (y.map UInt8.toNat)=Op.bytesLess x y:=by
 intro x
 induction x with
 |nil=>intro y;cases y <;> simp [mB,Op.bytesLess]
 |cons a x ih=>
  intro y
  cases y with
  |nil=>simp [mB,Op.bytesLess]
  |cons b y=>
   simp only [aaP,mB,Op.bytesLess,ar,ih];rw[Bool.eq_iff_iff];by_cases h1:a.toNat<b.toNat
   ·have:a<b:=UInt8.lt_iff_toNat_lt.mpr h1;simp [Nat.ble_eq,this];left;omega
   ·have h1':¬a<b:=λh=>h1 (UInt8.lt_iff_toNat_lt.mp h);by_cases h2:a=b
    ·subst h2;simp;intro h;omega
    ·have:a.toNat≠b.toNat:=λh=>h2 (UInt8.toNat_inj.mp h);have hb:Nat.beq a.toNat b.toNat=false:=by
      cases hb:Nat.beq a.toNat b.toNat with
      |false=>rfl
      |true=>exact absurd (aN hb) this
     have hc:Nat.ble (Nat.succ a.toNat) b.toNat=false:=by
      cases hb:Nat.ble (Nat.succ a.toNat) b.toNat with
      |false=>rfl
      |true=>exact absurd (bV hb) (by omega)
     simp [hb,hc,h1',h2]
def ri(s t:ByteArray):bytesOf (s++t)=bytesOf s++bytesOf t:=by simp [bytesOf,ByteArray.data_append]
def bW(s:ByteArray):(bytesOf s).length=s.size:=by simp [bytesOf]
def Hx{op:BinOp}{s t:ByteArray}(hS:SI σ)(hG:Good w0 ρ σ.h w)(h:run (DX op (bytesOf s) (bytesOf t) k) σ K=true):
 Res P w0 ρ w k K (Op.stringOp op s t):=by
 have heq:=iB s t
 cases op
 case eql=>
  refine .plain (rh h) hS hG (.bool _) ?_
  rw[heq];rfl
 all_goals exact(ah h).elim
def fQ{op:BinOp}{j:IntKind}{a b:Int}(hop:op≠ .shl/\op≠ .shr){t:TypeId}:
 binOp op t (.int j a) (.int j b)=lY op j a b:=by
 cases op <;> first|exact absurd rfl hop.1|exact absurd rfl hop.2|(simp only [binOp];rw[if_neg (by simp)];rfl)
def qh{x:AV}(h:bo x=4):∃l,x= .agg l:=by cases x <;> first|exact⟨_,rfl⟩|(simp [bo] at h)
def qj{x:AV}(h:bo x=1):∃j n,x= .int j n:=by cases x <;> first|exact⟨_,_,rfl⟩|(simp [bo] at h)
def qk{x:AV}(h:bo x=2):∃l,x= .str l:=by cases x <;> first|exact⟨_,rfl⟩|(simp [bo] at h)
def lG{lit:Bool}{x y:AV}(h:vZ lit x y=true):bo x≠3/\bo y≠3/\(¬(bo x=5/\bo y=5)∨lit=true):=by cases x <;> cases y <;> first|(cases h;done)|(refine⟨?_, ?_,.inl ?_⟩ <;> simp [bo] <;> done)|exact⟨by simp [bo],by simp [bo],.inr h⟩
def Ei{f:Nat}{d:TypeDesc}{x y:AV}{r:Bool}(hd:cw d=true)(h:fF P f d x y=some r):∃a b,x= .agg a/\y= .agg b:=by
 cases f with
 |zero=>simp [fF] at h
 |succ f=>unfold fF at h;split at h <;> first|(cases hd;done)|exact⟨_,_,rfl,rfl⟩|(cases h;done)
def Vj{op:BinOp}{t:TypeId}{ox oy:Operand}{j j':IntKind}{n m:Int}(hS:SI σ)(hG:Good w0 ρ σ.h w)(h:run (ac (decide (j=j')) (ac (D0 op) (k .anyB) .fail) .fail) σ K=true):
 Res P w0 ρ w k K (do eqGuard op t ox oy (.int j n) (.int j' m);binOp op t (.int j n) (.int j' m)):=by
 obtain⟨hj,h2⟩:=ay h
 obtain⟨I',h3⟩:=ay h2
 have hj2:=of_decide_eq_true hj
 clear h h2 hj
 subst hj2
 have hop:op≠ .shl/\op≠ .shr:=by cases op <;> first|(simp [D0] at I';done)|exact⟨by simp,by simp⟩
 obtain⟨b,hb⟩:∃b:Bool,(lY op j n m).run P w= .ok (.bool b) w:=by cases op <;> first|(simp [D0] at I';done)|exact⟨_,rfl⟩
 refine(Res.plain h3 hS hG (.anyB b) hb).of_eq ?_
 rw[aap,bJ rfl,fQ hop];rfl
def bp{x:AV}{v:Value}{j:IntKind}{n:Int}(hx:VR ρ x v)(h:co x=some (j,n)):v= .int j n:=by
 cases hx <;> simp [co] at h
 ·obtain⟨e1,e2⟩:=h;subst e1;subst e2;rfl
 ·obtain⟨e1,e2⟩:=h;subst e1;subst e2;rfl
def dB{x:AV}{v:Value}{l:List Nat}(hx:VR ρ x v)(h:ge x=some l):∃s,v= .string s/\l=bytesOf s:=by
 cases hx <;> simp [ge] at h
 ·exact⟨_,rfl,h.symm⟩
 ·exact⟨_,rfl,h.symm⟩
def eP{x:AV}{v:Value}{p:Prop}(hx:VR ρ x v)(h:dQ x=some p):∃b,v= .bool b/\(b=true↔p):=by
 cases hx <;> simp [dQ] at h
 ·exact⟨_,rfl,by rw[←h]⟩
 ·rename_i hb;exact⟨_,rfl,by rw[←h];exact hb⟩
def Hy{op:BinOp}{j:IntKind}{x y:Int}(hS:SI σ)(hG:Good w0 ρ σ.h w)(hop:op≠ .shl/\op≠ .shr)(h:run (JJ op j x y k) σ K=true):
 Res P w0 ρ w k K (lY op j x y):=by
 obtain⟨b1,b2,b3,b4⟩:=fq P w j x y
 have cmp:∀(b:Bool) (p:Prop),(b=true↔p)->(lY op j x y).run P w= .ok (.bool b) w->run (k (.sB p)) σ K=true->Res P w0 ρ w k K (lY op j x y):=λb p hb h1 h2=>.plain h2 hS hG (.sB p b hb) h1
 cases op
 case add=>exact .plain (jf (f:=λn=>k (.sI j n)) h) hS hG (.sI _ _) rfl
 case sub=>exact .plain (jf (f:=λn=>k (.sI j n)) h) hS hG (.sI _ _) rfl
 case mul=>exact .plain (jf (f:=λn=>k (.sI j n)) h) hS hG (.sI _ _) rfl
 case quo=>
  obtain⟨h1,h2⟩:=aQ h
  have e:(Op.intDiv .quo j x y).run P w= .ok (.int j (j.wrap (x.tdiv y))) w:=by simp only [Op.intDiv,if_neg h1];rfl
  rcases du h2 with⟨hp,h⟩|⟨_,h⟩
  ·refine .plain (jf (f:=λn=>k (.sI j n)) h) hS hG (.sI _ _) ?_;show(Op.intDiv .quo j x y).run P w=_;rw[e,Int.tdiv_eq_ediv_of_nonneg hp.1]
  ·exact .plain (jf (f:=λn=>k (.sI j n)) h) hS hG (.sI _ _) e
 case rem=>
  obtain⟨h1,h2⟩:=aQ h
  have e:(Op.intDiv .rem j x y).run P w= .ok (.int j (x.tmod y)) w:=by simp only [Op.intDiv,if_neg h1];rfl
  rcases du h2 with⟨hp,h⟩|⟨_,h⟩
  ·refine .plain h hS hG (.sI _ _) ?_;show(Op.intDiv .rem j x y).run P w=_;rw[e,Int.tmod_eq_emod_of_nonneg hp.1]
  ·exact .plain h hS hG (.sI _ _) e
 case and=>exact .plain h hS hG (.sI _ _) b1
 case or=>exact .plain h hS hG (.sI _ _) b2
 case xor=>exact .plain h hS hG (.sI _ _) b3
 case andNot=>exact .plain h hS hG (.sI _ _) b4
 case shl=>exact absurd rfl hop.1
 case shr=>exact absurd rfl hop.2
 case eql=>exact cmp (x==y) _ (by simp) rfl h
 case neq=>exact cmp (x !=y) _ (by simp) rfl h
 case lss=>exact cmp (decide (x<y)) _ (by simp) rfl h
 case leq=>exact cmp (decide (x<=y)) _ (by simp) rfl h
 case gtr=>exact cmp (decide (x > y)) _ (by simp) rfl h
 case geq=>exact cmp (decide (x≥y)) _ (by simp) rfl h
def yJ{op:BinOp}{j jj:IntKind}{x y:Int}(hS:SI σ)(hG:Good w0 ρ σ.h w)(h:run (yw op j x y k) σ K=true):
 Res P w0 ρ w k K (Op.shift op j x jj y):=by
 obtain⟨n,rfl,h2⟩:=Ki h
 clear h
 have h:=jF h2
 clear h2
 have e:min ((n:Int).toNat) j.bits=lV n (bj j):=by rw[Eh,oz];rfl
 cases op
 case shl=>
  refine .plain (jf (f:=λn=>k (.sI j n)) h) hS hG (.sI _ _) ?_
  simp only [Op.shift,if_neg (show ¬(n:Int)<0 by omega),e,aar]
  congr 3
 case shr=>
  refine .plain h hS hG (.sI _ _) ?_
  simp only [Op.shift,if_neg (show ¬(n:Int)<0 by omega),e,aar]
  congr 2
  show x.fdiv ((2:Int) ^ lV n (bj j))=x/((2 ^ lV n (bj j):Nat):Int)
  rw[Int.natCast_pow]
  exact Int.fdiv_eq_ediv_of_nonneg x (by apply Int.pow_nonneg;decide)
 all_goals exact(ah h).elim
def wq{op:BinOp}{j jj:IntKind}{x y:Int}(hS:SI σ)(hG:Good w0 ρ σ.h w)(h:run (ue op j x y k) σ K=true):
 Res P w0 ρ w k K (Op.shift op j x jj y):=by
 obtain⟨hy,h⟩:=aQ h
 have e:j.bits=bj j:=by rw[oz]
 cases op
 case shl=>
  refine .plain (jf (f:=λn=>k (.sI j n)) h) hS hG (.sI _ _) ?_
  simp only [Op.shift,if_neg (show ¬y<0 by omega),e,aar]
  rw[Int.natCast_pow];rfl
 case shr=>
  refine .plain h hS hG (.sI _ _) ?_
  simp only [Op.shift,if_neg (show ¬y<0 by omega),e,aar]
  congr 2
  show x.fdiv ((2:Int) ^ min y.toNat (bj j))=x/((2 ^ min y.toNat (bj j):Nat):Int)
  rw[Int.natCast_pow]
  exact Int.fdiv_eq_ediv_of_nonneg x (by apply Int.pow_nonneg;decide)
 all_goals exact(ah h).elim
def yK:∀(x y:List UInt8),(!(Op.bytesLess x y || x==y))=Op.bytesLess y x:=by
 intro x
 induction x with
 |nil=>intro y;cases y <;> simp [Op.bytesLess]
 |cons a x ih=>
  intro y
  cases y with
  |nil=>simp [Op.bytesLess]
  |cons b y=>
   have:=ih y;rw[Bool.eq_iff_iff] at this⊢;simp only [Op.bytesLess,Bool.not_eq_true',Bool.or_eq_false_iff,decide_eq_false_iff_not,Bool.and_eq_false_iff,Bool.or_eq_true,decide_eq_true_eq,Bool.and_eq_true,beq_iff_eq,List.cons_beq_cons,beq_eq_false_iff_ne] at this⊢;rcases Nat.lt_trichotomy a.toNat b.toNat with h|h|h
   ·have h1:a<b:=UInt8.lt_iff_toNat_lt.mpr h;have h2:¬b<a:=λq=>by have:=UInt8.lt_iff_toNat_lt.mp q;omega
    have h3:b≠a:=λq=>by subst q;omega
    simp [h1,h2,h3]
   ·have h1:a=b:=UInt8.toNat_inj.mp h;subst h1;simpa using this
   ·have h1:b<a:=UInt8.lt_iff_toNat_lt.mpr h;have h2:¬a<b:=λq=>by have:=UInt8.lt_iff_toNat_lt.mp q;omega
    have h3:a≠b:=λq=>by subst q;omega
    simp [h1,h2,h3]
def Hz{op:BinOp}{s t:ByteArray}(hS:SI σ)(hG:Good w0 ρ σ.h w)(h:run (JK op (bytesOf s) (bytesOf t) k) σ K=true):
 Res P w0 ρ w k K (Op.stringOp op s t):=by
 have c8:mB (bytesOf s) (bytesOf t)=Op.bytesLess s.toList t.toList:=by rw[ByteArray.toList_eq,ByteArray.toList_eq];exact uk _ _
 have hgt:mB (bytesOf t) (bytesOf s)=Op.bytesLess t.toList s.toList:=by rw[ByteArray.toList_eq,ByteArray.toList_eq];exact uk _ _
 have heq:=iB s t
 have am0:(s.toList==t.toList)=true↔bytesOf s=bytesOf t:=by rw[←heq,wp]
 cases op
 case add=>
  obtain⟨h1,h2⟩:=aQ h
  rw[aav,bW,bW] at h1
  rw[←ri] at h2
  refine .plain h2 hS hG (.sS _) ?_
  have:¬(((s.size+t.size:Nat):Int) > IntKind.i64.max):=by
   have:IntKind.i64.max=9223372036854775807:=by decide
   omega
  simp only [Op.stringOp]
  rw[if_neg this];rfl
 case eql=>exact .plain h hS hG (.sB _ (s.toList==t.toList) am0) rfl
 case neq=>exact .plain h hS hG (.sB _ (!(s.toList==t.toList)) (by rw[Bool.not_eq_true', ←Bool.not_eq_true,am0])) rfl
 case lss=>exact .plain h hS hG (.sB _ (Op.bytesLess s.toList t.toList) (by rw[c8])) rfl
 case gtr=>exact .plain h hS hG (.sB _ (Op.bytesLess t.toList s.toList) (by rw[hgt])) (by simp only [Op.stringOp,aar];rw[yK])
 case leq=>exact .plain h hS hG (.sB _ (!Op.bytesLess t.toList s.toList) (by rw[hgt];simp)) (by simp only [Op.stringOp,aar];rw[←yK s.toList t.toList,Bool.not_not])
 case geq=>exact .plain h hS hG (.sB _ (!Op.bytesLess s.toList t.toList) (by rw[c8];simp)) rfl
 all_goals exact(ah h).elim
def HA{op:BinOp}{t:TypeId}{ox oy:Operand}{x y:AV}{v u:Value}(hS:SI σ)(hG:Good w0 ρ σ.h w)(hx:VR ρ x v)(hy:VR ρ y u)(h:run (vX op x y k) σ K=true):
 Res P w0 ρ w k K (do eqGuard op t ox oy v u;binOp op t v u):=by
 have lift:∀(s:Sem Value),(eqGuard op t ox oy v u).run P w= .ok () w->binOp op t v u=s->Res P w0 ρ w k K s->Res P w0 ρ w k K (do eqGuard op t ox oy v u;binOp op t v u):=λs h1 h2 h3=>
  h3.of_eq (by rw[aap,h1,h2];rfl)
 unfold vX at h
 split at h
 ·rename_i j n j' m ea eb;have e1:=bp hx ea;have e2:=bp hy eb;subst e1;subst e2;rcases bU h with⟨hs,h⟩|⟨hs,h⟩
  ·have e0:binOp op t (.int j n) (.int j' m)=Op.shift op j n j' m:=by cases op <;> first|rfl|(cases hs;done)
   rcases bU h with⟨_,h⟩|⟨_,h⟩
   ·exact lift (Op.shift op j n j' m) (bJ rfl) e0 (wq (jj:=j') hS hG h)
   ·exact lift (Op.shift op j n j' m) (bJ rfl) e0 (yJ (jj:=j') hS hG h)
  ·obtain⟨hj,h9⟩:=ay h;have hj:j=j':=of_decide_eq_true hj;subst hj;have hop:op≠ .shl/\op≠ .shr:=by cases op <;> first|(cases hs;done)|exact⟨by simp,by simp⟩
   exact lift _ (bJ rfl) (fQ hop) (Hy hS hG hop h9)
 ·split at h
  ·rename_i a b ea eb;obtain⟨s,e1,e1'⟩:=dB hx ea;obtain⟨s',e2,e2'⟩:=dB hy eb;subst e1;subst e2;subst e1';subst e2';exact lift _ (bJ rfl) (by cases op <;> rfl) (Hz hS hG h)
  ·exact(ah h).elim
def ul(a:AV):AV:=match a with | .sI k n=>.int k n|a=>a
def B6{a:AV}{v:Value}(h:VR ρ a v):VR ρ (ul a) v:=by cases h <;> first|exact .int _ _|(constructor;done)|(constructor <;> assumption)
def ws:∀{l:List AV} {vs:List Value},LR ρ l vs->LR ρ (l.map ul) vs
 | [],vs,h=>h
 |a::l,vs,h=>by obtain⟨v,m7,rfl,hv,h'⟩:=h.cons_inv;exact LR.cons (B6 hv) (ws h')
def P5{a:AV}{j:IntKind}{n:Int}(h:co a=some (j,n)):ul a= .int j n:=by
 unfold co at h;split at h
 ·injection h with h;injection h with h1 h2;subst h1;subst h2;rfl
 ·injection h with h;injection h with h1 h2;subst h1;subst h2;rfl
 ·cases h
def eQ{j:IntKind}{ks:List IntKind}{xs:List AV}{l:List Int}(h:dA (j::ks) xs=some l):∃a as n m,xs=a::as/\l=n::m/\ul a= .int j n/\dA ks as=some m:=by
 cases xs with
 |nil=>simp [dA] at h
 |cons a as=>
  unfold dA at h;split at h
  ·rename_i j' n hn;rw[ar] at h;split at h
   ·rename_i hj;have hj:=of_decide_eq_true hj;subst hj;split at h
    ·rename_i m hm;injection h with h;exact⟨a,as,n,m,rfl,h.symm,P5 hn,hm⟩
    ·cases h
   ·cases h
  ·cases h
def fW{xs:List AV}{l:List Int}(h:dA [] xs=some l):xs= []/\l= []:=by
 cases xs with
 |nil=>injection h with h;exact⟨rfl,h.symm⟩
 |cons a as=>simp [dA] at h
def oC:∀{ks:List IntKind} {xs:List AV} {l:List Int},dA ks xs=some l->xs.length=ks.length
 | [],xs,l,h=>by rw[(fW h).1];rfl
 |j::ks,xs,l,h=>by obtain⟨a,as,n,m,rfl,_,_,h'⟩:=eQ h;simp [oC h']
def rj{f:Nat}{j:IntKind}:∀(n:Nat) {xs ys:List AV} {l m:List Int},dA (List.replicate n j) xs=some l->dA (List.replicate n j) ys=some m->
 fF.eqArr (fF P (f+1) (.int j)) (xs.map ul) (ys.map ul)=some (decide (l=m))
 |0,xs,ys,l,m,h1,h2=>by obtain⟨rfl,rfl⟩:=fW h1;obtain⟨rfl,rfl⟩:=fW h2;simp [fF.eqArr]
 |n+1,xs,ys,l,m,h1,h2=>by
  obtain⟨a,as,x,l',rfl,rfl,ha,h1⟩:=eQ h1;obtain⟨b,bs,y,m',rfl,rfl,hb,h2⟩:=eQ h2;have ih:=rj (f:=f) n h1 h2;have e:fF P (f+1) (.int j) (.int j x) (.int j y)=some (x==y):=by simp [fF]
  simp only [aaP,fF.eqArr,ha,hb,e,ih];by_cases hxy:x=y
  ·subst hxy;simp
  ·have:(x==y)=false:=by simp [hxy]
   rw[this];simp [hxy]
def um{f:Nat}{xs ys:List AV}:∀(fs:List Field) (i:Nat) {ks:List IntKind} {l m:List Int},qa P i fs=some ks->dA ks (xs.drop i)=some l->dA ks (ys.drop i)=some m->
 fF.eqFs P (fF P (f+1)) fs (xs.map ul) (ys.map ul)=some (decide (l=m))
 | [],i,ks,l,m,h,h1,h2=>by injection h with h;subst h;obtain⟨_,rfl⟩:=fW h1;obtain⟨_,rfl⟩:=fW h2;simp [fF.eqFs]
 |fd::fs,i,ks,l,m,h,h1,h2=>by
  unfold qa at h;split at h
  ·cases h
  rename_i hn;split at h
  ·rename_i ho;split at h
   ·rename_i inf j hi hu;split at h
    ·rename_i ks' hk;injection h with h;subst h;obtain⟨a,as,x,l',e1,rfl,ha,h1⟩:=eQ h1;obtain⟨b,bs,y,m',e2,rfl,hb,h2⟩:=eQ h2;have dx:xs.drop (i+1)=as:=by rw[←abe,e1];rfl
     have dy:ys.drop (i+1)=bs:=by rw[←abe,e2];rfl
     rw[←dx] at h1;rw[←dy] at h2;have ih:=um (f:=f) fs (i+1) hk h1 h2;have gx:(xs.map ul)[fd.offset]? =some (.int j x):=by rw[ho,aaW, ←List.head?_drop,e1];simp [ha]
     have gy:(ys.map ul)[fd.offset]? =some (.int j y):=by rw[ho,aaW, ←List.head?_drop,e2];simp [hb]
     have e:fF P (f+1) (.int j) (.int j x) (.int j y)=some (x==y):=by simp [fF]
     rw[fF.eqFs,if_neg hn];simp only [hi,hu,cw,Bool.false_eq_true,if_false,gx,gy,e,ih];by_cases hxy:x=y
     ·subst hxy;simp
     ·have:(x==y)=false:=by simp [hxy]
      rw[this];simp [hxy]
    ·cases h
   ·cases h
  ·cases h
def yL{f:Nat}{d:TypeDesc}{ks:List IntKind}{xs ys:List AV}{l m:List Int}(h:vY P d=some ks)(h1:dA ks xs=some l)(h2:dA ks ys=some m):
 fF P (f+2) d (.agg (xs.map ul)) (.agg (ys.map ul))=some (decide (l=m)):=by
 cases d with
 |array n e=>
  unfold vY at h
  simp only at h
  split at h
  ·rename_i i j hi hu;rw[ar] at h;split at h
   ·rename_i hs;have hs:=aN hs;injection h with h;subst h;have lx:=oC h1;have ly:=oC h2;rw[abM] at lx ly;unfold fF;simp [hi,hu,hs,cw,lx,ly];exact rj n h1 h2
   ·cases h
  ·cases h
 |struct fs=>
  unfold fF
  exact um fs.toList 0 h (by rw[aa4];exact h1) (by rw[aa4];exact h2)
 |_=>cases h
def Vk{d:TypeDesc}{xs ys:List AV}{p:Prop}(h:eqS P d xs ys=some p):∃r,fF P 16 d (.agg (xs.map ul)) (.agg (ys.map ul))=some r/\(r=true↔p):=by
 unfold eqS at h;split at h
 ·rename_i ks hk;split at h
  ·rename_i l m h1 h2;injection h with h;subst h;exact⟨_,yL (f:=14) hk h1 h2,by simp⟩
  ·cases h
 ·cases h
def yM{t:TypeId}{d:TypeDesc}{a b:List AV}{v u:Value}{kb:Bool->Tr}{ks:Prop->Tr}(hu:P.underlying t=some d)(hc:gg P 16 t=true)(hx:VR ρ (.agg a) v)(hy:VR ρ (.agg b) u)(h:run (DZ P d a b kb ks) σ K=true):
 ∃r,(Op.equal t v u).run P w= .ok r w/\(run (kb r) σ K=true∨∃p,(r=true↔p)/\run (ks p) σ K=true):=by
 unfold DZ at h
 split at h
 ·rename_i r hr;exact⟨r,mU 16 16 t d _ _ v u r 10000 hu (λ_=>hc) hx hy hr (by omega),.inl h⟩
 ·obtain⟨p,hp,h⟩:=cb h;obtain⟨r,hr,hrp⟩:=Vk hp;have deA:∀{l:List AV} {v:Value},VR ρ (.agg l) v->VR ρ (.agg (l.map ul)) v:=λh=>by
   cases h with
   |agg _ cs h1 h2=>obtain⟨q1,q2⟩:=(ws (LR.of_arr h1 h2)).arr;exact .agg _ _ q1 q2
  exact⟨r,mU 16 16 t d _ _ v u r 10000 hu (λ_=>hc) (deA hx) (deA hy) hr (by omega),.inr ⟨p,hrp,h⟩⟩
set_option maxHeartbeats 1000000 in
theorem un{op:BinOp}{t:TypeId}{ox oy:Operand}{x y:AV}{v u:Value}(hS:SI σ)(hG:Good w0 ρ σ.h w)(hx:VR ρ x v)(hy:VR ρ y u)(h:run (qb P (ac (pu ox) true (pu oy)) op t x y k) σ K=true):
 Res P w0 ρ w k K (do eqGuard op t ox oy v u;binOp op t v u):=by
 have lift:∀(s:Sem Value),(eqGuard op t ox oy v u).run P w= .ok () w->binOp op t v u=s->Res P w0 ρ w k K s->Res P w0 ρ w k K (do eqGuard op t ox oy v u;binOp op t v u):=λs h1 h2 h3=>
  h3.of_eq (by rw[aap,h1,h2];rfl)
 have eqR:∀(d:TypeDesc) (r:Bool),P.underlying t=some d->(cw d=true->gg P 16 t=true)->fF P 16 d x y=some r->(Op.equal t v u).run P w= .ok r w:=λd r hu hc he=>
  mU 16 16 t d x y v u r 10000 hu hc hx hy he (by omega)
 unfold qb at h
 split at h
 ·rename_i j a yk b;cases hx;cases hy;exact lift (Op.shift _ j a yk b) (bJ rfl) rfl (yI (jj:=yk) hS hG h)
 ·rename_i j a yk b;cases hx;cases hy;exact lift (Op.shift _ j a yk b) (bJ rfl) rfl (yI (jj:=yk) hS hG h)
 ·rename_i n1 n2;cases hx;cases hy;obtain⟨hj,h2⟩:=ay h;have hj2:=of_decide_eq_true hj;clear h hj;subst hj2;have hop:op≠ .shl/\op≠ .shr:=⟨λe=>n1 e,λe=>n2 e⟩
  exact lift _ (bJ rfl) (fQ hop) (Hw hS hG hop h2)
 ·cases hx;cases hy;exact lift _ (bJ rfl) (by cases op <;> rfl) (Hx hS hG h)
 ·obtain⟨hc,h⟩:=ay h;obtain⟨d,hu,h⟩:=cG h;rw[ar] at hc;have hg:P.eqGuardType P.depth t=false:=by
   cases hq:P.eqGuardType P.depth t with
   |false=>rfl
   |true=>rw[hq] at hc;cases hc
  rw[hg] at hc;obtain⟨r,e,h⟩:=yM (w:=w) hu hc hx hy h;cases hx;cases hy;rcases h with h|⟨p,hp,h⟩
  ·exact lift _ (gM hg) (iC rfl) (.plain (rh h) hS hG (.bool r) (by rw[aap,e];rfl))
  ·exact lift _ (gM hg) (iC rfl) (.plain h hS hG (.sB p r hp) (by rw[aap,e];rfl))
 ·obtain⟨hc,h⟩:=ay h;obtain⟨d,hu,h⟩:=cG h;rw[ar] at hc;have hg:P.eqGuardType P.depth t=false:=by
   cases hq:P.eqGuardType P.depth t with
   |false=>rfl
   |true=>rw[hq] at hc;cases hc
  rw[hg] at hc;obtain⟨r,e,h⟩:=yM (w:=w) hu hc hx hy h;cases hx;cases hy;rcases h with h|⟨p,hp,h⟩
  ·exact lift _ (gM hg) (iD rfl) (.plain (rh h) hS hG (.bool _) (by rw[aap,e];rw[ar];cases r <;> rfl))
  ·exact lift _ (gM hg) (iD rfl) (.plain h hS hG (.sB (¬p) (!r) (by rw[←hp];simp)) (by rw[aap,e];rfl))
 ·rename_i n1 n2 n3;obtain⟨hp,h⟩:=ay h;obtain⟨d,hu,h⟩:=cG h;obtain⟨r,hr,h⟩:=cb h;obtain⟨h1,h2,h3⟩:=lG hp;have h4:¬(bo x=4/\bo y=4):=λ⟨e1,e2⟩=>by obtain⟨a,e1⟩:=qh e1;obtain⟨b,e2⟩:=qh e2;exact n3 _ _ e1 e2
  have h5:¬(bo x=1/\bo y=1):=λ⟨e1,e2⟩=>by obtain⟨_,a,e1⟩:=qj e1;obtain⟨_,b,e2⟩:=qj e2;exact n1 _ _ _ _ e1 e2
  have h6:¬(bo x=2/\bo y=2):=λ⟨e1,e2⟩=>by obtain⟨a,e1⟩:=qk e1;obtain⟨b,e2⟩:=qk e2;exact n2 _ _ e1 e2
  have hna:cw d=true->gg P 16 t=true:=λhd=>by obtain⟨a,b,e1,e2⟩:=Ei hd hr;exact(n3 _ _ e1 e2).elim
  exact lift _ (lF hx hy h1 h2 (h3.imp id λhl=>by rw[ar] at hl;split at hl <;> first|exact .inl ‹_› | exact .inr hl) h4) (iC (mV hx hy h1 h2 h5 h6)) (.plain (rh h) hS hG (.bool r) (by rw[aap,eqR d r hu hna hr];rfl))
 ·rename_i n1 n2 n3;obtain⟨hp,h⟩:=ay h;obtain⟨d,hu,h⟩:=cG h;obtain⟨r,hr,h⟩:=cb h;obtain⟨h1,h2,h3⟩:=lG hp;have h4:¬(bo x=4/\bo y=4):=λ⟨e1,e2⟩=>by obtain⟨a,e1⟩:=qh e1;obtain⟨b,e2⟩:=qh e2;exact n3 _ _ e1 e2
  have h5:¬(bo x=1/\bo y=1):=λ⟨e1,e2⟩=>by obtain⟨_,a,e1⟩:=qj e1;obtain⟨_,b,e2⟩:=qj e2;exact n1 _ _ _ _ e1 e2
  have h6:¬(bo x=2/\bo y=2):=λ⟨e1,e2⟩=>by obtain⟨a,e1⟩:=qk e1;obtain⟨b,e2⟩:=qk e2;exact n2 _ _ e1 e2
  have hna:cw d=true->gg P 16 t=true:=λhd=>by obtain⟨a,b,e1,e2⟩:=Ei hd hr;exact(n3 _ _ e1 e2).elim
  exact lift _ (lF hx hy h1 h2 (h3.imp id λhl=>by rw[ar] at hl;split at hl <;> first|exact .inl ‹_› | exact .inr hl) h4) (iD (mV hx hy h1 h2 h5 h6)) (.plain (rh h) hS hG (.bool _) (by rw[aap,eqR d r hu hna hr];rw[ar];cases r <;> rfl))
 ·rename_i n
  obtain⟨hn,h⟩:=ay h
  have hn:=of_decide_eq_true hn
  subst hn
  cases hx with
  |anyI _ a=>
   cases hy;have hp:=Eg (n:=4) h;have c8:Nat.land (aE (am .i64) a) (aE (am .i64) 3)<4:=by show(aE (am .i64) a) &&& 3<2 ^ 2;exact Nat.and_lt_two_pow _ (by decide)
   have hw:IntKind.wrap .i64 (Int.ofNat (Nat.land (aE (am .i64) a) (aE (am .i64) 3)))=Int.ofNat (Nat.land (aE (am .i64) a) (aE (am .i64) 3)):=by
    generalize Nat.land (aE (am .i64) a) (aE (am .i64) 3)=m at c8;have:m=0∨m=1∨m=2∨m=3:=by omega
    rcases this with rfl|rfl|rfl|rfl <;> rfl
   exact lift (lY .and .i64 a 3) (bJ rfl) (fQ (op:=.and) ⟨by simp,by simp⟩) (.plain (hp _ (.inr c8) (λh=>absurd h (by omega))) hS hG (.int _ _) (by show(Op.intBits .and .i64 a 3).run P w=_;rw[(fq P w .i64 a 3).1,hw]))
 ·cases hx;cases hy;exact Vj hS hG h
 ·exact(ah h).elim
def Kk{op:UnOp}{x:AV}{v:Value}(hS:SI σ)(hG:Good w0 ρ σ.h w)(hx:VR ρ x v)(h:run (BS op x k) σ K=true):Res P w0 ρ w k K (Op.unary op v):=by
 unfold BS at h;split at h
 ·cases hx;exact .plain (jG h) hS hG (.int _ _) rfl
 ·rename_i j n;cases hx;exact .plain (jG h) hS hG (.int _ _) (fq P w j (if j.signed then -1 else j.max) n).2.2.1
 ·cases hx;refine .plain (rh h) hS hG (.bool _) ?_;rename_i b;rw[ar];cases b <;> rfl
 ·exact(ah h).elim
def yN{x:AV}{v:Value}{kk:AV->Tr}(hx:VR ρ x v)(h:run (D1 x kk) σ K=true):∃x',VR ρ x' v/\run (kk x') σ K=true:=by
 unfold D1 at h;split at h
 ·rename_i p;cases hx;rename_i b hb;rcases du h with⟨hp,h⟩|⟨hp,h⟩
  ·have:b=true:=hb.2 hp;subst this;exact⟨_,.bool _,h⟩
  ·have:b=false:=by
    cases b with
    |false=>rfl
    |true=>exact absurd (hb.1 rfl) hp
   subst this;exact⟨_,.bool _,h⟩
 ·exact⟨_,hx,h⟩
def P6{x y:AV}{v u:Value}(h:PW x y=true)(hx:VR ρ x v)(hy:VR ρ y u):(∃a n c,v= .slice a n c/\(¬v_ x=0->∃b,a=some b))/\u= .slice none 0 0:=by
 unfold PW at h;split at h
 ·cases hy
  refine⟨?_,rfl⟩
  cases hx with
  |cvnil c h0=>exact⟨_,_,_,rfl,λh=>absurd h0 h⟩
  |cvempty c a h0=>exact⟨_,_,_,rfl,λh=>absurd h0 h⟩
  |cv=>exact⟨_,_,_,rfl,λ_=>⟨_,rfl⟩⟩
 ·cases hy
  refine⟨?_,rfl⟩
  cases hx with
  |gnil=>exact⟨_,_,_,rfl,λh=>absurd rfl h⟩
  |gempty=>exact⟨_,_,_,rfl,λh=>absurd rfl h⟩
  |gsl=>exact⟨_,_,_,rfl,λ_=>⟨_,rfl⟩⟩
 ·cases h
def Kl{op:BinOp}{t:TypeId}{ox oy:Operand}{x y:AV}{v u:Value}(hS:SI σ)(hG:Good w0 ρ σ.h w)(hn:PW x y=true)(hx:VR ρ x v)(hy:VR ρ y u)(h:run (JN P op t x k) σ K=true):
 Res P w0 ρ w k K (do eqGuard op t ox oy v u;binOp op t v u):=by
 obtain⟨⟨a,n,c,rfl,i5⟩,rfl⟩:=P6 hn hx hy
 have lift:∀(s:Sem Value),binOp op t (.slice a n c) (.slice none 0 0)=s->Res P w0 ρ w k K s->Res P w0 ρ w k K (do eqGuard op t ox oy (.slice a n c) (.slice none 0 0);binOp op t (.slice a n c) (.slice none 0 0)):=λs h2 h3=>
  h3.of_eq (by rw[aap,bJ rfl,h2];rfl)
 obtain⟨d,hu,h⟩:=cG h
 have key:∀e,d= .slice e->∃r,(Op.equal t (.slice a n c) (.slice none 0 0)).run P w= .ok r w/\(¬v_ x=0->r=false):=λe hd=>by
  subst hd;have:∀D:Nat,∃r,(Op.equalIn (D+1) t (.slice a n c) (.slice none 0 0)).run P w= .ok r w/\(¬v_ x=0->r=false):=λD=>by
   cases a with
   |none=>exact⟨true,by simp [Op.equalIn,run_underlying hu],λh=>by obtain⟨b,hb⟩:=i5 h;cases hb⟩
   |some b=>exact⟨false,by simp [Op.equalIn,run_underlying hu],λ_=>rfl⟩
  exact this 9999
 split at h
 ·obtain⟨r,e,hr⟩:=key _ rfl;rcases du h with⟨_,h⟩|⟨hl,h⟩
  ·exact lift _ (iC rfl) (.plain h hS hG (.anyB r) (by rw[aap,e];rfl))
  ·have hr:=hr hl;subst hr;exact lift _ (iC rfl) (.plain h hS hG (.bool false) (by rw[aap,e];rfl))
 ·obtain⟨r,e,hr⟩:=key _ rfl;rcases du h with⟨_,h⟩|⟨hl,h⟩
  ·exact lift _ (iD rfl) (.plain h hS hG (.anyB _) (by rw[aap,e];rfl))
  ·have hr:=hr hl;subst hr;exact lift _ (iD rfl) (.plain h hS hG (.bool true) (by rw[aap,e];rfl))
 ·exact(ah h).elim
def Km{op:BinOp}{t:TypeId}{ox oy:Operand}{x y:AV}{v u:Value}(hS:SI σ)(hG:Good w0 ρ σ.h w)(hx:VR ρ x v)(hy:VR ρ y u)(h:run (JO P (ac (pu ox) true (pu oy)) op t x y k) σ K=true):
 Res P w0 ρ w k K (do eqGuard op t ox oy v u;binOp op t v u):=by
 rcases bU h with⟨hn,h⟩|⟨_,h⟩
 ·exact Kl hS hG hn hx hy h
 rcases bU h with⟨_,h⟩|⟨_,h⟩
 ·rcases bU h with⟨_,h⟩|⟨_,h⟩
  ·obtain⟨x',w9,h⟩:=yN hx h;obtain⟨y',hy',h⟩:=yN hy h;exact un hS hG w9 hy' h
  ·exact HA hS hG hx hy h
 ·exact un hS hG hx hy h
def Kn{op:UnOp}{x:AV}{v:Value}(hS:SI σ)(hG:Good w0 ρ σ.h w)(hx:VR ρ x v)(h:run (BQ op x k) σ K=true):Res P w0 ρ w k K (Op.unary op v):=by
 unfold BQ at h;split at h
 ·rename_i j n;cases hx;exact .plain (jf (f:=λn=>k (.sI j n)) h) hS hG (.sI _ _) rfl
 ·rename_i j n;cases hx;exact .plain h hS hG (.sI _ _) (fq P w j (if j.signed then -1 else j.max) n).2.2.1
 ·cases hx;rename_i p b hb;exact .plain h hS hG (.sB _ (!b) (by rw[←hb];simp)) rfl
 ·exact(ah h).elim
def P7{op:UnOp}{x:AV}{v:Value}(hS:SI σ)(hG:Good w0 ρ σ.h w)(hx:VR ρ x v)(h:run (Ts op x k) σ K=true):Res P w0 ρ w k K (Op.unary op v):=by
 rcases bU h with⟨_,h⟩|⟨_,h⟩
 ·exact Kn hS hG hx h
 ·exact Kk hS hG hx h
end
end Go.Sym
namespace Go.Sym
open Go.RowKit (Below)
def Good.ext{w0:World}{ρ:Rho}{H H':T ABlk}{w:World}(hG:Good w0 ρ H w)(h:∀b,H'.get b=H.get b):Good w0 ρ H' w:=
 ⟨⟨hG.below,λb x hx=>hG.blk b x (by rw[←h];exact hx),λb g y hy=>by obtain⟨q1,x,q2⟩:=hG.dom b g y hy;exact⟨q1,x,by rw[h];exact q2⟩,hG.inj,λb g y x hy hx=>hG.gens b g y x hy (by rw[←h];exact hx),λb arr ty hf=>⟨(hG.frz b arr ty hf).1,λb' g x hh e=>by rw[h];exact(hG.frz b arr ty hf).2 b' g x hh e⟩,hG.frzB,λb k I l hb=>hG.objO b k I l (by rw[←h];exact hb)⟩,hG.ownB⟩
section
variable{P:Program}{w0:World}{ρ:Rho}{w:World}{σ:St}{K:Fin}{k:AV->Tr}
def yO{t:TypeId}{k:AV->Tr}(ρ:Rho)(w:World)(h:run (qV P t k) σ K=true):∃z zv i,P.info? t=some i/\(zeroValue t).run P w= .ok zv w/\VR ρ z zv/\run (k z) σ K=true:=by obtain⟨i,h1,h2⟩:=cb (k:=λi:TypeInfo=>dr i.zero .fail λv=>dr (U_ 8 v) .fail k) h;obtain⟨v,h3,h4⟩:=cb h2;obtain⟨a,h5,h6⟩:=cb h4;refine⟨a,v,i,h1, ?_,JG ρ _ _ _ h5,h6⟩;simp [zeroValue,typeInfo,aap,run_program,h1,h3]
def Ko{k:T Cell->Tr}:∀(l:List AV) (i:Nat) (t:T Cell),run (PX l i t k) σ K=true->
 ∃c,run (k c) σ K=true/\∀o x,c.get o=some x->(∃(j:Nat) (a:AV),o=i+j/\l[j]? =some a/\x= .mk 0 a)∨(t.get o=some x/\(o<i∨i+l.length<=o)):=by
 intro l
 induction l with
 |nil=>intro i t h;exact⟨t,h,λo x hx=>.inr ⟨hx,by simp;omega⟩⟩
 |cons a l ih=>
  intro i t h
  have h:run (T.setK t i (.mk 0 a) λt=>fN (Nat.succ i) λi=>PX l i t k) σ K=true:=h
  rw[T.setK_eq] at h
  obtain⟨c,h1,h2⟩:=ih _ _ (jF h)
  refine⟨c,h1,λo x hx=>?_⟩
  rcases h2 o x hx with⟨j,b,e,hb,w9⟩|⟨w9,ho⟩
  ·exact .inl ⟨j+1,b,by omega,by simpa using hb,w9⟩
  ·by_cases e:o=i
   ·subst e;have:=T.get_set_some _ _ w9;exact .inl ⟨0,a,by omega,rfl,this⟩
   ·rw[T.get_set_ne _ e] at w9;exact .inr ⟨w9,by simp at ho⊢;omega⟩
def B7{l:List AV}{k:Nat->Tr}(fl:Nat)(arr:Array Value)(e:TypeId)(fr:Nat×Nat)(hfr:fr.1<=fr.2/\∀x,(x<arr.size∨fl<=0)->fr.1<=x->x<fr.2->False)(hS:SI σ)(hG:Good w0 ρ σ.h w)(p8:l.length<=arr.size)(hl:∀(i:Nat) (a:AV),l[i]? =some a->∃v,arr[i]? =some v/\VR ρ a v)(h:run (D2 fl e l k) σ K=true):
 ∃b a8,run (k b) a8 K=true/\SI a8/\ρ.le (ρ.put b 0 ⟨w.heap.size,0,arr.size⟩)/\Good w0 (ρ.put b 0 ⟨w.heap.size,0,arr.size⟩) a8.h {w with heap:=w.heap.push (.cells arr e fr)}:=by
 have h:run (PX l 0 .leaf λt=>fN (List.length l) λn=>.new (.cells t 0 0 n fl 0 false e) k) σ K=true:=h
 obtain⟨c,h1,h2⟩:=Ko _ _ _ h
 obtain⟨n,a8,hn,c7,hh,l6,h3⟩:=gi hS (jF h1)
 obtain⟨hle,f6⟩:=hG.alloc hn c7 (.cells c 0 0 l.length fl 0 false e) (.cells arr e fr) 0 arr.size (λρ' hle j0 _=>by
  refine⟨λo x hx=>?_,λg hg=>?_⟩
  ·rcases h2 o x hx with⟨j,a,e1,ha,ex⟩|⟨w9,_⟩
   ·have:x.tag=0:=by rw[ex];rfl
    have:j<l.length:=by
     rcases aat j l.length with h'|h'
     ·exact h'
     ·rw[aaz h'] at ha;cases ha
    omega
   ·simp [T.get] at w9
  ·have:g=0:=by omega
   subst this;refine⟨_,j0,λ_=>.new hG.below.size,(λh=>by cases h),arr,fr, ?_,rfl,λ_=>⟨hfr.1,λx h1 h2 h3=>(hfr.2 x h1 h2 h3).elim⟩,λo tag a ho ht=>?_⟩
   ·show(w.heap.push _)[w.heap.size]? =_;simp
   ·rcases h2 o _ ho with⟨j,b,e1,hb,hx⟩|⟨w9,_⟩
    ·injection hx with C' t8;subst t8;obtain⟨v,hv,hr⟩:=hl j a hb;refine⟨aaD _,v, ?_,hr.mono hle⟩;show arr[o-0]? =some v;rw[show o-0=j by omega];exact hv
    ·simp [T.get] at w9)
 exact⟨n,a8,h3,l6,hle,by rw[hh];exact f6⟩
def oD{l:List AV}{k:Nat->Tr}(arr:Array Value)(e:TypeId)(hS:SI σ)(hG:Good w0 ρ σ.h w)(p8:l.length<=arr.size)(hl:∀(i:Nat) (a:AV),l[i]? =some a->∃v,arr[i]? =some v/\VR ρ a v)(h:run (qc e l k) σ K=true):
 ∃b a8,run (k b) a8 K=true/\SI a8/\ρ.le (ρ.put b 0 ⟨w.heap.size,0,arr.size⟩)/\Good w0 (ρ.put b 0 ⟨w.heap.size,0,arr.size⟩) a8.h {w with heap:=w.heap.push (.cells arr e)}:=
 B7 0 arr e (0,0) ⟨aao _,λx _ _ h=>absurd h (by simp)⟩ hS hG p8 hl h
def LR.to_arr{l:List AV}{cs:Array Value}(h:LR ρ l cs.toList):l.length<=cs.size/\∀(i:Nat) (a:AV),l[i]? =some a->∃v,cs[i]? =some v/\VR ρ a v:=
 ⟨by have:=h.1;simp at this;omega,λi a ha=>by obtain⟨v,hv,hr⟩:=h.get ha;exact⟨v,by simpa using hv,hr⟩⟩
def uo{a:AV}{v:Value}{t:TypeId}(hS:SI σ)(hG:Good w0 ρ σ.h w)(hv:VR ρ a v)(h:run (mQ t a k) σ K=true):
 Res P w0 ρ w k K (do pure (.pointer (some (←newVar t v)))):=by
 obtain⟨l,hl,h1⟩:=hY hv h
 obtain⟨q1,q2⟩:=LR.to_arr hl
 obtain⟨b,a8,h2,l6,hle,f6⟩:=oD v.cells t hS hG q1 q2 h1
 refine⟨_,a8,_,_,_,h2,l6,f6,hle,VR.ptr b 0 0 _ (Rho.put_at _ _ _ _) (aaD _), ?_⟩
 simp [newVar,newRow]
def Kp{t:TypeId}(hS:SI σ)(hG:Good w0 ρ σ.h w)(h:run (qV P t λz=>mQ t z k) σ K=true):Res P w0 ρ w k K (Instr.alloc t true (.tuple #[])):=by obtain⟨z,zv,i,_,hz,hr,h1⟩:=yO ρ w h;refine(uo (P:=P) (t:=t) hS hG hr h1).of_eq ?_;simp [Instr.alloc,aap,hz]
def Vl{a:AV}{v:Value}{t:TypeId}(hS:SI σ)(hG:Good w0 ρ σ.h w)(hv:VR ρ a v)(h:run (mQ t a k) σ K=true):Res P w0 ρ w k K (Instr.box t v):=
 uo hS hG hv h
def Ej{b g o tag:Nat}{a:AV}{c:T Cell}{gen lo hi fl fh ty:Nat}{ro:Bool}{h:Home}{H:T ABlk}(hG:Good w0 ρ H w)(hb:H.get b=some (.cells c gen lo hi fl fh ro ty))(hh:ρ.at_ b g=some h)(hg:g<=gen)(hc:c.get o=some (.mk tag a))(ht:tag<=g):h.shift<=o/\∃v,w.cell? ⟨h.blk,o-h.shift,none⟩=some v/\VR ρ a v:=by
 obtain⟨hm,q1,_,_,arr,fr,q2,q3,_,q4⟩:=(hG.blk _ _ hb).2 g hg
 rw[hh] at q1;injection q1 with q1;subst q1
 obtain⟨r1,v,r2,r3⟩:=q4 o tag a hc ht
 refine⟨r1,v, ?_,r3⟩
 simp [World.cell?,q2,r2]
def YA{c:T Cell}{g:Nat}:∀{n o:Nat} {k:List AV->Tr},run (PY c g n o k) σ K=true->∃l,run (k l) σ K=true/\l.length=n/\∀(j:Nat) (a:AV),l[j]? =some a->∃tag,c.get (o+j)=some (.mk tag a)/\tag<=g:=by
 intro n
 induction n with
 |zero=>intro o k h;exact⟨[],h,rfl,by simp⟩
 |succ n ih=>
  intro o k h
  have h:run (T.getK c o .fail λx=>match x with
   | .mk tag v=>ac (Nat.ble tag g) (fN (Nat.succ o) λo=>PY c g n o λl=>k (v::l)) .fail) σ K=true:=h
  obtain⟨x,hx,h⟩:=tH h
  cases x with
  |mk tag v=>
   obtain⟨ht,h⟩:=ay h
   obtain⟨l,h1,h2,h3⟩:=ih (jF h)
   refine⟨v::l,h1,by simp [h2],λj a ha=>?_⟩
   cases j with
   |zero=>simp at ha;subst ha;exact⟨tag,hx,bV ht⟩
   |succ j=>obtain⟨ad5,q1,q2⟩:=h3 j a (by simpa using ha);exact⟨ad5,by rw[show o+(j+1)=Nat.succ o+j by omega];exact q1,q2⟩
def lZ{b g o n:Nat}{h0:Home}{k:List AV->Tr}(hS:SI σ)(hG:Good w0 ρ σ.h w)(hh:ρ.at_ b g=some h0)(ho:h0.shift<=o)(h:run (ke b g o n k) σ K=true):
 ∃l cs a8,a8.h=σ.h/\SI a8/\run (k l) a8 K=true/\LR ρ l cs/\cs.length=n/\(∀(j:Nat) (v:Value),cs[j]? =some v->w.cell? ⟨h0.blk,o-h0.shift+j,none⟩=some v)/\(loadCells ⟨h0.blk,o-h0.shift,none⟩ n).run P w= .ok cs.toArray w:=by
 obtain⟨x,b6,hx,e1,a9,h⟩:=bG hS h
 cases x with
 |cells c gen lo hi fl fh ro ty=>
  obtain⟨hg,h⟩:=ay h
  have hg:=bV hg
  obtain⟨l,h1,h2,h3⟩:=YA h
  have key:∀(j:Nat) (a:AV),l[j]? =some a->∃v,w.cell? ⟨h0.blk,o-h0.shift+j,none⟩=some v/\VR ρ a v:=λj a ha=>by obtain⟨tag,q1,q2⟩:=h3 j a ha;obtain⟨_,v,r2,r3⟩:=Ej hG hx hh hg q1 q2;exact⟨v,by rw[show o-h0.shift+j=o+j-h0.shift by omega];exact r2,r3⟩
  let cs:List Value:=(List.range l.length).map λj=>(w.cell? ⟨h0.blk,o-h0.shift+j,none⟩).getD undef
  have hcs:cs.length=n:=by simp [cs,h2]
  have d7:∀(j:Nat) (v:Value),cs[j]? =some v->w.cell? ⟨h0.blk,o-h0.shift+j,none⟩=some v:=λj v hv=>by
   have hj:j<l.length:=by
    rcases aat j l.length with h'|h'
    ·exact h'
    ·rw[aaz (by simp [cs];exact h')] at hv;cases hv
   obtain⟨v',B',_⟩:=key j l[j] (aaw hj);simp [cs,hj,B'] at hv;rw[B',hv]
  refine⟨l,cs,b6,e1,a9,h1,⟨by simp [cs],λj a v ha hv=>?_⟩,hcs,d7, ?_⟩
  ·obtain⟨v',B',hr⟩:=key j a ha;have:=d7 j v hv;rw[B'] at this;injection this with this;subst this;exact hr
  ·have:=run_loadCells_list (P:=P) w ⟨h0.blk,o-h0.shift,none⟩ cs (λj v hv=>by
    have:=d7 j v hv;unfold Addr.add;split
    ·rename_i e;subst e;simpa using this
    ·exact this)
   rw[hcs] at this;exact this
 |_=>exact(ah h).elim
def yP{t:TypeId}{x:AV}{v:Value}(hS:SI σ)(hG:Good w0 ρ σ.h w)(hx:VR ρ x v)(h:run (yx P t x k) σ K=true):∃av a8 u,run (k av) a8 K=true/\SI a8/\Good w0 ρ a8.h w/\VR ρ av u/\(Instr.loadAt t v).run P w= .ok u w:=by
 cases hx with
 |ptr b g o h0 hh ho=>
  obtain⟨d,hu,h⟩:=cG h;rcases bU h with⟨hd,h⟩|⟨hd,h⟩
  ·obtain⟨i,hi,h⟩:=cB h;obtain⟨l,cs,a8,e,l6,h1,hl,hlen,_,b9⟩:=lZ (P:=P) hS hG hh ho h;have l3:LR ρ l cs.toArray.toList:=by simpa using hl
   refine⟨_,_,_,h1,l6,by rw[e];exact hG,VR.agg l cs.toArray l3.arr.1 l3.arr.2, ?_⟩;simp only [Instr.loadAt,Instr.sureAddr,loadVar,aap,aar,aau,cx hu,hd,if_true,aA hi,b9]
  ·obtain⟨y,b6,hy,e1,a9,h⟩:=bG hS h
   cases y with
   |cells c gen lo hi fl fh ro ty=>
    obtain⟨hg,h⟩:=ay h
    obtain⟨z,hz,h⟩:=tH h
    cases z with
    |mk tag a=>obtain⟨ht,h⟩:=ay h;obtain⟨_,v,hv,hr⟩:=Ej hG hy hh (bV hg) hz (bV ht);refine⟨_,_,_,h,a9,by rw[e1];exact hG,hr, ?_⟩;simp only [Instr.loadAt,Instr.sureAddr,loadVar,aap,aar,aau,cx hu,hd,Bool.false_eq_true,if_false,run_load,hv]
   |_=>exact(ah h).elim
 |cptr l blk off arr ty hf hb r=>
  obtain⟨⟨fr,hw⟩,_⟩:=hG.frz _ _ _ hf;obtain⟨d,hu,h⟩:=cG h;rcases bU h with⟨hd,h⟩|⟨hd,h⟩
  ·obtain⟨i,hi,h⟩:=cB h;have h:=gJ h;obtain⟨hn,h⟩:=ay h;have hn:=aN hn;have hle:i.size<=l.length:=by rw[aax] at hn;omega
   have hcs:((arr.toList.drop off).take i.size).length=i.size:=by simp;omega
   have f8:∀(j:Nat) (v:Value),((arr.toList.drop off).take i.size)[j]? =some v->j<i.size/\arr[off+j]? =some v:=λj v hv=>by
    have hj:j<i.size:=by
     rcases aat j i.size with h'|h'
     ·exact h'
     ·rw[aaz (by omega)] at hv;cases hv
    refine⟨hj, ?_⟩;rw[aaF hj,aaH] at hv;simpa using hv
   have hl:LR ρ (l.take i.size) ((arr.toList.drop off).take i.size):=by refine⟨by rw[hcs,hn],λj a v ha hv=>?_⟩;obtain⟨hj,hv⟩:=f8 j v hv;rw[aaF hj] at ha;exact r j a v ha hv
   have b9:=run_loadCells_list (P:=P) w ⟨blk,off,none⟩ ((arr.toList.drop off).take i.size) (λj v hv=>by
    obtain⟨_,hv⟩:=f8 j v hv;unfold Addr.add;split
    ·rename_i e;subst e;simp [World.cell?,hw];simpa using hv
    ·simp [World.cell?,hw];exact hv)
   rw[hcs] at b9;have l3:LR ρ (l.take i.size) ((arr.toList.drop off).take i.size).toArray.toList:=by simpa using hl
   refine⟨_,_,_,h,hS,hG,VR.agg _ ((arr.toList.drop off).take i.size).toArray l3.arr.1 l3.arr.2, ?_⟩;simp only [Instr.loadAt,Instr.sureAddr,loadVar,aap,aar,aau,cx hu,hd,if_true,aA hi,b9]
  ·obtain⟨a,ha,h⟩:=cb h;have c8:0<l.length:=by
    rcases aat 0 l.length with h'|h'
    ·exact h'
    ·rw[aaz h'] at ha;cases ha
   have hv:arr[off]? =some arr[off]:=aa0 (by omega);refine⟨_,_,_,h,hS,hG,r 0 a _ ha (show arr[off+0]? =some arr[off] by rw[aaG];exact hv), ?_⟩;simp only [Instr.loadAt,Instr.sureAddr,loadVar,aap,aar,aau,cx hu,hd,Bool.false_eq_true,if_false,run_load];simp [World.cell?,hw,hv]
 |gptr b g i o es hm hh hs=>
  obtain⟨q,b6,hq,e1,a9,h⟩:=bG hS h
  have b7:Good w0 ρ b6.h w:=by rw[e1];exact hG
  cases q with
  |grow c gen ty=>
   obtain⟨k1,z1⟩:=ay h;obtain⟨k2,z2⟩:=ay z1;obtain⟨c8,z3⟩:=aQ z2;clear h z1 z2;have k1:=aN k1;have k2:=aN k2;subst k1;subst k2;have h:=z3;clear z3;rcases hG.blk _ _ hq with h0|⟨t9,q1,q2,q3,arr,fr,q4,q5,q6,q7,q8⟩
   ·omega
   rw[hh] at q1;injection q1 with q1;subst q1;have d7:=q8 i c8;have f8:∀(j:Nat) (a:AV),(c.row i)[j]? =some a->∃u,w.cell? ⟨hm.blk,i * c.es+j,none⟩=some u/\VR ρ a u:=λj a ha=>by obtain⟨u,u1,u2⟩:=d7 j a ha;exact⟨u,by simp [World.cell?,q4,u1],u2⟩
   obtain⟨d,hu,h⟩:=cG h;rcases bU h with⟨hd,h⟩|⟨hd,h⟩
   ·obtain⟨ii,hi,h⟩:=cB h;have h:=gJ h;obtain⟨hn,h⟩:=ay h;have hn:=aN hn;let cs:List Value:=(List.range ii.size).map λj=>(w.cell? ⟨hm.blk,i * c.es+o+j,none⟩).getD undef;have hcs:cs.length=ii.size:=by simp [cs]
    have j0:∀j,j<ii.size->∃a,(((c.row i).drop o).take ii.size)[j]? =some a/\(c.row i)[o+j]? =some a:=λj hj=>by
     have hj':j<(((c.row i).drop o).take ii.size).length:=by omega
     refine⟨(((c.row i).drop o).take ii.size)[j],aaw hj', ?_⟩;have:=aaw hj';rw[aaF hj,aaH] at this;exact this
    have hl:LR ρ (((c.row i).drop o).take ii.size) cs:=by
     refine⟨by rw[hcs,hn],λj a v ha hv=>?_⟩;have hj:j<ii.size:=by
      rcases aat j ii.size with h'|h'
      ·exact h'
      ·rw[aaz (by omega)] at hv;cases hv
     obtain⟨a',ha',hf⟩:=j0 j hj;rw[ha] at ha';injection ha' with ha';subst ha';obtain⟨u,u1,u2⟩:=f8 _ _ hf;have e2:i * c.es+(o+j)=i * c.es+o+j:=by omega
     rw[e2] at u1;simp [cs,hj,u1] at hv;rw[←hv];exact u2
    have b9:=run_loadCells_list (P:=P) w ⟨hm.blk,i * c.es+o,none⟩ cs (λj v hv=>by
     have hj:j<ii.size:=by
      rcases aat j ii.size with h'|h'
      ·exact h'
      ·rw[aaz (by omega)] at hv;cases hv
     obtain⟨a',ha',hf⟩:=j0 j hj;obtain⟨u,u1,u2⟩:=f8 _ _ hf;have e2:i * c.es+(o+j)=i * c.es+o+j:=by omega
     rw[e2] at u1;simp [cs,hj,u1] at hv;subst hv;unfold Addr.add;split
     ·rename_i e;subst e;simpa using u1
     ·exact u1)
    rw[hcs] at b9;have l3:LR ρ (((c.row i).drop o).take ii.size) cs.toArray.toList:=by simpa using hl
    refine⟨_,_,_,h,a9,b7,VR.agg _ cs.toArray l3.arr.1 l3.arr.2, ?_⟩;simp only [Instr.loadAt,Instr.sureAddr,loadVar,aap,aar,aau,cx hu,hd,if_true,aA hi,b9]
   ·obtain⟨a,ha,h⟩:=cb h;obtain⟨u,u1,u2⟩:=f8 o a ha;refine⟨_,_,_,h,a9,b7,u2, ?_⟩;simp only [Instr.loadAt,Instr.sureAddr,loadVar,aap,aar,aau,cx hu,hd,Bool.false_eq_true,if_false,run_load,u1]
  |_=>exact(ah h).elim
 |_=>exact(ah h).elim
def P8{t:TypeId}{x:AV}{v:Value}(hS:SI σ)(hG:Good w0 ρ σ.h w)(hx:VR ρ x v)(h:run (yx P t x k) σ K=true):Res P w0 ρ w k K (Instr.loadAt t v):=by obtain⟨av,a8,u,h1,h2,h3,h4,h5⟩:=yP (P:=P) hS hG hx h;exact .plain h1 h2 h3 h4 h5
end
end Go.Sym
namespace Go.Sym
open Go.RowKit (Below)
def LR.one{ρ:Rho}{a b:AV}{vs:List Value}(h:LR ρ [a] vs)(hw:∀v,VR ρ a v->VR ρ b v):LR ρ [b] vs:=by obtain⟨v,m7,rfl,hv,h'⟩:=h.cons_inv;have:=h'.nil_inv;subst this;exact LR.cons (hw v hv) (LR.nil ρ)
def LR.split{ρ:Rho}{l m:List AV}{vs:List Value}(h:LR ρ (l++m) vs):∃v1 v2,vs=v1++v2/\LR ρ l v1/\LR ρ m v2:=by
 have hl:vs.length=l.length+m.length:=by simpa using h.1
 refine⟨vs.take l.length,vs.drop l.length,(aby _ _).symm,⟨by simp;omega,λi a v ha hv=>?_⟩,⟨by simp;omega,λi a v ha hv=>?_⟩⟩
 ·have hi:i<l.length:=by
   rcases aat i l.length with h'|h'
   ·exact h'
   ·rw[aaz h'] at ha;cases ha
  rw[aaF hi] at hv;exact h.2 i a v (by rw[aaO hi];exact ha) hv
 ·rw[aaH] at hv;exact h.2 (l.length+i) a v (by rw[aaJ (by omega)];simpa using ha) hv
def YB{p:Prop}:pI p=1↔p:=by unfold pI;by_cases h:p <;> simp [h]
def Kq:∀(n:Nat) (cs:List AV) (l:List G) (r:List AV),DY n cs=some (l,r)->
 ∃c,cs=c++r/\c.length=n/\l.length=n/\∀(ρ:Rho) (vs:List Value) (g:G) (j:Nat),(∀i,i<n->aa g (j+i)=aq l i)->LR ρ c vs->LR ρ (lT g n j) vs:=by
 intro n
 induction n with
 |zero=>
  intro cs l r h
  injection h with h;injection h with h1 h2
  subst h1;subst h2
  exact⟨[],rfl,rfl,rfl,λρ vs g j _ hl=>hl⟩
 |succ n ih=>
  intro cs l r h
  cases cs with
  |nil=>cases h
  |cons a cs=>
   unfold DY at h
   split at h
   ·rename_i v hv;split at h
    ·rename_i l' q hp;injection h with h;injection h with h1 h2;subst h1;subst h2;obtain⟨c,rfl,e2,e3,e4⟩:=ih _ _ _ hp;refine⟨a::c,rfl,by simp [e2],by simp [e3],λρ vs g j hg hl=>?_⟩;obtain⟨x,m7,rfl,hx,l3⟩:=hl.cons_inv;refine LR.cons ?_ (e4 ρ m7 g (j+1) (λi hi=>?_) l3)
     ·have:=hg 0 (by omega);rw[aaG] at this;rw[this,bp hx hv];exact .sI _ _
     ·have:=hg (i+1) (by omega);rw[show j+1+i=j+(i+1) by omega,this];rfl
    ·cases h
   ·cases h
def Kr{x:Sc}{cs:List AV}{k:G->List AV->Option (List G×List AV)}{q:List G×List AV}(h:JM x cs none k=some q):
 ∃g c r,cs=c++r/\c.length=scW x/\k g r=some q/\∀(ρ:Rho) (vs:List Value),LR ρ c vs->LR ρ (fM x g) vs:=by
 cases cs with
 |nil=>cases h
 |cons a r=>
  unfold JM at h
  cases x with
  |i j=>
   simp only at h
   cases hn:co a with
   |none=>rw[hn] at h;cases h
   |some y=>
    obtain⟨j',n⟩:=y
    rw[hn] at h
    simp only [ar] at h
    split at h
    ·rename_i e;have e:=of_decide_eq_true e;subst e;exact⟨_,[a],r,rfl,rfl,h,λρ vs hl=>hl.one λv hv=>by rw[bp hv hn];exact .sI _ _⟩
    ·cases h
  |b=>
   simp only at h
   cases hn:dQ a with
   |none=>rw[hn] at h;cases h
   |some p=>
    rw[hn] at h
    exact⟨_,[a],r,rfl,rfl,h,λρ vs hl=>hl.one λv hv=>by obtain⟨b,e,hb⟩:=eP hv hn;rw[e];exact .sB _ b (by rw[hb];exact YB.symm)⟩
  |s=>
   simp only at h
   cases hn:ge a with
   |none=>rw[hn] at h;cases h
   |some p=>
    rw[hn] at h
    exact⟨_,[a],r,rfl,rfl,h,λρ vs hl=>hl.one λv hv=>by obtain⟨b,e,hb⟩:=dB hv hn;rw[e,hb];exact .sS b⟩
  |o=>
   simp only [ar] at h
   split at h
   ·rename_i e;exact⟨_,[a],r,rfl,rfl,h,λρ vs hl=>hl.one λv hv=>.any1 v (jb hv e)⟩
   ·cases h
  |sl m=>
   simp only at h
   split at h
   ·exact⟨_,[_],r,rfl,rfl,h,λρ vs hl=>hl.one λv hv=>by cases hv;exact .cvnil _ rfl⟩
   ·rename_i m' l;simp only [ar] at h;split at h
    ·rename_i e;have e:=aaq e;subst e;exact⟨_,[_],r,rfl,rfl,h,λρ vs hl=>hl⟩
    ·cases h
   ·cases h
  |bs=>
   simp only at h
   split at h
   ·exact⟨_,[_],r,rfl,rfl,h,λρ vs hl=>hl.one λv hv=>by cases hv;exact .cvnil _ rfl⟩
   ·exact⟨_,[_],r,rfl,rfl,h,λρ vs hl=>hl⟩
   ·cases h
  |h n=>
   simp only at h
   split at h
   ·rename_i l r' hp;obtain⟨c,e1,e2,e3,e4⟩:=Kq _ _ _ _ hp;exact⟨_,c,r',e1,e2,h,λρ vs hl=>e4 ρ vs (.node l) 0 (λi hi=>by simp [aa,gL,aq]) hl⟩
   ·cases h
def jg:∀(xs:List Sc) (cs:List AV) (gs:List G) (r:List AV),fP xs cs=some (gs,r)->
 ∃c1,cs=c1++r/\c1.length=bn xs/\gs.length=xs.length/\∀(g:G) (j:Nat),(∀i,i<xs.length->aa g (j+i)=aq gs i)->∀(ρ:Rho) (vs:List Value),LR ρ c1 vs->LR ρ (bE xs g j) vs:=by
 intro xs
 induction xs with
 |nil=>
  intro cs gs r h
  injection h with h
  injection h with h1 h2
  subst h1;subst h2
  exact⟨[],rfl,rfl,rfl,λg j _ ρ vs hl=>hl⟩
 |cons x xs ih=>
  intro cs gs r h
  unfold fP at h
  obtain⟨g0,ca,r0,rfl,hw,hk,hc⟩:=Kr h
  split at hk
  ·rename_i gs' r' hp;injection hk with hk;injection hk with h1 h2;subst h1;subst h2;obtain⟨c1,rfl,e2,e4,e3⟩:=ih _ _ _ hp;refine⟨ca++c1,by simp,by simp [bn,hw,e2],by simp [e4],λg j hg ρ vs hl=>?_⟩;obtain⟨v,m7,rfl,hv,l3⟩:=hl.split;have h0:=hg 0 (by simp);have d7:=hc ρ v hv;have:aa g j=g0:=h0;show LR ρ (fM x (aa g j)++bE xs g (j+1)) (v++m7);rw[this];refine d7.append (e3 g (j+1) (λi hi=>?_) ρ m7 l3);have:=hg (i+1) (by simp;omega);rw[show j+1+i=j+(i+1) by omega,this];rfl
  ·cases hk
def gN{xs:List Sc}:∀(n:Nat) (cs:List AV) (gs:List G) (r:List AV),dV xs n cs=some (gs,r)->
 ∃c1,cs=c1++r/\c1.length=n * bn xs/\gs.length=n/\∀i,i<n->∀(ρ:Rho) (vs:List Value),LR ρ ((c1.drop (i * bn xs)).take (bn xs)) vs->LR ρ (bE xs (aq gs i) 0) vs:=by
 intro n
 induction n with
 |zero=>
  intro cs gs r h
  injection h with h
  injection h with h1 h2
  subst h1;subst h2
  exact⟨[],rfl,by simp,rfl,λi hi=>by omega⟩
 |succ n ih=>
  intro cs gs r h
  unfold dV at h
  split at h
  ·rename_i g1 r1 h1;split at h
   ·rename_i gs2 r2 h2
    injection h with h
    injection h with q1 q2
    subst q1;subst q2
    obtain⟨c1,rfl,e1,e0,e2⟩:=jg _ _ _ _ h1
    obtain⟨c2,rfl,f1,f2,f3⟩:=ih _ _ _ h2
    refine⟨c1++c2,by simp,by simp [e1,f1,aa1];omega,by simp [f2],λi hi ρ vs hl=>?_⟩
    cases i with
    |zero=>rw[abq,aa4,abG (by omega),abz (by omega)] at hl;exact e2 (.node g1) 0 (λi hi=>by simp [aa,gL,aq]) ρ vs hl
    |succ i=>
     have:(c1++c2).drop ((i+1) * bn xs)=c2.drop (i * bn xs):=by rw[List.drop_append,List.drop_of_length_le (by rw[aa1];omega)];simp only [abm];congr 1;rw[e1,aa1];omega
     rw[this] at hl;have:=f3 i (by omega) ρ vs hl;simpa [aq] using this
   ·cases h
  ·cases h
def mW:∀(cs:List AV) (ns:List Int),gf cs=some ns->ns.length=cs.length/\∀(i:Nat) (a:AV),cs[i]? =some a->∃n,ns[i]? =some n/\co a=some (.u8,n):=by
 intro cs
 induction cs with
 |nil=>intro ns h;injection h with h;subst h;exact⟨rfl,by simp⟩
 |cons a cs ih=>
  intro ns h;unfold gf at h;split at h
  ·rename_i n hn;split at h
   ·rename_i l hl
    injection h with h
    subst h
    obtain⟨h1,h2⟩:=ih _ hl
    refine⟨by simp [h1],λi b hb=>?_⟩
    cases i with
    |zero=>simp at hb;subst hb;exact⟨n,rfl,hn⟩
    |succ i=>simp at hb;obtain⟨m,q1,q2⟩:=h2 i b hb;exact⟨m,by simpa using q1,q2⟩
   ·cases h
  ·cases h
def jh:∀(ns:List Int) (i:Nat) (n:Int),br ns->ns[i]? =some n->(aH ns)[i]? =some n.toNat/\0<=n:=by
 intro ns
 induction ns with
 |nil=>intro i n _ h;simp at h
 |cons x ns ih=>
  intro i n hn h
  cases i with
  |zero=>simp at h;subst h;exact⟨rfl,hn.1⟩
  |succ i=>simp at h;exact ih i n hn.2 h
def bS:∀(ns:List Int),(aH ns).length=ns.length:=by
 intro ns
 induction ns with
 |nil=>rfl
 |cons x ns ih=>simp [aH,ih]
def Vm{c c':Ct}{new:List AV}{n:Nat}{p:Prop}(h:c.app new n=some (c',p))(hp:p)(hn:new.length=n * c.es):
 c'.len=c.len+n/\c'.es=c.es/\(∀i,i<c.len->c'.row i=c.row i)/\∀i,c.len<=i->i<c.len+n->∀(ρ:Rho) (vs:List Value),LR ρ ((new.drop ((i-c.len) * c.es)).take c.es) vs->LR ρ (c'.row i) vs:=by
 cases c with
 |rows m l=>
  unfold Ct.app at h
  simp only at h
  split at h
  ·rename_i gs hg;injection h with h;injection h with h1 h2;subst h1;obtain⟨c1,e1,e2,e3,e4⟩:=gN _ _ _ _ hg;have e1:new=c1:=by simpa using e1
   subst e1;refine⟨by simp [Ct.len,e3],rfl,λi hi=>?_,λi h1 h2 ρ vs hl=>?_⟩
   ·have hi:i<l.length:=hi;simp only [Ct.row,aq,aas,aaO hi]
   ·have h1:l.length<=i:=h1;have h2:i<l.length+n:=h2;have:=e4 (i-l.length) (by omega) ρ vs hl;have e5:aq (l++gs) i=aq gs (i-l.length):=by simp only [aq,aas,aaJ h1]
    simp only [Ct.row,e5];exact this
  ·cases h
 |bytes s=>
  unfold Ct.app at h
  simp only at h
  split at h
  ·rename_i ns hg;rw[ar] at h;split at h
   ·rename_i hnl;have hnl:=aaq hnl;injection h with h;injection h with h1 h2;subst h1;subst h2;obtain⟨e1,e2⟩:=mW _ _ hg;refine⟨by simp [Ct.len,bS,hnl],rfl,λi hi=>?_,λi h1 h2 ρ vs hl=>?_⟩
    ·have hi:i<s.length:=hi;simp only [Ct.row,aas,aaO hi]
    ·have h1:s.length<=i:=h1;have h2:i<s.length+n:=h2;have c8:i-s.length<new.length:=by omega
     have hd:(new.drop ((i-s.length) * 1)).take 1= [new[i-s.length]]:=by rw[aaU,abf c8];rfl
     have hl:LR ρ ((new.drop ((i-s.length) * 1)).take 1) vs:=hl;rw[hd] at hl;refine hl.one λv hv=>?_;obtain⟨n',q1,q2⟩:=e2 (i-s.length) new[i-s.length] (aaw c8);obtain⟨q3,q4⟩:=jh _ _ _ hp q1;rw[bp hv q2];have e5:(s++aH ns).getD i 0=n'.toNat:=by rw[aas,aaJ h1,q3];rfl
     rw[e5,show((n'.toNat:Nat):Int)=n' by omega];exact .sI _ _
   ·cases h
  ·cases h
def Vn{c c':Ct}{new:List AV}{i o:Nat}{p:Prop}(h:c.upd i o new=some (c',p))(hp:p)(hi:i<c.len)(ho:o+new.length<=c.es):
 c'.len=c.len/\c'.es=c.es/\(∀i',i'≠i->c'.row i'=c.row i')/\∀(ρ:Rho) (vs:List Value),LR ρ ((c.row i).take o++new++(c.row i).drop (o+new.length)) vs->LR ρ (c'.row i) vs:=by
 cases c with
 |rows m l=>
  unfold Ct.upd at h
  simp only at h
  split at h
  ·rename_i gs hg;injection h with h;injection h with h1 h2;subst h1;obtain⟨c1,e1,e2,e0,e3⟩:=jg _ _ _ _ hg;have e1:((Ct.rows m l).row i).take o++new++((Ct.rows m l).row i).drop (o+new.length)=c1:=by simpa using e1
   have hi:i<l.length:=hi;refine⟨by simp [Ct.len],rfl,λi' i5=>?_,λρ vs hl=>?_⟩
   ·simp only [Ct.row,aq,aas,List.getElem?_set_ne (Ne.symm i5)]
   ·rw[e1] at hl;have e4:aq (l.set i (.node gs)) i= .node gs:=by simp only [aq,aas,ab1 hi,Option.getD_some]
    simp only [Ct.row,e4];exact e3 (.node gs) 0 (λi hi=>by simp [aa,gL,aq]) ρ vs hl
  ·cases h
 |bytes s=>
  unfold Ct.upd at h
  simp only at h
  split at h
  ·rename_i a;split at h
   ·rename_i n hn;injection h with h;injection h with h1 h2;subst h1;subst h2;have hi:i<s.length:=hi;refine⟨by simp [Ct.len],rfl,λi' i5=>?_,λρ vs hl=>?_⟩
    ·simp only [Ct.row,aas,List.getElem?_set_ne (Ne.symm i5)]
    ·have hl:LR ρ [a] vs:=hl;have e4:(s.set i n.toNat).getD i 0=n.toNat:=by rw[aas,ab1 hi];rfl
     refine hl.one λv hv=>?_;rw[e4,bp hv hn,show((n.toNat:Nat):Int)=n by omega];exact .sI _ _
   ·cases h
  ·cases h
def LR.ones{ρ:Rho}{l:List AV}{vs:List Value}(hl:LR ρ l vs)(h:∀a∈l,gd a=true):∀v∈vs,v.oneCell'=true:=by
 intro v hv;obtain⟨j,hj,e⟩:=List.mem_iff_getElem.1 hv;have hj':j<l.length:=by have:=hl.1;omega
 have:=hl.2 j l[j] v (aaw hj') (by rw[aaw hj,e]);exact jb this (h _ (abr _))
def mX{ρ:Rho}{l l':List AV}{A:Nat->Option Value}(h:∀j a,l[j]? =some a->∃u,A j=some u/\VR ρ a u)(hl:∀vs,LR ρ l vs->LR ρ l' vs):∀j a,l'[j]? =some a->∃u,A j=some u/\VR ρ a u:=by
 let vs:List Value:=(List.range l.length).map λj=>(A j).getD undef;have o6:LR ρ l vs:=by
  refine⟨by simp [vs],λi a v ha hv=>?_⟩;obtain⟨u,h1,h2⟩:=h i a ha;have hi:i<l.length:=by
   rcases aat i l.length with h'|h'
   ·exact h'
   ·rw[aaz h'] at ha;cases ha
  simp [vs,hi,h1] at hv;rw[←hv];exact h2
 have h':=hl vs o6;intro j a ha;obtain⟨v,hv,hr⟩:=h'.get ha;have hj:j<l.length:=by
  have:=h'.1;rcases aat j vs.length with h''|h''
  ·simpa [vs] using h''
  ·rw[aaz h''] at hv;cases hv
 obtain⟨u,h1,h2⟩:=h j l[j] (aaw hj);simp [vs,hj,h1] at hv;exact⟨u,h1,by rw[hv];exact hr⟩
end Go.Sym
