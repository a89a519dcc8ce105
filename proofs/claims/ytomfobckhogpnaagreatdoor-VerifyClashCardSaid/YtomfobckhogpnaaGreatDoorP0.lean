/- Part 0. -/
import Derived.CallsIn
import Derived.RangeFuncLeaves
import Derived.OrdersIn
import Derived.Below
import Derived.KernelRfl
import Derived.Laws.Cells
import Derived.IntWalk
import Derived.Laws.Strings
import Derived.DeepKeys
set_option linter.all false
namespace Go.Sym
noncomputable section
def fN{β:Type}(n:Nat)(k:Nat->β):β:=Nat.rec (motive:=λ_=>β) (k 0) (λm _=>k (Nat.succ m)) n
def rx{β:Type}(n:Nat)(k:Nat->β):fN n k=k n:=by cases n <;> rfl
def fI{β:Type}(n:Int)(k:Int->β):β:=Int.rec (motive:=λ_=>β) (λa=>fN a λa=>k (Int.ofNat a)) (λa=>fN a λa=>k (Int.negSucc a)) n
def Zt{β:Type}(n:Int)(k:Int->β):fI n k=k n:=by cases n <;> simp [fI,rx]
def ac{β:Type}(b:Bool)(t e:β):β:=Bool.rec (motive:=λ_=>β) e t b
def ar{β:Type}(b:Bool)(t e:β):ac b t e=if b then t else e:=by cases b <;> rfl
def du{α β:Type}(o:Option α)(z:β)(k:α->β):β:=Option.rec (motive:=λ_=>β) z k o
def aD{b:Bool}{t:Bool}(h:ac b t false=true):b=true/\t=true:=by cases b <;> first|exact⟨rfl,h⟩|cases h
def CN{b:Bool}{t:Bool}(h:ac b false t=true):b=false/\t=true:=by cases b <;> first|exact⟨rfl,h⟩|cases h
inductive T(α:Type) where
 |leaf
 |node (l:T α) (v:Option α) (r:T α)
namespace T
variable{α β:Type}
def get:T α->Nat->Option α
 | .leaf,_=>none
 | .node l v r,n=>match n with
  |0=>v
  |m+1=>if m%2=0 then get l (m/2) else get r (m/2)
def iH:Nat->Nat->α->T α
 |0,_,_=>.leaf
 |f+1,n,a=>match n with
  |0=>.node .leaf (some a) .leaf
  |m+1=>if m%2=0 then .node (iH f (m/2) a) none .leaf else .node .leaf none (iH f (m/2) a)
def set:T α->Nat->α->T α
 | .leaf,n,a=>iH 64 n a
 | .node l v r,n,a=>match n with
  |0=>.node l (some a) r
  |m+1=>if m%2=0 then .node (set l (m/2) a) v r else .node l v (set r (m/2) a)
def getK(t:T α)(n:Nat)(z:β)(k:α->β):β:=
 T.rec (motive:=λ_=>Nat->β) (λ_=>z) (λ_ v _ gl gr n=>
  Nat.rec (motive:=λ_=>β) (Option.rec (motive:=λ_=>β) z k v) (λm _=>Bool.rec (motive:=λ_=>β) (gr (Nat.div m 2)) (gl (Nat.div m 2)) (Nat.beq (Nat.mod m 2) 0)) n) t n
def EL(f:Nat)(n:Nat)(a:α)(k:T α->β):β:=
 Nat.rec (motive:=λ_=>Nat->(T α->β)->β) (λ_ k=>k .leaf) (λ_ ih n k=>
  Nat.rec (motive:=λ_=>β) (k (.node .leaf (some a) .leaf)) (λm _=>Bool.rec (motive:=λ_=>β) (ih (Nat.div m 2) λt=>k (.node .leaf none t)) (ih (Nat.div m 2) λt=>k (.node t none .leaf)) (Nat.beq (Nat.mod m 2) 0)) n) f n k
def setK(t:T α)(n:Nat)(a:α)(k:T α->β):β:=
 T.rec (motive:=λ_=>Nat->(T α->β)->β) (λn k=>EL 64 n a k) (λl v r sl sr n k=>
  Nat.rec (motive:=λ_=>β) (k (.node l (some a) r)) (λm _=>Bool.rec (motive:=λ_=>β) (sr (Nat.div m 2) λt=>k (.node l v t)) (sl (Nat.div m 2) λt=>k (.node t v r)) (Nat.beq (Nat.mod m 2) 0)) n) t n k
def getK_eq(t:T α):∀(n:Nat) (z:β) (k:α->β),getK t n z k=match get t n with|none=>z|some a=>k a:=by
 induction t with
 |leaf=>intro n z k;simp [getK,get]
 |node l v r ihl ihr=>
  intro n z k
  cases n with
  |zero=>cases v <;> rfl
  |succ m=>
   show Bool.rec (motive:=λ_=>β) (getK r (m/2) z k) (getK l (m/2) z k) (Nat.beq (m%2) 0)=_;rw[ihl,ihr];by_cases h:m%2=0
   ·have:Nat.beq (m%2) 0=true:=by rw[h];rfl
    simp [get,h]
   ·have:Nat.beq (m%2) 0=false:=by
     cases hb:Nat.beq (m%2) 0 with
     |false=>rfl
     |true=>exact absurd (Nat.eq_of_beq_eq_true hb) h
    rw[this];simp [get,h]
def Kv(a:α):∀(f n:Nat) (k:T α->β),EL f n a k=k (iH f n a):=by
 intro f
 induction f with
 |zero=>intro n k;rfl
 |succ f ih=>
  intro n k
  cases n with
  |zero=>rfl
  |succ m=>
   show Bool.rec (motive:=λ_=>β) (EL f (m/2) a λt=>k (.node .leaf none t)) (EL f (m/2) a λt=>k (.node t none .leaf)) (Nat.beq (m%2) 0)=_;rw[ih,ih];by_cases h:m%2=0
   ·have:Nat.beq (m%2) 0=true:=by rw[h];rfl
    rw[this];simp [iH,h]
   ·have:Nat.beq (m%2) 0=false:=by
     cases hb:Nat.beq (m%2) 0 with
     |false=>rfl
     |true=>exact absurd (Nat.eq_of_beq_eq_true hb) h
    rw[this];simp [iH,h]
def setK_eq(t:T α)(a:α):∀(n:Nat) (k:T α->β),setK t n a k=k (set t n a):=by
 induction t with
 |leaf=>intro n k;exact Kv a 64 n k
 |node l v r ihl ihr=>
  intro n k
  cases n with
  |zero=>rfl
  |succ m=>
   show Bool.rec (motive:=λ_=>β) (setK r (m/2) a λt=>k (.node l v t)) (setK l (m/2) a λt=>k (.node t v r)) (Nat.beq (m%2) 0)=_;rw[ihl,ihr];by_cases h:m%2=0
   ·have:Nat.beq (m%2) 0=true:=by rw[h];rfl
    rw[this];simp [set,h]
   ·have:Nat.beq (m%2) 0=false:=by
     cases hb:Nat.beq (m%2) 0 with
     |false=>rfl
     |true=>exact absurd (Nat.eq_of_beq_eq_true hb) h
    rw[this];simp [set,h]
def Kw(a:α):∀(f n m:Nat),n+1<2 ^ f->get (iH f n a) m=if m=n then some a else none:=by
 intro f
 induction f with
 |zero=>intro n m h;simp at h
 |succ f ih=>
  intro n m h
  cases n with
  |zero=>
   cases m with
   |zero=>simp [iH,get]
   |succ m=>simp [iH,get]
  |succ n=>
   have hn:n/2+1<2 ^ f:=by rw[Nat.pow_succ] at h;omega
   cases m with
   |zero=>simp only [iH];split <;> simp [get]
   |succ m=>
    simp only [iH];split
    ·simp only [get];split
     ·rw[ih _ _ hn];by_cases e:m/2=n/2
      ·rw[if_pos e,if_pos (by omega)]
      ·rw[if_neg e,if_neg (by omega)]
     ·rw[if_neg (by omega)]
    ·simp only [get];split
     ·rw[if_neg (by omega)]
     ·rw[ih _ _ hn];by_cases e:m/2=n/2
      ·rw[if_pos e,if_pos (by omega)]
      ·rw[if_neg e,if_neg (by omega)]
def get_set_ne(a:α){n m:Nat}(m7:m≠n):∀(t:T α),get (set t n a) m=get t m:=by
 have hs:∀(f n m:Nat),m≠n->get (iH f n a) m=none:=by
  intro f
  induction f with
  |zero=>intro n m _;rfl
  |succ f ih=>
   intro n m h
   cases n with
   |zero=>cases m with
    |zero=>exact absurd rfl h
    |succ m=>simp [iH,get]
   |succ n=>
    cases m with
    |zero=>simp only [iH];split <;> simp [get]
    |succ m=>
     simp only [iH];split
     ·simp only [get];split
      ·exact ih _ _ (by omega)
      ·rfl
     ·simp only [get];split
      ·rfl
      ·exact ih _ _ (by omega)
 intro t
 induction t generalizing n m with
 |leaf=>exact hs 64 n m m7
 |node l v r ihl ihr=>
  cases n with
  |zero=>cases m with
   |zero=>exact absurd rfl m7
   |succ m=>simp [set,get]
  |succ n=>
   cases m with
   |zero=>simp only [set];split <;> simp [get]
   |succ m=>
    simp only [set];split
    ·simp only [get];split
     ·exact ihl (by omega)
     ·rfl
    ·simp only [get];split
     ·rfl
     ·exact ihr (by omega)
def get_set_same(a:α):∀(t:T α) (n:Nat),n+1<2 ^ 64->get (set t n a) n=some a:=by
 intro t
 induction t with
 |leaf=>intro n h;show get (iH 64 n a) n=_;rw[Kw a 64 n n h];simp
 |node l v r ihl ihr=>
  intro n h
  cases n with
  |zero=>simp [set,get]
  |succ m=>
   simp only [set];split <;> simp only [get, *,if_true,if_false]
   ·exact ihl _ (by omega)
   ·exact ihr _ (by omega)
def get_set_some{a b:α}:∀(t:T α) (n:Nat),get (set t n a) n=some b->b=a:=by
 have hs:∀(f n:Nat),get (iH f n a) n=some b->b=a:=by
  intro f
  induction f with
  |zero=>intro n h;simp [iH,get] at h
  |succ f ih=>
   intro n h
   cases n with
   |zero=>simp [iH,get] at h;exact h.symm
   |succ n=>
    simp only [iH] at h;split at h
    ·simp only [get, *,if_true] at h;exact ih _ h
    ·simp only [get, *,if_false] at h;exact ih _ h
 intro t
 induction t with
 |leaf=>intro n h;exact hs 64 n h
 |node l v r ihl ihr=>
  intro n h
  cases n with
  |zero=>simp [set,get] at h;exact h.symm
  |succ m=>
   simp only [set] at h;split at h
   ·simp only [get, *,if_true] at h;exact ihl _ h
   ·simp only [get, *,if_false] at h;exact ihr _ h
end T
end
end Go.Sym
namespace Go.Sym
abbrev aac:=@Nat.le_refl
abbrev aad:=@Sem.run_bind
abbrev aae:=@Nat.eq_of_beq_eq_true
abbrev aaf:=@Sem.run_pure
abbrev aag:=@List.getD_eq_getElem?_getD
abbrev aah:=@Nat.lt_or_ge
abbrev aai:=@List.length_append
abbrev aaj:=@Result.andThen_ok
abbrev aak:=@List.getElem?_eq_getElem
abbrev aal:=@List.mem_cons_of_mem
abbrev aam:=@List.getElem?_eq_none
abbrev aan:=@List.mem_cons_self
abbrev aao:=@List.length_take
abbrev aap:=@Nat.zero_add
abbrev aaq:=@Nat.zero_le
abbrev aar:=@Int.toNat_natCast
abbrev aas:=@List.length_drop
abbrev aat:=@List.length_cons
abbrev aau:=@Nat.add_zero
abbrev aav:=@List.getElem?_take_of_lt
abbrev aaw:=@List.append_assoc
abbrev aax:=@List.map_cons
abbrev aay:=@Nat.le_of_ble_eq_true
abbrev aaz:=@List.getElem?_drop
abbrev aaA:=@List.getElem?_append_right
abbrev aaB:=@Nat.mul_le_mul_right
abbrev aaC:=@Nat.add_mul
abbrev aaD:=@List.getElem?_append_left
abbrev aaE:=@List.setIfInBounds_toArray
abbrev aaF:=@List.set_cons_zero
abbrev aaG:=@List.set_cons_succ
abbrev aaH:=@List.drop_eq_nil_of_le
abbrev aaI:=@List.length_singleton
abbrev aaJ:=@Nat.mul_one
abbrev aaK:=@Array.getElem?_setIfInBounds
abbrev aaL:=@Nat.le_trans
abbrev aaM:=@Nat.succ_mul
abbrev aaN:=@Array.length_toList
abbrev aaO:=@List.getElem?_map
abbrev aaP:=@Nat.two_pow_pos
abbrev aaQ:=@Array.getElem?_eq_getElem
abbrev aaR:=@List.length_map
abbrev aaS:=@List.not_mem_nil
abbrev aaT:=@List.drop_zero
abbrev aaU:=@Nat.eq_zero_or_pos
abbrev aaV:=@Array.getElem?_eq_none
abbrev aaW:=@Array.getD_eq_getD_getElem?
abbrev aaX:=@List.drop_eq_getElem_cons
abbrev aaY:=@Nat.pow_succ
abbrev aaZ:=@List.length_set
abbrev aa0:=@Array.getElem?_toList
abbrev aa1:=@Option.map_some
abbrev aa2:=@Int.ofNat_eq_natCast
abbrev aa3:=@List.getElem?_take
abbrev aa4:=@Nat.lt_of_lt_of_le
abbrev aa5:=@List.drop_drop
abbrev aa6:=@List.nil_append
abbrev aa7:=@List.getElem?_toArray
abbrev aa8:=@List.map_map
abbrev aa9:=@List.take_length
abbrev aa_:=@Nat.mod_eq_of_lt
abbrev aba:=@Nat.sub_self
abbrev abb:=@List.append_nil
abbrev abc:=@Nat.zero_mul
abbrev abd:=@List.getElem_mem
abbrev abe:=@Option.isSome_none
abbrev abf:=@Int.toNat_of_nonneg
abbrev abg:=@Nat.mul_le_mul
abbrev abh:=@List.sum_cons
abbrev abj:=@List.length_reverse
abbrev abk:=@List.all_eq_true
abbrev abl:=@List.take_append_drop
abbrev abm:=@List.take_of_length_le
abbrev abn:=@List.mem_of_getElem?
abbrev abo:=@Nat.beq_refl
abbrev abp:=@Nat.sub_zero
abbrev abq:=@List.mem_append_left
abbrev abr:=@List.mem_append_right
abbrev abs:=@Nat.min_eq_left
abbrev abt:=@List.take_append_of_le_length
abbrev abu:=@Nat.add_assoc
abbrev abv:=@Classical.choose_spec
abbrev abw:=@List.mem_map_of_mem
abbrev abx:=@Nat.pow_le_pow_right
abbrev aby:=@Nat.mod_two_eq_zero_or_one
abbrev abz:=@List.take_zero
abbrev abA:=@List.length_replicate
abbrev abB:=@Nat.le_succ_of_le
abbrev abC:=@List.drop_append_of_le_length
abbrev abD:=@List.getElem?_set
abbrev abE:=@List.singleton_append
abbrev abF:=@List.toList_toArray
abbrev abG:=@List.getElem?_cons_zero
abbrev abH:=@Int.dvd_of_emod_eq_zero
abbrev abI:=@List.getElem_of_mem
abbrev abJ:=@List.reverse_append
abbrev abK:=@List.length_range
abbrev abL:=@List.filter_cons_of_pos
abbrev abM:=@List.filter_cons_of_neg
abbrev abN:=@List.getElem?_set_self
abbrev abO:=@List.extract_eq_take_drop
abbrev abP:=@List.getElem?_cons_succ
abbrev abQ:=@Array.size_setIfInBounds
abbrev abR:=@List.mem_zipIdx_iff_getElem?
abbrev abS:=@Array.getElem?_replicate
abbrev abT:=@Nat.and_two_pow_sub_one_eq_mod
abbrev abU:=@List.replicate_append_replicate
abbrev abV:=@List.not_of_lt_findIdx
abbrev abW:=@List.getElem_append_left
abbrev abX:=@List.drop_take
open Go.RowKit (Below)
noncomputable section
def base:Nat:=1048576
inductive G where
 |int (n:Int)
 |str (s:List Nat)
 |node (l:List G)
def gI(g:G):Int:=match g with | .int n=>n|_=>0
def gS(g:G):List Nat:=match g with | .str s=>s|_=>[]
def gL(g:G):List G:=match g with | .node l=>l|_=>[]
def aa(g:G)(j:Nat):G:=(gL g).getD j (.int 0)
def aq(l:List G)(i:Nat):G:=l.getD i (.int 0)
def kx(s:List Nat)(i:Nat):Nat:=s.getD i 0%256
theorem aj(s:List Nat)(i:Nat):kx s i<256:=Nat.mod_lt _ (by decide)
inductive Sc where
 |i (k:IntKind)
 |b
 |s
 |o
 |sl (m:Nat)
 |bs
 |h (n:Nat)
def cU(m:Nat):List Sc:=match m with
 |0=>[.i .i64,.s,.i .i64]
 |1=>[.s]
 |2=>[.i .i64,.i .i64,.i .i64,.s,.sl 1,.sl 2]
 |3=>[.i .i64,.i .i64,.s,.i .i64,.i .i64,.i .i64,.s,.o,.o,.o,.o]
 |4=>[.b]
 |5=>[.i .i64,.s,.i .i64,.i .i64,.s,.i .i64,.i .i64,.i .i64,.s,.o,.o,.o,.o,.s]
 |6=>[.h 32]
 |7=>[.i .i64,.s,.i .i64,.i .i64,.i .i64,.i .i64,.i .i64,.i .i64,.s,.sl 1,.sl 2,.h 32,.b,.i .i64,.i .i64]
 |8=>[.i .i64]
 |9=>[.i .u32]
 |10=>[.i .u64]
 |11=>[.i .i64,.i .i64,.i .i64,.h 32,.sl 7]
 |12=>[.s,.bs,.i .i64]
 |13=>[.sl 2]
 |14=>[.i .i64,.i .i64]
 |15=>[.bs,.h 32]
 |16=>[.bs]
 |_=>[]
inductive Ct where
 |rows (m:Nat) (l:List G)
 |bytes (s:List Nat)
inductive AV where
 |bool (b:Bool)
 |int (k:IntKind) (n:Int)
 |str (s:List Nat)
 |nilp
 |ptr (b g o:Nat)
 |nils
 |slc (b g o len:Nat) (cap:Option Nat) (es:Nat)
 |nilm
 |map (b:Nat)
 |func (fn:Fn) (first captured:List AV)
 |nilf
 |iface (t:Nat) (v:AV)
 |nili
 |agg (l:List AV)
 |tup (l:List AV)
 |opq (n:Nat)
 |anyB
 |anyI (k:IntKind)
 |osl (n:Nat)
 |opc (n:Nat)
 |sI (k:IntKind) (n:Int)
 |sB (p:Prop)
 |sS (s:List Nat)
 |any1
 |cptr (l:List AV)
 |cv (c:Ct)
 |gsl (b g n es:Nat)
 |gptr (b g i o es:Nat)
def mg(g:G):Nat->Nat->List AV
 |0,_=>[]
 |n+1,i=>.sI .u8 (gI (aa g i))::mg g n (i+1)
def CO(g:G):∀(n i:Nat),(mg g n i).length=n:=by
 intro n
 induction n with
 |zero=>intro i;rfl
 |succ n ih=>intro i;simp [mg,ih]
def fS(x:Sc)(g:G):List AV:=match x with
 | .i k=>[.sI k (gI g)]
 | .b=>[.sB (gI g=1)]
 | .s=>[.sS (gS g)]
 | .o=>[.any1]
 | .sl m=>[.cv (.rows m (gL g))]
 | .bs=>[.cv (.bytes (gS g))]
 | .h n=>mg g n 0
def bA:List Sc->G->Nat->List AV
 | [],_,_=>[]
 |x::xs,g,j=>fS x (aa g j)++bA xs g (j+1)
def scW(x:Sc):Nat:=match x with | .h n=>n|_=>1
def bm:List Sc->Nat
 | []=>0
 |x::xs=>scW x+bm xs
def zF(x:Sc)(g:G):(fS x g).length=scW x:=by cases x <;> simp [fS,scW,CO]
def ry:∀(xs:List Sc) (g:G) (j:Nat),(bA xs g j).length=bm xs:=by
 intro xs
 induction xs with
 |nil=>intro g j;rfl
 |cons x xs ih=>intro g j;simp [bA,bm,zF,ih]
def Ct.len:Ct->Nat
 | .rows _ l=>l.length
 | .bytes s=>s.length
def Ct.es:Ct->Nat
 | .rows m _=>bm (cU m)
 | .bytes _=>1
def Ct.row:Ct->Nat->List AV
 | .rows m l,i=>bA (cU m) (aq l i) 0
 | .bytes s,i=>[.sI .u8 ((s.getD i 0:Nat):Int)]
def Ct.row_len(c:Ct)(i:Nat):(c.row i).length=c.es:=by
 cases c with
 |rows m l=>exact ry _ _ _
 |bytes s=>rfl
def Ct.cut(c:Ct)(a b:Nat):Ct:=match c with
 | .rows m l=>.rows m ((l.take b).drop a)
 | .bytes s=>.bytes ((s.take b).drop a)
def Ct.cut_len(c:Ct){a b:Nat}(h1:a<=b)(h2:b<=c.len):(c.cut a b).len=b-a:=by
 cases c with
 |rows m l=>simp only [cut,len,aas,aao] at *;omega
 |bytes s=>simp only [cut,len,aas,aao] at *;omega
def Ct.cut_es(c:Ct)(a b:Nat):(c.cut a b).es=c.es:=by cases c <;> rfl
def Ct.cut_row(c:Ct){a b i:Nat}(h:a+i<b):(c.cut a b).row i=c.row (a+i):=by
 cases c with
 |rows m l=>simp only [cut,row,aq,aag,aaz];rw[aav h]
 |bytes s=>simp only [cut,row,aag,aaz];rw[aav h]
structure MSch where
 ks:List IntKind
 ka:Bool
 vs:List Sc
 va:Bool
def bJ(m:Nat):MSch:=match m with
 |0=>⟨[.i64,.i64],true,[.h 32],true⟩
 |1=>⟨[.i64,.i64],true,[.b],false⟩
 |2=>⟨[.i64],false,[.b],false⟩
 |3=>⟨[.i64],false,[.bs],false⟩
 |4=>⟨[.i64,.i64],true,[.i .i64],false⟩
 |5=>⟨[.i64],false,[.i .i64,.i .i64,.i .i64,.h 32,.sl 7],true⟩
 |_=>⟨[],false,[],false⟩
def Wj(b:Bool)(l:List AV):AV:=match b,l with
 |true,l=>.agg l
 |false,a::_=>a
 |false,[]=>.nilp
def mh:List IntKind->G->Nat->List AV
 | [],_,_=>[]
 |k::ks,g,j=>.sI k (gI (aa g j))::mh ks g (j+1)
def nc(m:Nat)(g:G):AV:=Wj (bJ m).ka (mh (bJ m).ks g 0)
def jU(m:Nat)(g:G):AV:=Wj (bJ m).va (bA (bJ m).vs g (bJ m).ks.length)
def dB:Nat->G->Nat->List Int
 |0,_,_=>[]
 |n+1,g,j=>gI (aa g j)::dB n g (j+1)
def cK(m:Nat)(l:List G)(k:List Int):Nat:=l.findIdx λg=>decide (dB (bJ m).ks.length g 0=k)
def j_(m:Nat)(l:List G)(k:List Int):Prop:=cK m l k<l.length
def eP(m:Nat)(l:List G)(k:List Int):G:=aq l (cK m l k)
def db(m:Nat)(l:List G)(k:List Int)(v:List G):List G:=if cK m l k<l.length then l.set (cK m l k) (.node (k.map G.int++v)) else l++ [.node (k.map G.int++v)]
structure Home where
 blk:Nat
 shift:Nat
 size:Nat
structure Rho where
 at_:Nat->Nat->Option Home
 val:Nat->Value
 own:Nat->Prop
 frz:Nat->Option (Array Value×TypeId)
 frz0:Nat->Option (Array Value×TypeId)
def bytesOf(s:ByteArray):List Nat:=s.data.toList.map UInt8.toNat
def SlOk(ρ:Rho)(b g o len:Nat)(cap:Option Nat)(es:Nat)(a:Addr)(c:Nat):Prop:=
 len<=c/\match cap with
 |some k=>c=k/\∃h,ρ.at_ b g=some h/\h.shift<=o/\a=⟨h.blk,o-h.shift,none⟩
 |none=>(len=0/\c=0)∨∃h,ρ.at_ b g=some h/\h.shift<=o/\a=⟨h.blk,o-h.shift,none⟩/\(o-h.shift)+c * es<=h.size
def zG:Fn->Bool
 | .yield _=>false
 |_=>true
inductive VR(ρ:Rho):AV->Value->Prop where
 |bool (b:Bool):VR ρ (.bool b) (.bool b)
 |int (k:IntKind) (n:Int):VR ρ (.int k n) (.int k n)
 |str (s:ByteArray):VR ρ (.str (bytesOf s)) (.string s)
 |nilp:VR ρ .nilp (.pointer none)
 |ptr (b g o:Nat) (h:Home) (hh:ρ.at_ b g=some h) (ho:h.shift<=o):VR ρ (.ptr b g o) (.pointer (some ⟨h.blk,o-h.shift,none⟩))
 |nils:VR ρ .nils (.slice none 0 0)
 |slc (b g o len:Nat) (cap:Option Nat) (es:Nat) (a:Addr) (c:Nat) (h:SlOk ρ b g o len cap es a c):VR ρ (.slc b g o len cap es) (.slice (some a) len c)
 |nilm:VR ρ .nilm (.map none)
 |map (b:Nat) (h:Home) (hh:ρ.at_ b 0=some h):VR ρ (.map b) (.map (some h.blk))
 |func (fn:Fn) (l m:List AV) (first captured:Array Value) (h1:first.size=l.length) (h2:captured.size=m.length)
   (r1:∀(i:Nat) (a:AV) (v:Value),l[i]? =some a->first[i]? =some v->VR ρ a v) (r2:∀(i:Nat) (a:AV) (v:Value),m[i]? =some a->captured[i]? =some v->VR ρ a v) (hf:zG fn=true):
   VR ρ (.func fn l m) (.func fn first captured)
 |yld (b:Nat) (h:Home) (hh:ρ.at_ b 0=some h):VR ρ (.func (.yield b) [] []) (.func (.yield h.blk) #[] #[])
 |nilf:VR ρ .nilf .nilFunc
 |iface (t:Nat) (x:AV) (v:Value) (h:VR ρ x v):VR ρ (.iface t x) (.iface t v)
 |nili:VR ρ .nili .nilIface
 |agg (l:List AV) (cs:Array Value) (h:cs.size=l.length) (r:∀(i:Nat) (a:AV) (v:Value),l[i]? =some a->cs[i]? =some v->VR ρ a v):VR ρ (.agg l) (.agg cs)
 |tup (l:List AV) (cs:Array Value) (h:cs.size=l.length) (r:∀(i:Nat) (a:AV) (v:Value),l[i]? =some a->cs[i]? =some v->VR ρ a v):VR ρ (.tup l) (.tuple cs)
 |opq (n:Nat):VR ρ (.opq n) (ρ.val n)
 |opc (n:Nat) (h:(ρ.val n).oneCell'=true):VR ρ (.opc n) (ρ.val n)
 |anyB (b:Bool):VR ρ .anyB (.bool b)
 |anyI (k:IntKind) (n:Int):VR ρ (.anyI k) (.int k n)
 |osl (n:Nat) (base:Option Addr) (len cap:Nat) (h:ρ.val n= .slice base len cap):VR ρ (.osl n) (.slice base len cap)
 |sI (k:IntKind) (n:Int):VR ρ (.sI k n) (.int k n)
 |sB (p:Prop) (b:Bool) (h:b=true↔p):VR ρ (.sB p) (.bool b)
 |sS (s:ByteArray):VR ρ (.sS (bytesOf s)) (.string s)
 |any1 (v:Value) (h:v.oneCell'=true):VR ρ .any1 v
 |cptr (l:List AV) (blk off:Nat) (arr:Array Value) (ty:TypeId) (hf:ρ.frz blk=some (arr,ty)) (hb:off+l.length<=arr.size)
   (r:∀(j:Nat) (a:AV) (v:Value),l[j]? =some a->arr[off+j]? =some v->VR ρ a v):VR ρ (.cptr l) (.pointer (some ⟨blk,off,none⟩))
 |cv (c:Ct) (blk off cp:Nat) (arr:Array Value) (ty:TypeId) (hf:ρ.frz blk=some (arr,ty)) (hc:c.len<=cp) (hb:off+c.len * c.es<=arr.size)
   (r:∀(i j:Nat) (a:AV) (v:Value),i<c.len->(c.row i)[j]? =some a->arr[off+i * c.es+j]? =some v->VR ρ a v):VR ρ (.cv c) (.slice (some ⟨blk,off,none⟩) c.len cp)
 |cvnil (c:Ct) (h:c.len=0):VR ρ (.cv c) (.slice none 0 0)
 |cvempty (c:Ct) (a:Addr) (h:c.len=0):VR ρ (.cv c) (.slice (some a) 0 0)
 |gsl (b g n es:Nat) (h:Home) (c:Nat) (hn:0<n) (hh:ρ.at_ b g=some h) (hs:h.shift=0) (hc:n<=c) (hz:c * es<=h.size):VR ρ (.gsl b g n es) (.slice (some ⟨h.blk,0,none⟩) n c)
 |gnil (b g es:Nat):VR ρ (.gsl b g 0 es) (.slice none 0 0)
 |gempty (b g es:Nat) (a:Addr):VR ρ (.gsl b g 0 es) (.slice (some a) 0 0)
 |gptr (b g i o es:Nat) (h:Home) (hh:ρ.at_ b g=some h) (hs:h.shift=0):VR ρ (.gptr b g i o es) (.pointer (some ⟨h.blk,i * es+o,none⟩))
def LR(ρ:Rho)(l:List AV)(vs:List Value):Prop:=vs.length=l.length/\∀(i:Nat) (a:AV) (v:Value),l[i]? =some a->vs[i]? =some v->VR ρ a v
def LR.nil(ρ:Rho):LR ρ [] []:=⟨rfl,by simp⟩
def LR.cons{ρ:Rho}{a:AV}{v:Value}{l:List AV}{vs:List Value}(h:VR ρ a v)(h':LR ρ l vs):LR ρ (a::l) (v::vs):=by
 refine⟨by simp [h'.1],λi b u hb hu=>?_⟩
 cases i with
 |zero=>simp at hb hu;subst hb;subst hu;exact h
 |succ i=>simp at hb hu;exact h'.2 i b u hb hu
def LR.cons_inv{ρ:Rho}{a:AV}{l:List AV}{vs:List Value}(h:LR ρ (a::l) vs):∃v E',vs=v::E'/\VR ρ a v/\LR ρ l E':=by
 cases vs with
 |nil=>exact absurd h.1 (by simp)
 |cons v E'=>refine⟨v,E',rfl,h.2 0 a v rfl rfl,by simpa using h.1,λi b u hb hu=>h.2 (i+1) b u (by simpa using hb) (by simpa using hu)⟩
def LR.nil_inv{ρ:Rho}{vs:List Value}(h:LR ρ [] vs):vs= []:=by
 cases vs with
 |nil=>rfl
 |cons v vs=>exact absurd h.1 (by simp)
def LR.append{ρ:Rho}{l m:List AV}{vs us:List Value}(h:LR ρ l vs)(h':LR ρ m us):LR ρ (l++m) (vs++us):=by
 refine⟨by simp [h.1,h'.1],λi a v ha hv=>?_⟩;by_cases hi:i<l.length
 ·rw[aaD hi] at ha;rw[aaD (by rw[h.1];exact hi)] at hv;exact h.2 i a v ha hv
 ·rw[aaA (by omega)] at ha;rw[aaA (by rw[h.1];omega),h.1] at hv;exact h'.2 _ a v ha hv
def LR.get{ρ:Rho}{l:List AV}{vs:List Value}(h:LR ρ l vs){i:Nat}{a:AV}(ha:l[i]? =some a):∃v,vs[i]? =some v/\VR ρ a v:=by
 have hi:i<l.length:=by
  rcases aah i l.length with h'|h'
  ·exact h'
  ·rw[aam h'] at ha;cases ha
 have:i<vs.length:=by rw[h.1];exact hi
 exact⟨vs[i],aak this,h.2 i a _ ha (aak this)⟩
structure Rho.le(ρ ρ':Rho):Prop where
 at_:∀b g h,ρ.at_ b g=some h->ρ'.at_ b g=some h
 val:ρ'.val=ρ.val
 own:ρ'.own=ρ.own
 frz:∀b x,ρ.frz b=some x->ρ'.frz b=some x
 frz0:ρ'.frz0=ρ.frz0
def Rho.le.refl(ρ:Rho):ρ.le ρ:=⟨λ_ _ _ h=>h,rfl,rfl,λ_ _ h=>h,rfl⟩
def Rho.le.trans{a b c:Rho}(h:a.le b)(h':b.le c):a.le c:=⟨λx g y hy=>h'.at_ _ _ _ (h.at_ _ _ _ hy),h'.val.trans h.val,h'.own.trans h.own,λx y hy=>h'.frz _ _ (h.frz _ _ hy),h'.frz0.trans h.frz0⟩
def SlOk.mono{ρ ρ':Rho}(hle:ρ.le ρ'){b g o len:Nat}{cap:Option Nat}{es:Nat}{a:Addr}{c:Nat}(h:SlOk ρ b g o len cap es a c):SlOk ρ' b g o len cap es a c:=by
 refine⟨h.1, ?_⟩
 have h2:=h.2
 cases cap with
 |some k=>obtain⟨e,x,hx,r⟩:=h2;exact⟨e,x,hle.at_ _ _ _ hx,r⟩
 |none=>
  rcases h2 with h2|⟨x,hx,r⟩
  ·exact .inl h2
  ·exact .inr ⟨x,hle.at_ _ _ _ hx,r⟩
def VR.mono{ρ ρ':Rho}(hle:ρ.le ρ'){a:AV}{v:Value}(h:VR ρ a v):VR ρ' a v:=by
 induction h with
 |bool b=>exact .bool b
 |int k n=>exact .int k n
 |str s=>exact .str s
 |nilp=>exact .nilp
 |ptr b g o h hh ho=>exact .ptr b g o h (hle.at_ _ _ _ hh) ho
 |nils=>exact .nils
 |slc b g o len cap es a c h=>exact .slc b g o len cap es a c (h.mono hle)
 |nilm=>exact .nilm
 |map b h hh=>exact .map b h (hle.at_ _ _ _ hh)
 |func fn l m first captured h1 h2 r1 r2 hf i1 i2=>exact .func fn l m first captured h1 h2 i1 i2 hf
 |yld b h hh=>exact .yld b h (hle.at_ _ _ _ hh)
 |nilf=>exact .nilf
 |iface t x v h ih=>exact .iface t x v ih
 |nili=>exact .nili
 |agg l cs h r ih=>exact .agg l cs h ih
 |tup l cs h r ih=>exact .tup l cs h ih
 |opq n=>rw[←hle.val];exact .opq n
 |opc n h=>rw[←hle.val];exact .opc n (by rw[hle.val];exact h)
 |anyB b=>exact .anyB b
 |anyI k n=>exact .anyI k n
 |osl n base len cap h=>exact .osl n base len cap (by rw[hle.val];exact h)
 |sI k n=>exact .sI k n
 |sB p b h=>exact .sB p b h
 |sS s=>exact .sS s
 |any1 v h=>exact .any1 v h
 |cptr l blk off arr ty hf hb r ih=>exact .cptr l blk off arr ty (hle.frz _ _ hf) hb ih
 |cv c blk off cp arr ty hf hc hb r ih=>exact .cv c blk off cp arr ty (hle.frz _ _ hf) hc hb ih
 |cvnil c h=>exact .cvnil c h
 |cvempty c a h=>exact .cvempty c a h
 |gsl b g n es h c hn hh hs hc hz=>exact .gsl b g n es h c hn (hle.at_ _ _ _ hh) hs hc hz
 |gnil b g es=>exact .gnil b g es
 |gempty b g es a=>exact .gempty b g es a
 |gptr b g i o es h hh hs=>exact .gptr b g i o es h (hle.at_ _ _ _ hh) hs
def LR.mono{ρ ρ':Rho}(hle:ρ.le ρ'){l:List AV}{vs:List Value}(h:LR ρ l vs):LR ρ' l vs:=⟨h.1,λi a v ha hv=>(h.2 i a v ha hv).mono hle⟩
def LR.arr{ρ:Rho}{l:List AV}{cs:Array Value}(h:LR ρ l cs.toList):cs.size=l.length/\∀(i:Nat) (a:AV) (v:Value),l[i]? =some a->cs[i]? =some v->VR ρ a v:=
 ⟨by simpa using h.1,λi a v ha hv=>h.2 i a v ha (by simpa using hv)⟩
def LR.of_arr{ρ:Rho}{l:List AV}{cs:Array Value}(h:cs.size=l.length)(r:∀(i:Nat) (a:AV) (v:Value),l[i]? =some a->cs[i]? =some v->VR ρ a v):LR ρ l cs.toList:=
 ⟨by simpa using h,λi a v ha hv=>r i a v ha (by simpa using hv)⟩
def Wk:Nat->Value->Option AV
 |0,_=>none
 |f+1,v=>match v with
  | .bool b=>some (.bool b)
  | .int k n=>some (.int k n)
  | .string s=>some (.str (bytesOf s))
  | .pointer none=>some .nilp
  | .slice none 0 0=>some .nils
  | .map none=>some .nilm
  | .nilFunc=>some .nilf
  | .nilIface=>some .nili
  | .agg cs=>match cs.toList.mapM (Wk f) with
   |some l=>some (.agg l)
   |none=>none
  | .tuple cs=>match cs.toList.mapM (Wk f) with
   |some l=>some (.tup l)
   |none=>none
  |_=>none
def EM{ρ:Rho}{f:Value->Option AV}(hf:∀v a,f v=some a->VR ρ a v):∀(vs:List Value) (l:List AV),vs.mapM f=some l->LR ρ l vs:=by
 intro vs
 induction vs with
 |nil=>intro l h;simp at h;subst h;exact LR.nil ρ
 |cons v vs ih=>
  intro l h
  rw[List.mapM_cons] at h
  cases hv:f v with
  |none=>simp [hv] at h
  |some a=>
   cases L':vs.mapM f with
   |none=>simp [hv,L'] at h
   |some l'=>simp [hv,L'] at h;subst h;exact LR.cons (hf v a hv) (ih l' L')
def Kx(ρ:Rho):∀(f:Nat) (v:Value) (a:AV),Wk f v=some a->VR ρ a v:=by
 intro f
 induction f with
 |zero=>intro v a h;cases h
 |succ f ih=>
  intro v a h;unfold Wk at h;split at h
  ·injection h with h;subst h;exact .bool _
  ·injection h with h;subst h;exact .int _ _
  ·injection h with h;subst h;exact .str _
  ·injection h with h;subst h;exact .nilp
  ·injection h with h;subst h;exact .nils
  ·injection h with h;subst h;exact .nilm
  ·injection h with h;subst h;exact .nilf
  ·injection h with h;subst h;exact .nili
  ·split at h
   ·rename_i cs l hl;injection h with h;subst h;obtain⟨h1,h2⟩:=(EM ih _ _ hl).arr;exact .agg _ _ h1 h2
   ·cases h
  ·split at h
   ·rename_i cs l hl;injection h with h;subst h;obtain⟨h1,h2⟩:=(EM ih _ _ hl).arr;exact .tup _ _ h1 h2
   ·cases h
  ·cases h
inductive Cell where
 |mk (tag:Nat) (v:AV)
def Cell.tag:Cell->Nat | .mk t _=>t
inductive ME where
 |mk (k v:AV) (born:Nat)
inductive ABlk where
 |cells (c:T Cell) (gen lo hi fl fh:Nat) (ro:Bool) (ty:Nat)
 |grow (c:Ct) (gen ty:Nat)
 |froz (c:Ct) (gen:Nat)
 |tab (ty:Nat) (l:List Nat)
 |mapo (es:List ME) (clock:Nat)
 |smap (m:Nat) (l:List G)
 |obj (k:Nat) (I:Nat->List Nat->World->Prop) (l:List G)
 |siter (s:List Nat) (pos:Nat)
 |miter (m:Option Nat) (since:Nat) (seen:List Nat) (stepped:Nat)
 |dfr (live:Bool)
 |loop (state:LoopState) (jump:Option Code) (fn:Nat) (nt:Nat) (tmps:T AV) (params:List Nat) (assign body:Code) (defers:Nat)
inductive St where
 |mk (h:T ABlk) (next fs:Nat) (tch:T Unit) (wr:List Nat)
def St.h:St->T ABlk | .mk h _ _ _ _=>h
structure ER(ρ:Rho)(nt:Nat)(env:T AV)(tmps:Array Value):Prop where
 size:tmps.size=nt
 val:∀t a,env.get t=some a->∃v,tmps[t]? =some v/\VR ρ a v
def gm:AV->Bool
 | .agg _ | .tup _ | .opq _=>false
 |_=>true
def jm{ρ:Rho}{a:AV}{v:Value}(h:VR ρ a v)(ho:gm a=true):v.oneCell'=true:=by cases h <;> first|rfl|assumption|(simp [gm] at ho)
def Own(ρ:Rho)(B b:Nat):Prop:=B<=b∨ρ.own b
def Own.new{ρ:Rho}{B b:Nat}(h:B<=b):Own ρ B b:=.inl h
def Own.mono{ρ ρ':Rho}(hle:ρ.le ρ'){B b:Nat}(h:Own ρ B b):Own ρ' B b:=h.imp id λh=>by rw[hle.own];exact h
def rz(I:Nat->List Nat->World->Prop):Prop:=∀(r:Nat) (fp:List Nat) (w w':World),(∀x∈r::fp,w'.heap[x]? =w.heap[x]?)->I r fp w->I r fp w'
def BR(ρ:Rho)(B:Nat)(w:World)(b:Nat):ABlk->Prop
 | .cells c gen lo hi fl fh ro ty=>
  (∀o x,c.get o=some x->lo<=o/\o<hi/\x.tag<=gen)/\
  (∀g,g<=gen->∃h,ρ.at_ b g=some h/\(ro=false->Own ρ B h.blk)/\(ro=true->b<1048576->h.blk=b/\h.shift=0)/\
   ∃arr fr,w.heap[h.blk]? =some (.cells arr ty fr)/\arr.size=h.size/\
    (ro=false->fr.1<=fr.2/\∀x,(x<h.size∨fl<=fh)->fr.1<=x->x<fr.2->fl<=x+h.shift/\x+h.shift<fh)/\
    ∀o tag a,c.get o=some (.mk tag a)->tag<=g->h.shift<=o/\∃v,arr[o-h.shift]? =some v/\VR ρ a v)
 | .grow c gen ty=>c.len=0∨∃h,ρ.at_ b gen=some h/\h.shift=0/\Own ρ B h.blk/\∃arr fr,w.heap[h.blk]? =some (.cells arr ty fr)/\arr.size=h.size/\c.len * c.es<=h.size/\
  (∀x,x<h.size->fr.1<=x->x<fr.2->False)/\∀i,i<c.len->∀j a,(c.row i)[j]? =some a->∃u,arr[i * c.es+j]? =some u/\VR ρ a u
 | .froz c gen=>c.len=0∨∃h arr ty,ρ.at_ b gen=some h/\h.shift=0/\ρ.frz h.blk=some (arr,ty)/\c.len * c.es<=arr.size/\
  ∀i,i<c.len->∀j a,(c.row i)[j]? =some a->∃u,arr[i * c.es+j]? =some u/\VR ρ a u
 | .tab ty l=>b<1048576/\ρ.frz b=some ((l.map λn=>Value.int .u8 (Int.ofNat n)).toArray,ty)
 | .mapo es clock=>∃h,ρ.at_ b 0=some h/\Own ρ B h.blk/\∃M',w.heap[h.blk]? =some (.map M' clock)/\M'.size=es.length/\
  ∀(i:Nat) (k v:AV) (n:Nat) (e:MapEntry),es[i]? =some (.mk k v n)->M'[i]? =some e->VR ρ k e.key/\VR ρ v e.val/\e.born=n
 | .smap m l=>∃h,ρ.at_ b 0=some h/\Own ρ B h.blk/\∃es clock,w.heap[h.blk]? =some (.map es clock)/\es.size=l.length/\
  ∀(i:Nat) (g:G) (e:MapEntry),l[i]? =some g->es[i]? =some e->VR ρ (nc m g) e.key/\VR ρ (jU m g) e.val
 | .obj k I l=>rz I/\∃h fp,ρ.at_ b 0=some h/\h.shift=0/\(∀x∈h.blk::fp,Own ρ B x/\∃g hx,ρ.at_ b g=some hx/\hx.blk=x)/\I h.blk fp w
 | .siter s pos=>∃h,ρ.at_ b 0=some h/\Own ρ B h.blk/\∃s',bytesOf s'=s/\w.heap[h.blk]? =some (.stringIter s' pos)
 | .miter m since seen stepped=>∃h,ρ.at_ b 0=some h/\Own ρ B h.blk/\∃m' ad8,w.heap[h.blk]? =some (.mapIter m' since ad8 stepped)/\ad8.toList=seen/\
  (match m with|none=>m'=none|some x=>∃hx,ρ.at_ x 0=some hx/\m'=some hx.blk)
 | .dfr live=>∃h,ρ.at_ b 0=some h/\Own ρ B h.blk/\w.heap[h.blk]? =some (.deferred (if live then some [] else none))
 | .loop state jump fn nt tmps params assign body defers=>∃h,ρ.at_ b 0=some h/\Own ρ B h.blk/\∃ac5 hd fn',ER ρ nt tmps ac5/\ρ.at_ defers 0=some hd/\
  w.heap[h.blk]? =some (.loop {state,pending:=jump,fn:=fn',tmps:=ac5,params:=params.toArray,assign,body,defers:=hd.blk})
def Ky(g:Nat):ABlk->Prop
 | .cells _ gen _ _ _ _ _ _=>g<=gen
 | .grow _ gen _=>g<=gen
 | .froz _ gen=>g<=gen
 |_=>True
def zH:ABlk->Prop
 | .froz _ _=>True
 |_=>False
structure Kept(own:Nat->Prop)(B:Nat)(w w':World):Prop where
 os:w'.os=w.os
 tape:w'.tape=w.tape
 output:w'.output=w.output
 size:w.heap.size<=w'.heap.size
 block:∀b,b<B->¬own b->w'.heap[b]? =w.heap[b]?
def Kept.refl(own:Nat->Prop)(B:Nat)(w:World):Kept own B w w:=⟨rfl,rfl,rfl,aac _,λ_ _ _=>rfl⟩
def Kept.trans{own:Nat->Prop}{B:Nat}{a b c:World}(h:Kept own B a b)(h':Kept own B b c):Kept own B a c:=
 ⟨h'.os.trans h.os,h'.tape.trans h.tape,h'.output.trans h.output,aaL h.size h'.size,λx h1 h2=>(h'.block x h1 h2).trans (h.block x h1 h2)⟩
def Kept.of{own:Nat->Prop}{B:Nat}{a b:World}(h:Below B a b):Kept own B a b:=⟨h.os,h.tape,h.output,h.size,λx h1 _=>h.block x h1⟩
def Kept.below{own:Nat->Prop}{B:Nat}{a b:World}(h:Kept own B a b)(ho:∀x,¬own x):Below B a b:=⟨h.os,h.tape,h.output,h.size,λx h1=>h.block x h1 (ho x)⟩
def Kept.alloc{own:Nat->Prop}{B:Nat}{a w:World}(h:Kept own B a w)(hB:B<=w.heap.size)(o:Obj):Kept own B a (w.alloc o):=
 h.trans (Kept.of ((Below.refl B w).alloc hB o))
def Kept.setCell{ρ:Rho}{B:Nat}{w:World}{p:Addr}(hp:Own ρ B p.block)(v:Value):Kept ρ.own B w (w.setCell p v):=
 ⟨rfl,rfl,rfl,by simp [World.setCell],λk hk ho=>Below.heap_setCell _ _ _ _ (λe=>by subst e;rcases hp with h|h;omega;exact ho h)⟩
def Kept.of_set{ρ:Rho}{B b:Nat}{w w':World}(h0:Below 0 w w')(hs:∀k,k≠b->w'.heap[k]? =w.heap[k]?)(hb:Own ρ B b):Kept ρ.own B w w':=
 ⟨h0.os,h0.tape,h0.output,h0.size,λk hk ho=>hs k (λe=>by subst e;rcases hb with h|h;omega;exact ho h)⟩
structure Good0(w0:World)(ρ:Rho)(H:T ABlk)(w:World):Prop where
 below:Kept ρ.own w0.heap.size w0 w
 blk:∀b x,H.get b=some x->BR ρ w0.heap.size w b x
 dom:∀b g h,ρ.at_ b g=some h->h.blk<w.heap.size/\∃x,H.get b=some x
 inj:∀b g h b' g' h',ρ.at_ b g=some h->ρ.at_ b' g'=some h'->h.blk=h'.blk->b=b'/\h=h'
 gens:∀b g h x,ρ.at_ b g=some h->H.get b=some x->Ky g x
 frz:∀b arr ty,ρ.frz b=some (arr,ty)->(∃fr,w.heap[b]? =some (.cells arr ty fr))/\∀b' g h,ρ.at_ b' g=some h->h.blk=b->∃x,H.get b'=some x/\zH x
 frzB:∀b x,ρ.frz b=some x->b<w0.heap.size->ρ.frz0 b=some x
 objO:∀b k I l,H.get b=some (.obj k I l)->∀g h,ρ.at_ b g=some h->Own ρ w0.heap.size h.blk/\(g=0∨g=h.blk+1)
structure Good(w0:World)(ρ:Rho)(H:T ABlk)(w:World):Prop extends Good0 w0 ρ H w where
 ownB:∀x,ρ.own x->∃b g h,b<base+64/\ρ.at_ b g=some h/\h.blk=x
def Good0.frzE{w0:World}{ρ:Rho}{H:T ABlk}{w:World}(hG:Good0 w0 ρ H w){b:Nat}{arr:Array Value}{ty:TypeId}(hf:ρ.frz b=some (arr,ty)){b' g:Nat}{h:Home}{x:ABlk}(hh:ρ.at_ b' g=some h)(hx:H.get b'=some x)(hn:¬zH x):h.blk≠b:=λe=>by obtain⟨y,h1,h2⟩:=(hG.frz _ _ _ hf).2 _ _ _ hh e;rw[hx] at h1;injection h1 with h1;subst h1;exact hn h2
end
end Go.Sym
namespace Go.Sym
noncomputable section
structure Sy where
 i:Nat->Int
 s:Nat->List Nat
 p:Nat->Prop
 g:Nat->List G
inductive Tr where
 |fail
 |ret (a:AV)
 |rd (b:Nat) (k:ABlk->Tr)
 |wr (b:Nat) (x:ABlk) (k:Tr)
 |new (x:ABlk) (k:Nat->Tr)
 |pick (n:Nat) (k:Nat->Tr)
 |sub (t:Tr) (k:AV->Nat->Nat->T Unit->List Nat->Tr)
 |ask (p:Prop) (t e:Tr)
 |req (p:Prop) (t:Tr)
 |sk (p:Sy->Prop) (z:{y:Sy // p y}) (k:Sy->Tr)
abbrev Fin:=AV->St->Bool
def pO(fs b:Nat)(t:T Unit)(k:T Unit->Bool):Bool:=ac (Nat.ble fs b) (k t) (T.setK t b () k)
def note(fs b:Nat)(t:T Unit):T Unit:=if fs<=b then t else t.set b ()
def rA(fs b:Nat)(t:T Unit)(k:T Unit->Bool):pO fs b t k=k (note fs b t):=by
 unfold pO note;rw[ar,T.setK_eq];by_cases h:fs<=b
 ·simp [Nat.ble_eq,h]
 ·have:Nat.ble fs b=false:=by
   cases hb:Nat.ble fs b with
   |false=>rfl
   |true=>exact absurd (Nat.ble_eq.mp hb) h
  simp [this,h]
def oP(fs b:Nat)(w:List Nat)(k:List Nat->Bool):Bool:=ac (Nat.ble fs b) (k w) (k (b::w))
def gR(fs b:Nat)(w:List Nat):List Nat:=if fs<=b then w else b::w
def uK(fs b:Nat)(w:List Nat)(k:List Nat->Bool):oP fs b w k=k (gR fs b w):=by
 unfold oP gR;rw[ar];by_cases h:fs<=b
 ·simp [Nat.ble_eq,h]
 ·have:Nat.ble fs b=false:=by
   cases hb:Nat.ble fs b with
   |false=>rfl
   |true=>exact absurd (Nat.ble_eq.mp hb) h
  simp [this,h]
def T.keys{α:Type}:T α->(Nat->Nat)->List Nat->List Nat
 | .leaf,_,acc=>acc
 | .node l v r,f,acc=>T.keys l (λn=>f (2 * n+1)) (T.keys r (λn=>f (2 * n+2)) (match v with|some _=>f 0::acc|none=>acc))
def ne(fs:Nat):List Nat->T Unit->(T Unit->Bool)->Bool:=λl=>
 List.rec (motive:=λ_=>T Unit->(T Unit->Bool)->Bool) (λt k=>k t) (λb _ ih t k=>pO fs b t λt=>ih t k) l
def fT(fs:Nat):List Nat->T Unit->T Unit
 | [],t=>t
 |b::l,t=>fT fs l (note fs b t)
def zI(fs:Nat):∀(l:List Nat) (t:T Unit) (k:T Unit->Bool),ne fs l t k=k (fT fs l t):=by
 intro l
 induction l with
 |nil=>intro t k;rfl
 |cons b l ih=>intro t k;show pO fs b t (λt=>ne fs l t k)=_;rw[rA,ih];rfl
def ls(fs:Nat):List Nat->List Nat->(List Nat->Bool)->Bool:=λl=>
 List.rec (motive:=λ_=>List Nat->(List Nat->Bool)->Bool) (λt k=>k t) (λb _ ih t k=>oP fs b t λt=>ih t k) l
def fo(fs:Nat):List Nat->List Nat->List Nat
 | [],t=>t
 |b::l,t=>fo fs l (gR fs b t)
def wR(fs:Nat):∀(l:List Nat) (t:List Nat) (k:List Nat->Bool),ls fs l t k=k (fo fs l t):=by
 intro l
 induction l with
 |nil=>intro t k;rfl
 |cons b l ih=>intro t k;show oP fs b t (λt=>ls fs l t k)=_;rw[uK,ih];rfl
def dP(p:Prop):Bool:=@decide p (Classical.propDecidable p)
def fG{p:Prop}:dP p=true↔p:=by simp [dP]
def Wl{p:Prop}:dP p=false↔¬p:=by simp [dP]
def Zu(_:St)(_:Fin):Bool:=false
def rRet(a:AV)(σ:St)(K:Fin):Bool:=K a σ
def rRd(b:Nat)(_:ABlk->Tr)(ih:ABlk->St->Fin->Bool)(σ:St)(K:Fin):Bool:=
 St.rec (motive:=λ_=>Bool) (λh n fs t w=>ac (Nat.ble (Nat.succ b) n) (T.getK h b false λx=>pO fs b t λt=>ih x (.mk h n fs t w) K) false) σ
def rWr(b:Nat)(x:ABlk)(_:Tr)(ih:St->Fin->Bool)(σ:St)(K:Fin):Bool:=
 St.rec (motive:=λ_=>Bool) (λh n fs t w=>ac (Nat.ble (Nat.succ b) n) (T.getK h b false λ_=>T.setK h b x λh=>pO fs b t λt=>oP fs b w λw=>ih (.mk h n fs t w) K) false) σ
def rNew(x:ABlk)(_:Nat->Tr)(ih:Nat->St->Fin->Bool)(σ:St)(K:Fin):Bool:=
 St.rec (motive:=λ_=>Bool) (λh n fs t w=>ac (Nat.ble n 1000000000) (T.getK h n (T.setK h n x λh=>fN (Nat.succ n) λm=>ih n (.mk h m fs t w) K) λ_=>false) false) σ
def iI(f:Nat->Bool)(n:Nat):Bool:=Nat.rec (motive:=λ_=>Bool) true (λm ih=>ac (f m) ih false) n
def Zv(n:Nat)(_:Nat->Tr)(ih:Nat->St->Fin->Bool)(σ:St)(K:Fin):Bool:=
 ac (Nat.ble n 1) (ih 0 σ K) (St.rec (motive:=λ_=>Bool) (λh m fs t w=>ac (Nat.beq fs 0) (iI (λi=>ih i (.mk h m fs t w) K) n) false) σ)
def rSub(_:Tr)(_:AV->Nat->Nat->T Unit->List Nat->Tr)(it:St->Fin->Bool)(ik:AV->Nat->Nat->T Unit->List Nat->St->Fin->Bool)(σ:St)(K:Fin):Bool:=
 St.rec (motive:=λ_=>Bool) (λh n fs t w=>it (.mk h n n .leaf []) λa a9=>
  St.rec (motive:=λ_=>Bool) (λh' n' _ t' w'=>ac (Nat.beq fs 0) (ik a n n' t' w' (.mk h' n' fs t w) K)
   (ne fs (T.keys t' id []) t λt2=>ls fs w' w λw2=>ik a n n' t' w' (.mk h' n' fs t2 w2) K)) a9) σ
def rAsk(p:Prop)(_ _:Tr)(it ie:St->Fin->Bool)(σ:St)(K:Fin):Bool:=dP ((p->it σ K=true)/\(¬p->ie σ K=true))
def rReq(p:Prop)(_:Tr)(it:St->Fin->Bool)(σ:St)(K:Fin):Bool:=dP (p/\it σ K=true)
def rSk(p:Sy->Prop)(z:{y:Sy // p y})(_:Sy->Tr)(ik:Sy->St->Fin->Bool)(σ:St)(K:Fin):Bool:=ik z.1 σ K
def run(t:Tr):St->Fin->Bool:=Tr.rec (motive:=λ_=>St->Fin->Bool) Zu rRet rRd rWr rNew Zv rSub rAsk rReq rSk t
def io(b:Nat)(k:ABlk->Tr)(h:T ABlk)(n fs:Nat)(t:T Unit)(w:List Nat)(K:Fin):
 run (.rd b k) (.mk h n fs t w) K=if b<n then(match h.get b with|none=>false|some x=>run (k x) (.mk h n fs (note fs b t) w) K) else false:=by
 show ac (Nat.ble (Nat.succ b) n) (T.getK h b false (λx=>pO fs b t λt=>run (k x) (.mk h n fs t w) K)) false=_
 rw[ar,T.getK_eq]
 by_cases hn:b<n
 ·rw[if_pos (Nat.ble_eq.mpr hn),if_pos hn];split <;> simp_all [rA]
 ·rw[if_neg (λh=>hn (Nat.ble_eq.mp h)),if_neg hn]
def ky(b:Nat)(x:ABlk)(k:Tr)(h:T ABlk)(n fs:Nat)(t:T Unit)(w:List Nat)(K:Fin):
 run (.wr b x k) (.mk h n fs t w) K=if b<n then(match h.get b with|none=>false|some _=>run k (.mk (h.set b x) n fs (note fs b t) (gR fs b w)) K) else false:=by
 show ac (Nat.ble (Nat.succ b) n) (T.getK h b false (λ_=>T.setK h b x λh=>pO fs b t λt=>oP fs b w λw=>run k (.mk h n fs t w) K)) false=_
 rw[ar,T.getK_eq]
 by_cases hn:b<n
 ·rw[if_pos (Nat.ble_eq.mpr hn),if_pos hn];split <;> simp_all [rA,uK,T.setK_eq]
 ·rw[if_neg (λh=>hn (Nat.ble_eq.mp h)),if_neg hn]
def gT(x:ABlk)(k:Nat->Tr)(h:T ABlk)(n fs:Nat)(t:T Unit)(w:List Nat)(K:Fin):
 run (.new x k) (.mk h n fs t w) K=if n<=1000000000 then(match h.get n with|some _=>false|none=>run (k n) (.mk (h.set n x) (n+1) fs t w) K) else false:=by
 show ac (Nat.ble n 1000000000) (T.getK h n (T.setK h n x λh=>fN (Nat.succ n) λm=>run (k n) (.mk h m fs t w) K) λ_=>false) false=_
 rw[ar]
 by_cases hn:n<=1000000000
 ·rw[if_pos (Nat.ble_eq.mpr hn),if_pos hn,T.getK_eq];split <;> simp_all [T.setK_eq,rx]
 ·rw[if_neg (λh=>hn (Nat.ble_eq.mp h)),if_neg hn]
def ng{f:Nat->Bool}:∀{n:Nat},iI f n=true↔∀i,i<n->f i=true:=by
 intro n
 induction n with
 |zero=>exact⟨λ_ i hi=>absurd hi (by omega),λ_=>rfl⟩
 |succ n ih=>
  show ac (f n) (iI f n) false=true↔_;constructor
  ·intro h i hi;obtain⟨h1,h2⟩:=aD h;rcases aah i n with h'|h'
   ·exact ih.mp h2 i h'
   ·have:i=n:=by omega
    subst this;exact h1
  ·intro h;rw[h n (by omega),ar,if_pos rfl];exact ih.mpr λi hi=>h i (by omega)
def gU(t:Tr)(k:AV->Nat->Nat->T Unit->List Nat->Tr)(h:T ABlk)(n fs:Nat)(tc:T Unit)(w:List Nat)(K:Fin):
 run (.sub t k) (.mk h n fs tc w) K=run t (.mk h n n .leaf []) λa a9=>match a9 with
  | .mk h' n' _ t' w'=>if fs=0 then run (k a n n' t' w') (.mk h' n' fs tc w) K else run (k a n n' t' w') (.mk h' n' fs (fT fs (T.keys t' id []) tc) (fo fs w' w)) K:=by
 show run t (.mk h n n .leaf []) (λa a9=>St.rec (motive:=λ_=>Bool) (λh' n' _ t' w'=>ac (Nat.beq fs 0) (run (k a n n' t' w') (.mk h' n' fs tc w) K)
  (ne fs (T.keys t' id []) tc λt2=>ls fs w' w λw2=>run (k a n n' t' w') (.mk h' n' fs t2 w2) K)) a9)=_
 congr 1
 funext a a9
 cases a9 with
 |mk h' n' f' t' w'=>
  show ac (Nat.beq fs 0) _ _=_
  rw[ar,zI,wR]
  by_cases hf:fs=0
  ·subst hf;rfl
  ·have:Nat.beq fs 0=false:=by
    cases hb:Nat.beq fs 0 with
    |false=>rfl
    |true=>exact absurd (aae hb) hf
   simp [this,hf]
def fq{p:Prop}(t e:Tr)(σ:St)(K:Fin)(h:p):run (.ask p t e) σ K=run t σ K:=by show dP ((p->run t σ K=true)/\(¬p->run e σ K=true))=_;rw[Bool.eq_iff_iff,fG];exact⟨λq=>q.1 h,λq=>⟨λ_=>q,λn=>absurd h n⟩⟩
def ft{p:Prop}(t e:Tr)(σ:St)(K:Fin)(h:¬p):run (.ask p t e) σ K=run e σ K:=by show dP ((p->run t σ K=true)/\(¬p->run e σ K=true))=_;rw[Bool.eq_iff_iff,fG];exact⟨λq=>q.2 h,λq=>⟨λn=>absurd n h,λ_=>q⟩⟩
def fu{p:Prop}(t:Tr)(σ:St)(K:Fin)(h:p):run (.req p t) σ K=run t σ K:=by show dP (p/\run t σ K=true)=_;rw[Bool.eq_iff_iff,fG];exact⟨λq=>q.2,λq=>⟨h,q⟩⟩
def pP{p:Prop}(t:Tr)(σ:St)(K:Fin)(h:¬p):run (.req p t) σ K=false:=by show dP (p/\run t σ K=true)=_;rw[Wl];exact λq=>h q.1
end
attribute [irreducible] dP
end Go.Sym
namespace Go.Sym
def T.mem_keys_acc{α:Type}:∀(t:T α) (f:Nat->Nat) (acc:List Nat) (x:Nat),x∈acc->x∈T.keys t f acc:=by
 intro t
 induction t with
 |leaf=>intro f acc x h;exact h
 |node l v r ihl ihr=>intro f acc x h;simp only [T.keys];refine ihl _ _ _ (ihr _ _ _ ?_);cases v <;> simp [h]
def T.mem_keys{α:Type}:∀(t:T α) (f:Nat->Nat) (acc:List Nat) (b:Nat) (a:α),t.get b=some a->f b∈T.keys t f acc:=by
 intro t
 induction t with
 |leaf=>intro f acc b a h;simp [T.get] at h
 |node l v r ihl ihr=>
  intro f acc b a h
  simp only [T.keys]
  cases b with
  |zero=>simp only [T.get] at h;subst h;exact T.mem_keys_acc _ _ _ _ (T.mem_keys_acc _ _ _ _ (by simp))
  |succ m=>
   simp only [T.get] at h;split at h
   ·have e:m+1=2 * (m/2)+1:=by omega
    rw[e];exact ihl (λn=>f (2 * n+1)) _ _ _ h
   ·have e:m+1=2 * (m/2)+2:=by omega
    rw[e];exact T.mem_keys_acc _ _ _ _ (ihr (λn=>f (2 * n+2)) _ _ _ h)
def dJ{fs b:Nat}{t:T Unit}{x:Nat}(hb:b+1<2 ^ 64)(h:t.get x=some ()):(note fs b t).get x=some ():=by
 unfold note;split
 ·exact h
 ·by_cases e:x=b
  ·subst e;exact T.get_set_same _ _ _ hb
  ·rw[T.get_set_ne _ e];exact h
def kz{fs b:Nat}{t:T Unit}(hb:b+1<2 ^ 64)(h:b<fs):(note fs b t).get b=some ():=by unfold note;rw[if_neg (by omega)];exact T.get_set_same _ _ _ hb
def fe{fs:Nat}:∀(l:List Nat) (t:T Unit) (x:Nat),(∀b∈l,b+1<2 ^ 64)->t.get x=some ()->(fT fs l t).get x=some ():=by
 intro l
 induction l with
 |nil=>intro t x _ h;exact h
 |cons b l ih=>intro t x hl h;exact ih _ _ (λb hb=>hl b (by simp [hb])) (dJ (hl b (by simp)) h)
def kA{fs:Nat}:∀(l:List Nat) (t:T Unit) (x:Nat),(∀b∈l,b+1<2 ^ 64)->x∈l->x<fs->(fT fs l t).get x=some ():=by
 intro l
 induction l with
 |nil=>intro t x _ h;cases h
 |cons b l ih=>
  intro t x hl h hx;have q9:∀b∈l,b+1<2 ^ 64:=λb hb=>hl b (by simp [hb]);rcases List.mem_cons.mp h with e|h
  ·subst e;exact fe l _ _ q9 (kz (hl x (by simp)) hx)
  ·exact ih _ _ q9 h hx
def pQ{fs b:Nat}{w:List Nat}{x:Nat}(h:x∈w):x∈gR fs b w:=by unfold gR;split <;> simp [h]
def uL{fs b:Nat}{w:List Nat}(h:b<fs):b∈gR fs b w:=by unfold gR;rw[if_neg (by omega)];simp
def oQ{fs b:Nat}{w:List Nat}{x:Nat}(h:x∈gR fs b w):x∈w∨(x=b/\b<fs):=by
 unfold gR at h;split at h
 ·exact .inl h
 ·rcases List.mem_cons.mp h with e|h
  ·exact .inr ⟨e,by omega⟩
  ·exact .inl h
def kB{fs:Nat}:∀(l w:List Nat) (x:Nat),x∈w->x∈fo fs l w:=by
 intro l
 induction l with
 |nil=>intro w x h;exact h
 |cons b l ih=>intro w x h;exact ih _ _ (pQ h)
def wS{fs:Nat}:∀(l w:List Nat) (x:Nat),x∈l->x<fs->x∈fo fs l w:=by
 intro l
 induction l with
 |nil=>intro w x h;cases h
 |cons b l ih=>
  intro w x h hx;rcases List.mem_cons.mp h with e|h
  ·subst e;exact kB l _ _ (uL hx)
  ·exact ih _ _ h hx
def nh{fs:Nat}:∀(l w:List Nat) (x:Nat),x∈fo fs l w->x∈w∨(x∈l/\x<fs):=by
 intro l
 induction l with
 |nil=>intro w x h;exact .inl h
 |cons b l ih=>
  intro w x h;rcases ih _ _ h with h|h
  ·rcases oQ h with h|⟨e,h⟩
   ·exact .inl h
   ·subst e;exact .inr ⟨by simp,h⟩
  ·exact .inr ⟨by simp [h.1],h.2⟩
def Wm(fs n':Nat)(tc':T Unit)(b:Nat):Prop:=tc'.get b=some ()∨(fs<=b/\b<n')
def Ur(fs n':Nat)(w':List Nat)(b:Nat):Prop:=b∈w'∨(fs<=b/\b<n')
def uM{α:Type}:∀(t:T α) (f:Nat->Nat) (acc:List Nat) (b:Nat),b∈T.keys t f acc->b∈acc∨∃x a,b=f x/\t.get x=some a:=by
 intro t
 induction t with
 |leaf=>intro f acc b h;exact .inl h
 |node l v r ihl ihr=>
  intro f acc b h;simp only [T.keys] at h;rcases ihl _ _ _ h with h|⟨x,a,e,hx⟩
  ·rcases ihr _ _ _ h with h|⟨x,a,e,hx⟩
   ·cases v with
    |none=>exact .inl h
    |some a=>
     simp only [List.mem_cons] at h;rcases h with h|h
     ·exact .inr ⟨0,a,h,by simp [T.get]⟩
     ·exact .inl h
   ·refine .inr ⟨2 * x+2,a,e, ?_⟩;show(if(2 * x+1)%2=0 then _ else _)=_;rw[if_neg (by omega),show(2 * x+1)/2=x by omega];exact hx
  ·refine .inr ⟨2 * x+1,a,e, ?_⟩;show(if(2 * x)%2=0 then _ else _)=_;rw[if_pos (by omega),show(2 * x)/2=x by omega];exact hx
structure LocAt(t:Tr)(h:T ABlk)(n fs:Nat)(tc:T Unit)(w:List Nat)(a:AV)(h':T ABlk)(n':Nat)(tc':T Unit)(w':List Nat):Prop where
 run:∀K,run t (.mk h n fs tc w) K=K a (.mk h' n' fs tc' w')
 le:n<=n'
 lid:n'<=1000000001
 tch:∀b,tc.get b=some ()->tc'.get b=some ()
 wrt:∀b∈w,b∈w'
 sub:∀b∈w',tc'.get b=some ()
 low:∀b,tc'.get b=some ()->b<fs
 same:∀b,¬Ur fs n' w' b->h'.get b=h.get b
 like:∀h2,(∀b,Wm fs n' tc' b->h2.get b=h.get b)->∃h2',(∀K,Sym.run t (.mk h2 n fs tc w) K=K a (.mk h2' n' fs tc' w'))/\
  (∀b,Wm fs n' tc' b->h2'.get b=h'.get b)/\∀b,¬Ur fs n' w' b->h2'.get b=h2.get b
def loc(t:Tr):∀(h:T ABlk) (n fs:Nat) (tc:T Unit) (w:List Nat),0<fs->fs<=n->n<=1000000001->(∀b∈w,tc.get b=some ())->(∀b,tc.get b=some ()->b<fs)->
 (∀K,run t (.mk h n fs tc w) K=false)∨∃a h' n' tc' w',LocAt t h n fs tc w a h' n' tc' w':=by
 induction t with
 |fail=>intro h n fs tc w _ _ _ _ _;exact .inl λK=>rfl
 |ret a=>
  intro h n fs tc w h0 h1 h2 h4 h5
  exact .inr ⟨a,h,n,tc,w,λK=>rfl,aac _,h2,λ_ x=>x,λ_ x=>x,h4,h5,λ_ _=>rfl,λg hg=>⟨g,λK=>rfl,hg,λ_ _=>rfl⟩⟩
 |rd b k ih=>
  intro h n fs tc w h0 h1 h2 h4 h5
  by_cases hbn:b<n
  case neg=>exact .inl λK=>by rw[io,if_neg hbn]
  cases hb:h.get b with
  |none=>exact .inl λK=>by rw[io,if_pos hbn,hb]
  |some x=>
   have ad4:b+1<2 ^ 64:=by omega
   rcases ih x h n fs (note fs b tc) w h0 h1 h2 (λy hy=>dJ ad4 (h4 y hy)) (λy hy=>by
    by_cases e:fs<=b
    ·rw[note,if_pos e] at hy;exact h5 y hy
    ·by_cases ey:y=b
     ·omega
     ·rw[note,if_neg e,T.get_set_ne _ ey] at hy;exact h5 y hy) with hf|⟨a,h',n',tc',w',L⟩
   ·exact .inl λK=>by rw[io,if_pos hbn,hb];exact hf K
   ·refine .inr ⟨a,h',n',tc',w',λK=>?_,L.le,L.lid,λy hy=>L.tch y (dJ ad4 hy),L.wrt,L.sub,L.low,L.same,λg hg=>?_⟩
    ·rw[io,if_pos hbn,hb];exact L.run K
    ·obtain⟨g',r1,r2,r3⟩:=L.like g hg;refine⟨g',λK=>?_,r2,r3⟩;have hgb:g.get b=some x:=by
      rw[hg b ?_,hb];by_cases e:b<fs
      ·exact .inl (L.tch b (kz ad4 e))
      ·exact .inr ⟨by omega,by have:=L.le;omega⟩
     rw[io,if_pos hbn,hgb];exact r1 K
 |wr b x k ih=>
  intro h n fs tc w h0 h1 h2 h4 h5
  by_cases hbn:b<n
  case neg=>exact .inl λK=>by rw[ky,if_neg hbn]
  cases hb:h.get b with
  |none=>exact .inl λK=>by rw[ky,if_pos hbn,hb]
  |some x0=>
   have ad4:b+1<2 ^ 64:=by omega
   rcases ih (h.set b x) n fs (note fs b tc) (gR fs b w) h0 h1 h2 (λy hy=>by
    rcases oQ hy with hy|⟨e,hy⟩
    ·exact dJ ad4 (h4 y hy)
    ·subst e;exact kz ad4 hy) (λy hy=>by
    by_cases e:fs<=b
    ·rw[note,if_pos e] at hy;exact h5 y hy
    ·by_cases ey:y=b
     ·omega
     ·rw[note,if_neg e,T.get_set_ne _ ey] at hy;exact h5 y hy) with hf|⟨a,h',n',tc',w',L⟩
   ·exact .inl λK=>by rw[ky,if_pos hbn,hb];exact hf K
   ·have hwb:Ur fs n' w' b:=by
     by_cases e:b<fs
     ·exact .inl (L.wrt b (uL e))
     ·exact .inr ⟨by omega,by have:=L.le;omega⟩
    have htb:Wm fs n' tc' b:=by
     by_cases e:b<fs
     ·exact .inl (L.tch b (kz ad4 e))
     ·exact .inr ⟨by omega,by have:=L.le;omega⟩
    refine .inr ⟨a,h',n',tc',w',λK=>?_,L.le,L.lid,λy hy=>L.tch y (dJ ad4 hy),λy hy=>L.wrt y (pQ hy),L.sub,L.low,λy hy=>?_,λg hg=>?_⟩
    ·rw[ky,if_pos hbn,hb];exact L.run K
    ·rw[L.same y hy,T.get_set_ne];intro e;subst e;exact hy hwb
    ·have hgb:g.get b=some x0:=by rw[hg b htb,hb]
     obtain⟨g',r1,r2,r3⟩:=L.like (g.set b x) (λy hy=>by
      by_cases e:y=b
      ·subst e;rw[T.get_set_same _ _ _ ad4,T.get_set_same _ _ _ ad4]
      ·rw[T.get_set_ne _ e,T.get_set_ne _ e];exact hg y hy)
     refine⟨g',λK=>?_,r2,λy hy=>?_⟩
     ·rw[ky,if_pos hbn,hgb];exact r1 K
     ·rw[r3 y hy,T.get_set_ne];intro e;subst e;exact hy hwb
 |new x k ih=>
  intro h n fs tc w h0 h1 h2 h4 h5
  by_cases hn:n<=1000000000
  case neg=>exact .inl λK=>by rw[gT,if_neg hn]
  cases o7:h.get n with
  |some x0=>exact .inl λK=>by rw[gT,if_pos hn,o7]
  |none=>
  have ak7:n+1<2 ^ 64:=by omega
  rcases ih n (h.set n x) (n+1) fs tc w h0 (by omega) (by omega) h4 h5 with hf|⟨a,h',n',tc',w',L⟩
  ·exact .inl λK=>by rw[gT,if_pos hn,o7];exact hf K
  ·have hle:=L.le;have hwn:Ur fs n' w' n:=.inr ⟨h1,by omega⟩;refine .inr ⟨a,h',n',tc',w',λK=>?_,by omega,L.lid,L.tch,L.wrt,L.sub,L.low,λy hy=>?_,λg hg=>?_⟩
   ·rw[gT,if_pos hn,o7];exact L.run K
   ·rw[L.same y hy,T.get_set_ne];intro e;subst e;exact hy hwn
   ·have hgn:g.get n=none:=by rw[hg n (.inr ⟨h1,by omega⟩),o7]
    obtain⟨g',r1,r2,r3⟩:=L.like (g.set n x) (λy hy=>by
     by_cases e:y=n
     ·subst e;rw[T.get_set_same _ _ _ ak7,T.get_set_same _ _ _ ak7]
     ·rw[T.get_set_ne _ e,T.get_set_ne _ e];exact hg y hy)
    refine⟨g',λK=>?_,r2,λy hy=>?_⟩
    ·rw[gT,if_pos hn,hgn];exact r1 K
    ·rw[r3 y hy,T.get_set_ne];intro e;subst e;exact hy hwn
 |pick m k ih=>
  intro h n fs tc w h0 h1 h2 h4 h5
  by_cases hm:m<=1
  ·have e:∀g K,run (.pick m k) (.mk g n fs tc w) K=run (k 0) (.mk g n fs tc w) K:=λg K=>by show ac (Nat.ble m 1) (run (k 0) (.mk g n fs tc w) K) _=_;rw[ar,if_pos (Nat.ble_eq.mpr hm)]
   rcases ih 0 h n fs tc w h0 h1 h2 h4 h5 with hf|⟨a,h',n',tc',w',L⟩
   ·exact .inl λK=>by rw[e];exact hf K
   ·refine .inr ⟨a,h',n',tc',w',λK=>by rw[e];exact L.run K,L.le,L.lid,L.tch,L.wrt,L.sub,L.low,L.same,λg hg=>?_⟩;obtain⟨g',r1,r2,r3⟩:=L.like g hg;exact⟨g',λK=>by rw[e];exact r1 K,r2,r3⟩
  ·refine .inl λK=>?_;show ac (Nat.ble m 1) (run (k 0) (.mk h n fs tc w) K) (ac (Nat.beq fs 0) (iI _ m) false)=_;have e1:Nat.ble m 1=false:=by
    cases hb:Nat.ble m 1 with
    |false=>rfl
    |true=>exact absurd (Nat.ble_eq.mp hb) hm
   have e2:Nat.beq fs 0=false:=by
    cases hb:Nat.beq fs 0 with
    |false=>rfl
    |true=>have:=aae hb;omega
   rw[e1,e2];rfl
 |sub t k iht ihk=>
  intro h n fs tc w h0 h1 h2 h4 h5
  have hfs:fs≠0:=by omega
  rcases iht h n n .leaf [] (by omega) (aac _) h2 (by simp) (λb hb=>by simp [T.get] at hb) with hf|⟨a1,h1',n1,t1,w1,L1⟩
  ·exact .inl λK=>by rw[gU];exact hf _
  ·have hk1:∀b∈T.keys t1 id [],b+1<2 ^ 64/\b<n:=λb hb=>by
    rcases uM t1 id [] b hb with hb|⟨x,u,e,hx⟩
    ·cases hb
    ·have:=L1.low x hx;have e':b=x:=e;subst e';omega
   have af7:∀b∈T.keys t1 id [],b+1<2 ^ 64:=λb hb=>(hk1 b hb).1;rcases ihk a1 n n1 t1 w1 h1' n1 fs (fT fs (T.keys t1 id []) tc) (fo fs w1 w) h0 (by have:=L1.le;omega) L1.lid (λb hb=>by
    rcases nh _ _ _ hb with hb|⟨hb,c9⟩
    ·exact fe _ _ _ af7 (h4 b hb)
    ·exact kA _ _ _ af7 (by have:=T.mem_keys t1 id [] b () (L1.sub b hb);simpa using this) c9) (λb hb=>by
    have key:∀(l:List Nat) (t:T Unit),(∀b,t.get b=some ()->b<fs)->∀b,(fT fs l t).get b=some ()->b<fs:=by
     intro l
     induction l with
     |nil=>intro t ht b hb;exact ht b hb
     |cons x l ih=>
      intro t ht b hb;refine ih _ (λy hy=>?_) b hb;by_cases e:fs<=x
      ·rw[note,if_pos e] at hy;exact ht y hy
      ·by_cases ey:y=x
       ·omega
       ·rw[note,if_neg e,T.get_set_ne _ ey] at hy;exact ht y hy
    exact key _ _ h5 b hb) with hf|⟨a,h',n',tc',w',L⟩
   ·refine .inl λK=>?_;rw[gU,L1.run];simp only [hfs,if_false];exact hf K
   ·have F':=L1.le;have hle:=L.le;have aq3:∀b,Wm n n1 t1 b->Wm fs n' tc' b:=λb hb=>by
     rcases hb with hb|hb
     ·by_cases e:b<fs
      ·exact .inl (L.tch b (kA _ _ _ af7 (by have:=T.mem_keys t1 id [] b () hb;simpa using this) e))
      ·have:=L1.low b hb;exact .inr ⟨by omega,by omega⟩
     ·exact .inr ⟨by omega,by omega⟩
    have am9:∀b,Ur n n1 w1 b->Ur fs n' w' b:=λb hb=>by
     rcases hb with hb|hb
     ·by_cases e:b<fs
      ·exact .inl (L.wrt b (wS _ _ _ hb e))
      ·have:=L1.low b (L1.sub b hb);exact .inr ⟨by omega,by omega⟩
     ·exact .inr ⟨by omega,by omega⟩
    refine .inr ⟨a,h',n',tc',w',λK=>?_,by omega,L.lid,λb hb=>L.tch b (fe _ _ _ af7 hb),λb hb=>L.wrt b (kB _ _ _ hb),L.sub,L.low,λb hb=>?_,λg hg=>?_⟩
    ·rw[gU,L1.run];simp only [hfs,if_false];exact L.run K
    ·rw[L.same b hb,L1.same b (λhw=>hb (am9 b hw))]
    ·obtain⟨g1,r1,r2,r3⟩:=L1.like g (λb hb=>hg b (aq3 b hb));obtain⟨g',q1,q2,q3⟩:=L.like g1 (λb hb=>by
      by_cases e:Wm n n1 t1 b
      ·exact r2 b e
      ·have hnw:¬Ur n n1 w1 b:=λhw=>e (by
        rcases hw with hw|hw
        ·exact .inl (L1.sub b hw)
        ·exact .inr hw)
       rw[r3 b hnw,L1.same b hnw];exact hg b hb)
     refine⟨g',λK=>?_,q2,λb hb=>?_⟩
     ·rw[gU,r1];simp only [hfs,if_false];exact q1 K
     ·rw[q3 b hb,r3 b (λhw=>hb (am9 b hw))]
 |ask p t e iht ihe=>
  intro h n fs tc w h0 h1 h2 h4 h5
  by_cases hp:p
  ·have e1:∀g K,run (.ask p t e) (.mk g n fs tc w) K=run t (.mk g n fs tc w) K:=λg K=>fq _ _ _ _ hp;rcases iht h n fs tc w h0 h1 h2 h4 h5 with hf|⟨a,h',n',tc',w',L⟩
   ·exact .inl λK=>by rw[e1];exact hf K
   ·refine .inr ⟨a,h',n',tc',w',λK=>by rw[e1];exact L.run K,L.le,L.lid,L.tch,L.wrt,L.sub,L.low,L.same,λg hg=>?_⟩;obtain⟨g',r1,r2,r3⟩:=L.like g hg;exact⟨g',λK=>by rw[e1];exact r1 K,r2,r3⟩
  ·have e1:∀g K,run (.ask p t e) (.mk g n fs tc w) K=run e (.mk g n fs tc w) K:=λg K=>ft _ _ _ _ hp;rcases ihe h n fs tc w h0 h1 h2 h4 h5 with hf|⟨a,h',n',tc',w',L⟩
   ·exact .inl λK=>by rw[e1];exact hf K
   ·refine .inr ⟨a,h',n',tc',w',λK=>by rw[e1];exact L.run K,L.le,L.lid,L.tch,L.wrt,L.sub,L.low,L.same,λg hg=>?_⟩;obtain⟨g',r1,r2,r3⟩:=L.like g hg;exact⟨g',λK=>by rw[e1];exact r1 K,r2,r3⟩
 |req p t ih=>
  intro h n fs tc w h0 h1 h2 h4 h5
  by_cases hp:p
  ·have e1:∀g K,run (.req p t) (.mk g n fs tc w) K=run t (.mk g n fs tc w) K:=λg K=>fu _ _ _ hp;rcases ih h n fs tc w h0 h1 h2 h4 h5 with hf|⟨a,h',n',tc',w',L⟩
   ·exact .inl λK=>by rw[e1];exact hf K
   ·refine .inr ⟨a,h',n',tc',w',λK=>by rw[e1];exact L.run K,L.le,L.lid,L.tch,L.wrt,L.sub,L.low,L.same,λg hg=>?_⟩;obtain⟨g',r1,r2,r3⟩:=L.like g hg;exact⟨g',λK=>by rw[e1];exact r1 K,r2,r3⟩
  ·exact .inl λK=>pP _ _ _ hp
 |sk p z k ih=>
  intro h n fs tc w h0 h1 h2 h4 h5
  rcases ih z.1 h n fs tc w h0 h1 h2 h4 h5 with hf|⟨a,h',n',tc',w',L⟩
  ·exact .inl λK=>hf K
  ·exact .inr ⟨a,h',n',tc',w',λK=>L.run K,L.le,L.lid,L.tch,L.wrt,L.sub,L.low,L.same,L.like⟩
end Go.Sym
namespace Go.Sym
noncomputable section
def EN(v:AV)(k:Bool->Tr):Tr:=match v with | .bool b=>k b | .sB p=>.ask p (k true) (k false)|_=>.fail
def Us(v:AV)(t e:Tr):Tr:=match v with
 | .bool b=>ac b t e
 | .anyB=>.pick 2 λi=>Nat.rec (motive:=λ_=>Tr) t (λ_ _=>e) i
 | .sB p=>.ask p t e
 |_=>.fail
def rB(v:AV)(k:IntKind->Int->Tr):Tr:=match v with | .int j n=>k j n|_=>.fail
def iq(v:AV)(k:List AV->Tr):Tr:=match v with | .agg l=>k l | .opq _=>.fail|v=>k [v]
def Ii(n:Int)(k:Nat->Tr):Tr:=match n with | .ofNat a=>k a | .negSucc _=>.fail
def ni(l:List Nat):List AV:=l.map λn=>.int .u8 (Int.ofNat n)
def fH(env:T AV)(x:Operand)(k:AV->Tr):Tr:=match x with
 | .tmp t=>T.getK env t .fail k
 | .const v=>du (Wk 8 v) .fail k
 | .global g=>ac (Nat.ble (Nat.succ g) 1048576) (.rd g λx=>match x with | .cells _ _ _ _ _ _ ro _=>ac ro (k (.ptr g 0 0)) .fail | .tab _ l=>k (.cptr (ni l))|_=>.fail) .fail
 | .func f=>k (.func (.func f) [] [])
def nj(env:T AV)(l:List Operand)(k:List AV->Tr):Tr:=
 List.rec (motive:=λ_=>(List AV->Tr)->Tr) (λk=>k []) (λx _ ih k=>fH env x λa=>ih λl=>k (a::l)) l k
def Ij(env:T AV)(o:Option Operand)(k:Option AV->Tr):Tr:=match o with|none=>k none|some x=>fH env x λa=>k (some a)
def gV(k:IntKind)(n:Int)(f:Int->Tr):Tr:=match k,n with
 | .i64,.ofNat a=>ac (Nat.ble a 9223372036854775807) (fN a λa=>f (.ofNat a)) (fI (IntKind.wrap .i64 n) f)
 | .u64,.ofNat a=>fN (Nat.mod a 18446744073709551616) λa=>f (.ofNat a)
 | .u32,.ofNat a=>fN (Nat.mod a 4294967296) λa=>f (.ofNat a)
 | .u8,.ofNat a=>fN (Nat.mod a 256) λa=>f (.ofNat a)
 | .u64,.negSucc a=>fN (Nat.sub 18446744073709551615 (Nat.mod a 18446744073709551616)) λa=>f (.ofNat a)
 | .u32,.negSucc a=>fN (Nat.sub 4294967295 (Nat.mod a 4294967296)) λa=>f (.ofNat a)
 | .u8,.negSucc a=>fN (Nat.sub 255 (Nat.mod a 256)) λa=>f (.ofNat a)
 | .i64,.negSucc a=>ac (Nat.ble a 9223372036854775807) (fN a λa=>f (.negSucc a)) (fI (IntKind.wrap .i64 n) f)
 |_,_=>fI (k.wrap n) f
def am(k:IntKind):Nat:=match k with
 | .i8 | .u8=>256
 | .i16 | .u16=>65536
 | .i32 | .u32=>4294967296
 | .i64 | .u64=>18446744073709551616
def aE(m:Nat)(n:Int):Nat:=match n with
 | .ofNat a=>Nat.mod a m
 | .negSucc a=>Nat.sub (Nat.sub m 1) (Nat.mod a m)
def bh(k:IntKind):Nat:=match k with | .i8 | .u8=>8 | .i16 | .u16=>16 | .i32 | .u32=>32 | .i64 | .u64=>64
def Wn(op:BinOp)(x y:Int)(k:Bool->Tr)(z:Tr):Tr:=match x,y with
 | .ofNat a,.ofNat b=>(match op with
  | .eql=>k (Nat.beq a b) | .neq=>k (ac (Nat.beq a b) false true) | .lss=>k (Nat.ble (Nat.succ a) b) | .leq=>k (Nat.ble a b) | .gtr=>k (Nat.ble (Nat.succ b) a) | .geq=>k (Nat.ble b a)|_=>z)
 |_,_=>(match op with
  | .eql=>k (x==y) | .neq=>k (x !=y) | .lss=>k (x<y) | .leq=>k (x<=y) | .gtr=>k (x > y) | .geq=>k (x≥y)|_=>z)
def nk(b:Bool)(k:AV->Tr):Tr:=ac b (k (.bool true)) (k (.bool false))
def isZ(n:Int):Bool:=match n with | .ofNat 0=>true|_=>false
def EO(op:BinOp)(j:IntKind)(x y:Int)(k:AV->Tr):Tr:=match op with
 | .add=>gV j (Int.add x y) λn=>k (.int j n)
 | .sub=>gV j (Int.sub x y) λn=>k (.int j n)
 | .mul=>gV j (Int.mul x y) λn=>k (.int j n)
 | .quo=>ac (isZ y) .fail (gV j (x.tdiv y) λn=>k (.int j n))
 | .rem=>ac (isZ y) .fail (fI (x.tmod y) λn=>k (.int j n))
 | .and=>gV j (.ofNat (Nat.land (aE (am j) x) (aE (am j) y))) λn=>k (.int j n)
 | .or=>gV j (.ofNat (Nat.lor (aE (am j) x) (aE (am j) y))) λn=>k (.int j n)
 | .xor=>gV j (.ofNat (Nat.xor (aE (am j) x) (aE (am j) y))) λn=>k (.int j n)
 | .andNot=>gV j (.ofNat (Nat.land (aE (am j) x) (Nat.sub (Nat.sub (am j) 1) (aE (am j) y)))) λn=>k (.int j n)
 |op=>Wn op x y (λb=>nk b k) .fail
def mi(a b:Nat):Nat:=ac (Nat.ble a b) a b
def Kz(op:BinOp)(j:IntKind)(x:Int)(y:Int)(k:AV->Tr):Tr:=Ii y λn=>match op with
 | .shl=>gV j (Int.mul x (.ofNat (Nat.pow 2 (mi n (bh j))))) λn=>k (.int j n)
 | .shr=>(match x with
  | .ofNat a=>fN (Nat.div a (Nat.pow 2 (mi n (bh j)))) λn=>k (.int j (.ofNat n))
  | .negSucc _=>fI (x.fdiv (.ofNat (Nat.pow 2 (mi n (bh j))))) λn=>k (.int j n))
 |_=>.fail
def Ik:List Nat->List Nat->Bool
 | [],[]=>true
 |a::x,b::y=>ac (Nat.beq a b) (Ik x y) false
 |_,_=>false
def mV:List Nat->List Nat->Bool
 |_,[]=>false
 | [],_::_=>true
 |a::x,b::y=>ac (Nat.ble (Nat.succ a) b) true (ac (Nat.beq a b) (mV x y) false)
def CP(l:List Nat)(k:List Nat->Tr):Tr:=List.rec (motive:=λ_=>(List Nat->Tr)->Tr) (λk=>k []) (λa _ ih k=>fN a λa=>ih λl=>k (a::l)) l k
def EP(op:BinOp)(x y:List Nat)(k:AV->Tr):Tr:=match op with
 | .eql=>nk (Ik x y) k
 |_=>.fail
def ir(l:List AV)(k:List AV->Tr):Tr:=List.rec (motive:=λ_=>(List AV->Tr)->Tr) (λk=>k []) (λa _ ih k=>ih λl=>k (a::l)) l k
def cw(v:AV):Option (IntKind×Int):=match v with | .int k n=>some (k,n) | .sI k n=>some (k,n)|_=>none
def gp(v:AV):Option (List Nat):=match v with | .str s=>some s | .sS s=>some s|_=>none
def dO(v:AV):Option Prop:=match v with | .bool b=>some (b=true) | .sB p=>some p|_=>none
def CQ(v:AV):Bool:=match v with | .sI _ _=>true | .sB _=>true | .sS _=>true|_=>false
def lS(j:IntKind)(n:Int)(f:Int->Tr):Tr:=match j with
 | .u8=>f (n%256)
 | .u16=>f (n%65536)
 | .u32=>f (n%4294967296)
 | .u64=>f (n%18446744073709551616)
 | .i64=>.ask (-9223372036854775808<=n/\n<=9223372036854775807) (f n) (f (IntKind.wrap .i64 n))
 |j=>f (j.wrap n)
def KA(op:BinOp)(j:IntKind)(x y:Int)(k:AV->Tr):Tr:=match op with
 | .add=>lS j (x+y) λn=>k (.sI j n)
 | .sub=>lS j (x-y) λn=>k (.sI j n)
 | .mul=>lS j (x * y) λn=>k (.sI j n)
 | .quo=>.req (y≠0) (.ask (0<=x/\0<y) (lS j (x/y) λn=>k (.sI j n)) (lS j (x.tdiv y) λn=>k (.sI j n)))
 | .rem=>.req (y≠0) (.ask (0<=x/\0<y) (k (.sI j (x%y))) (k (.sI j (x.tmod y))))
 | .and=>k (.sI j (j.wrap (.ofNat (Nat.land (aE (am j) x) (aE (am j) y)))))
 | .or=>k (.sI j (j.wrap (.ofNat (Nat.lor (aE (am j) x) (aE (am j) y)))))
 | .xor=>k (.sI j (j.wrap (.ofNat (Nat.xor (aE (am j) x) (aE (am j) y)))))
 | .andNot=>k (.sI j (j.wrap (.ofNat (Nat.land (aE (am j) x) (Nat.sub (Nat.sub (am j) 1) (aE (am j) y))))))
 | .eql=>k (.sB (x=y))
 | .neq=>k (.sB (x≠y))
 | .lss=>k (.sB (x<y))
 | .leq=>k (.sB (x<=y))
 | .gtr=>k (.sB (y<x))
 | .geq=>k (.sB (y<=x))
 |_=>.fail
def zJ(op:BinOp)(j:IntKind)(x y:Int)(k:AV->Tr):Tr:=Ii y λn=>fN (Nat.pow 2 (mi n (bh j))) λm=>match op with
 | .shl=>lS j (x * (m:Int)) λn=>k (.sI j n)
 | .shr=>k (.sI j (x/(m:Int)))
 |_=>.fail
def uN(op:BinOp)(j:IntKind)(x y:Int)(k:AV->Tr):Tr:=.req (0<=y) (match op with
 | .shl=>lS j (x * ((2 ^ min y.toNat (bh j):Nat):Int)) λn=>k (.sI j n)
 | .shr=>k (.sI j (x/((2 ^ min y.toNat (bh j):Nat):Int)))
 |_=>.fail)
def Zw(v:AV):Bool:=match v with | .sI _ _=>true|_=>false
def KB(op:BinOp)(x y:List Nat)(k:AV->Tr):Tr:=match op with
 | .add=>.req ((x++y).length<=1000000000) (k (.sS (x++y)))
 | .eql=>k (.sB (x=y))
 | .neq=>k (.sB (x≠y))
 | .lss=>k (.sB (mV x y=true))
 | .leq=>k (.sB (mV y x=false))
 | .gtr=>k (.sB (mV y x=true))
 | .geq=>k (.sB (mV x y=false))
 |_=>.fail
def QY(op:BinOp):Bool:=match op with | .shl=>true | .shr=>true|_=>false
def wT(op:BinOp)(x y:AV)(k:AV->Tr):Tr:=match cw x,cw y with
 |some (j,a),some (j',b)=>ac (QY op) (ac (Zw y) (uN op j a b k) (zJ op j a b k)) (ac (decide (j=j')) (KA op j a b k) .fail)
 |_,_=>(match gp x,gp y with
  |some a,some b=>KB op a b k
  |_,_=>.fail)
def CR(op:UnOp)(x:AV)(k:AV->Tr):Tr:=match op,x with
 | .neg,.sI j n=>lS j (0-n) λn=>k (.sI j n)
 | .xor,.sI j n=>k (.sI j (j.wrap (.ofNat (Nat.xor (aE (am j) (if j.signed then -1 else j.max)) (aE (am j) n)))))
 | .not,.sB p=>k (.sB (¬p))
 |_,_=>.fail
def pI(p:Prop):Int:=@ite Int p (Classical.propDecidable p) 1 0
def mj(s:List Nat):List Nat:=s.map (· % 256)
def EQ:Nat->List AV->Option (List G×List AV)
 |0,cs=>some ([],cs)
 |n+1,a::r=>match cw a with
  |some (.u8,v)=>(match EQ n r with|some (l,q)=>some (.int v::l,q)|none=>none)
  |_=>none
 |_+1,[]=>none
def KC(x:Sc)(cs:List AV)(z:Option (List G×List AV))(k:G->List AV->Option (List G×List AV)):Option (List G×List AV):=match cs with
 | []=>z
 |a::r=>(match x with
  | .i j=>(match cw a with|some (j',n)=>ac (decide (j=j')) (k (.int n) r) z|none=>z)
  | .b=>(match dO a with|some p=>k (.int (pI p)) r|none=>z)
  | .s=>(match gp a with|some l=>k (.str l) r|none=>z)
  | .o=>ac (gm a) (k (.int 0) r) z
  | .sl m=>(match a with | .nils=>k (.node []) r | .cv (.rows m' l)=>ac (Nat.beq m m') (k (.node l) r) z|_=>z)
  | .bs=>(match a with | .nils=>k (.str []) r | .cv (.bytes l)=>k (.str l) r|_=>z)
  | .h n=>(match EQ n (a::r) with|some (l,q)=>k (.node l) q|none=>z))
def fU:List Sc->List AV->Option (List G×List AV)
 | [],cs=>some ([],cs)
 |x::xs,cs=>KC x cs none λg r=>match fU xs r with|some (gs,r)=>some (g::gs,r)|none=>none
def dU(xs:List Sc):Nat->List AV->Option (List G×List AV)
 |0,cs=>some ([],cs)
 |n+1,cs=>match fU xs cs with
  |some (g,r)=>(match dU xs n r with|some (gs,r)=>some (.node g::gs,r)|none=>none)
  |none=>none
def gq:List AV->Option (List Int)
 | []=>some []
 |a::r=>match cw a with
  |some (.u8,n)=>(match gq r with|some l=>some (n::l)|none=>none)
  |_=>none
def bp:List Int->Prop
 | []=>True
 |x::l=>0<=x/\bp l
def aI:List Int->List Nat
 | []=>[]
 |x::l=>x.toNat::aI l
def Ct.app(c:Ct)(new:List AV)(n:Nat):Option (Ct×Prop):=match c with
 | .rows m l=>(match dU (cU m) n new with|some (gs,[])=>some (.rows m (l++gs),True)|_=>none)
 | .bytes s=>(match gq new with|some ns=>ac (Nat.beq ns.length n) (some (.bytes (s++aI ns),bp ns)) none|none=>none)
def Ct.upd(c:Ct)(i o:Nat)(new:List AV):Option (Ct×Prop):=match c with
 | .rows m l=>(match fU (cU m) ((c.row i).take o++new++(c.row i).drop (o+new.length)) with|some (gs,[])=>some (.rows m (l.set i (.node gs)),True)|_=>none)
 | .bytes s=>(match new with
  | [a]=>(match o,cw a with|0,some (.u8,n)=>some (.bytes (s.set i n.toNat),0<=n)|_,_=>none)
  |_=>none)
variable(P:Program)
def cx(t:TypeId)(k:TypeDesc->Tr):Tr:=du (P.underlying t) .fail k
def Ut(t:TypeId)(k:TypeInfo->Tr):Tr:=du (P.info? t) .fail k
def cA(t:TypeId)(k:Nat->Tr):Tr:=du (P.info? t) .fail λi=>fN i.size k
def cB(d:TypeDesc):Bool:=match d with | .struct _ | .array _ _=>true|_=>false
def rC(t:TypeId)(k:AV->Tr):Tr:=du (P.info? t) .fail λi=>du i.zero .fail λv=>du (Wk 8 v) .fail k
def fM:Nat->TypeDesc->AV->AV->Option Bool
 |0,_,_,_=>none
 |f+1,d,x,y=>match d,x,y with
  | .bool,.bool a,.bool b=>some (a==b)
  | .int _,.int j a,.int j' b=>if j=j' then some (a==b) else none
  | .string,.str a,.str b=>some (Ik a b)
  | .pointer _,.nilp,.nilp=>some true
  | .pointer _,.nilp,.ptr _ _ _=>some false
  | .pointer _,.ptr _ _ _,.nilp=>some false
  | .interface _,.nili,.nili=>some true
  | .interface _,.nili,.iface _ _=>some false
  | .interface _,.iface _ _,.nili=>some false
  | .slice _,.nils,.nils=>some true
  | .slice _,.nils,.slc .. =>some false
  | .slice _,.slc ..,.nils=>some false
  | .map _ _,.nilm,.nilm=>some true
  | .map _ _,.nilm,.map _=>some false
  | .map _ _,.map _,.nilm=>some false
  | .func _ _ _,.nilf,.nilf=>some true
  | .func _ _ _,.nilf,.func _ _ _=>some false
  | .func _ _ _,.func _ _ _,.nilf=>some false
  | .array len e,.agg xs,.agg ys=>match P.info? e,P.underlying e with
   |some i,some d'=>if i.size=1 && !cB d' && xs.length==len && ys.length==len then eqArr (fM f d') xs ys else none
   |_,_=>none
  | .struct fs,.agg xs,.agg ys=>eqFs (fM f) fs.toList xs ys
  |_,_,_=>none
where
 eqArr (q:AV->AV->Option Bool):List AV->List AV->Option Bool
  | [],[]=>some true
  |a::xs,b::ys=>match q a b with
   |some true=>eqArr q xs ys
   |r=>r
  |_,_=>none
 eqFs (q:TypeDesc->AV->AV->Option Bool):List Field->List AV->List AV->Option Bool
  | [],_,_=>some true
  |fd::fs,xs,ys=>if fd.name= "_" then eqFs q fs xs ys else
   match P.info? fd.type,P.underlying fd.type with
   |some i,some d'=>
    (match(if cB d' then some (AV.agg ((xs.drop fd.offset).take i.size)) else xs[fd.offset]?),(if cB d' then some (AV.agg ((ys.drop fd.offset).take i.size)) else ys[fd.offset]?) with
    |some a,some b=>(match q d' a b with
     |some true=>eqFs q fs xs ys
     |r=>r)
    |_,_=>none)
   |_,_=>none
def qC(i:Nat):List Field->Option (List IntKind)
 | []=>some []
 |fd::fs=>if fd.name= "_" then none else if fd.offset=i then(match P.info? fd.type,P.underlying fd.type with
  |some _,some (.int j)=>(match qC (i+1) fs with|some l=>some (j::l)|none=>none)
  |_,_=>none) else none
def wU(d:TypeDesc):Option (List IntKind):=match d with
 | .array n e=>(match P.info? e,P.underlying e with
  |some i,some (.int j)=>ac (Nat.beq i.size 1) (some (List.replicate n j)) none
  |_,_=>none)
 | .struct fs=>qC P 0 fs.toList
 |_=>none
def dC:List IntKind->List AV->Option (List Int)
 | [],[]=>some []
 |j::ks,a::as=>(match cw a with
  |some (j',n)=>ac (decide (j=j')) (match dC ks as with|some l=>some (n::l)|none=>none) none
  |none=>none)
 |_,_=>none
def eqS(d:TypeDesc)(xs ys:List AV):Option Prop:=match wU P d with
 |some ks=>(match dC ks xs,dC ks ys with|some l,some m=>some (l=m)|_,_=>none)
 |none=>none
def ES(d:TypeDesc)(a b:List AV)(k:Bool->Tr)(ks:Prop->Tr):Tr:=match fM P 16 d (.agg a) (.agg b) with
 |some r=>k r
 |none=>du (eqS P d a b) .fail ks
def gt:Nat->TypeId->Bool
 |0,_=>false
 |f+1,t=>match P.underlying t with
  |some (.interface _)=>false
  |some (.struct fs)=>!P.stoodInHeld t && fs.toList.all λfd=>gt f fd.type
  |some (.array _ e)=>gt f e
  |some _=>true
  |none=>false
def wV(lit:Bool)(x y:AV):Bool:=match x,y with
 | .nili,.nili=>lit
 | .opq _,_=>false
 |_,.opq _=>false
 | .anyB,_=>false
 |_,.anyB=>false
 | .anyI _,_=>false
 |_,.anyI _=>false
 | .osl _,_=>false
 |_,.osl _=>false
 | .opc _,_=>false
 |_,.opc _=>false
 | .sI _ _,_=>false
 |_,.sI _ _=>false
 | .sB _,_=>false
 |_,.sB _=>false
 | .sS _,_=>false
 |_,.sS _=>false
 | .any1,_=>false
 |_,.any1=>false
 | .cptr _,_=>false
 |_,.cptr _=>false
 | .cv _,_=>false
 |_,.cv _=>false
 | .gsl ..,_=>false
 |_,.gsl .. =>false
 | .gptr ..,_=>false
 |_,.gptr .. =>false
 |_,_=>true
def ET(op:BinOp):Bool:=match op with | .lss | .leq | .gtr | .geq=>true|_=>false
def pR(x:Operand):Bool:=match x with | .const _=>true|_=>false
def qD(lit:Bool)(op:BinOp)(t:TypeId)(x y:AV)(k:AV->Tr):Tr:=match op,x,y with
 | .shl,.int j a,.int _ b | .shr,.int j a,.int _ b=>Kz op j a b k
 |_,.int j a,.int j' b=>ac (decide (j=j')) (EO op j a b k) .fail
 |_,.str a,.str b=>EP op a b k
 | .eql,.agg a,.agg b=>ac (ac (P.eqGuardType P.depth t) false (gt P 16 t)) (cx P t λd=>ES P d a b (λr=>nk r k) λp=>k (.sB p)) .fail
 | .neq,.agg a,.agg b=>ac (ac (P.eqGuardType P.depth t) false (gt P 16 t)) (cx P t λd=>ES P d a b (λr=>nk (ac r false true) k) λp=>k (.sB (¬p))) .fail
 | .eql,x,y=>ac (wV lit x y) (cx P t λd=>du (fM P 16 d x y) .fail λr=>nk r k) .fail
 | .neq,x,y=>ac (wV lit x y) (cx P t λd=>du (fM P 16 d x y) .fail λr=>nk (ac r false true) k) .fail
 | .and,.anyI .i64,.int .i64 n=>ac (decide (n=3)) (.pick 4 λi=>k (.int .i64 (.ofNat i))) .fail
 |op,.anyI j,.int j' _=>ac (decide (j=j')) (ac (ET op) (k .anyB) .fail) .fail
 |_,_,_=>.fail
def EU(x:AV)(k:AV->Tr):Tr:=match x with | .sB p=>.ask p (k (.bool true)) (k (.bool false))|x=>k x
def Zx(x y:AV):Bool:=match dO x,dO y with|some _,some _=>true|_,_=>false
def QZ(x y:AV):Bool:=match x,y with | .cv _,.nils=>true | .gsl ..,.nils=>true|_,_=>false
def rD(x:AV):Nat:=match x with | .cv c=>c.len | .gsl _ _ n _=>n|_=>0
def KD(op:BinOp)(t:TypeId)(x:AV)(k:AV->Tr):Tr:=cx P t λd=>match d,op with | .slice _,.eql=>.ask (rD x=0) (k .anyB) (k (.bool false)) | .slice _,.neq=>.ask (rD x=0) (k .anyB) (k (.bool true))|_,_=>.fail
def KE(lit:Bool)(op:BinOp)(t:TypeId)(x y:AV)(k:AV->Tr):Tr:=ac (QZ x y) (KD P op t x k) (ac (ac (CQ x) true (CQ y)) (ac (Zx x y) (EU x λx=>EU y λy=>qD P lit op t x y k) (wT op x y k)) (qD P lit op t x y k))
def CS(op:UnOp)(x:AV)(k:AV->Tr):Tr:=match op,x with
 | .neg,.int j n=>gV j (Int.sub 0 n) λn=>k (.int j n)
 | .xor,.int j n=>gV j (.ofNat (Nat.xor (aE (am j) (if j.signed then -1 else j.max)) (aE (am j) n))) λn=>k (.int j n)
 | .not,.bool b=>nk (ac b false true) k
 |_,_=>.fail
def Uu(op:UnOp)(x:AV)(k:AV->Tr):Tr:=ac (CQ x) (CR op x k) (CS op x k)
def Q0(l:List AV)(i:Nat)(t:T Cell)(k:T Cell->Tr):Tr:=
 List.rec (motive:=λ_=>Nat->T Cell->(T Cell->Tr)->Tr) (λ_ t k=>k t) (λa _ ih i t k=>T.setK t i (.mk 0 a) λt=>fN (Nat.succ i) λi=>ih i t k) l i t k
def EV(fl ty:Nat)(l:List AV)(k:Nat->Tr):Tr:=Q0 l 0 .leaf λt=>fN (List.length l) λn=>.new (.cells t 0 0 n fl 0 false ty) k
def qE(ty:Nat)(l:List AV)(k:Nat->Tr):Tr:=EV 0 ty l k
def nl(ty:Nat)(v:AV)(k:AV->Tr):Tr:=iq v λl=>qE ty l λb=>k (.ptr b 0 0)
def Q1(c:T Cell)(g:Nat)(n:Nat)(o:Nat)(k:List AV->Tr):Tr:=
 Nat.rec (motive:=λ_=>Nat->(List AV->Tr)->Tr) (λ_ k=>k []) (λ_ ih o k=>T.getK c o .fail λx=>match x with
  | .mk tag v=>ac (Nat.ble tag g) (fN (Nat.succ o) λo=>ih o λl=>k (v::l)) .fail) n o k
def kC(b g o n:Nat)(k:List AV->Tr):Tr:=.rd b λx=>match x with | .cells c gen _ _ _ _ _ _=>ac (Nat.ble g gen) (Q1 c g n o k) .fail|_=>.fail
def KF(b g o:Nat)(k:AV->Tr):Tr:=.rd b λx=>match x with
 | .cells c gen _ _ _ _ _ _=>ac (Nat.ble g gen) (T.getK c o .fail λx=>(match x with | .mk tag v=>ac (Nat.ble tag g) (k v) .fail)) .fail
 |_=>.fail
def zK(t:TypeId)(x:AV)(k:AV->Tr):Tr:=match x with
 | .ptr b g o=>cx P t λd=>ac (cB d) (cA P t λn=>kC b g o n λl=>k (.agg l)) (KF b g o k)
 | .cptr l=>cx P t λd=>ac (cB d) (cA P t λn=>ir (l.take n) λr=>ac (Nat.beq r.length n) (k (.agg r)) .fail) (du l[0]? .fail k)
 | .gptr b g i o es=>.rd b λq=>(match q with
  | .grow c gen _=>ac (Nat.beq g gen) (ac (Nat.beq es c.es) (.req (i<c.len) (cx P t λd=>ac (cB d) (cA P t λm=>ir (((c.row i).drop o).take m) λr=>ac (Nat.beq r.length m) (k (.agg r)) .fail) (du (c.row i)[o]? .fail k))) .fail) .fail
  |_=>.fail)
 |_=>.fail
def Wo(g fl fh:Nat)(l:List AV)(o:Nat)(c:T Cell)(k:T Cell->Tr):Tr:=
 List.rec (motive:=λ_=>Nat->T Cell->(T Cell->Tr)->Tr) (λ_ c k=>k c) (λv _ ih o c k=>
  ac (gm v) (ac (ac (Nat.ble fl o) (Nat.ble (Nat.succ o) fh) false) .fail (T.getK c o .fail λx=>match x with | .mk tag _=>ac (Nat.ble tag g) (T.setK c o (.mk g v) λc=>fN (Nat.succ o) λo=>ih o c k) .fail)) .fail) l o c k
def oR(b g o:Nat)(l:List AV)(k:Tr):Tr:=.rd b λx=>match x with
 | .cells c gen lo hi fl fh ro ty=>ac ro .fail (ac (Nat.beq g gen) (Wo g fl fh l o c λc=>.wr b (.cells c gen lo hi fl fh false ty) k) .fail)
 |_=>.fail
def KH(t:TypeId)(x v:AV)(k:Tr):Tr:=match x with
 | .ptr b g o=>cA P t λn=>iq v λl=>ac (Nat.beq (List.length l) n) (oR b g o l k) .fail
 | .gptr b g i o es=>cA P t λn=>iq v λl=>ac (Nat.beq (List.length l) n) (ac (Nat.ble 1 n) (.rd b λq=>(match q with
  | .grow c gen ty=>ac (Nat.beq g gen) (ac (Nat.beq es c.es) (ac (Nat.ble (o+n) es) (ac (l.all gm) (match c.upd i o l with
   |some (c',p)=>.req (i<c.len/\p) (.wr b (.grow c' gen ty) k)
   |none=>.fail) .fail) .fail) .fail) .fail
  |_=>.fail)) .fail) .fail
 |_=>.fail
def dV(cells:List AV)(off:Nat)(cs:List AV):List AV:=cells.take off++cs++cells.drop (off+cs.length)
def zL(place:Nat->Option (Nat×Nat))(cells:List AV)(parts:List (Nat×AV))(k:List AV->Tr):Tr:=
 List.rec (motive:=λ_=>List AV->(List AV->Tr)->Tr) (λcells k=>k cells) (λp _ ih cells k=>
  du (place p.1) .fail λq=>iq p.2 λcs=>ac (Nat.beq cs.length q.2) (ac (Nat.ble (q.1+q.2) cells.length) (ir (dV cells q.1 cs) λcells=>ih cells k) .fail) .fail) parts cells k
def iJ(env:T AV)(l:List (Nat×Operand))(k:List (Nat×AV)->Tr):Tr:=
 List.rec (motive:=λ_=>(List (Nat×AV)->Tr)->Tr) (λk=>k []) (λx _ ih k=>fH env x.2 λa=>ih λl=>k ((x.1,a)::l)) l k
def wW(fs:Array Field)(i:Nat):Option (Nat×Nat):=match fs[i]? with
 |some f=>(match P.info? f.type with|some i=>some (f.offset,i.size)|none=>none)
 |none=>none
def qF(fs:Array Field):Bool:=fs.toList.all λf=>(P.info? f.type).isSome
def KI(t:TypeId)(parts:List (Nat×AV))(k:AV->Tr):Tr:=rC P t λz=>cx P t λd=>match d with
 | .struct fs=>ac (qF P fs) (iq z λz=>zL (wW P fs) z parts λl=>k (.agg l)) .fail
 | .array _ e=>cA P e λn=>iq z λz=>zL (λi=>some (i * n,n)) z parts λl=>k (.agg l)
 |_=>.fail
def dW(z:List AV):Nat->List AV
 |0=>[]
 |n+1=>z++dW z n
def pS(t:TypeId)(len:Nat)(parts:List (Nat×AV))(k:AV->Tr):Tr:=cx P t λd=>match d with
 | .slice e=>cA P e λn=>ac (Nat.ble (len * n) 1000000) (ac (Nat.ble 1 n) (rC P e λz=>iq z λz=>ac (Nat.beq z.length n)
  (zL (λi=>some (i * n,n)) (dW z len) parts λl=>qE e l λb=>k (.slc b 0 0 len (some len) n)) .fail) .fail) .fail
 |_=>.fail
def eQ(l:List Nat):List AV:=l.map λb=>.int .u8 (.ofNat b)
def zM(src dst:TypeId)(x:AV)(k:AV->Tr):Tr:=cx P src λs=>cx P dst λd=>match s,d,x with
 |_,.int j,.sI _ n=>lS j n λn=>k (.sI j n)
 |_,.string,.sS s=>k (.sS s)
 | .slice e,.string,.cv (.bytes s)=>cx P e λde=>(match de with | .int .u8=>k (.sS (mj s))|_=>.fail)
 | .slice e,.string,.gsl b g n es=>cx P e λde=>(match de with
  | .int .u8=>.rd b λq=>(match q with
   | .grow (.bytes s) gen _=>ac (Nat.beq g gen) (ac (Nat.beq es 1) (.req (s.length=n) (k (.sS (mj s)))) .fail) .fail
   |_=>.fail)
  |_=>.fail)
 |_,_,_=>.fail
def KJ:List AV->Option (List Nat)
 | []=>some []
 | .int .u8 (.ofNat n)::r=>if n<256 then(match KJ r with|some l=>some (n::l)|none=>none) else none
 |_=>none
def inB:List Int->Prop
 | []=>True
 |x::l=>(0<=x/\x<256)/\inB l
def nq(l:List AV)(k:AV->Tr):Tr:=match KJ l with
 |some l=>k (.str l)
 |none=>du (gq l) .fail λns=>.req (inB ns) (k (.sS (aI ns)))
def KK(src dst:TypeId)(x:AV)(k:AV->Tr):Tr:=cx P src λs=>cx P dst λd=>match s,d,x with
 |_,.int j,.int _ n=>gV j n λn=>k (.int j n)
 |_,.string,.str s=>k (.str s)
 | .slice e,.string,x=>cx P e λde=>(match de,x with
  | .int .u8,.nils=>k (.str [])
  | .int .u8,.slc b g o len _ es=>ac (Nat.beq len 0) (k (.str [])) (kC b g o len λl=>nq l k)
  |_,_=>.fail)
 |_,_,_=>.fail
def isBy(v:AV):Bool:=match v with | .sI _ _=>true | .sB _=>true | .sS _=>true | .cv _=>true | .gsl .. =>true|_=>false
def Uv(src dst:TypeId)(x:AV)(k:AV->Tr):Tr:=ac (isBy x) (zM P src dst x k) (KK P src dst x k)
def Uw(t:TypeId)(cs:List AV)(off:Nat)(k:AV->Tr):Tr:=cx P t λd=>
 ac (cB d) (cA P t λn=>ir ((cs.drop off).take n) λl=>k (.agg l)) (du cs[off]? .fail k)
def rE(t:TypeId)(x:AV)(i:Nat)(k:AV->Tr):Tr:=cx P t λd=>match d,x with
 | .struct fs,.ptr b g o=>du fs[i]? .fail λf=>cA P f.type λn=>ac (Nat.beq n 0) .fail (fN (o+f.offset) λo=>k (.ptr b g o))
 | .struct fs,.gptr b g m o es=>du fs[i]? .fail λf=>cA P f.type λn=>ac (Nat.beq n 0) .fail (k (.gptr b g m (o+f.offset) es))
 | .struct fs,.cptr l=>du fs[i]? .fail λf=>cA P f.type λn=>ac (Nat.beq n 0) .fail (ac (Nat.ble f.offset l.length) (ir (l.drop f.offset) λl=>k (.cptr l)) .fail)
 |_,_=>.fail
def EW(t:TypeId)(c:Ct)(ix:AV)(k:AV->Tr):Tr:=cx P t λd=>match d,cw ix with
 | .slice e,some (_,i)=>cA P e λs=>ac (Nat.beq s c.es) (.req (0<=i/\i<(c.len:Int)) (ir (c.row i.toNat) λl=>k (.cptr l))) .fail
 |_,_=>.fail
def kD(t:TypeId)(x ix:AV)(k:AV->Tr):Tr:=rB ix λ_ i=>Ii i λi=>cx P t λd=>match d,x with
 | .array len e,.ptr b g o=>ac (Nat.ble (Nat.succ i) len) (cA P e λn=>fN (o+i * n) λo=>k (.ptr b g o)) .fail
 | .slice e,.slc b g o len _ _=>ac (Nat.ble (Nat.succ i) len) (cA P e λn=>fN (o+i * n) λo=>k (.ptr b g o)) .fail
 |_,_=>.fail
def EX(t:TypeId)(b g n es:Nat)(ix:AV)(k:AV->Tr):Tr:=cx P t λd=>match d,cw ix with
 | .slice e,some (_,i)=>cA P e λs=>ac (Nat.beq s es) (.req (0<=i/\i<(n:Int)) (k (.gptr b g i.toNat 0 es))) .fail
 |_,_=>.fail
def kE(b:Nat)(l:List (Nat×Nat×Nat)):Bool:=List.rec (motive:=λ_=>Bool) true (λx _ ih=>ac (Nat.beq x.2.1 b) false ih) l
def bx{α β:Type}(o:Option α)(k:α->Option β):Option β:=Option.rec (motive:=λ_=>Option β) none k o
def QN(c:T Cell)(g:Nat)(n o:Nat):Option (List AV):=
 Nat.rec (motive:=λ_=>Nat->Option (List AV)) (λ_=>some []) (λ_ ih o=>T.getK c o none λx=>match x with
  | .mk tag v=>ac (Nat.ble tag g) (fN (Nat.succ o) λo=>bx (ih o) λl=>some (v::l)) none) n o
def lT(cap:Option Nat)(len:Nat):Nat:=match cap with|some k=>k|none=>len
def Q2(loc:List (Nat×Nat×Nat))(b g o len:Nat)(cap:Option Nat)(es:Nat)(rows:Nat->List AV->(Ct->Nat->Tr)->Tr)(k:Ct->Nat->Tr):Tr:=.rd b λq=>match q with
 | .cells c gen lo hi fl fh ro ty=>ac ro .fail (ac (Nat.beq gen g) (ac (Nat.beq lo 0) (ac (Nat.beq fl 0) (ac (Nat.beq fh 0) (ac (Nat.beq g g) (ac (Nat.beq o 0) (ac (Nat.ble 1 len) (ac (ac (kE b loc) (ac (Nat.ble 1 es) (Nat.ble len (lT cap len)) false) false)
  (du (QN c g (lT cap len * es) 0) .fail λas=>rows ty (as.take (len * es)) λct ty'=>ac (Nat.beq ty ty') (ac (Nat.beq ct.es es) (.req (ct.len=len) (k ct ty)) .fail) .fail)
  .fail) .fail) .fail) .fail) .fail) .fail) .fail) .fail)
 |_=>.fail
def oS(loc:List (Nat×Nat×Nat))(b g o len:Nat)(cap:Option Nat)(es:Nat)(rows:Nat->List AV->(Ct->Nat->Tr)->Tr)(k:AV->Tr):Tr:=Q2 loc b g o len cap es rows λct ty=>.wr b (.grow ct g ty) (k (.gsl b g len es))
def rF(m len:Nat)(ty:Nat)(as:List AV)(k:Ct->Nat->Tr):Tr:=du (dU (cU m) len as) .fail λq=>match q with|(gs,[])=>k (.rows m gs) ty|_=>.fail
def rG(ty:Nat)(as:List AV)(k:Ct->Nat->Tr):Tr:=du (gq as) .fail λns=>.req (bp ns) (k (.bytes (aI ns)) ty)
def qG(e:TypeId)(len:Nat):Option (Nat->List AV->(Ct->Nat->Tr)->Tr):=match P.underlying e with
 |some (.int .u8)=>some rG
 |some (.int .u32)=>some (rF 9 len)
 |some (.int .i64)=>some (rF 8 len)
 |some (.int .u64)=>some (rF 10 len)
 |_=>none
def KL(t:TypeId)(b g o:Nat)(ix:AV)(k:AV->Tr):Tr:=cx P t λd=>match d,cw ix with
 | .array len e,some (_,i)=>cA P e λs=>ac (Nat.beq o 0) (ac (Nat.beq s 1) (.req (0<=i/\i<(len:Int)) (.rd b λq=>(match q with
  | .grow c gen _=>ac (Nat.beq g gen) (ac (Nat.beq c.es 1) (.req (0<c.len) (k (.gptr b g i.toNat 0 1))) .fail) .fail
  |_=>ac (Nat.beq g 0) (du (qG P e len) .fail λrows=>oS [] b g 0 len (some len) 1 rows λ_=>k (.gptr b 0 i.toNat 0 1)) .fail))) .fail) .fail
 |_,_=>.fail
def KM(t:TypeId)(l:List AV)(ix:AV)(k:AV->Tr):Tr:=cx P t λd=>match d,cw ix with
 | .array len e,some (_,i)=>cA P e λs=>ac (Nat.beq s 1) (du (KJ l) .fail λbs=>ac (Nat.ble len bs.length) (.req (0<=i/\i<(len:Int)) (k (.cptr [.sI .u8 ((bs.getD i.toNat 0:Nat):Int)]))) .fail) .fail
 |_,_=>.fail
def mm(t:TypeId)(x ix:AV)(k:AV->Tr):Tr:=match x with
 | .cptr l=>KM P t l ix k
 | .cv c=>EW P t c ix k
 | .gsl b g n es=>EX P t b g n es ix k
 | .ptr b g o=>ac (Zw ix) (KL P t b g o ix k) (kD P t (.ptr b g o) ix k)
 |x=>kD P t x ix k
def KN(t:TypeId)(s:List Nat)(i:Int)(k:AV->Tr):Tr:=cx P t λd=>match d with
 | .string=>.req (0<=i/\i<(s.length:Int)) (k (.sI .u8 ((kx s i.toNat:Nat):Int)))
 |_=>.fail
def EY(t:TypeId)(x ix:AV)(k:AV->Tr):Tr:=rB ix λ_ i=>Ii i λi=>cx P t λd=>match d,x with
 | .array len e,.agg cs=>ac (Nat.ble (Nat.succ i) len) (cA P e λn=>Uw P e cs (i * n) k) .fail
 | .string,.str s=>du s[i]? .fail λb=>fN b λb=>k (.int .u8 (.ofNat b))
 |_,_=>.fail
def KO(t:TypeId)(x ix:AV)(k:AV->Tr):Tr:=ac (ac (CQ x) true (CQ ix)) (match gp x,cw ix with|some s,some (_,i)=>KN P t s i k|_,_=>.fail) (EY P t x ix k)
def kF(o:Option AV)(dflt top:Nat)(k:Nat->Tr):Tr:=match o with
 |none=>k dflt
 |some v=>rB v λ_ i=>Ii i λi=>ac (Nat.ble i top) (k i) .fail
def KP(len:Nat)(lo hi mx:Option AV)(k:Nat->Nat->Nat->Tr)(m:Nat):Tr:=match hi,mx with
 |none,some _=>.fail
 |_,_=>kF hi len m λh=>kF lo 0 h λl=>k l h m
def lu(len cap:Nat)(lo hi mx:Option AV)(k:Nat->Nat->Nat->Tr):Tr:=kF mx cap cap (KP len lo hi mx k)
def zN(b g o s l h m:Nat)(k:AV->Tr):Tr:=fN (h-l) λlen=>fN (m-l) λcap=>
 ac (Nat.beq m l) (k (.slc b g o len (some cap) s)) (fN (o+l * s) λo=>k (.slc b g o len (some cap) s))
def KQ(b g o s l h:Nat)(k:AV->Tr):Tr:=fN (h-l) λlen=>ac (Nat.beq l 0) (k (.slc b g o len none s)) (fN (o+l * s) λo=>k (.slc b g o len none s))
def EZ(b g o len s:Nat)(lo hi mx:Option AV)(k:AV->Tr):Tr:=match mx with
 |none=>kF hi len len λh=>kF lo 0 h λl=>KQ b g o s l h k
 |some _=>ac (Nat.beq len 0) .fail (lu len len lo hi mx λl h m=>zN b g o s l h m k)
def KR(s:List Nat)(lo hi mx:Option AV)(k:AV->Tr):Tr:=match mx with
 |some _=>.fail
 |none=>fN s.length λn=>lu n n lo hi none λl h _=>CP ((s.take h).drop l) λr=>k (.str r)
def cV(o:Option AV)(dflt:Int)(k:Int->Tr):Tr:=match o with
 |none=>k dflt
 |some v=>(match cw v with|some (_,i)=>k i|none=>.fail)
def Ux(o:Option AV):Bool:=match o with|some v=>CQ v|none=>false
def uO(t:TypeId)(x:AV)(lo hi mx:Option AV)(k:AV->Tr):Tr:=cx P t λd=>match mx,d,x with
 |none,.slice e,.cv c=>cA P e λs=>ac (Nat.beq s c.es) (cV hi (c.len:Int) λh=>cV lo 0 λl=>.req (0<=l/\l<=h/\h<=(c.len:Int)) (k (.cv (c.cut l.toNat h.toNat)))) .fail
 |none,.string,x=>(match gp x with
  |some s=>cV hi (s.length:Int) λh=>cV lo 0 λl=>.req (0<=l/\l<=h/\h<=(s.length:Int)) (k (.sS ((s.take h.toNat).drop l.toNat)))
  |none=>.fail)
 |_,_,_=>.fail
def Wp(v:AV):Bool:=match v with | .cv _=>true|_=>false
def E0(t:TypeId)(x:AV)(lo hi mx:Option AV)(k:AV->Tr):Tr:=cx P t λd=>match d,x with
 | .array n e,.ptr b g o=>lu n n lo hi mx λl h m=>cA P e λs=>zN b g o s l h m k
 | .string,.str s=>KR s lo hi mx k
 | .slice e,.nils=>cA P e λ_=>lu 0 0 lo hi mx λ_ _ _=>k .nils
 | .slice e,.slc b g o len (some c) s=>cA P e λs'=>ac (Nat.beq s s') (lu len c lo hi mx λl h m=>zN b g o s l h m k) .fail
 | .slice e,.slc b g o len none s=>cA P e λs'=>ac (Nat.beq s s') (EZ b g o len s lo hi mx k) .fail
 |_,_=>.fail
def wX(t:TypeId)(x:AV)(lo hi mx:Option AV)(k:AV->Tr):Tr:=ac (ac (CQ x) true (ac (Wp x) true (ac (Ux lo) true (Ux hi)))) (uO P t x lo hi mx k) (E0 P t x lo hi mx k)
def isNone(o:Option AV):Bool:=match o with|none=>true|_=>false
def wY(n:Nat)(c:Ct)(lo hi:Option AV)(k:AV->Tr):Tr:=cV hi (n:Int) λh=>cV lo 0 λl=>.req (0<=l/\l<=h/\h<=(n:Int)) (k (.cv (c.cut l.toNat h.toNat)))
def KS(t:TypeId)(b g o:Nat)(q:ABlk)(lo hi mx:Option AV)(k:AV->Tr):Tr:=cx P t λd=>match mx,d with
 |none,.array n e=>cA P e λs=>ac (Nat.beq o 0) (match q with
  | .grow c gen _=>ac (Nat.beq g gen) (ac (Nat.beq c.es s) (ac (Nat.ble 1 n) (.req (c.len=n) (ac (ac (isNone lo) (isNone hi) false) (k (.gsl b g n s))
   (ac (Nat.ble (base+64) b) (.wr b (.froz c gen) (wY n c lo hi k)) .fail))) .fail) .fail) .fail
  | .froz c gen=>ac (Nat.beq g gen) (ac (Nat.beq c.es s) (ac (Nat.ble 1 n) (.req (c.len=n) (wY n c lo hi k)) .fail) .fail) .fail
  |_=>.fail) .fail
 |_,_=>.fail
def isGF(q:ABlk):Bool:=match q with | .grow _ _ _=>true | .froz _ _=>true|_=>false
def Uy(t:TypeId)(b g n es:Nat)(lo hi mx:Option AV)(k:AV->Tr):Tr:=cx P t λd=>match mx,d with
 |none,.slice e=>cA P e λs=>ac (Nat.beq s es) (cV hi (n:Int) λh=>cV lo 0 λl=>.ask (n=0) (.req (l=0/\h=0) (k (.gsl b g 0 es))) (.req (0<=l/\l<=h/\h<=(n:Int)) (k (.slc b g (l.toNat * es) (h-l).toNat none es)))) .fail
 |_,_=>.fail
def CT(t:TypeId)(x:AV)(lo hi mx:Option AV)(k:AV->Tr):Tr:=match x with
 | .gsl b g n es=>Uy P t b g n es lo hi mx k
 | .ptr b g o=>.rd b λq=>ac (isGF q) (KS P t b g o q lo hi mx k) (wX P t (.ptr b g o) lo hi mx k)
 |x=>wX P t x lo hi mx k
def zO(x:AV)(i:Nat)(k:AV->Tr):Tr:=match x with | .tup l=>du l[i]? .fail k|_=>.fail
def KT(x:AV)(k:Nat->Tr):Tr:=match x with
 | .nils=>k 0
 | .slc _ _ _ len _ _=>k len
 | .str s=>fN s.length k
 |_=>.fail
def oT(size n:Nat)(x:AV)(k:List AV->Tr):Tr:=match x with
 | .nils=>k []
 | .slc b g o _ _ _=>ac (Nat.beq (n * size) 0) (k []) (fN (n * size) λm=>kC b g o m k)
 | .str s=>ac (Nat.beq size 1) (CP (s.take n) λs=>ir (eQ s) k) .fail
 |_=>.fail
def KU(g:Nat)(l:List AV)(i:Nat)(t:T Cell)(k:T Cell->Tr):Tr:=
 List.rec (motive:=λ_=>Nat->T Cell->(T Cell->Tr)->Tr) (λ_ t k=>k t) (λa _ ih i t k=>ac (gm a) (T.setK t i (.mk g a) λt=>fN (Nat.succ i) λi=>ih i t k) .fail) l i t k
def mn(e:TypeId)(size:Nat)(old new:List AV)(need:Nat)(k:AV->Tr):Tr:=
 ir (old++new) λl=>qE e l λb=>k (.slc b 0 0 need none size)
def Zy(e:Nat)(b g o len size n need:Nat)(new:List AV)(k:AV->Tr):Tr:=.rd b λq=>match q with
 | .cells c gen lo hi fl fh ro ty=>ac ro .fail (ac (Nat.beq g gen) (ac (Nat.beq o lo) (ac (Nat.beq (o+len * size) hi) (ac (Nat.ble fh hi) (ac (Nat.beq ty e)
  (fN (Nat.succ gen) λg'=>KU g' new hi c λc=>fN (hi+n * size) λhi'=>.wr b (.cells c g' lo hi' fl fh false e) (k (.slc b g' o need none size))) .fail) .fail) .fail) .fail) .fail)
 |_=>.fail
def KV(e:TypeId)(b g len size n:Nat)(new:List AV)(k:AV->Tr):Tr:=.rd b λq=>match q with
 | .grow c gen ty=>ac (Nat.beq g gen) (ac (Nat.beq c.es size) (ac (Nat.beq ty e) (ac (Nat.beq new.length (n * size)) (ac (new.all gm) (match c.app new n with
  |some (c',p)=>.req (c.len=len/\len<=1000000000/\p) (.wr b (.grow c' (gen+1) ty) (k (.gsl b (gen+1) (len+n) size)))
  |none=>.fail) .fail) .fail) .fail) .fail) .fail
 |_=>.fail
def kG(e:TypeId)(size n:Nat)(new:List AV)(s:AV)(k:AV->Tr):Tr:=match s with
 | .gsl b g len es=>ac (Nat.beq es size) (ac (Nat.beq n 0) (k (.gsl b g len es)) (KV e b g len size n new k)) .fail
 | .nils=>ac (Nat.beq n 0) (k .nils) (mn e size [] new n k)
 | .slc b g o len cap es=>ac (Nat.beq es size) (ac (Nat.ble len 1000000) (ac (Nat.beq n 0) (k (.slc b g o len cap es))
  (fN (len+n) λneed=>match cap with
   |some c=>ac (Nat.ble need c) (fN (o+len * size) λp=>oR b g p new (k (.slc b g o need (some c) es)))
    (oT size len s λold=>mn e size old new need k)
   |none=>Zy e b g o len size n need new k)) .fail) .fail
 |_=>.fail
def CU(x:AV):Option (List Nat):=match x with
 | .sS t=>some t
 | .cv (.bytes t)=>some t
 |_=>none
def Uz(e:TypeId)(b g len:Nat)(t:List Nat)(k:AV->Tr):Tr:=.rd b λq=>match q with
 | .grow (.bytes l0) gen ty=>ac (Nat.beq g gen) (ac (Nat.beq ty e) (.req (l0.length=len/\len<=1000000000/\t.length<=1000000) (.wr b (.grow (.bytes (l0++t)) (gen+1) ty) (k (.gsl b (gen+1) (len+t.length) 1)))) .fail) .fail
 |_=>.fail
def zP(e:TypeId)(t:List Nat)(k:AV->Tr)(a:AV):Tr:=match a with
 | .gsl b g len es=>ac (Nat.beq es 1) (Uz e b g len t k) .fail
 |_=>.fail
def wZ(cap:Option Nat):Bool:=match cap with|some 0=>true|_=>false
def qH(e:TypeId)(size:Nat)(t:List Nat)(s:AV)(k:AV->Tr):Tr:=ac (Nat.beq size 1) (match s with
 | .gsl b g len es=>zP e t k (.gsl b g len es)
 | .nils=>.new (.grow (.bytes []) 0 e) λb=>zP e t k (.gsl b 0 0 1)
 | .slc b g o len cap es=>ac (Nat.beq es 1) (ac (Nat.beq len 0) (ac (wZ cap) (.new (.grow (.bytes []) 0 e) λb=>zP e t k (.gsl b 0 0 1)) .fail) (oS [] b g o len cap 1 rG (zP e t k))) .fail
 |_=>.fail) .fail
def uP(e:TypeId)(size m:Nat)(l:List G)(k:AV->Tr)(a:AV):Tr:=match a with
 | .gsl b g len es=>ac (Nat.beq es size) (.rd b λq=>match q with
  | .grow (.rows m0 l0) gen ty=>ac (Nat.beq g gen) (ac (Nat.beq ty e) (ac (Nat.beq m0 m) (ac (Nat.beq (bm (cU m)) size) (.req (l0.length=len/\len<=1000000000/\l.length<=1000000) (.wr b (.grow (.rows m (l0++l)) (gen+1) ty) (k (.gsl b (gen+1) (len+l.length) es)))) .fail) .fail) .fail) .fail
  |_=>.fail) .fail
 |_=>.fail
def lw(e:TypeId)(size m:Nat)(l:List G)(s:AV)(k:AV->Tr):Tr:=match s with
 | .gsl b g len es=>uP e size m l k (.gsl b g len es)
 | .nils=>.new (.grow (.rows m []) 0 e) λb=>uP e size m l k (.gsl b 0 0 size)
 | .slc b g o len cap es=>ac (Nat.beq es size) (ac (Nat.beq len 0) (ac (wZ cap) (.new (.grow (.rows m []) 0 e) λb=>uP e size m l k (.gsl b 0 0 size)) .fail) (oS [] b g o len cap es (rF m len) (uP e size m l k))) .fail
 |_=>.fail
def E1(x:AV):Option (Nat×List G):=match x with | .cv (.rows m l)=>some (m,l)|_=>none
def E2(e:TypeId)(size:Nat)(s x:AV)(k:AV->Tr):Tr:=match x with
 | .gsl b g n es=>.rd b λq=>match q with
  | .grow (.bytes t) gen _=>ac (Nat.beq g gen) (ac (Nat.beq es 1) (.req (t.length=n) (qH e size t s k)) .fail) .fail
  | .grow (.rows m l) gen _=>ac (Nat.beq g gen) (ac (Nat.beq es (bm (cU m))) (.ask (l.length=n) (lw e size m l s k) (.req (n<=l.length) (lw e size m (l.take n) s k))) .fail) .fail
  |_=>.fail
 | .slc b g o n none es=>.rd b λq=>match q with
  | .grow (.rows m l) gen _=>ac (Nat.beq g gen) (ac (Nat.beq es (bm (cU m))) (.req (o=o/es * es/\o/es+n<=l.length) (lw e size m ((l.drop (o/es)).take n) s k)) .fail) .fail
  |_=>KT (.slc b g o n none es) λn'=>ac (Nat.ble n' 1000000) (oT size n' (.slc b g o n none es) λnew=>kG e size n' new s k) .fail
 |x=>match E1 x with
  |some (m,l)=>lw e size m l s k
  |none=>match CU x with
   |some t=>qH e size t s k
   |none=>KT x λn=>ac (Nat.ble n 1000000) (oT size n x λnew=>kG e size n new s k) .fail
def E3(e:TypeId)(s x:AV)(k:AV->Tr):Tr:=Ut P e λi=>ac (Nat.ble i.bytes 1000) (fN i.size λsize=>ac (Nat.ble 1 size)
 (rC P e λz=>iq z λz=>ac (Nat.beq z.length size) (E2 e size s x k) .fail) .fail) .fail
def w_(tys:Array TypeId)(args:List AV)(k:AV->Tr):Tr:=match tys[0]?,tys[1]?,args with
 |some ts,some tx,[s,x]=>cx P ts λd=>cx P tx λdx=>(match d,dx with
  |_,.int _=>.fail
  | .slice e,_=>E3 P e s x k
  |_,_=>.fail)
 |_,_,_=>.fail
def CV(tys:Array TypeId)(args:List AV)(k:AV->Tr):Tr:=match tys[0]?,args with
 |some t,[x]=>cx P t λd=>(match d,x with
  | .string,.str s=>fN s.length λn=>k (.int .i64 (.ofNat n))
  | .array n _,_=>k (.int .i64 (.ofNat n))
  | .slice _,.nils=>k (.int .i64 0)
  | .slice _,.slc _ _ _ len _ _=>k (.int .i64 (.ofNat len))
  | .slice _,.osl _=>k (.anyI .i64)
  | .slice _,.cv c=>k (.sI .i64 (c.len:Int))
  | .slice _,.gsl _ _ n _=>k (.sI .i64 (n:Int))
  | .string,.sS s=>k (.sI .i64 (s.length:Int))
  | .map _ _,.nilm=>k (.int .i64 0)
  | .map _ _,.map b=>.rd b λq=>(match q with | .mapo es _=>fN es.length λn=>k (.int .i64 (.ofNat n)) | .smap _ l=>k (.sI .i64 (l.length:Int))|_=>.fail)
  |_,_=>.fail)
 |_,_=>.fail
def UA(b g len:Nat)(t:List Nat)(k:AV->Tr):Tr:=.rd b λq=>match q with
 | .grow (.bytes l0) gen ty=>ac (Nat.beq g gen) (.req (l0.length=len) (.wr b (.grow (.bytes (t.take len++l0.drop t.length)) gen ty) (k (.sI .i64 ((min t.length len:Nat):Int))))) .fail
 |_=>.fail
def KW(t:List Nat)(k:AV->Tr)(a:AV):Tr:=match a with
 | .gsl b g len es=>ac (Nat.beq es 1) (UA b g len t k) .fail
 |_=>.fail
def Zz(t:List Nat)(d:AV)(k:AV->Tr):Tr:=match d with
 | .gsl b g len es=>KW t k (.gsl b g len es)
 | .slc b g o len cap es=>ac (Nat.beq es 1) (oS [] b g o len cap 1 rG (KW t k)) .fail
 |_=>.fail
def KX(tys:Array TypeId)(args:List AV)(k:AV->Tr):Tr:=(λ_=>.fail) P
def KY(tys:Array TypeId)(args:List AV)(k:AV->Tr):Tr:=match args with
 | [d,x]=>(match CU x with
  |some t=>(match tys[0]? with
   |some ty=>cx P ty λdd=>(match dd with
    | .slice e=>cA P e λsize=>ac (Nat.beq size 1) (Zz t d k) .fail
    |_=>.fail)
   |none=>.fail)
  |none=>KX P tys [d,x] k)
 |_=>.fail
end
end Go.Sym
namespace Go.Sym
noncomputable section
variable(P:Program)
def dv:Nat->AV->AV->Bool
 |0,_,_=>false
 |f+1,x,y=>match x,y with
  | .bool a,.bool b=>a==b
  | .int j a,.int j' b=>ac (decide (j=j')) (a==b) false
  | .str a,.str b=>Ik a b
  | .agg a,.agg b=>sameAll (dv f) a b
  |_,_=>false
where
 sameAll (q:AV->AV->Bool):List AV->List AV->Bool
  | [],[]=>true
  |a::x,b::y=>ac (q a b) (sameAll q x y) false
  |_,_=>false
def gW(q:AV->AV->Option Bool)(key:AV):List ME->Nat->Option (Option (Nat×AV))
 | [],_=>some none
 | .mk k v _::es,i=>match q key k with
  |some true=>some (some (i,v))
  |some false=>gW q key es (i+1)
  |none=>none
def CW:Nat->TypeId->Bool
 |0,_=>false
 |f+1,t=>match P.underlying t with
  |some .bool|some (.int _)|some .string=>true
  |some (.struct fs)=>!P.stoodInHeld t && fs.toList.all λfd=>fd.name != "_" && CW f fd.type
  |some (.array _ e)=>CW f e
  |_=>false
def CX:Nat->TypeId->AV->Bool
 |0,_,_=>false
 |f+1,t,v=>match P.underlying t with
  |some .bool|some (.int _)|some .string=>true
  |some (.struct fs)=>(match v with
   | .agg l=>fs.toList.all λfd=>match P.info? fd.type,P.underlying fd.type with
    |some i,some d=>(match(if cB d then some (AV.agg ((l.drop fd.offset).take i.size)) else l[fd.offset]?) with
     |some a=>CX f fd.type a
     |none=>false)
    |_,_=>false
   |_=>false)
  |some (.array n e)=>(match v,P.info? e,P.underlying e with
   | .agg l,some i,some d=>Nat.beq i.size 1 && !cB d && Nat.beq l.length n && l.all (CX f e)
   |_,_,_=>false)
  |_=>false
def KZ(x:AV)(k1:Nat->Nat->List G->Tr)(k0:Tr):Tr:=match x with
 | .map b=>.rd b λq=>(match q with | .smap m l=>k1 b m l|_=>k0)
 |_=>k0
def Il(m:Nat)(d:TypeDesc):Bool:=match(bJ m).ka with
 |true=>(match wU P d with|some ks=>decide (ks=(bJ m).ks)|none=>false)
 |false=>(match d with | .int j=>decide ((bJ m).ks= [j])|_=>false)
def Wq(m:Nat)(ix:AV):Option (List Int):=match(bJ m).ka,ix with
 |true,.agg xs=>dC (bJ m).ks xs
 |true,_=>none
 |false,a=>dC (bJ m).ks [a]
def K0(m:Nat)(kt:TypeId)(ix:AV)(k:List Int->Tr):Tr:=
 ac (CW P 8 kt) (ac (CX P 8 kt ix) (cx P kt λd=>ac (Il P m d) (du (Wq m ix) .fail k) .fail) .fail) .fail
def Wr(m:Nat)(v:AV):Option (List G):=match(bJ m).va,v with
 |true,.agg l=>(match fU (bJ m).vs l with|some (gs,[])=>some gs|_=>none)
 |true,_=>none
 |false,a=>(match fU (bJ m).vs [a] with|some ([g],[])=>some [g]|_=>none)
def Ws(kt e:TypeId)(m:Nat)(l:List G)(ix:AV)(ok:Bool)(k:AV->Tr):Tr:=K0 P m kt ix λns=>
 .ask (j_ m l ns) (ac ok (k (.tup [jU m (eP m l ns),.bool true])) (k (jU m (eP m l ns)))) (rC P e λz=>ac ok (k (.tup [z,.bool false])) (k z))
def zQ(t:TypeId)(x ix:AV)(ok:Bool)(k:AV->Tr):Tr:=(λ_=>.fail) P
def E4(t:TypeId)(x ix:AV)(ok:Bool)(k:AV->Tr):Tr:=KZ x (λ_ m l=>cx P t λd=>match d with
 | .map kt e=>Ws P kt e m l ix ok k
 |_=>.fail) (zQ P t x ix ok k)
def pT(t:TypeId)(x key v:AV)(k:Tr):Tr:=(λ_=>.fail) P
def rH(t:TypeId)(x key v:AV)(k:Tr):Tr:=KZ x (λb m l=>cx P t λd=>match d with
 | .map kt e=>K0 P m kt key λns=>du (Wr m v) .fail λvs=>.wr b (.smap m (db m l ns vs)) k
 |_=>.fail) (pT P t x key v k)
def K1(t:TypeId)(x:AV)(k:AV->Tr):Tr:=cx P t λd=>match d,x with
 | .map _ _,.map m=>.rd m λq=>(match q with | .mapo _ clock=>.new (.miter (some m) clock [] clock) λb=>k (.ptr b 0 0)|_=>.fail)
 |_,_=>.fail
def xa(l:List Nat)(n:Nat):Bool:=List.rec (motive:=λ_=>Bool) false (λa _ ih=>ac (Nat.beq a n) true ih) l
def zR(seen:List Nat)(since:Nat):List ME->Option (List ME)
 | []=>some []
 | .mk a v n::es=>if n<since then(match zR seen since es with|some l=>some (ac (xa seen n) l (.mk a v n::l))|none=>none) else none
def UB(it:AV)(isStr:Bool)(k:AV->Tr):Tr:=match it with
 | .ptr b 0 0=>.rd b λq=>(match q,isStr with
  | .miter none _ _ _,false=>k (.tup [.bool false])
  | .miter (some m) since seen stepped,false=>.rd m λq=>(match q with
   | .mapo es clock=>ac (Nat.ble since stepped) (du (zR seen since es) .fail λleft=>(match left with
    | []=>k (.tup [.bool false])
    |_=>.fail)) .fail
   |_=>.fail)
  |_,_=>.fail)
 |_=>.fail
def uQ(x:AV)(k:AV->Tr):Tr:=match x with
 | .ptr b g o=>k (.ptr b g o)
 | .cptr l=>k (.cptr l)
 | .func (.func f) l m=>k (.func (.func f) l m)
 | .func (.yield f) l m=>k (.func (.yield f) l m)
 |_=>.fail
def ltI(a b:Int):Bool:=match a,b with
 | .ofNat a,.ofNat b=>Nat.ble (Nat.succ a) b
 |a,b=>decide (a<b)
def gu(mx:Bool):List AV->AV->(AV->Tr)->Tr
 | [],x,k=>k x
 |y::rest,x,k=>(match x,y with
  | .int j a,.int j' b=>ac (decide (j=j')) (ac (ac mx (ltI a b) (ltI b a)) (gu mx rest (.int j b) k) (gu mx rest (.int j a) k)) .fail
  |x,y=>(match cw x,cw y with
   |some (j,a),some (j',b)=>ac (decide (j=j')) (gu mx rest (.sI j (match mx with|true=>max a b|false=>min a b)) k) .fail
   |_,_=>.fail))
def E5(mx:Bool)(l:List AV)(k:AV->Tr):Tr:=match l with
 | []=>.fail
 |x::rest=>gu mx rest x k
def rI(x:AV)(k:AV->Tr):Tr:=match x with
 | .gsl b g n es=>.rd b λq=>(match q with
  | .froz c gen=>ac (Nat.beq g gen) (ac (Nat.beq c.es es) (.req (c.len=n) (k (.cv c))) .fail) .fail
  |_=>k (.gsl b g n es))
 |x=>k x
def Q3(x:AV)(k:AV->Tr):Tr:=match x with
 | .ptr b g o=>.rd b λq=>(match q with
  | .grow c gen _=>ac (Nat.beq g gen) (ac (Nat.beq c.es 1) (.req (0<c.len) (k (.gptr b g o 0 1))) .fail) .fail
  |_=>k (.ptr b g o))
 |x=>k x
def oU(l:List AV)(k:List AV->Tr):Tr:=List.rec (motive:=λ_=>(List AV->Tr)->Tr) (λk=>k []) (λx _ ih k=>rI x λx=>ih λl=>k (x::l)) l k
def frz0(x:AV)(k:AV->Tr):Tr:=match x with
 | .gsl b g n es=>.rd b λq=>(match q with
  | .grow c gen _=>ac (ac (ac (Nat.beq g gen) (Nat.beq c.es es) false) (Nat.ble (base+64) b) false) (.req (c.len=n) (.wr b (.froz c gen) (k (.cv c)))) (k (.gsl b g n es))
  | .froz c gen=>ac (Nat.beq g gen) (ac (Nat.beq c.es es) (.req (c.len=n) (k (.cv c))) .fail) .fail
  |_=>k (.gsl b g n es))
 |x=>k x
def K2(x:AV)(k:AV->Tr):Tr:=match x with
 | .slc b g o len cap es=>ac (ac (Nat.beq es 6) (Nat.ble 1 len) false) (oS [] b g o len cap es (rF 2 len) λa=>frz0 a k) (k (.slc b g o len cap es))
 |x=>frz0 x k
def K3(l:List AV)(k:List AV->Tr):Tr:=List.rec (motive:=λ_=>(List AV->Tr)->Tr) (λk=>k []) (λx _ ih k=>K2 x λx=>ih λl=>k (x::l)) l k
def zS(x:AV)(k:AV->Tr):Tr:=match x with
 | .agg l=>K3 l λl=>k (.agg l)
 |x=>K2 x k
def K4(l:List (Nat×AV))(k:List (Nat×AV)->Tr):Tr:=List.rec (motive:=λ_=>(List (Nat×AV)->Tr)->Tr) (λk=>k []) (λx _ ih k=>zS x.2 λa=>ih λl=>k ((x.1,a)::l)) l k
def K5(a v:AV)(k:AV->Tr):Tr:=match a with
 | .gptr _ _ _ _ _=>zS v k
 |_=>k v
abbrev c_:=Nat->List AV->(AV->Tr)->Tr
def nr(b:Builtin)(tys:Array TypeId)(args:List AV)(k:AV->Tr):Tr:=match b with
 | .append=>w_ P tys args k
 | .len=>CV P tys args k
 | .copy=>KY P tys args k
 | .max=>E5 true args k
 |_=>.fail
def E6(f:Nat):Bool:=match P.funcs[f]? with
 |some fn=>(match fn.body with
  |none=>decide (fn.origin= "")
  |some _=>false)
 |none=>false
def Q4(i:Nat)(args:List AV)(k:AV->Tr):Tr:=match P.funcs[i]? with
 |some fn=>ac (decide (fn.name= "internal/abi.NoEscape")) (match args with | [x]=>k x|_=>.fail)
  .fail
 |none=>.fail
def E7(en:c_)(rn:c_)(f:AV)(args:List AV)(k:AV->Tr):Tr:=match f with
 | .func (.func i) first cap=>ac (E6 P i) (Q4 P i (first++args++cap) k) (en i (first++args++cap) k)
 | .func (.yield l) first cap=>rn l (first++args) k
 |_=>.fail
def K6(k:AV->Tr):Tr:=k (.tup [])
def Q5(en rn:c_)(env:T AV)(op:Op)(k:AV->Tr):Tr:=match op with
 | .move x=>fH env x k
 | .assign x=>fH env x k
 | .pick c a b=>fH env c λc=>EN c λc=>ac c (fH env a k) (fH env b k)
 | .alloc t=>rC P t λz=>nl t z k
 | .box t x=>fH env x λv=>nl t v k
 | .build t ps=>iJ env ps.toList λl=>KI P t l k
 | .buildSlice t n ps=>iJ env ps.toList λl=>K4 l λl=>pS P t n l k
 | .load t a=>fH env a λa=>Q3 a λa=>zK P t a k
 | .store t a v=>fH env a λa=>fH env v λv=>Q3 a λa=>K5 a v λv=>KH P t a v (K6 k)
 | .nilCheck x=>fH env x λx=>uQ x k
 | .binOp op t x y _=>fH env x λa=>fH env y λb=>KE P (ac (pR x) true (pR y)) op t a b k
 | .unOp op _ x=>fH env x λx=>Uu op x k
 | .convert s d x=>fH env x λx=>rI x λx=>Uv P s d x k
 | .makeFunc fn first cap=>ac (zG fn) (nj env first.toList λa=>nj env cap.toList λb=>k (.func fn a b)) .fail
 | .makeMap t r=>(match r with
  |none=>.new (.mapo [] 0) λb=>k (.map b)
  |some x=>cx P t λd=>(match d with | .map _ _=>fH env x λv=>rB v λ_ _=>.new (.mapo [] 0) λb=>k (.map b)|_=>.fail))
 | .slice t x lo hi mx=>fH env x λx=>Ij env lo λlo=>Ij env hi λhi=>Ij env mx λmx=>rI x λx=>CT P t x lo hi mx k
 | .fieldAddr t x f=>fH env x λx=>rE P t x f k
 | .indexAddr t x i=>fH env x λx=>fH env i λi=>rI x λx=>mm P t x i k
 | .index t x i=>fH env x λx=>fH env i λi=>KO P t x i k
 | .lookup t x i ok=>fH env x λx=>fH env i λi=>E4 P t x i ok k
 | .mapUpdate t m i v=>fH env m λm=>fH env i λi=>fH env v λv=>rH P t m i v (K6 k)
 | .range t x=>fH env x λx=>K1 P t x k
 | .next it s=>fH env it λit=>UB it s k
 | .extract t i=>fH env t λt=>zO t i k
 | .call c=>(match c.callee with
  | .builtin b=>nj env c.args.toList λl=>oU l λl=>nr P b c.argTypes l k
  | .value f=>fH env f λf=>nj env c.args.toList λl=>E7 P en rn f l k
  | .invoke _ _=>.fail)
 |_=>.fail
inductive AEx where
 |normal
 |exit (id:Nat)
 |goto (l:Nat)
 |ret
abbrev XK:=AEx->T AV->List Nat->Tr
abbrev X:=Code->T AV->Nat->Nat->Option Nat->List Nat->XK->Tr
def zT(nt:Nat)(dst:Option Nat)(v:AV)(env:T AV)(k:T AV->Tr):Tr:=match dst with
 |none=>k env
 |some d=>ac (Nat.ble (Nat.succ d) nt) (T.setK env d v k) .fail
def kH(ops:Array Oper)(env:T AV)(o:Oper)(yes no:Tr):Tr:=match o.guard with
 |none=>yes
 |some (j,want)=>(match ops[j]? with
  |some oj=>(match oj.dst with
   |some d=>T.getK env d .fail λv=>(match v with | .bool b=>ac (b==want) yes no | .sB p=>ac want (.ask p yes no) (.ask p no yes) | .tup _=>no|_=>.fail)
   |none=>.fail)
  |none=>.fail)
def qI(ops:Array Oper)(env:T AV)(o:Oper)(yes no:T AV->Tr):Tr:=match o.guard with
 |none=>yes env
 |some (j,want)=>(match ops[j]? with
  |some oj=>(match oj.dst with
   |some d=>T.getK env d .fail λv=>(match v with
    | .bool b=>ac (b==want) (yes env) (no env)
    | .sB p=>.ask p (T.setK env d (.bool true) λenv=>ac want (yes env) (no env)) (T.setK env d (.bool false) λenv=>ac want (no env) (yes env))
    | .tup _=>no env
    |_=>.fail)
   |none=>.fail)
  |none=>.fail)
def Q6(en rn:c_)(nt:Nat)(ops:Array Oper)(l:List Oper)(env:T AV)(k:T AV->Tr):Tr:=
 List.rec (motive:=λ_=>T AV->(T AV->Tr)->Tr) (λenv k=>k env) (λo _ ih env k=>
  qI ops env o (λenv=>Q5 P en rn env o.op λv=>zT nt o.dst v env λenv=>ih env k) (λenv=>zT nt o.dst (.tup []) env λenv=>ih env k)) l env k
inductive Note where
 |mk (c c':Nat) (t:T Unit) (w:List Nat)
def oV(t:T Unit)(l:List Nat):Bool:=List.rec (motive:=λ_=>Bool) true (λb _ ih=>T.getK t b ih λ_=>false) l
def dh(c c':Nat)(l:List Nat):Bool:=List.rec (motive:=λ_=>Bool) true (λb _ ih=>ac (Nat.ble c b) (ac (Nat.ble (Nat.succ b) c') false ih) ih) l
def CY(a b:Note):Bool:=match a,b with
 | .mk c c' t w,.mk d d' u v=>ac (oV u w) (ac (oV t v) (ac (dh c c' (T.keys u id [])) (ac (dh c c' v) true false) false) false) false
def jn:List Oper->List Nat->List Nat
 | [],acc=>acc
 |o::l,acc=>jn l (acc++ [o.after.toList.foldl (λs e=>if Region.binds .any e then s ||| 2 ^ e.on ||| acc.getD e.on 0 else s) 0])
def looks(ops:Array Oper)(o:Oper):List Nat:=
 o.op.operands.toList.filterMap (λ| .tmp t=>some t|_=>none)++(match o.guard with|some (j,_)=>(match ops[j]? with|some oj=>oj.dst.toList|none=>[])|none=>[])
def xc(ops:Array Oper)(a b:Oper):Bool:=
 (match a.dst with|some d=>!(looks ops b).contains d|none=>true) && (match b.dst with|some d=>!(looks ops a).contains d|none=>true) && (match a.dst,b.dst with|some d,some e=>d !=e|_,_=>true)
def oW(ops:Array Oper):Bool:=
 let bs:=jn ops.toList []
 ops.toList.zipIdx.all λ(o,j)=>o.after.toList.all (λe=>!Region.binds .any e || decide (e.on<j)) && (ops.toList.zipIdx.all λ(p,i)=>!(decide (i<j)) || (bs.getD j 0).testBit i || xc ops p o)
def oX(bs:List Nat):List (Nat×Note)->Bool
 | []=>true
 |(j,b)::l=>ac (l.all λ(i,a)=>ac ((bs.getD j 0).testBit i) true (CY a b)) (oX bs l) false
def E8(en rn:c_)(nt:Nat)(ops:Array Oper)(l:List Oper)(i:Nat)(env:T AV)(ns:List (Nat×Note))(k:T AV->Tr):Tr:=
 List.rec (motive:=λ_=>Nat->T AV->List (Nat×Note)->(T AV->Tr)->Tr) (λ_ env ns k=>ac (oX (jn ops.toList []) ns) (k env) .fail) (λo _ ih i env ns k=>
  .sub (kH ops env o (Q5 P en rn env o.op .ret) (.ret (.tup []))) λv c c' t w=>zT nt o.dst v env λenv=>fN (Nat.succ i) λi'=>ih i' env ((i,.mk c c' t w)::ns) k) l i env ns k
def K7(l:List AV)(i:Nat)(t:T AV)(k:T AV->Tr):Tr:=
 List.rec (motive:=λ_=>Nat->T AV->(T AV->Tr)->Tr) (λ_ t k=>k t) (λa _ ih i t k=>T.setK t i a λt=>fN (Nat.succ i) λi=>ih i t k) l i t k
def K8(env:T AV)(l:List ResultVar)(k:List AV->Tr):Tr:=
 List.rec (motive:=λ_=>(List AV->Tr)->Tr) (λk=>k []) (λr _ ih k=>(match r with
  | .tmp t=>T.getK env t .fail λv=>ih λl=>k (v::l)
  | .cell a t=>T.getK env a .fail λp=>zK P t p λv=>ih λl=>k (v::l))) l k
def xd(df:List Nat)(k:Tr):Tr:=
 List.rec (motive:=λ_=>Tr->Tr) (λk=>k) (λb _ ih k=>.rd b λq=>(match q with | .dfr true=>.wr b (.dfr false) (ih k)|_=>.fail)) df k
def nu(x:X):c_:=λf args k=>du P.funcs[f]? .fail λfn=>du fn.body .fail λc=>
 ac (decide (fn.name= "runtime.NumGoroutine")) .fail (ac (Nat.ble args.length fn.ntmps) (K7 args 0 .leaf λenv=>x c env fn.ntmps f none [] λex env df=>
  (match ex with
  | .normal | .ret=>xd df (K8 P env fn.results.toList λl=>(match l with | [v]=>k v|l=>k (.tup l)))
  |_=>.fail)) .fail)
def E9(l:List Nat)(vs:List AV)(nt:Nat)(t:T AV)(k:T AV->Tr):Tr:=match l,vs with
 | [],[]=>k t
 |p::l,v::vs=>ac (Nat.ble (Nat.succ p) nt) (T.setK t p v λt=>E9 l vs nt t k) .fail
 |_,_=>.fail
def iK(l:Nat)(jump:Option Code)(k:AV->Tr):Tr:=.rd l λq=>match q with
 | .loop _ _ fn nt tmps ps as bd d=>.wr l (.loop (match jump with|none=>.ready|some _=>.done) jump fn nt tmps ps as bd d) (k (.bool (match jump with|none=>true|some _=>false)))
 |_=>.fail
def CZ(x:X):c_:=λl args k=>.rd l λq=>match q with
 | .loop _ _ fn nt tmps ps as bd d=>E9 ps args nt tmps λenv=>x as env nt fn (some l) [] λex env df=>(match ex,df with
  | .normal,[]=>.rd l λq=>(match q with
   | .loop .ready jump fn nt' tmps ps o9 bd' d=>.wr l (.loop .busy jump fn nt' tmps ps o9 bd' d) (x bd env nt fn (some l) [] λex env df=>(match df with
    | []=>(match ex with
     | .normal=>iK l none k
     | .ret=>iK l (some .ret) k
     | .exit id=>iK l (some (.exit id)) k
     | .goto t=>iK l (some (.goto t)) k)
    |_=>.fail))
   |_=>.fail)
  |_,_=>.fail)
 |_=>.fail
def C0(fn nt:Nat)(tmps:T AV)(ps:List Nat)(as bd:Code)(eK:Option Nat)(df:List Nat)(k:Nat->List Nat->Tr):Tr:=match eK with
 |none=>.new (.dfr true) λd=>.new (.loop .ready none fn nt tmps ps as bd d) λl=>k l (d::df)
 |some _=>.fail
def C1(x:X)(g:AV)(l:Nat)(k:Tr->Tr)(go:Code->Tr)(z:Tr):Tr:=
 match g with
 | .func (.func i) first cap=>nu P x i (first++ [.func (.yield l) [] []]++cap) λ_=>.rd l λq=>(match q with
  | .loop st jump fn nt tmps ps as bd d=>(match st with
   | .busy=>.fail
   |_=>.wr l (.loop .exhausted jump fn nt tmps ps as bd d) (match jump with|none=>z|some c=>go c))
  |_=>.fail)
 |_=>.fail
inductive Memo where
 |mk (f:Nat) (ty:Option Nat) (arg:List Nat) (res:AV)
def memF(f:Nat)(l:List Memo):Bool:=List.rec (motive:=λ_=>Bool) false (λm _ ih=>match m with | .mk g _ _ _=>ac (Nat.beq f g) true ih) l
def C2(a b:Option Nat):Bool:=match a,b with
 |none,none=>true
 |some a,some b=>Nat.beq a b
 |_,_=>false
def dX(f:Nat)(ty:Option Nat)(arg:List Nat)(l:List Memo):Option AV:=List.rec (motive:=λ_=>Option AV) none (λm _ ih=>match m with
 | .mk g u a r=>ac (Nat.beq f g) (ac (C2 ty u) (ac (Ik arg a) (some r) ih) ih) ih) l
def lU(f:Nat):Bool:=match P.funcs[f]? with
 |some fn=>(match fn.body with|some _=>!decide (fn.name= "runtime.NumGoroutine")|none=>false)
 |none=>false
def ZA(M:List Memo)(f:Nat)(a:AV)(k:AV->Tr)(z:Tr):Tr:=match a with
 | .slc b g o n none es=>ac (Nat.beq o 0) (ac (Nat.beq es 1) (.rd b λq=>(match q with
  | .cells c gen lo _ _ _ _ ty=>ac (Nat.beq lo 0) (ac (Nat.ble g gen) (ac (Nat.ble 1 n) (Q1 c g n 0 λl=>du (KJ l) .fail λbs=>du (dX f (some ty) bs M) z λr=>ac (lU P f) (k r) .fail) .fail) .fail) .fail
  |_=>.fail)) z) z
 | .str s=>du (dX f none s M) z λr=>ac (lU P f) (k r) .fail
 |_=>z
def K9(M:List Memo)(en:c_):c_:=λf args k=>ac (memF f M) (match args with | [a]=>ZA P M f a k (en f args k) | []=>du (dX f (some 0) [] M) (en f args k) λr=>ac (lU P f) (k r) .fail|_=>en f args k) (en f args k)
structure Tab where
 memos:List Memo
 con:Nat->List AV->Option ((AV->Tr)->Tr)
 blk:Nat->Nat->Option (Nat->T AV->(AEx->T AV->Tr)->Tr)
def K_(M:Tab)(en:c_):c_:=λf args k=>du (M.con f args) (K9 P M.memos en f args k) λt=>t k
def zU(c:Code):Bool:=match c with | .ret=>true | .exit _=>true | .goto _=>true|_=>false
variable(M:Tab)
def FX(x:X):X:=λc env nt fn eK df k=>match c with
 | .skip=>k .normal env df
 | .label _=>k .normal env df
 | .ret=>k .ret env df
 | .exit id=>k (.exit id) env df
 | .goto l=>k (.goto l) env df
 | .region _ ops draw=>ac draw (ac (P.follows .mixedOrders) (ac (Nat.ble nt 1000000000) (ac (oW ops) (E8 P (K_ P M (nu P x)) (CZ x) nt ops ops.toList 0 env [] λenv=>k .normal env df) .fail) .fail) .fail)
  (Q6 P (K_ P M (nu P x)) (CZ x) nt ops ops.toList env λenv=>k .normal env df)
 | .seq a b=>x a env nt fn eK df λex env df=>(match ex with
  | .normal=>x b env nt fn eK df k
  |ex=>k ex env df)
 | .cond c a b=>fH env c λv=>Us v (x a env nt fn eK df k) (x b env nt fn eK df k)
 | .block id c=>du (match eK,df with|none,[]=>M.blk fn id|_,_=>none) (x c env nt fn eK df λex env df=>(match ex with
  | .exit id'=>ac (Nat.beq id' id) (k .normal env df) (k (.exit id') env df)
  |ex=>k ex env df)) λt=>t nt env λex env=>k ex env df
 | .loop c=>x c env nt fn eK df λex env df=>(match ex with
  | .normal=>x (.loop c) env nt fn eK df k
  |ex=>k ex env df)
 | .rangeFunc g ps as bd=>C0 fn nt env ps.toList as bd eK df λl df=>fH env g λg=>
  C1 P x g l id (λc=>ac (zU c) (x c env nt fn eK df k) .fail) (k .normal env df)
 |_=>.fail
def xf(n:Nat):X:=Nat.rec (motive:=λ_=>X) (λ_ _ _ _ _ _ _=>.fail) (λ_ x=>FX P M x) n
def start(H:T ABlk)(next:Nat):St:=.mk H next 0 .leaf []
end
end Go.Sym
namespace Go.Sym
open Go.RowKit (Below)
def SI:St->Prop
 | .mk h n fs tc w=>1<=n/\n<=1000000001/\fs<=n/\(∀b∈w,tc.get b=some ())/\∀b,tc.get b=some ()->b<fs
def di{b:Nat}{k:ABlk->Tr}{σ:St}{K:Fin}(hS:SI σ)(h:run (.rd b k) σ K=true):b+1<2 ^ 64:=by
 cases σ with
 |mk H n fs tc w=>
  rw[io] at h;split at h;case isFalse=>cases h
  obtain⟨h1,h2,_⟩:=hS;omega
def bE{b:Nat}{k:ABlk->Tr}{σ:St}{K:Fin}(hS:SI σ)(h:run (.rd b k) σ K=true):
 ∃x a9,σ.h.get b=some x/\a9.h=σ.h/\SI a9/\run (k x) a9 K=true:=by
 cases σ with
 |mk H n fs tc w=>
  rw[io] at h
  split at h
  case isFalse=>cases h
  rename_i hbn
  split at h
  ·cases h
  ·rename_i x hb;refine⟨x,_,hb, ?_, ?_,h⟩
   ·rfl
   ·obtain⟨h1,h2,h3,h5,h6⟩:=hS;have c8:b+1<2 ^ 64:=by omega
    show 1<=n/\n<=1000000001/\fs<=n/\(∀y∈w,(note fs b tc).get y=some ())/\∀y,(note fs b tc).get y=some ()->y<fs;refine⟨h1,h2,h3,λy hy=>dJ c8 (h5 y hy),λy hy=>?_⟩;by_cases e:fs<=b
    ·rw[note,if_pos e] at hy;exact h6 y hy
    ·by_cases ey:y=b
     ·omega
     ·rw[note,if_neg e,T.get_set_ne _ ey] at hy;exact h6 y hy
def fw{b:Nat}{x:ABlk}{k:Tr}{σ:St}{K:Fin}(hS:SI σ)(h:run (.wr b x k) σ K=true):
 ∃x0 a9,σ.h.get b=some x0/\a9.h=σ.h.set b x/\SI a9/\b+1<2 ^ 64/\run k a9 K=true:=by
 cases σ with
 |mk H n fs tc w=>
  rw[ky] at h
  split at h
  case isFalse=>cases h
  rename_i hbn
  split at h
  ·cases h
  ·rename_i x0 hb;obtain⟨h1,h2,h3,h5,h6⟩:=hS;have c8:b+1<2 ^ 64:=by omega
   refine⟨x0,_,hb,rfl, ?_,c8,h⟩;show 1<=n/\n<=1000000001/\fs<=n/\(∀y∈gR fs b w,(note fs b tc).get y=some ())/\∀y,(note fs b tc).get y=some ()->y<fs;refine⟨h1,h2,h3,λy hy=>?_,λy hy=>?_⟩
   ·rcases oQ hy with hy|⟨e,hy⟩
    ·exact dJ c8 (h5 y hy)
    ·subst e;exact kz c8 hy
   ·by_cases e:fs<=b
    ·rw[note,if_pos e] at hy;exact h6 y hy
    ·by_cases ey:y=b
     ·omega
     ·rw[note,if_neg e,T.get_set_ne _ ey] at hy;exact h6 y hy
def gw{x:ABlk}{k:Nat->Tr}{σ:St}{K:Fin}(hS:SI σ)(h:run (.new x k) σ K=true):
 ∃n a9,σ.h.get n=none/\n+1<2 ^ 64/\a9.h=σ.h.set n x/\SI a9/\run (k n) a9 K=true:=by
 cases σ with
 |mk H n fs tc w=>
  rw[gT] at h
  split at h
  ·split at h
   ·cases h
   ·rename_i hn o7;obtain⟨h1,h2,h3,h5,h6⟩:=hS;refine⟨n,_,o7,by omega,rfl, ?_,h⟩;show 1<=n+1/\n+1<=1000000001/\fs<=n+1/\(∀y∈w,tc.get y=some ())/\∀y,tc.get y=some ()->y<fs;exact⟨by omega,by omega,by omega,h5,h6⟩
  ·cases h
def E_{n:Nat}{k:Nat->Tr}{σ:St}{K:Fin}(h:run (.pick n k) σ K=true):∀i,(i=0∨i<n)->(n<=1->i=0)->run (k i) σ K=true:=by
 intro i hi h1;by_cases hn:n<=1
 ·rw[h1 hn];have:run (.pick n k) σ K=run (k 0) σ K:=by show ac (Nat.ble n 1) (run (k 0) σ K) _=_;rw[ar,if_pos (Nat.ble_eq.mpr hn)]
  rw[←this];exact h
 ·cases σ with
  |mk H m fs tc w=>
   have hb:Nat.ble n 1=false:=by
    cases hb:Nat.ble n 1 with
    |false=>rfl
    |true=>exact absurd (Nat.ble_eq.mp hb) hn
   have h':ac (Nat.ble n 1) (run (k 0) (.mk H m fs tc w) K) (ac (Nat.beq fs 0) (iI (λi=>run (k i) (.mk H m fs tc w) K) n) false)=true:=h;rw[hb] at h';have h2:=(aD (b:=Nat.beq fs 0) h').2;exact ng.mp h2 i (by omega)
def dw{p:Prop}{t e:Tr}{σ:St}{K:Fin}(h:run (.ask p t e) σ K=true):(p/\run t σ K=true)∨(¬p/\run e σ K=true):=by
 by_cases hp:p
 ·exact .inl ⟨hp,by rw[←fq t e σ K hp];exact h⟩
 ·exact .inr ⟨hp,by rw[←ft t e σ K hp];exact h⟩
def aP{p:Prop}{t:Tr}{σ:St}{K:Fin}(h:run (.req p t) σ K=true):p/\run t σ K=true:=by
 by_cases hp:p
 ·exact⟨hp,by rw[←fu t σ K hp];exact h⟩
 ·rw[pP t σ K hp] at h;cases h
def Ext(w w':World):Prop:=∀k,k<w.heap.size->w'.heap[k]? =w.heap[k]?
def ER.mono{ρ ρ':Rho}(hle:ρ.le ρ'){nt:Nat}{env:T AV}{tmps:Array Value}(h:ER ρ nt env tmps):ER ρ' nt env tmps:=
 ⟨h.size,λt a ha=>let⟨v,hv,r⟩:=h.val t a ha;⟨v,hv,r.mono hle⟩⟩
def BR.keep{ρ ρ':Rho}{B:Nat}{w w':World}{b:Nat}{x:ABlk}(hle:ρ.le ρ')(hg:∀g h,ρ.at_ b g=some h->w'.heap[h.blk]? =w.heap[h.blk]?)(h:BR ρ B w b x):BR ρ' B w' b x:=by
 cases x with
 |cells c gen lo hi fl fh ro ty=>
  refine⟨h.1,λg hgg=>?_⟩
  obtain⟨hm,h1,h2,h2',arr,fr,h3,h4,h5,h6⟩:=h.2 g hgg
  refine⟨hm,hle.at_ _ _ _ h1,λhr=>(h2 hr).mono hle,h2',arr,fr,by rw[hg g hm h1];exact h3,h4,h5,λo tag a ho ht=>?_⟩
  obtain⟨q1,v,q2,q3⟩:=h6 o tag a ho ht
  exact⟨q1,v,q2,q3.mono hle⟩
 |grow c gen ty=>
  rcases h with h1|⟨hm,h1,hs,h2,arr,fr,h3,h4,h5,h6,h7⟩
  ·exact .inl h1
  ·refine .inr ⟨hm,hle.at_ _ _ _ h1,hs,h2.mono hle,arr,fr,by rw[hg gen hm h1];exact h3,h4,h5,h6,λi hi j a ha=>?_⟩;obtain⟨u,q1,q2⟩:=h7 i hi j a ha;exact⟨u,q1,q2.mono hle⟩
 |tab ty l=>exact⟨h.1,hle.frz _ _ h.2⟩
 |froz c gen=>
  rcases h with h1|⟨hm,arr,ty,h1,hs,h2,h3,h4⟩
  ·exact .inl h1
  ·refine .inr ⟨hm,arr,ty,hle.at_ _ _ _ h1,hs,hle.frz _ _ h2,h3,λi hi j a ha=>?_⟩;obtain⟨u,q1,q2⟩:=h4 i hi j a ha;exact⟨u,q1,q2.mono hle⟩
 |mapo es clock=>
  obtain⟨hm,h1,h2,M',h3,h4,h5⟩:=h
  refine⟨hm,hle.at_ _ _ _ h1,h2.mono hle,M',by rw[hg 0 hm h1];exact h3,h4,λi k v n e hi he=>?_⟩
  obtain⟨q1,q2,q3⟩:=h5 i k v n e hi he
  exact⟨q1.mono hle,q2.mono hle,q3⟩
 |smap m l=>
  obtain⟨hm,h1,h2,es,clock,h3,h4,h5⟩:=h
  refine⟨hm,hle.at_ _ _ _ h1,h2.mono hle,es,clock,by rw[hg 0 hm h1];exact h3,h4,λi g e hi he=>?_⟩
  obtain⟨q1,q2⟩:=h5 i g e hi he
  exact⟨q1.mono hle,q2.mono hle⟩
 |obj k I l=>
  obtain⟨hl,hm,fp,h1,h2,h3,h4⟩:=h
  refine⟨hl,hm,fp,hle.at_ _ _ _ h1,h2,λx hx=>?_,hl _ _ _ _ (λx hx=>?_) h4⟩
  ·obtain⟨q1,g,hh,q2,q3⟩:=h3 x hx;exact⟨q1.mono hle,g,hh,hle.at_ _ _ _ q2,q3⟩
  ·obtain⟨_,g,hh,q2,q3⟩:=h3 x hx;rw[←q3];exact hg g hh q2
 |siter s pos=>
  obtain⟨hm,h1,h2,s',h3,h4⟩:=h
  exact⟨hm,hle.at_ _ _ _ h1,h2.mono hle,s',h3,by rw[hg 0 hm h1];exact h4⟩
 |miter m since seen stepped=>
  obtain⟨hm,h1,h2,m',ad8,h3,h4,h5⟩:=h
  refine⟨hm,hle.at_ _ _ _ h1,h2.mono hle,m',ad8,by rw[hg 0 hm h1];exact h3,h4, ?_⟩
  cases m with
  |none=>exact h5
  |some x=>obtain⟨hx,q1,q2⟩:=h5;exact⟨hx,hle.at_ _ _ _ q1,q2⟩
 |dfr live=>
  obtain⟨hm,h1,h2,h3⟩:=h
  exact⟨hm,hle.at_ _ _ _ h1,h2.mono hle,by rw[hg 0 hm h1];exact h3⟩
 |loop state jump fn nt tmps params assign body defers=>
  obtain⟨hm,h1,h2,ac5,hd,fn',h3,h4,h5⟩:=h
  exact⟨hm,hle.at_ _ _ _ h1,h2.mono hle,ac5,hd,fn',h3.mono hle,hle.at_ _ _ _ h4,by rw[hg 0 hm h1];exact h5⟩
def Rho.put(ρ:Rho)(b g:Nat)(h:Home):Rho:={at_:=λx y=>if x=b/\y=g then some h else ρ.at_ x y,val:=ρ.val,own:=ρ.own,frz:=ρ.frz,frz0:=ρ.frz0}
def Rho.put_at(ρ:Rho)(b g:Nat)(h:Home):(ρ.put b g h).at_ b g=some h:=by simp [Rho.put]
def Rho.le_put{ρ:Rho}{b g:Nat}{h:Home}(o7:ρ.at_ b g=none):ρ.le (ρ.put b g h):=
 ⟨λx y z hz=>by
  show(if x=b/\y=g then some h else ρ.at_ x y)=some z;by_cases e:x=b/\y=g
  ·rw[e.1,e.2,o7] at hz;cases hz
  ·rw[if_neg e];exact hz,rfl,rfl,λ_ _ h=>h,rfl⟩
def Good.none_at{w0:World}{ρ:Rho}{H:T ABlk}{w:World}(hG:Good w0 ρ H w){n:Nat}(hn:H.get n=none)(g:Nat):ρ.at_ n g=none:=by
 cases h:ρ.at_ n g with
 |none=>rfl
 |some x=>obtain⟨_,y,hy⟩:=hG.dom _ _ _ h;rw[hn] at hy;cases hy
def Good.alloc{w0:World}{ρ:Rho}{H:T ABlk}{w:World}(hG:Good w0 ρ H w){n:Nat}(hn:H.get n=none)(c8:n+1<2 ^ 64)(x:ABlk)(o:Obj)(shift size:Nat)(hB:∀ρ':Rho,ρ.le ρ'->ρ'.at_ n 0=some ⟨w.heap.size,shift,size⟩->ρ'=ρ.put n 0 ⟨w.heap.size,shift,size⟩->BR ρ' w0.heap.size {w with heap:=w.heap.push o} n x):
 ρ.le (ρ.put n 0 ⟨w.heap.size,shift,size⟩)/\Good w0 (ρ.put n 0 ⟨w.heap.size,shift,size⟩) (H.set n x) {w with heap:=w.heap.push o}:=by
 have o7:=hG.none_at hn 0
 have hle:ρ.le (ρ.put n 0 ⟨w.heap.size,shift,size⟩):=Rho.le_put o7
 refine⟨hle,⟨⟨?_,λb y hy=>?_,λb g h hh=>?_,λb g h b' g' h' hh j4 e=>?_,λb g h y hh hy=>?_,λb arr ty hf=>?_,hG.frzB,λb k I l hb g h hh=>?_⟩,λx hx=>by obtain⟨b,g,h,q1,q2,q3⟩:=hG.ownB x hx;exact⟨b,g,h,q1,hle.at_ _ _ _ q2,q3⟩⟩⟩
 ·exact hG.below.alloc hG.below.size o
 ·by_cases e:b=n
  ·subst e;rw[T.get_set_same _ _ _ c8] at hy;injection hy with hy;subst hy;exact hB _ hle (Rho.put_at _ _ _ _) rfl
  ·rw[T.get_set_ne _ e] at hy;refine(hG.blk b y hy).keep hle λg h hh=>?_;have:=(hG.dom _ _ _ hh).1;show(w.heap.push o)[h.blk]? =_;rw[Array.getElem?_push,if_neg (by omega)]
 ·simp only [Rho.put] at hh;split at hh
  ·rename_i e;injection hh with hh;subst hh;obtain⟨e1,e2⟩:=e;subst e1;exact⟨by simp,x,T.get_set_same _ _ _ c8⟩
  ·obtain⟨q1,y,q2⟩:=hG.dom _ _ _ hh;refine⟨by show h.blk<(w.heap.push o).size;simp;omega,y, ?_⟩;rw[T.get_set_ne]
   ·exact q2
   ·intro e;subst e;rw[hn] at q2;cases q2
 ·simp only [Rho.put] at hh j4;split at hh
  ·rename_i c;split at j4
   ·rename_i c';injection hh with hh;injection j4 with j4;exact⟨c.1.trans c'.1.symm,hh.symm.trans j4⟩
   ·injection hh with hh;subst hh;have:=(hG.dom _ _ _ j4).1;simp only at e;omega
  ·split at j4
   ·injection j4 with j4;subst j4;have:=(hG.dom _ _ _ hh).1;simp only at e;omega
   ·exact hG.inj _ _ _ _ _ _ hh j4 e
 ·simp only [Rho.put] at hh;split at hh
  ·rename_i c;rw[c.2];cases y <;> first|exact aaq _|trivial
  ·have hbn:b≠n:=λe=>by subst e;rw[hG.none_at hn g] at hh;cases hh
   rw[T.get_set_ne _ hbn] at hy;exact hG.gens b g h y hh hy
 ·have hf:ρ.frz b=some (arr,ty):=hf;obtain⟨⟨fr,q1⟩,q2⟩:=hG.frz b arr ty hf;have c9:b<w.heap.size:=by
   rcases aah b w.heap.size with h'|h'
   ·exact h'
   ·rw[aaV h'] at q1;cases q1
  refine⟨⟨fr, ?_⟩,λb' g h hh e=>?_⟩
  ·show(w.heap.push o)[b]? =_;rw[Array.getElem?_push,if_neg (by omega)];exact q1
  ·simp only [Rho.put] at hh;split at hh
   ·injection hh with hh;subst hh;have e:w.heap.size=b:=e;omega
   ·obtain⟨y,r1,r2⟩:=q2 _ _ _ hh e;exact⟨y,by rw[T.get_set_ne _ (λe=>by subst e;rw[hn] at r1;cases r1)];exact r1,r2⟩
 ·simp only [Rho.put] at hh;split at hh
  ·rename_i hc;injection hh with hh;subst hh;exact⟨.new hG.below.size,.inl hc.2⟩
  ·have hbn:b≠n:=λe=>by subst e;rw[hG.none_at hn g] at hh;cases hh
   rw[T.get_set_ne _ hbn] at hb;exact hG.objO b k I l hb g h hh
def Good.drawn{w0:World}{ρ:Rho}{H:T ABlk}{w:World}(hG:Good w0 ρ H w)(n:Nat):Good w0 ρ H {w with drawn:=n}:=
 ⟨⟨⟨hG.below.os,hG.below.tape,hG.below.output,hG.below.size,hG.below.block⟩,λb x hx=>BR.keep (w:=w) (w':={w with drawn:=n}) (Rho.le.refl ρ) (λ_ _ _=>rfl) (hG.blk b x hx),hG.dom,hG.inj,hG.gens,hG.frz,hG.frzB,hG.objO⟩,hG.ownB⟩
def Good.turn{w0:World}{ρ:Rho}{H:T ABlk}{w w':World}(hG:Good w0 ρ H w){b:Nat}{x0 x:ABlk}(hb:H.get b=some x0)(c8:b+1<2 ^ 64)(r:Nat)(hr:Own ρ w0.heap.size r)(hbe:Kept ρ.own w0.heap.size w w')(T':w.heap.size<=w'.heap.size)(ac0:∀k,k≠r->k<w.heap.size->w'.heap[k]? =w.heap[k]?)(d9:∀b' g h,ρ.at_ b' g=some h->h.blk=r->b'=b)(hB:BR ρ w0.heap.size w' b x)(ac1:∀g,Ky g x0->Ky g x:=by intro g h;exact h)(hrs:∃b' g h,ρ.at_ b' g=some h/\h.blk=r)(hnf:¬zH x0:=by exact λh=>h)(hxo:∀k I l,x≠ .obj k I l:=by intro _ _ _ h;cases h):Good w0 ρ (H.set b x) w':=by
 refine⟨⟨hG.below.trans hbe,λb' y hy=>?_,λb' g h hh=>?_,hG.inj,λb' g h y hh hy=>?_,λb' arr ty hf=>?_,hG.frzB,λb' k I l Q' g h hh=>?_⟩,hG.ownB⟩
 ·by_cases e:b'=b
  ·subst e;rw[T.get_set_same _ _ _ c8] at hy;injection hy with hy;subst hy;exact hB
  ·rw[T.get_set_ne _ e] at hy;refine(hG.blk b' y hy).keep (Rho.le.refl ρ) λg h hh=>?_;exact ac0 _ (λer=>e (d9 _ _ _ hh er)) (hG.dom _ _ _ hh).1
 ·obtain⟨q1,y,q2⟩:=hG.dom _ _ _ hh;refine⟨by omega, ?_⟩;by_cases e:b'=b
  ·subst e;exact⟨x,T.get_set_same _ _ _ c8⟩
  ·exact⟨y,by rw[T.get_set_ne _ e];exact q2⟩
 ·by_cases e:b'=b
  ·subst e;rw[T.get_set_same _ _ _ c8] at hy;injection hy with hy;subst hy;exact ac1 g (hG.gens b' g h x0 hh hb)
  ·rw[T.get_set_ne _ e] at hy;exact hG.gens b' g h y hh hy
 ·obtain⟨⟨fr,q1⟩,q2⟩:=hG.frz b' arr ty hf;have c9:b'<w.heap.size:=by
   rcases aah b' w.heap.size with h'|h'
   ·exact h'
   ·rw[aaV h'] at q1;cases q1
  refine⟨⟨fr, ?_⟩,λb1 g h hh e=>?_⟩
  ·obtain⟨x1,x2,x3,x4,x5⟩:=hrs;have:=d9 _ _ _ x4 x5;subst this;rw[ac0 b' (λe=>hG.frzE hf x4 hb hnf (x5.trans e.symm)) c9];exact q1
  ·obtain⟨y,r1,r2⟩:=q2 _ _ _ hh e;exact⟨y,by rw[T.get_set_ne _ (λe=>by subst e;rw[hb] at r1;injection r1 with r1;subst r1;exact hnf r2)];exact r1,r2⟩
 ·by_cases e:b'=b
  ·subst e;rw[T.get_set_same _ _ _ c8] at Q';injection Q' with Q';exact absurd Q' (hxo _ _ _)
  ·rw[T.get_set_ne _ e] at Q';exact hG.objO b' k I l Q' g h hh
def nf{H H':T ABlk}{b:Nat}{x x0:ABlk}(e:H'=H)(h:H.get b=some x)(hx:H'.get b=some x0)(hn:¬zH x):¬zH x0:=by subst e;rw[h] at hx;injection hx with hx;subst hx;exact hn
end Go.Sym
namespace Go.Sym
open Go.RowKit (Below)
def ah{σ:St}{K:Fin}(h:run .fail σ K=true):False:=by cases h
def ce{α:Type}{o:Option α}{k:α->Tr}{σ:St}{K:Fin}(h:run (du o .fail k) σ K=true):∃a,o=some a/\run (k a) σ K=true:=by
 cases o with
 |none=>exact(ah h).elim
 |some a=>exact⟨a,rfl,h⟩
def ay{b:Bool}{t:Tr}{σ:St}{K:Fin}(h:run (ac b t .fail) σ K=true):b=true/\run t σ K=true:=by
 cases b with
 |true=>exact⟨rfl,h⟩
 |false=>exact(ah h).elim
def rJ{b:Bool}{t:Tr}{σ:St}{K:Fin}(h:run (ac b .fail t) σ K=true):b=false/\run t σ K=true:=by
 cases b with
 |false=>exact⟨rfl,h⟩
 |true=>exact(ah h).elim
def bT{b:Bool}{t e:Tr}{σ:St}{K:Fin}(h:run (ac b t e) σ K=true):(b=true/\run t σ K=true)∨(b=false/\run e σ K=true):=by
 cases b with
 |false=>exact .inr ⟨rfl,h⟩
 |true=>exact .inl ⟨rfl,h⟩
def uo{α:Type}{t:T α}{n:Nat}{k:α->Tr}{σ:St}{K:Fin}(h:run (T.getK t n .fail k) σ K=true):∃a,t.get n=some a/\run (k a) σ K=true:=by
 rw[T.getK_eq] at h;split at h
 ·exact(ah h).elim
 ·exact⟨_,by assumption,h⟩
def ke{n:Nat}{k:Nat->Tr}{σ:St}{K:Fin}(h:run (fN n k) σ K=true):run (k n) σ K=true:=by rw[rx] at h;exact h
def ZC{n:Int}{k:Int->Tr}{σ:St}{K:Fin}(h:run (fI n k) σ K=true):run (k n) σ K=true:=by rw[Zt] at h;exact h
def bU{a b:Nat}(h:Nat.ble a b=true):a<=b:=Nat.ble_eq.mp h
def ZD{a b:Nat}(h:Nat.ble a b=false):b<a:=by
 rcases aah b a with e|e
 ·exact e
 ·rw[Nat.ble_eq.mpr e] at h;cases h
def aM{a b:Nat}(h:Nat.beq a b=true):a=b:=aae h
def Q7{ρ:Rho}{v:AV}{u:Value}{k:Bool->Tr}{σ:St}{K:Fin}(hv:VR ρ v u)(h:run (EN v k) σ K=true):∃b,u= .bool b/\run (k b) σ K=true:=by
 cases hv with
 |bool b=>exact⟨b,rfl,h⟩
 |sB p b hb=>
  rcases dw h with⟨hp,h⟩|⟨hp,h⟩
  ·exact⟨b,rfl,by rw[hb.2 hp];exact h⟩
  ·refine⟨b,rfl, ?_⟩
   cases b with
   |true=>exact absurd (hb.1 rfl) hp
   |false=>exact h
 |_=>exact(ah h).elim
def xg{v:AV}{k:IntKind->Int->Tr}{σ:St}{K:Fin}(h:run (rB v k) σ K=true):∃j n,v= .int j n/\run (k j n) σ K=true:=by cases v <;> first|exact⟨_,_,rfl,h⟩|exact(ah h).elim
def La{n:Int}{k:Nat->Tr}{σ:St}{K:Fin}(h:run (Ii n k) σ K=true):∃a:Nat,n=(a:Int)/\run (k a) σ K=true:=by
 cases n with
 |ofNat a=>exact⟨a,rfl,h⟩
 |negSucc a=>exact(ah h).elim
def iu{ρ:Rho}{a:AV}{v:Value}{k:List AV->Tr}{σ:St}{K:Fin}(hv:VR ρ a v)(h:run (iq a k) σ K=true):∃l,LR ρ l v.cells.toList/\run (k l) σ K=true:=by
 cases hv with
 |agg l cs h1 h2=>exact⟨l,LR.of_arr h1 h2,h⟩
 |opq n=>exact(ah h).elim
 |opc n ho=>
  refine⟨_, ?_,h⟩;have e:(ρ.val n).cells.toList= [ρ.val n]:=by cases hv:ρ.val n <;> first|rfl|(rw[hv] at ho;cases ho)
  rw[e];exact LR.cons (.opc n ho) (LR.nil ρ)
 |any1 _ ho=>
  refine⟨_, ?_,h⟩;have e:v.cells.toList= [v]:=by cases v <;> first|rfl|cases ho
  rw[e];exact LR.cons (.any1 v ho) (LR.nil ρ)
 |sB p b hb=>exact⟨_,LR.cons (.sB p b hb) (LR.nil ρ),h⟩
 |_=>exact⟨_,LR.cons (by constructor <;> assumption) (LR.nil ρ),h⟩
def Res(P:Program)(w0:World)(ρ:Rho)(w:World)(k:AV->Tr)(K:Fin)(s:Sem Value):Prop:=
 ∃av a9 ρ' v w',run (k av) a9 K=true/\SI a9/\Good w0 ρ' a9.h w'/\ρ.le ρ'/\VR ρ' av v/\s.run P w= .ok v w'
def Im(P:Program)(w0:World)(ρ:Rho)(w:World)(k:Tr)(K:Fin)(s:Sem Unit):Prop:=
 ∃a9 w',run k a9 K=true/\SI a9/\Good w0 ρ a9.h w'/\s.run P w= .ok () w'
def Res.plain{P:Program}{w0:World}{ρ:Rho}{w:World}{k:AV->Tr}{K:Fin}{s:Sem Value}{av:AV}{σ:St}{v:Value}(hr:run (k av) σ K=true)(hS:SI σ)(hG:Good w0 ρ σ.h w)(hv:VR ρ av v)(hs:s.run P w= .ok v w):Res P w0 ρ w k K s:=
 ⟨av,σ,ρ,v,w,hr,hS,hG,Rho.le.refl ρ,hv,hs⟩
def Res.of_eq{P:Program}{w0:World}{ρ:Rho}{w:World}{k:AV->Tr}{K:Fin}{s s':Sem Value}(h:Res P w0 ρ w k K s)(e:s'.run P w=s.run P w):Res P w0 ρ w k K s':=by obtain⟨av,a9,ρ',v,w',h1,h2,h3,h4,h5,h6⟩:=h;exact⟨av,a9,ρ',v,w',h1,h2,h3,h4,h5,e.trans h6⟩
section
variable{w0:World}{ρ:Rho}{w:World}{σ:St}{K:Fin}{nt:Nat}{env:T AV}{a:Act}
def uR{x:Operand}{k:AV->Tr}(hS:SI σ)(hG:Good w0 ρ σ.h w)(hE:ER ρ nt env a.tmps)(h:run (fH env x k) σ K=true):
 ∃av a9,a9.h=σ.h/\SI a9/\run (k av) a9 K=true/\VR ρ av (a.eval x):=by
 cases x with
 |tmp t=>
  obtain⟨av,h1,h2⟩:=uo (k:=k) h
  obtain⟨v,hv,hr⟩:=hE.val t av h1
  refine⟨av,σ,rfl,hS,h2, ?_⟩
  show VR ρ av (a.tmps.getD t undef)
  rw[aaW,hv];exact hr
 |const v=>
  obtain⟨av,h1,h2⟩:=ce (k:=k) h
  exact⟨av,σ,rfl,hS,h2,Kx ρ _ _ _ h1⟩
 |func f=>exact⟨_,σ,rfl,hS,h,.func _ _ _ _ _ rfl rfl (by simp) (by simp) rfl⟩
 |global g=>
  obtain⟨c9,h⟩:=ay h
  have c9:=bU c9
  obtain⟨x,a9,h1,h2,h3,h4⟩:=bE hS h
  cases x with
  |cells c gen lo hi fl fh ro ty=>
   obtain⟨h5,h6⟩:=ay h4
   subst h5
   obtain⟨hm,q1,_,q2,_⟩:=(hG.blk _ _ h1).2 0 (aaq _)
   obtain⟨e1,e2⟩:=q2 rfl c9
   refine⟨_,a9,h2,h3,h6, ?_⟩
   have:=VR.ptr (ρ:=ρ) g 0 0 hm q1 (by omega)
   rw[e1] at this
   show VR ρ _ (.pointer (some ⟨g,0,none⟩))
   simpa using this
  |tab ty l=>
   refine⟨_,a9,h2,h3,h4, ?_⟩
   obtain⟨_,hf⟩:=hG.blk _ _ h1
   show VR ρ _ (.pointer (some ⟨g,0,none⟩))
   refine .cptr (ni l) g 0 _ _ hf (by simp [ni]) λj a v ha hv=>?_
   unfold ni at ha
   rw[aaO] at ha
   cases e:l[j]? with
   |none=>rw[e] at ha;cases ha
   |some n=>
    rw[e] at ha
    injection ha with ha
    subst ha
    simp [e] at hv
    subst hv
    exact .int _ _
  |_=>exact(ah h4).elim
def xh:∀{l:List Operand} {k:List AV->Tr} {σ:St},SI σ->Good w0 ρ σ.h w->ER ρ nt env a.tmps->run (nj env l k) σ K=true->
 ∃av a9,a9.h=σ.h/\SI a9/\run (k av) a9 K=true/\LR ρ av (l.map a.eval):=by
 intro l
 induction l with
 |nil=>intro k σ hS hG hE h;exact⟨[],σ,rfl,hS,h,LR.nil ρ⟩
 |cons x l ih=>
  intro k σ hS hG hE h
  obtain⟨v,b7,e1,b6,h1,r1⟩:=uR (k:=λa=>nj env l λl=>k (a::l)) hS hG hE h
  obtain⟨vs,d8,e2,f9,h2,r2⟩:=ih b6 (by rw[e1];exact hG) hE h1
  exact⟨v::vs,d8,e2.trans e1,f9,h2,LR.cons r1 r2⟩
def OR(ρ:Rho):Option AV->Option Value->Prop
 |none,none=>True
 |some a,some v=>VR ρ a v
 |_,_=>False
def C3{x:Option Operand}{k:Option AV->Tr}(hS:SI σ)(hG:Good w0 ρ σ.h w)(hE:ER ρ nt env a.tmps)(h:run (Ij env x k) σ K=true):
 ∃av a9,a9.h=σ.h/\SI a9/\run (k av) a9 K=true/\OR ρ av (x.map a.eval):=by
 cases x with
 |none=>exact⟨none,σ,rfl,hS,h,trivial⟩
 |some x=>
  obtain⟨v,b7,e1,b6,h1,r1⟩:=uR (k:=λa=>k (some a)) hS hG hE h
  exact⟨some v,b7,e1,b6,h1,r1⟩
def rK:∀{l:List (Nat×Operand)} {k:List (Nat×AV)->Tr} {σ:St},SI σ->Good w0 ρ σ.h w->ER ρ nt env a.tmps->run (iJ env l k) σ K=true->
 ∃av a9,a9.h=σ.h/\SI a9/\run (k av) a9 K=true/\av.map (·.1)=l.map (·.1)/\LR ρ (av.map (·.2)) (l.map λx=>a.eval x.2):=by
 intro l
 induction l with
 |nil=>intro k σ hS hG hE h;exact⟨[],σ,rfl,hS,h,rfl,LR.nil ρ⟩
 |cons x l ih=>
  intro k σ hS hG hE h
  obtain⟨v,b7,e1,b6,h1,r1⟩:=uR (k:=λa=>iJ env l λl=>k ((x.1,a)::l)) hS hG hE h
  obtain⟨vs,d8,e2,f9,h2,r2,r3⟩:=ih b6 (by rw[e1];exact hG) hE h1
  exact⟨(x.1,v)::vs,d8,e2.trans e1,f9,h2,by simp [r2],LR.cons r1 r3⟩
end
end Go.Sym
namespace Go.Sym
def oY(n:Int):IntKind.wrap .u64 n=n%18446744073709551616:=by unfold IntKind.wrap;simp only [IntKind.signed,Bool.false_and,Bool.false_eq_true,if_false,IntKind.bits];rfl
def jV{j:IntKind}{n:Int}{f:Int->Tr}{σ:St}{K:Fin}(h:run (gV j n f) σ K=true):run (f (j.wrap n)) σ K=true:=by
 unfold gV at h;split at h
 ·rename_i a;rcases bT h with⟨hb,h⟩|⟨_,h⟩
  ·have hb:=bU hb;have h:=ke h;have e:IntKind.wrap .i64 (Int.ofNat a)=Int.ofNat a:=IntWalk.i64_in _ (by rw[aa2];omega);rw[e];exact h
  ·exact ZC h
 ·rename_i a;have h:=ke h;have e:IntKind.wrap .u64 (Int.ofNat a)=Int.ofNat (a%18446744073709551616):=by rw[oY,aa2,aa2];omega
  rw[e];exact h
 ·rename_i a;have h:=ke h;have e:IntKind.wrap .u32 (Int.ofNat a)=Int.ofNat (a%4294967296):=by rw[IntKind.wrap_u32,aa2,aa2];omega
  rw[e];exact h
 ·rename_i a;have h:=ke h;have e:IntKind.wrap .u8 (Int.ofNat a)=Int.ofNat (a%256):=by rw[IntKind.wrap_u8,aa2,aa2];omega
  rw[e];exact h
 ·rename_i a;have h:=ke h;have e:IntKind.wrap .u64 (Int.negSucc a)=Int.ofNat (18446744073709551615-a%18446744073709551616):=by rw[oY,Int.negSucc_eq,aa2];omega
  rw[e];exact h
 ·rename_i a;have h:=ke h;have e:IntKind.wrap .u32 (Int.negSucc a)=Int.ofNat (4294967295-a%4294967296):=by rw[IntKind.wrap_u32,Int.negSucc_eq,aa2];omega
  rw[e];exact h
 ·rename_i a;have h:=ke h;have e:IntKind.wrap .u8 (Int.negSucc a)=Int.ofNat (255-a%256):=by rw[IntKind.wrap_u8,Int.negSucc_eq,aa2];omega
  rw[e];exact h
 ·rename_i a;rcases bT h with⟨hb,h⟩|⟨_,h⟩
  ·have hb:=bU hb;have h:=ke h;have e:IntKind.wrap .i64 (Int.negSucc a)=Int.negSucc a:=IntWalk.i64_in _ (by rw[Int.negSucc_eq];omega);rw[e];exact h
  ·exact ZC h
 ·exact ZC h
def In(n:Int):IntKind.wrap .u16 n=n%65536:=by unfold IntKind.wrap;simp only [IntKind.signed,Bool.false_and,Bool.false_eq_true,if_false,IntKind.bits];rfl
def jo{j:IntKind}{n:Int}{f:Int->Tr}{σ:St}{K:Fin}(h:run (lS j n f) σ K=true):run (f (j.wrap n)) σ K=true:=by
 cases j with
 |u8=>rw[IntKind.wrap_u8];exact h
 |u16=>rw[In];exact h
 |u32=>rw[IntKind.wrap_u32];exact h
 |u64=>rw[oY];exact h
 |i64=>
  rcases dw h with⟨hp,h⟩|⟨hp,h⟩
  ·rw[IntWalk.i64_in _ hp];exact h
  ·exact h
 |_=>exact h
def rL(k:IntKind):am k=2 ^ k.bits:=by cases k <;> rfl
def oZ(k:IntKind):bh k=k.bits:=by cases k <;> rfl
def rM(k:IntKind)(n:Int):aE (am k) n=(BitVec.ofInt k.bits n).toNat:=by
 rw[BitVec.toNat_ofInt,rL]
 cases n with
 |ofNat a=>show a%2 ^ k.bits=((a:Int)%((2 ^ k.bits:Nat):Int)).toNat;rw[←Int.natCast_emod];rfl
 |negSucc a=>show 2 ^ k.bits-1-a%2 ^ k.bits=_;have hp:0<2 ^ k.bits:=aaP _;rw[Int.negSucc_emod _ (by exact_mod_cast hp), ←Int.natCast_emod];have:a%2 ^ k.bits<2 ^ k.bits:=Nat.mod_lt _ hp;generalize a%2 ^ k.bits=r at *;generalize 2 ^ k.bits=m at *;omega
def fx(P:Program)(w:World)(j:IntKind)(x y:Int):
 ((Op.intBits .and j x y).run P w= .ok (.int j (j.wrap (Int.ofNat (Nat.land (aE (am j) x) (aE (am j) y))))) w)/\
 ((Op.intBits .or j x y).run P w= .ok (.int j (j.wrap (Int.ofNat (Nat.lor (aE (am j) x) (aE (am j) y))))) w)/\
 ((Op.intBits .xor j x y).run P w= .ok (.int j (j.wrap (Int.ofNat (Nat.xor (aE (am j) x) (aE (am j) y))))) w)/\
 ((Op.intBits .andNot j x y).run P w= .ok (.int j (j.wrap (Int.ofNat (Nat.land (aE (am j) x) (Nat.sub (Nat.sub (am j) 1) (aE (am j) y)))))) w):=by
 refine⟨?_, ?_, ?_, ?_⟩
 ·simp only [Op.intBits,aaf,rM,BitVec.toNat_and];rfl
 ·simp only [Op.intBits,aaf,rM,BitVec.toNat_or];rfl
 ·simp only [Op.intBits,aaf,rM,BitVec.toNat_xor];rfl
 ·have e:Nat.sub (Nat.sub (am j) 1) (aE (am j) y)=(~~~ (BitVec.ofInt j.bits y)).toNat:=by rw[BitVec.toNat_not,rM,rL];rfl
  rw[e];simp only [Op.intBits,aaf,rM,BitVec.toNat_and];rfl
section
variable{P:Program}{w0:World}{ρ:Rho}{w:World}{σ:St}{K:Fin}{k:AV->Tr}
def uS{b:Bool}(h:run (nk b k) σ K=true):run (k (.bool b)) σ K=true:=by rcases bT h with⟨e,h⟩|⟨e,h⟩ <;> subst e <;> exact h
def o_{op:BinOp}{j:IntKind}{x y:Int}(hS:SI σ)(hG:Good w0 ρ σ.h w)(h:run (Wn op x y (λb=>nk b k) .fail) σ K=true):
 Res P w0 ρ w k K (Op.intCmp op x y):=by
 have key:∀b,(Op.intCmp op x y).run P w= .ok (.bool b) w->run (nk b k) σ K=true->Res P w0 ρ w k K (Op.intCmp op x y):=
  λb hb hr=>.plain (uS hr) hS hG (.bool b) hb
 unfold Wn at h
 split at h
 ·rename_i a b;cases op <;> first
   |exact(ah h).elim
   |exact key _ (by simp only [Op.intCmp,aaf];congr 2;rw[Bool.eq_iff_iff];simp [ar];omega) h
   |exact key _ (by simp only [Op.intCmp,aaf];congr 2;rw[Bool.eq_iff_iff];simp) h
   |exact key _ (by simp only [Op.intCmp,aaf];congr 2;rw[Bool.eq_iff_iff];simp [ar]) h
 ·cases op <;> first
   |exact(ah h).elim
   |exact key _ (by simp only [Op.intCmp,aaf]) h
def uT{n:Int}(h:isZ n=false):n≠0:=by intro e;subst e;cases h
def mo(op:BinOp)(j:IntKind)(x y:Int):Sem Value:=match op with | .add | .sub | .mul=>Op.intArith op j x y | .quo | .rem=>Op.intDiv op j x y | .and | .or | .xor | .andNot=>Op.intBits op j x y|_=>Op.intCmp op x y
def Io{op:BinOp}{j:IntKind}{x y:Int}(hS:SI σ)(hG:Good w0 ρ σ.h w)(hop:op≠ .shl/\op≠ .shr)(h:run (EO op j x y k) σ K=true):
 Res P w0 ρ w k K (mo op j x y):=by
 obtain⟨b1,b2,b3,b4⟩:=fx P w j x y
 cases op
 case add=>exact .plain (jV h) hS hG (.int _ _) rfl
 case sub=>exact .plain (jV h) hS hG (.int _ _) rfl
 case mul=>exact .plain (jV h) hS hG (.int _ _) rfl
 case quo=>
  obtain⟨h1,h2⟩:=rJ h
  exact .plain (jV h2) hS hG (.int _ _) (by show(Op.intDiv .quo j x y).run P w=_;simp only [Op.intDiv,if_neg (uT h1)];rfl)
 case rem=>
  obtain⟨h1,h2⟩:=rJ h
  exact .plain (ZC h2) hS hG (.int _ _) (by show(Op.intDiv .rem j x y).run P w=_;simp only [Op.intDiv,if_neg (uT h1)];rfl)
 case and=>exact .plain (jV h) hS hG (.int _ _) b1
 case or=>exact .plain (jV h) hS hG (.int _ _) b2
 case xor=>exact .plain (jV h) hS hG (.int _ _) b3
 case andNot=>exact .plain (jV h) hS hG (.int _ _) b4
 case shl=>exact absurd rfl hop.1
 case shr=>exact absurd rfl hop.2
 case eql=>exact o_ (op:=.eql) (j:=j) hS hG h
 case neq=>exact o_ (op:=.neq) (j:=j) hS hG h
 case lss=>exact o_ (op:=.lss) (j:=j) hS hG h
 case leq=>exact o_ (op:=.leq) (j:=j) hS hG h
 case gtr=>exact o_ (op:=.gtr) (j:=j) hS hG h
 case geq=>exact o_ (op:=.geq) (j:=j) hS hG h
def Fa(a b:Nat):mi a b=min a b:=by
 unfold mi;rw[ar];by_cases h:a<=b
 ·rw[if_pos (Nat.ble_eq.mpr h)];omega
 ·rw[if_neg (λe=>h (bU e))];omega
def zV{op:BinOp}{j jj:IntKind}{x y:Int}(hS:SI σ)(hG:Good w0 ρ σ.h w)(h:run (Kz op j x y k) σ K=true):
 Res P w0 ρ w k K (Op.shift op j x jj y):=by
 obtain⟨n,rfl,h⟩:=La h
 have e:min ((n:Int).toNat) j.bits=mi n (bh j):=by rw[Fa,oZ];rfl
 cases op
 case shl=>
  refine .plain (jV h) hS hG (.int _ _) ?_
  simp only [Op.shift,if_neg (show ¬(n:Int)<0 by omega),e,aaf]
  congr 2
 case shr=>
  have e2:(Op.shift .shr j x jj (n:Int)).run P w= .ok (.int j (x.fdiv (((2 ^ mi n (bh j):Nat):Int)))) w:=by simp only [Op.shift,if_neg (show ¬(n:Int)<0 by omega),e,aaf];rw[Int.natCast_pow];rfl
  cases x with
  |ofNat a=>
   have h:run (fN (Nat.div a (Nat.pow 2 (mi n (bh j)))) λn=>k (.int j (.ofNat n))) σ K=true:=h
   refine .plain (ke h) hS hG (.int _ _) ?_
   rw[e2]
   congr 2
   show(Int.ofNat a).fdiv (Int.ofNat (2 ^ mi n (bh j)))=Int.ofNat (a/2 ^ mi n (bh j))
   cases a with
   |zero=>rw[Nat.zero_div];rfl
   |succ a=>rfl
  |negSucc a=>
   have h:run (fI ((Int.negSucc a).fdiv (.ofNat (Nat.pow 2 (mi n (bh j))))) λn=>k (.int j n)) σ K=true:=h
   exact .plain (ZC h) hS hG (.int _ _) e2
 all_goals exact(ah h).elim
def xi:∀(x y:List Nat),Ik x y=true↔x=y:=by
 intro x
 induction x with
 |nil=>intro y;cases y <;> simp [Ik]
 |cons a x ih=>
  intro y
  cases y with
  |nil=>simp [Ik]
  |cons b y=>simp only [Ik,ar];by_cases e:a=b <;> simp [e,ih]
def gX{s t:ByteArray}(h:bytesOf s=bytesOf t):s=t:=by have:s.data.toList=t.data.toList:=List.map_inj_right (λa b e=>UInt8.toNat_inj.mp e) |>.mp h;cases s;cases t;simp at this;simp [this]
def lz(s t:ByteArray):Ik (bytesOf s) (bytesOf t)=(s.toList==t.toList):=by
 rw[Bool.eq_iff_iff,xi];constructor
 ·intro h;rw[gX h];simp
 ·intro h;have h:s.toList=t.toList:=by simpa using h
  rw[ByteArray.toList_eq,ByteArray.toList_eq] at h;unfold bytesOf;rw[h]
def Wt{l:List Nat}{k:List Nat->Tr}(h:run (CP l k) σ K=true):run (k l) σ K=true:=by
 induction l generalizing k with
 |nil=>exact h
 |cons a l ih=>have h:run (fN a λa=>CP l λl=>k (a::l)) σ K=true:=h;exact ih (ke h)
def gY{l:List AV}{k:List AV->Tr}(h:run (ir l k) σ K=true):run (k l) σ K=true:=by
 induction l generalizing k with
 |nil=>exact h
 |cons a l ih=>exact ih h
end
end Go.Sym
namespace Go.Sym
def LR.drop{ρ:Rho}{l:List AV}{vs:List Value}(h:LR ρ l vs)(n:Nat):LR ρ (l.drop n) (vs.drop n):=
 ⟨by simp [h.1],λi a v ha hv=>h.2 (n+i) a v (by simpa using ha) (by simpa using hv)⟩
def LR.take{ρ:Rho}{l:List AV}{vs:List Value}(h:LR ρ l vs)(n:Nat):LR ρ (l.take n) (vs.take n):=by
 refine⟨by simp [h.1],λi a v ha hv=>?_⟩;rw[aa3] at ha hv;split at ha
 ·rename_i hi;rw[if_pos hi] at hv;exact h.2 i a v ha hv
 ·cases ha
section
variable{P:Program}{w0:World}{ρ:Rho}{w:World}{σ:St}{K:Fin}{k:AV->Tr}
def cL{t:TypeId}{k:TypeDesc->Tr}(h:run (cx P t k) σ K=true):∃d,P.underlying t=some d/\run (k d) σ K=true:=ce h
def ZE{t:TypeId}{k:TypeInfo->Tr}(h:run (Ut P t k) σ K=true):∃i,P.info? t=some i/\run (k i) σ K=true:=ce h
def cG{t:TypeId}{k:Nat->Tr}(h:run (cA P t k) σ K=true):∃i,P.info? t=some i/\run (k i.size) σ K=true:=by obtain⟨i,h1,h2⟩:=ce (k:=λi:TypeInfo=>fN i.size k) h;exact⟨i,h1,ke h2⟩
def cC{t:TypeId}{d:TypeDesc}(h:P.underlying t=some d):(isAgg t).run P w= .ok (cB d) w:=by simp only [isAgg,aad,run_underlying h,aaj];cases d <;> rfl
def aB{t:TypeId}{i:TypeInfo}(h:P.info? t=some i):(sizeOf t).run P w= .ok i.size w:=by simp [sizeOf,typeInfo,aad,run_program,h]
def kI{t:TypeId}{d:TypeDesc}{i:TypeInfo}(hu:P.underlying t=some d)(hi:P.info? t=some i){l:List AV}{cs:Array Value}{off:Nat}{a:AV}(hl:LR ρ l cs.toList)(ha:(if cB d then some (AV.agg ((l.drop off).take i.size)) else l[off]?)=some a):∃v,(part t cs off).run P w= .ok v w/\VR ρ a v:=by
 cases hd:cB d with
 |true=>
  rw[hd,if_pos rfl] at ha
  injection ha with ha;subst ha
  refine⟨.agg (cs.extract off (off+i.size)), ?_, ?_⟩
  ·simp only [part,aad,cC hu,hd,aaj,if_true,aB hi,aaf]
  ·have:(cs.extract off (off+i.size)).toList=(cs.toList.drop off).take i.size:=by rw[Array.toList_extract];simp [List.extract]
   obtain⟨h1,h2⟩:=LR.arr (ρ:=ρ) (l:=(l.drop off).take i.size) (cs:=cs.extract off (off+i.size)) (by rw[this];exact(hl.drop off).take i.size);exact .agg _ _ h1 h2
 |false=>
  rw[hd,if_neg (by simp)] at ha
  obtain⟨v,hv,hr⟩:=hl.get ha
  refine⟨v, ?_,hr⟩
  have hv':cs[off]? =some v:=by simpa using hv
  simp only [part,aad,cC hu,hd,aaj,Bool.false_eq_true,if_false,hv',aaf]
set_option maxHeartbeats 2000000 in
theorem nv:∀(f:Nat) (g:Nat) (t:TypeId) (d:TypeDesc) (x y:AV) (v u:Value) (r:Bool) (D:Nat),P.underlying t=some d->(cB d=true->gt P g t=true)->
 VR ρ x v->VR ρ y u->fM P f d x y=some r->f<=D->(Op.equalIn D t v u).run P w= .ok r w:=by
 intro f
 induction f with
 |zero=>intro g t d x y v u r D _ _ _ _ h;simp [fM] at h
 |succ f ih=>
  intro g t d x y v u r D hu hc hx hy h hD
  obtain⟨D,rfl⟩:∃D',D=D'+1:=⟨D-1,by omega⟩
  unfold fM at h
  split at h
  ·cases hx;cases hy;injection h with h;subst h;simp [Op.equalIn,run_underlying hu]
  ·cases hx;cases hy;split at h
   ·rename_i e;subst e;injection h with h;subst h;simp [Op.equalIn,run_underlying hu]
   ·cases h
  ·cases hx;cases hy;injection h with h;subst h;rw[lz, ←beq_toListBytes];simp [Op.equalIn,run_underlying hu]
  all_goals first
   |(cases hx <;> cases hy <;> (injection h with h;subst h;simp [Op.equalIn,run_underlying hu];done))
   |skip
  ·rename_i len e xs ys;split at h
   ·rename_i i d' hi he;split at h
    ·rename_i hc'
     simp only [Bool.and_eq_true,beq_iff_eq,Bool.not_eq_true',decide_eq_true_eq] at hc'
     obtain⟨⟨⟨hs1,hna⟩,hlx⟩,hly⟩:=hc'
     cases hx with
     |agg _ cs h1 h2=>
      cases hy with
      |agg _ ds k1 k2=>
       rw[run_equalIn_array w D cs ds hu hi];have T':P.cellsOf e=1:=by simp [Program.cellsOf,hi,hs1]
       rw[T'];have lx:=LR.of_arr h1 h2;have ly:=LR.of_arr k1 k2;have key:∀(n i0:Nat) (xs' ys':List AV) (r:Bool),LR ρ xs' (cs.toList.drop i0)->LR ρ ys' (ds.toList.drop i0)->xs'.length=n->ys'.length=n->fM.eqArr (fM P f d') xs' ys'=some r->
        (Op.eqItems D e 1 cs ds (List.range' i0 n)).run P w= .ok r w:=by
        intro n
        induction n with
        |zero=>
         intro i0 xs' ys' r lx ly l1 l2 h
         rw[List.length_eq_zero_iff] at l1 l2;subst l1;subst l2
         simp only [fM.eqArr] at h;injection h with h;subst h
         simp [Op.eqItems]
        |succ n ihn=>
         intro i0 xs' ys' r lx ly l1 l2 h
         cases xs' with
         |nil=>simp at l1
         |cons a xs'=>
          cases ys' with
          |nil=>simp at l2
          |cons b ys'=>
           obtain⟨v1,vs1,e1,r1,lx'⟩:=lx.cons_inv
           obtain⟨u1,us1,e2,r2,ly'⟩:=ly.cons_inv
           have Jx:cs[i0]? =some v1:=by have:=congrArg (·[0]?) e1;simpa using this
           have hu1:ds[i0]? =some u1:=by have:=congrArg (·[0]?) e2;simpa using this
           have lx2:LR ρ xs' (cs.toList.drop (i0+1)):=by
            have:cs.toList.drop (i0+1)=vs1:=by rw[←aa5,Nat.add_comm] at *;have:=congrArg (List.drop 1) e1;simpa [aa5,Nat.add_comm] using this
            rw[this];exact lx'
           have ly2:LR ρ ys' (ds.toList.drop (i0+1)):=by
            have:ds.toList.drop (i0+1)=us1:=by have:=congrArg (List.drop 1) e2;simpa [aa5,Nat.add_comm] using this
            rw[this];exact ly'
           have p1:(part e cs (i0 * 1)).run P w= .ok v1 w:=by simp only [aaJ,part,aad,cC he,hna,aaj,Bool.false_eq_true,if_false,Jx,aaf]
           have p2:(part e ds (i0 * 1)).run P w= .ok u1 w:=by simp only [aaJ,part,aad,cC he,hna,aaj,Bool.false_eq_true,if_false,hu1,aaf]
           simp only [fM.eqArr] at h
           simp only [List.range'_succ,Op.eqItems,aad,p1,p2,aaj]
           split at h
           ·rename_i hq;rw[ih g e d' a b v1 u1 true D he (by rw[hna];intro c;cases c) r1 r2 hq (by omega)];simp only [aaj,Bool.not_true,Bool.false_eq_true,if_false];exact ihn (i0+1) xs' ys' r lx2 ly2 (by simpa using l1) (by simpa using l2) h
           ·rename_i hq
            cases r with
            |true=>exact absurd h hq
            |false=>rw[ih g e d' a b v1 u1 false D he (by rw[hna];intro c;cases c) r1 r2 h (by omega)];simp
       rw[List.range_eq_range'];exact key len 0 xs ys r (by simpa using lx) (by simpa using ly) hlx hly h
    ·cases h
   ·cases h
  ·rename_i fs xs ys
   cases hx with
   |agg _ cs h1 h2=>
    cases hy with
    |agg _ ds k1 k2=>
     have ag3:=hc rfl;obtain⟨g,rfl⟩:∃g',g=g'+1:=by
      cases g with
      |zero=>simp [gt] at ag3
      |succ g=>exact⟨g,rfl⟩
     simp only [gt,hu,Bool.and_eq_true,Bool.not_eq_true',abk] at ag3;have hfs:P.fieldsOf t=fs:=by simp [Program.fieldsOf,hu]
     rw[run_equalIn_struct w D t cs ds (by rw[hfs];exact hu) ag3.1,hfs];have lx:=LR.of_arr h1 h2;have ly:=LR.of_arr k1 k2;have key:∀(l:List Field) (r:Bool),(∀fd∈l,gt P g fd.type=true)->fM.eqFs P (fM P f) l xs ys=some r->(Op.eqFields D cs ds l).run P w= .ok r w:=by
      intro l
      induction l with
      |nil=>intro r _ h;simp only [fM.eqFs] at h;injection h with h;subst h;simp [Op.eqFields]
      |cons fd l ihl=>
       intro r hl h;simp only [fM.eqFs] at h;simp only [Op.eqFields];by_cases hn:fd.name= "_"
       ·rw[if_pos hn] at h;rw[if_neg (by simp [hn])];exact ihl r (λx hx=>hl x (by simp [hx])) h
       ·rw[if_neg hn] at h;rw[if_pos hn];split at h
        ·rename_i i d' hi he;split at h
         ·rename_i a b ha hb;obtain⟨v1,p1,r1⟩:=kI (w:=w) he hi lx ha;obtain⟨u1,p2,r2⟩:=kI (w:=w) he hi ly hb;simp only [aad,p1,p2,aaj];split at h
          ·rename_i hq;rw[ih g fd.type d' a b v1 u1 true D he (λ_=>hl fd (by simp)) r1 r2 hq (by omega)];simp only [aaj,Bool.not_true,Bool.false_eq_true,if_false];exact ihl r (λx hx=>hl x (by simp [hx])) h
          ·rename_i hq
           cases r with
           |true=>exact absurd h hq
           |false=>rw[ih g fd.type d' a b v1 u1 false D he (λ_=>hl fd (by simp)) r1 r2 h (by omega)];simp
         ·cases h
        ·cases h
     exact key fs.toList r (λfd hfd=>ag3.2 fd hfd) h
  ·cases h
end
end Go.Sym
namespace Go.Sym
section
variable{P:Program}{w0:World}{ρ:Rho}{w:World}{σ:St}{K:Fin}{k:AV->Tr}
def pc:Value->Value->Bool
 | .int _ _,.int _ _ | .float _ _,.float _ _ | .complex _ _ _,.complex _ _ _ | .string _,.string _=>false
 |_,_=>true
def iL{t:TypeId}{v u:Value}(h:pc v u=true):binOp .eql t v u=(do pure (.bool (←Op.equal t v u))):=by cases v <;> cases u <;> first|rfl|cases h
def iM{t:TypeId}{v u:Value}(h:pc v u=true):binOp .neq t v u=(do pure (.bool (!(←Op.equal t v u)))):=by cases v <;> cases u <;> first|rfl|cases h
def bn:AV->Nat
 | .int _ _=>1 | .str _=>2 | .opq _=>3 | .anyB=>3 | .anyI _=>3 | .osl _=>3 | .opc _=>3 | .sI _ _=>3 | .sB _=>3 | .sS _=>3 | .any1=>3 | .cptr _=>3 | .cv _=>3 | .gsl .. =>3 | .gptr .. =>3 | .agg _=>4 | .nili=>5|_=>0
def nw{x y:AV}{v u:Value}(hx:VR ρ x v)(hy:VR ρ y u)(h1:bn x≠3)(h2:bn y≠3)(hi:¬(bn x=1/\bn y=1))(hs:¬(bn x=2/\bn y=2)):pc v u=true:=by cases hx <;> simp [bn] at h1 <;> cases hy <;> simp [bn] at h2 hi hs <;> rfl
def Wu:Value->Value->Bool
 | .nilIface,.nilIface | .agg _,.agg _=>false
 |_,_=>true
def bK{op:BinOp}{t:TypeId}{ox oy:Operand}{v u:Value}(h:Wu v u=true):(eqGuard op t ox oy v u).run P w= .ok () w:=by cases op <;> first|rfl|(cases v <;> cases u <;> first|rfl|cases h)
def lV{op:BinOp}{t:TypeId}{ox oy:Operand}{x y:AV}{v u:Value}(hx:VR ρ x v)(hy:VR ρ y u)(h1:bn x≠3)(h2:bn y≠3)(hn:¬(bn x=5/\bn y=5)∨pR ox=true∨pR oy=true)(ha:¬(bn x=4/\bn y=4)):
 (eqGuard op t ox oy v u).run P w= .ok () w:=by
 rcases hn with hn|hn
 ·refine bK ?_;cases hx <;> simp [bn] at h1 <;> cases hy <;> simp [bn] at h2 hn ha <;> rfl
 ·by_cases h5:bn x=5/\bn y=5
  ·have e1:x= .nili:=by cases x <;> first|rfl|(simp [bn] at h5)
   have e2:y= .nili:=by cases y <;> first|rfl|(simp [bn] at h5)
   subst e1;subst e2;cases hx;cases hy;rcases hn with hn|hn
   ·cases ox <;> first|(cases hn;done)|skip
    cases op <;> first|rfl|(simp [eqGuard];done)
   ·cases oy <;> first|(cases hn;done)|skip
    cases op <;> first|rfl|(simp [eqGuard];done)
  ·refine bK ?_;cases hx <;> simp [bn] at h1 <;> cases hy <;> simp [bn] at h2 h5 ha <;> rfl
def gZ{op:BinOp}{t:TypeId}{ox oy:Operand}{xs ys:Array Value}(h:P.eqGuardType P.depth t=false):(eqGuard op t ox oy (.agg xs) (.agg ys)).run P w= .ok () w:=
 run_eqGuard_agg w op t ox oy xs ys h
def uU:∀(x y:List UInt8),mV (x.map UInt8.toNat) (y.map UInt8.toNat)=Op.bytesLess x y:=by
 intro x
 induction x with
 |nil=>intro y;cases y <;> simp [mV,Op.bytesLess]
 |cons a x ih=>
  intro y
  cases y with
  |nil=>simp [mV,Op.bytesLess]
  |cons b y=>
   simp only [aax,mV,Op.bytesLess,ar,ih];rw[Bool.eq_iff_iff];by_cases h1:a.toNat<b.toNat
   ·have:a<b:=UInt8.lt_iff_toNat_lt.mpr h1;simp [Nat.ble_eq,this];left;omega
   ·have h1':¬a<b:=λh=>h1 (UInt8.lt_iff_toNat_lt.mp h);by_cases h2:a=b
    ·subst h2;simp;intro h;omega
    ·have:a.toNat≠b.toNat:=λh=>h2 (UInt8.toNat_inj.mp h);have hb:Nat.beq a.toNat b.toNat=false:=by
      cases hb:Nat.beq a.toNat b.toNat with
      |false=>rfl
      |true=>exact absurd (aM hb) this
     have hc:Nat.ble (Nat.succ a.toNat) b.toNat=false:=by
      cases hb:Nat.ble (Nat.succ a.toNat) b.toNat with
      |false=>rfl
      |true=>exact absurd (bU hb) (by omega)
     simp [hb,hc,h1',h2]
def rN(s t:ByteArray):bytesOf (s++t)=bytesOf s++bytesOf t:=by simp [bytesOf,ByteArray.data_append]
def bV(s:ByteArray):(bytesOf s).length=s.size:=by simp [bytesOf]
def Ip{op:BinOp}{s t:ByteArray}(hS:SI σ)(hG:Good w0 ρ σ.h w)(h:run (EP op (bytesOf s) (bytesOf t) k) σ K=true):
 Res P w0 ρ w k K (Op.stringOp op s t):=by
 have heq:=lz s t
 cases op
 case eql=>
  refine .plain (uS h) hS hG (.bool _) ?_
  rw[heq];rfl
 all_goals exact(ah h).elim
def fV{op:BinOp}{j:IntKind}{a b:Int}(hop:op≠ .shl/\op≠ .shr){t:TypeId}:
 binOp op t (.int j a) (.int j b)=mo op j a b:=by
 cases op <;> first|exact absurd rfl hop.1|exact absurd rfl hop.2|(simp only [binOp];rw[if_neg (by simp)];rfl)
def qJ{x:AV}(h:bn x=4):∃l,x= .agg l:=by cases x <;> first|exact⟨_,rfl⟩|(simp [bn] at h)
def qK{x:AV}(h:bn x=1):∃j n,x= .int j n:=by cases x <;> first|exact⟨_,_,rfl⟩|(simp [bn] at h)
def qL{x:AV}(h:bn x=2):∃l,x= .str l:=by cases x <;> first|exact⟨_,rfl⟩|(simp [bn] at h)
def lW{lit:Bool}{x y:AV}(h:wV lit x y=true):bn x≠3/\bn y≠3/\(¬(bn x=5/\bn y=5)∨lit=true):=by cases x <;> cases y <;> first|(cases h;done)|(refine⟨?_, ?_,.inl ?_⟩ <;> simp [bn] <;> done)|exact⟨by simp [bn],by simp [bn],.inr h⟩
def Fb{f:Nat}{d:TypeDesc}{x y:AV}{r:Bool}(hd:cB d=true)(h:fM P f d x y=some r):∃a b,x= .agg a/\y= .agg b:=by
 cases f with
 |zero=>simp [fM] at h
 |succ f=>unfold fM at h;split at h <;> first|(cases hd;done)|exact⟨_,_,rfl,rfl⟩|(cases h;done)
def Wv{op:BinOp}{t:TypeId}{ox oy:Operand}{j j':IntKind}{n m:Int}(hS:SI σ)(hG:Good w0 ρ σ.h w)(h:run (ac (decide (j=j')) (ac (ET op) (k .anyB) .fail) .fail) σ K=true):
 Res P w0 ρ w k K (do eqGuard op t ox oy (.int j n) (.int j' m);binOp op t (.int j n) (.int j' m)):=by
 obtain⟨hj,h2⟩:=ay h
 obtain⟨ab7,h3⟩:=ay h2
 have hj2:=of_decide_eq_true hj
 clear h h2 hj
 subst hj2
 have hop:op≠ .shl/\op≠ .shr:=by cases op <;> first|(simp [ET] at ab7;done)|exact⟨by simp,by simp⟩
 obtain⟨b,hb⟩:∃b:Bool,(mo op j n m).run P w= .ok (.bool b) w:=by cases op <;> first|(simp [ET] at ab7;done)|exact⟨_,rfl⟩
 refine(Res.plain h3 hS hG (.anyB b) hb).of_eq ?_
 rw[aad,bK rfl,fV hop];rfl
def bo{x:AV}{v:Value}{j:IntKind}{n:Int}(hx:VR ρ x v)(h:cw x=some (j,n)):v= .int j n:=by
 cases hx <;> simp [cw] at h
 ·obtain⟨e1,e2⟩:=h;subst e1;subst e2;rfl
 ·obtain⟨e1,e2⟩:=h;subst e1;subst e2;rfl
def dD{x:AV}{v:Value}{l:List Nat}(hx:VR ρ x v)(h:gp x=some l):∃s,v= .string s/\l=bytesOf s:=by
 cases hx <;> simp [gp] at h
 ·exact⟨_,rfl,h.symm⟩
 ·exact⟨_,rfl,h.symm⟩
def eR{x:AV}{v:Value}{p:Prop}(hx:VR ρ x v)(h:dO x=some p):∃b,v= .bool b/\(b=true↔p):=by
 cases hx <;> simp [dO] at h
 ·exact⟨_,rfl,by rw[←h]⟩
 ·rename_i hb;exact⟨_,rfl,by rw[←h];exact hb⟩
def Iq{op:BinOp}{j:IntKind}{x y:Int}(hS:SI σ)(hG:Good w0 ρ σ.h w)(hop:op≠ .shl/\op≠ .shr)(h:run (KA op j x y k) σ K=true):
 Res P w0 ρ w k K (mo op j x y):=by
 obtain⟨b1,b2,b3,b4⟩:=fx P w j x y
 have cmp:∀(b:Bool) (p:Prop),(b=true↔p)->(mo op j x y).run P w= .ok (.bool b) w->run (k (.sB p)) σ K=true->Res P w0 ρ w k K (mo op j x y):=λb p hb h1 h2=>.plain h2 hS hG (.sB p b hb) h1
 cases op
 case add=>exact .plain (jo (f:=λn=>k (.sI j n)) h) hS hG (.sI _ _) rfl
 case sub=>exact .plain (jo (f:=λn=>k (.sI j n)) h) hS hG (.sI _ _) rfl
 case mul=>exact .plain (jo (f:=λn=>k (.sI j n)) h) hS hG (.sI _ _) rfl
 case quo=>
  obtain⟨h1,h2⟩:=aP h
  have e:(Op.intDiv .quo j x y).run P w= .ok (.int j (j.wrap (x.tdiv y))) w:=by simp only [Op.intDiv,if_neg h1];rfl
  rcases dw h2 with⟨hp,h⟩|⟨_,h⟩
  ·refine .plain (jo (f:=λn=>k (.sI j n)) h) hS hG (.sI _ _) ?_;show(Op.intDiv .quo j x y).run P w=_;rw[e,Int.tdiv_eq_ediv_of_nonneg hp.1]
  ·exact .plain (jo (f:=λn=>k (.sI j n)) h) hS hG (.sI _ _) e
 case rem=>
  obtain⟨h1,h2⟩:=aP h
  have e:(Op.intDiv .rem j x y).run P w= .ok (.int j (x.tmod y)) w:=by simp only [Op.intDiv,if_neg h1];rfl
  rcases dw h2 with⟨hp,h⟩|⟨_,h⟩
  ·refine .plain h hS hG (.sI _ _) ?_;show(Op.intDiv .rem j x y).run P w=_;rw[e,Int.tmod_eq_emod_of_nonneg hp.1]
  ·exact .plain h hS hG (.sI _ _) e
 case and=>exact .plain h hS hG (.sI _ _) b1
 case or=>exact .plain h hS hG (.sI _ _) b2
 case xor=>exact .plain h hS hG (.sI _ _) b3
 case andNot=>exact .plain h hS hG (.sI _ _) b4
 case shl=>exact absurd rfl hop.1
 case shr=>exact absurd rfl hop.2
 case eql=>exact cmp (x==y) _ (by simp) rfl h
 case neq=>exact cmp (x !=y) _ (by simp) rfl h
 case lss=>exact cmp (decide (x<y)) _ (by simp) rfl h
 case leq=>exact cmp (decide (x<=y)) _ (by simp) rfl h
 case gtr=>exact cmp (decide (x > y)) _ (by simp) rfl h
 case geq=>exact cmp (decide (x≥y)) _ (by simp) rfl h
def zW{op:BinOp}{j jj:IntKind}{x y:Int}(hS:SI σ)(hG:Good w0 ρ σ.h w)(h:run (zJ op j x y k) σ K=true):
 Res P w0 ρ w k K (Op.shift op j x jj y):=by
 obtain⟨n,rfl,h2⟩:=La h
 clear h
 have h:=ke h2
 clear h2
 have e:min ((n:Int).toNat) j.bits=mi n (bh j):=by rw[Fa,oZ];rfl
 cases op
 case shl=>
  refine .plain (jo (f:=λn=>k (.sI j n)) h) hS hG (.sI _ _) ?_
  simp only [Op.shift,if_neg (show ¬(n:Int)<0 by omega),e,aaf]
  congr 3
 case shr=>
  refine .plain h hS hG (.sI _ _) ?_
  simp only [Op.shift,if_neg (show ¬(n:Int)<0 by omega),e,aaf]
  congr 2
  show x.fdiv ((2:Int) ^ mi n (bh j))=x/((2 ^ mi n (bh j):Nat):Int)
  rw[Int.natCast_pow]
  exact Int.fdiv_eq_ediv_of_nonneg x (by apply Int.pow_nonneg;decide)
 all_goals exact(ah h).elim
def xj{op:BinOp}{j jj:IntKind}{x y:Int}(hS:SI σ)(hG:Good w0 ρ σ.h w)(h:run (uN op j x y k) σ K=true):
 Res P w0 ρ w k K (Op.shift op j x jj y):=by
 obtain⟨hy,h⟩:=aP h
 have e:j.bits=bh j:=by rw[oZ]
 cases op
 case shl=>
  refine .plain (jo (f:=λn=>k (.sI j n)) h) hS hG (.sI _ _) ?_
  simp only [Op.shift,if_neg (show ¬y<0 by omega),e,aaf]
  rw[Int.natCast_pow];rfl
 case shr=>
  refine .plain h hS hG (.sI _ _) ?_
  simp only [Op.shift,if_neg (show ¬y<0 by omega),e,aaf]
  congr 2
  show x.fdiv ((2:Int) ^ min y.toNat (bh j))=x/((2 ^ min y.toNat (bh j):Nat):Int)
  rw[Int.natCast_pow]
  exact Int.fdiv_eq_ediv_of_nonneg x (by apply Int.pow_nonneg;decide)
 all_goals exact(ah h).elim
def zX:∀(x y:List UInt8),(!(Op.bytesLess x y || x==y))=Op.bytesLess y x:=by
 intro x
 induction x with
 |nil=>intro y;cases y <;> simp [Op.bytesLess]
 |cons a x ih=>
  intro y
  cases y with
  |nil=>simp [Op.bytesLess]
  |cons b y=>
   have:=ih y;rw[Bool.eq_iff_iff] at this⊢;simp only [Op.bytesLess,Bool.not_eq_true',Bool.or_eq_false_iff,decide_eq_false_iff_not,Bool.and_eq_false_iff,Bool.or_eq_true,decide_eq_true_eq,Bool.and_eq_true,beq_iff_eq,List.cons_beq_cons,beq_eq_false_iff_ne] at this⊢;rcases Nat.lt_trichotomy a.toNat b.toNat with h|h|h
   ·have h1:a<b:=UInt8.lt_iff_toNat_lt.mpr h;have h2:¬b<a:=λq=>by have:=UInt8.lt_iff_toNat_lt.mp q;omega
    have h3:b≠a:=λq=>by subst q;omega
    simp [h1,h2,h3]
   ·have h1:a=b:=UInt8.toNat_inj.mp h;subst h1;simpa using this
   ·have h1:b<a:=UInt8.lt_iff_toNat_lt.mpr h;have h2:¬a<b:=λq=>by have:=UInt8.lt_iff_toNat_lt.mp q;omega
    have h3:a≠b:=λq=>by subst q;omega
    simp [h1,h2,h3]
def Ir{op:BinOp}{s t:ByteArray}(hS:SI σ)(hG:Good w0 ρ σ.h w)(h:run (KB op (bytesOf s) (bytesOf t) k) σ K=true):
 Res P w0 ρ w k K (Op.stringOp op s t):=by
 have c9:mV (bytesOf s) (bytesOf t)=Op.bytesLess s.toList t.toList:=by rw[ByteArray.toList_eq,ByteArray.toList_eq];exact uU _ _
 have hgt:mV (bytesOf t) (bytesOf s)=Op.bytesLess t.toList s.toList:=by rw[ByteArray.toList_eq,ByteArray.toList_eq];exact uU _ _
 have heq:=lz s t
 have am_:(s.toList==t.toList)=true↔bytesOf s=bytesOf t:=by rw[←heq,xi]
 cases op
 case add=>
  obtain⟨h1,h2⟩:=aP h
  rw[aai,bV,bV] at h1
  rw[←rN] at h2
  refine .plain h2 hS hG (.sS _) ?_
  have:¬(((s.size+t.size:Nat):Int) > IntKind.i64.max):=by
   have:IntKind.i64.max=9223372036854775807:=by decide
   omega
  simp only [Op.stringOp]
  rw[if_neg this];rfl
 case eql=>exact .plain h hS hG (.sB _ (s.toList==t.toList) am_) rfl
 case neq=>exact .plain h hS hG (.sB _ (!(s.toList==t.toList)) (by rw[Bool.not_eq_true', ←Bool.not_eq_true,am_])) rfl
 case lss=>exact .plain h hS hG (.sB _ (Op.bytesLess s.toList t.toList) (by rw[c9])) rfl
 case gtr=>exact .plain h hS hG (.sB _ (Op.bytesLess t.toList s.toList) (by rw[hgt])) (by simp only [Op.stringOp,aaf];rw[zX])
 case leq=>exact .plain h hS hG (.sB _ (!Op.bytesLess t.toList s.toList) (by rw[hgt];simp)) (by simp only [Op.stringOp,aaf];rw[←zX s.toList t.toList,Bool.not_not])
 case geq=>exact .plain h hS hG (.sB _ (!Op.bytesLess s.toList t.toList) (by rw[c9];simp)) rfl
 all_goals exact(ah h).elim
def Is{op:BinOp}{t:TypeId}{ox oy:Operand}{x y:AV}{v u:Value}(hS:SI σ)(hG:Good w0 ρ σ.h w)(hx:VR ρ x v)(hy:VR ρ y u)(h:run (wT op x y k) σ K=true):
 Res P w0 ρ w k K (do eqGuard op t ox oy v u;binOp op t v u):=by
 have lift:∀(s:Sem Value),(eqGuard op t ox oy v u).run P w= .ok () w->binOp op t v u=s->Res P w0 ρ w k K s->Res P w0 ρ w k K (do eqGuard op t ox oy v u;binOp op t v u):=λs h1 h2 h3=>
  h3.of_eq (by rw[aad,h1,h2];rfl)
 unfold wT at h
 split at h
 ·rename_i j n j' m ea eb;have e1:=bo hx ea;have e2:=bo hy eb;subst e1;subst e2;rcases bT h with⟨hs,h⟩|⟨hs,h⟩
  ·have e0:binOp op t (.int j n) (.int j' m)=Op.shift op j n j' m:=by cases op <;> first|rfl|(cases hs;done)
   rcases bT h with⟨_,h⟩|⟨_,h⟩
   ·exact lift (Op.shift op j n j' m) (bK rfl) e0 (xj (jj:=j') hS hG h)
   ·exact lift (Op.shift op j n j' m) (bK rfl) e0 (zW (jj:=j') hS hG h)
  ·obtain⟨hj,h9⟩:=ay h;have hj:j=j':=of_decide_eq_true hj;subst hj;have hop:op≠ .shl/\op≠ .shr:=by cases op <;> first|(cases hs;done)|exact⟨by simp,by simp⟩
   exact lift _ (bK rfl) (fV hop) (Iq hS hG hop h9)
 ·split at h
  ·rename_i a b ea eb;obtain⟨s,e1,e1'⟩:=dD hx ea;obtain⟨s',e2,e2'⟩:=dD hy eb;subst e1;subst e2;subst e1';subst e2';exact lift _ (bK rfl) (by cases op <;> rfl) (Ir hS hG h)
  ·exact(ah h).elim
def uV(a:AV):AV:=match a with | .sI k n=>.int k n|a=>a
def C4{a:AV}{v:Value}(h:VR ρ a v):VR ρ (uV a) v:=by cases h <;> first|exact .int _ _|(constructor;done)|(constructor <;> assumption)
def xk:∀{l:List AV} {vs:List Value},LR ρ l vs->LR ρ (l.map uV) vs
 | [],vs,h=>h
 |a::l,vs,h=>by obtain⟨v,E',rfl,hv,h'⟩:=h.cons_inv;exact LR.cons (C4 hv) (xk h')
def Q8{a:AV}{j:IntKind}{n:Int}(h:cw a=some (j,n)):uV a= .int j n:=by
 unfold cw at h;split at h
 ·injection h with h;injection h with h1 h2;subst h1;subst h2;rfl
 ·injection h with h;injection h with h1 h2;subst h1;subst h2;rfl
 ·cases h
def eS{j:IntKind}{ks:List IntKind}{xs:List AV}{l:List Int}(h:dC (j::ks) xs=some l):∃a as n m,xs=a::as/\l=n::m/\uV a= .int j n/\dC ks as=some m:=by
 cases xs with
 |nil=>simp [dC] at h
 |cons a as=>
  unfold dC at h;split at h
  ·rename_i j' n hn;rw[ar] at h;split at h
   ·rename_i hj;have hj:=of_decide_eq_true hj;subst hj;split at h
    ·rename_i m hm;injection h with h;exact⟨a,as,n,m,rfl,h.symm,Q8 hn,hm⟩
    ·cases h
   ·cases h
  ·cases h
def gd{xs:List AV}{l:List Int}(h:dC [] xs=some l):xs= []/\l= []:=by
 cases xs with
 |nil=>injection h with h;exact⟨rfl,h.symm⟩
 |cons a as=>simp [dC] at h
def pd:∀{ks:List IntKind} {xs:List AV} {l:List Int},dC ks xs=some l->xs.length=ks.length
 | [],xs,l,h=>by rw[(gd h).1];rfl
 |j::ks,xs,l,h=>by obtain⟨a,as,n,m,rfl,_,_,h'⟩:=eS h;simp [pd h']
def rO{f:Nat}{j:IntKind}:∀(n:Nat) {xs ys:List AV} {l m:List Int},dC (List.replicate n j) xs=some l->dC (List.replicate n j) ys=some m->
 fM.eqArr (fM P (f+1) (.int j)) (xs.map uV) (ys.map uV)=some (decide (l=m))
 |0,xs,ys,l,m,h1,h2=>by obtain⟨rfl,rfl⟩:=gd h1;obtain⟨rfl,rfl⟩:=gd h2;simp [fM.eqArr]
 |n+1,xs,ys,l,m,h1,h2=>by
  obtain⟨a,as,x,l',rfl,rfl,ha,h1⟩:=eS h1;obtain⟨b,bs,y,m',rfl,rfl,hb,h2⟩:=eS h2;have ih:=rO (f:=f) n h1 h2;have e:fM P (f+1) (.int j) (.int j x) (.int j y)=some (x==y):=by simp [fM]
  simp only [aax,fM.eqArr,ha,hb,e,ih];by_cases hxy:x=y
  ·subst hxy;simp
  ·have:(x==y)=false:=by simp [hxy]
   rw[this];simp [hxy]
def uW{f:Nat}{xs ys:List AV}:∀(fs:List Field) (i:Nat) {ks:List IntKind} {l m:List Int},qC P i fs=some ks->dC ks (xs.drop i)=some l->dC ks (ys.drop i)=some m->
 fM.eqFs P (fM P (f+1)) fs (xs.map uV) (ys.map uV)=some (decide (l=m))
 | [],i,ks,l,m,h,h1,h2=>by injection h with h;subst h;obtain⟨_,rfl⟩:=gd h1;obtain⟨_,rfl⟩:=gd h2;simp [fM.eqFs]
 |fd::fs,i,ks,l,m,h,h1,h2=>by
  unfold qC at h;split at h
  ·cases h
  rename_i hn;split at h
  ·rename_i ho;split at h
   ·rename_i inf j hi hu;split at h
    ·rename_i ks' hk;injection h with h;subst h;obtain⟨a,as,x,l',e1,rfl,ha,h1⟩:=eS h1;obtain⟨b,bs,y,m',e2,rfl,hb,h2⟩:=eS h2;have dx:xs.drop (i+1)=as:=by rw[←aa5,e1];rfl
     have dy:ys.drop (i+1)=bs:=by rw[←aa5,e2];rfl
     rw[←dx] at h1;rw[←dy] at h2;have ih:=uW (f:=f) fs (i+1) hk h1 h2;have gx:(xs.map uV)[fd.offset]? =some (.int j x):=by rw[ho,aaO, ←List.head?_drop,e1];simp [ha]
     have gy:(ys.map uV)[fd.offset]? =some (.int j y):=by rw[ho,aaO, ←List.head?_drop,e2];simp [hb]
     have e:fM P (f+1) (.int j) (.int j x) (.int j y)=some (x==y):=by simp [fM]
     rw[fM.eqFs,if_neg hn];simp only [hi,hu,cB,Bool.false_eq_true,if_false,gx,gy,e,ih];by_cases hxy:x=y
     ·subst hxy;simp
     ·have:(x==y)=false:=by simp [hxy]
      rw[this];simp [hxy]
    ·cases h
   ·cases h
  ·cases h
def zY{f:Nat}{d:TypeDesc}{ks:List IntKind}{xs ys:List AV}{l m:List Int}(h:wU P d=some ks)(h1:dC ks xs=some l)(h2:dC ks ys=some m):
 fM P (f+2) d (.agg (xs.map uV)) (.agg (ys.map uV))=some (decide (l=m)):=by
 cases d with
 |array n e=>
  unfold wU at h
  simp only at h
  split at h
  ·rename_i i j hi hu;rw[ar] at h;split at h
   ·rename_i hs;have hs:=aM hs;injection h with h;subst h;have lx:=pd h1;have ly:=pd h2;rw[abA] at lx ly;unfold fM;simp [hi,hu,hs,cB,lx,ly];exact rO n h1 h2
   ·cases h
  ·cases h
 |struct fs=>
  unfold fM
  exact uW fs.toList 0 h (by rw[aaT];exact h1) (by rw[aaT];exact h2)
 |_=>cases h
def Ww{d:TypeDesc}{xs ys:List AV}{p:Prop}(h:eqS P d xs ys=some p):∃r,fM P 16 d (.agg (xs.map uV)) (.agg (ys.map uV))=some r/\(r=true↔p):=by
 unfold eqS at h;split at h
 ·rename_i ks hk;split at h
  ·rename_i l m h1 h2;injection h with h;subst h;exact⟨_,zY (f:=14) hk h1 h2,by simp⟩
  ·cases h
 ·cases h
def zZ{t:TypeId}{d:TypeDesc}{a b:List AV}{v u:Value}{kb:Bool->Tr}{ks:Prop->Tr}(hu:P.underlying t=some d)(hc:gt P 16 t=true)(hx:VR ρ (.agg a) v)(hy:VR ρ (.agg b) u)(h:run (ES P d a b kb ks) σ K=true):
 ∃r,(Op.equal t v u).run P w= .ok r w/\(run (kb r) σ K=true∨∃p,(r=true↔p)/\run (ks p) σ K=true):=by
 unfold ES at h
 split at h
 ·rename_i r hr;exact⟨r,nv 16 16 t d _ _ v u r 10000 hu (λ_=>hc) hx hy hr (by omega),.inl h⟩
 ·obtain⟨p,hp,h⟩:=ce h;obtain⟨r,hr,hrp⟩:=Ww hp;have deA:∀{l:List AV} {v:Value},VR ρ (.agg l) v->VR ρ (.agg (l.map uV)) v:=λh=>by
   cases h with
   |agg _ cs h1 h2=>obtain⟨q1,q2⟩:=(xk (LR.of_arr h1 h2)).arr;exact .agg _ _ q1 q2
  exact⟨r,nv 16 16 t d _ _ v u r 10000 hu (λ_=>hc) (deA hx) (deA hy) hr (by omega),.inr ⟨p,hrp,h⟩⟩
set_option maxHeartbeats 1000000 in
theorem uX{op:BinOp}{t:TypeId}{ox oy:Operand}{x y:AV}{v u:Value}(hS:SI σ)(hG:Good w0 ρ σ.h w)(hx:VR ρ x v)(hy:VR ρ y u)(h:run (qD P (ac (pR ox) true (pR oy)) op t x y k) σ K=true):
 Res P w0 ρ w k K (do eqGuard op t ox oy v u;binOp op t v u):=by
 have lift:∀(s:Sem Value),(eqGuard op t ox oy v u).run P w= .ok () w->binOp op t v u=s->Res P w0 ρ w k K s->Res P w0 ρ w k K (do eqGuard op t ox oy v u;binOp op t v u):=λs h1 h2 h3=>
  h3.of_eq (by rw[aad,h1,h2];rfl)
 have eqR:∀(d:TypeDesc) (r:Bool),P.underlying t=some d->(cB d=true->gt P 16 t=true)->fM P 16 d x y=some r->(Op.equal t v u).run P w= .ok r w:=λd r hu hc he=>
  nv 16 16 t d x y v u r 10000 hu hc hx hy he (by omega)
 unfold qD at h
 split at h
 ·rename_i j a yk b;cases hx;cases hy;exact lift (Op.shift _ j a yk b) (bK rfl) rfl (zV (jj:=yk) hS hG h)
 ·rename_i j a yk b;cases hx;cases hy;exact lift (Op.shift _ j a yk b) (bK rfl) rfl (zV (jj:=yk) hS hG h)
 ·rename_i n1 n2;cases hx;cases hy;obtain⟨hj,h2⟩:=ay h;have hj2:=of_decide_eq_true hj;clear h hj;subst hj2;have hop:op≠ .shl/\op≠ .shr:=⟨λe=>n1 e,λe=>n2 e⟩
  exact lift _ (bK rfl) (fV hop) (Io hS hG hop h2)
 ·cases hx;cases hy;exact lift _ (bK rfl) (by cases op <;> rfl) (Ip hS hG h)
 ·obtain⟨hc,h⟩:=ay h;obtain⟨d,hu,h⟩:=cL h;rw[ar] at hc;have hg:P.eqGuardType P.depth t=false:=by
   cases hq:P.eqGuardType P.depth t with
   |false=>rfl
   |true=>rw[hq] at hc;cases hc
  rw[hg] at hc;obtain⟨r,e,h⟩:=zZ (w:=w) hu hc hx hy h;cases hx;cases hy;rcases h with h|⟨p,hp,h⟩
  ·exact lift _ (gZ hg) (iL rfl) (.plain (uS h) hS hG (.bool r) (by rw[aad,e];rfl))
  ·exact lift _ (gZ hg) (iL rfl) (.plain h hS hG (.sB p r hp) (by rw[aad,e];rfl))
 ·obtain⟨hc,h⟩:=ay h;obtain⟨d,hu,h⟩:=cL h;rw[ar] at hc;have hg:P.eqGuardType P.depth t=false:=by
   cases hq:P.eqGuardType P.depth t with
   |false=>rfl
   |true=>rw[hq] at hc;cases hc
  rw[hg] at hc;obtain⟨r,e,h⟩:=zZ (w:=w) hu hc hx hy h;cases hx;cases hy;rcases h with h|⟨p,hp,h⟩
  ·exact lift _ (gZ hg) (iM rfl) (.plain (uS h) hS hG (.bool _) (by rw[aad,e];rw[ar];cases r <;> rfl))
  ·exact lift _ (gZ hg) (iM rfl) (.plain h hS hG (.sB (¬p) (!r) (by rw[←hp];simp)) (by rw[aad,e];rfl))
 ·rename_i n1 n2 n3;obtain⟨hp,h⟩:=ay h;obtain⟨d,hu,h⟩:=cL h;obtain⟨r,hr,h⟩:=ce h;obtain⟨h1,h2,h3⟩:=lW hp;have h4:¬(bn x=4/\bn y=4):=λ⟨e1,e2⟩=>by obtain⟨a,e1⟩:=qJ e1;obtain⟨b,e2⟩:=qJ e2;exact n3 _ _ e1 e2
  have h5:¬(bn x=1/\bn y=1):=λ⟨e1,e2⟩=>by obtain⟨_,a,e1⟩:=qK e1;obtain⟨_,b,e2⟩:=qK e2;exact n1 _ _ _ _ e1 e2
  have h6:¬(bn x=2/\bn y=2):=λ⟨e1,e2⟩=>by obtain⟨a,e1⟩:=qL e1;obtain⟨b,e2⟩:=qL e2;exact n2 _ _ e1 e2
  have hna:cB d=true->gt P 16 t=true:=λhd=>by obtain⟨a,b,e1,e2⟩:=Fb hd hr;exact(n3 _ _ e1 e2).elim
  exact lift _ (lV hx hy h1 h2 (h3.imp id λhl=>by rw[ar] at hl;split at hl <;> first|exact .inl ‹_› | exact .inr hl) h4) (iL (nw hx hy h1 h2 h5 h6)) (.plain (uS h) hS hG (.bool r) (by rw[aad,eqR d r hu hna hr];rfl))
 ·rename_i n1 n2 n3;obtain⟨hp,h⟩:=ay h;obtain⟨d,hu,h⟩:=cL h;obtain⟨r,hr,h⟩:=ce h;obtain⟨h1,h2,h3⟩:=lW hp;have h4:¬(bn x=4/\bn y=4):=λ⟨e1,e2⟩=>by obtain⟨a,e1⟩:=qJ e1;obtain⟨b,e2⟩:=qJ e2;exact n3 _ _ e1 e2
  have h5:¬(bn x=1/\bn y=1):=λ⟨e1,e2⟩=>by obtain⟨_,a,e1⟩:=qK e1;obtain⟨_,b,e2⟩:=qK e2;exact n1 _ _ _ _ e1 e2
  have h6:¬(bn x=2/\bn y=2):=λ⟨e1,e2⟩=>by obtain⟨a,e1⟩:=qL e1;obtain⟨b,e2⟩:=qL e2;exact n2 _ _ e1 e2
  have hna:cB d=true->gt P 16 t=true:=λhd=>by obtain⟨a,b,e1,e2⟩:=Fb hd hr;exact(n3 _ _ e1 e2).elim
  exact lift _ (lV hx hy h1 h2 (h3.imp id λhl=>by rw[ar] at hl;split at hl <;> first|exact .inl ‹_› | exact .inr hl) h4) (iM (nw hx hy h1 h2 h5 h6)) (.plain (uS h) hS hG (.bool _) (by rw[aad,eqR d r hu hna hr];rw[ar];cases r <;> rfl))
 ·rename_i n
  obtain⟨hn,h⟩:=ay h
  have hn:=of_decide_eq_true hn
  subst hn
  cases hx with
  |anyI _ a=>
   cases hy;have hp:=E_ (n:=4) h;have c9:Nat.land (aE (am .i64) a) (aE (am .i64) 3)<4:=by show(aE (am .i64) a) &&& 3<2 ^ 2;exact Nat.and_lt_two_pow _ (by decide)
   have hw:IntKind.wrap .i64 (Int.ofNat (Nat.land (aE (am .i64) a) (aE (am .i64) 3)))=Int.ofNat (Nat.land (aE (am .i64) a) (aE (am .i64) 3)):=by
    generalize Nat.land (aE (am .i64) a) (aE (am .i64) 3)=m at c9;have:m=0∨m=1∨m=2∨m=3:=by omega
    rcases this with rfl|rfl|rfl|rfl <;> rfl
   exact lift (mo .and .i64 a 3) (bK rfl) (fV (op:=.and) ⟨by simp,by simp⟩) (.plain (hp _ (.inr c9) (λh=>absurd h (by omega))) hS hG (.int _ _) (by show(Op.intBits .and .i64 a 3).run P w=_;rw[(fx P w .i64 a 3).1,hw]))
 ·cases hx;cases hy;exact Wv hS hG h
 ·exact(ah h).elim
def Lb{op:UnOp}{x:AV}{v:Value}(hS:SI σ)(hG:Good w0 ρ σ.h w)(hx:VR ρ x v)(h:run (CS op x k) σ K=true):Res P w0 ρ w k K (Op.unary op v):=by
 unfold CS at h;split at h
 ·cases hx;exact .plain (jV h) hS hG (.int _ _) rfl
 ·rename_i j n;cases hx;exact .plain (jV h) hS hG (.int _ _) (fx P w j (if j.signed then -1 else j.max) n).2.2.1
 ·cases hx;refine .plain (uS h) hS hG (.bool _) ?_;rename_i b;rw[ar];cases b <;> rfl
 ·exact(ah h).elim
def z_{x:AV}{v:Value}{kk:AV->Tr}(hx:VR ρ x v)(h:run (EU x kk) σ K=true):∃x',VR ρ x' v/\run (kk x') σ K=true:=by
 unfold EU at h;split at h
 ·rename_i p;cases hx;rename_i b hb;rcases dw h with⟨hp,h⟩|⟨hp,h⟩
  ·have:b=true:=hb.2 hp;subst this;exact⟨_,.bool _,h⟩
  ·have:b=false:=by
    cases b with
    |false=>rfl
    |true=>exact absurd (hb.1 rfl) hp
   subst this;exact⟨_,.bool _,h⟩
 ·exact⟨_,hx,h⟩
def Q9{x y:AV}{v u:Value}(h:QZ x y=true)(hx:VR ρ x v)(hy:VR ρ y u):(∃a n c,v= .slice a n c/\(¬rD x=0->∃b,a=some b))/\u= .slice none 0 0:=by
 unfold QZ at h;split at h
 ·cases hy
  refine⟨?_,rfl⟩
  cases hx with
  |cvnil c h0=>exact⟨_,_,_,rfl,λh=>absurd h0 h⟩
  |cvempty c a h0=>exact⟨_,_,_,rfl,λh=>absurd h0 h⟩
  |cv=>exact⟨_,_,_,rfl,λ_=>⟨_,rfl⟩⟩
 ·cases hy
  refine⟨?_,rfl⟩
  cases hx with
  |gnil=>exact⟨_,_,_,rfl,λh=>absurd rfl h⟩
  |gempty=>exact⟨_,_,_,rfl,λh=>absurd rfl h⟩
  |gsl=>exact⟨_,_,_,rfl,λ_=>⟨_,rfl⟩⟩
 ·cases h
def Lc{op:BinOp}{t:TypeId}{ox oy:Operand}{x y:AV}{v u:Value}(hS:SI σ)(hG:Good w0 ρ σ.h w)(hn:QZ x y=true)(hx:VR ρ x v)(hy:VR ρ y u)(h:run (KD P op t x k) σ K=true):
 Res P w0 ρ w k K (do eqGuard op t ox oy v u;binOp op t v u):=by
 obtain⟨⟨a,n,c,rfl,m7⟩,rfl⟩:=Q9 hn hx hy
 have lift:∀(s:Sem Value),binOp op t (.slice a n c) (.slice none 0 0)=s->Res P w0 ρ w k K s->Res P w0 ρ w k K (do eqGuard op t ox oy (.slice a n c) (.slice none 0 0);binOp op t (.slice a n c) (.slice none 0 0)):=λs h2 h3=>
  h3.of_eq (by rw[aad,bK rfl,h2];rfl)
 obtain⟨d,hu,h⟩:=cL h
 have key:∀e,d= .slice e->∃r,(Op.equal t (.slice a n c) (.slice none 0 0)).run P w= .ok r w/\(¬rD x=0->r=false):=λe hd=>by
  subst hd;have:∀D:Nat,∃r,(Op.equalIn (D+1) t (.slice a n c) (.slice none 0 0)).run P w= .ok r w/\(¬rD x=0->r=false):=λD=>by
   cases a with
   |none=>exact⟨true,by simp [Op.equalIn,run_underlying hu],λh=>by obtain⟨b,hb⟩:=m7 h;cases hb⟩
   |some b=>exact⟨false,by simp [Op.equalIn,run_underlying hu],λ_=>rfl⟩
  exact this 9999
 split at h
 ·obtain⟨r,e,hr⟩:=key _ rfl;rcases dw h with⟨_,h⟩|⟨hl,h⟩
  ·exact lift _ (iL rfl) (.plain h hS hG (.anyB r) (by rw[aad,e];rfl))
  ·have hr:=hr hl;subst hr;exact lift _ (iL rfl) (.plain h hS hG (.bool false) (by rw[aad,e];rfl))
 ·obtain⟨r,e,hr⟩:=key _ rfl;rcases dw h with⟨_,h⟩|⟨hl,h⟩
  ·exact lift _ (iM rfl) (.plain h hS hG (.anyB _) (by rw[aad,e];rfl))
  ·have hr:=hr hl;subst hr;exact lift _ (iM rfl) (.plain h hS hG (.bool true) (by rw[aad,e];rfl))
 ·exact(ah h).elim
def Ld{op:BinOp}{t:TypeId}{ox oy:Operand}{x y:AV}{v u:Value}(hS:SI σ)(hG:Good w0 ρ σ.h w)(hx:VR ρ x v)(hy:VR ρ y u)(h:run (KE P (ac (pR ox) true (pR oy)) op t x y k) σ K=true):
 Res P w0 ρ w k K (do eqGuard op t ox oy v u;binOp op t v u):=by
 rcases bT h with⟨hn,h⟩|⟨_,h⟩
 ·exact Lc hS hG hn hx hy h
 rcases bT h with⟨_,h⟩|⟨_,h⟩
 ·rcases bT h with⟨_,h⟩|⟨_,h⟩
  ·obtain⟨x',hx',h⟩:=z_ hx h;obtain⟨y',hy',h⟩:=z_ hy h;exact uX hS hG hx' hy' h
  ·exact Is hS hG hx hy h
 ·exact uX hS hG hx hy h
def Lg{op:UnOp}{x:AV}{v:Value}(hS:SI σ)(hG:Good w0 ρ σ.h w)(hx:VR ρ x v)(h:run (CR op x k) σ K=true):Res P w0 ρ w k K (Op.unary op v):=by
 unfold CR at h;split at h
 ·rename_i j n;cases hx;exact .plain (jo (f:=λn=>k (.sI j n)) h) hS hG (.sI _ _) rfl
 ·rename_i j n;cases hx;exact .plain h hS hG (.sI _ _) (fx P w j (if j.signed then -1 else j.max) n).2.2.1
 ·cases hx;rename_i p b hb;exact .plain h hS hG (.sB _ (!b) (by rw[←hb];simp)) rfl
 ·exact(ah h).elim
def Q_{op:UnOp}{x:AV}{v:Value}(hS:SI σ)(hG:Good w0 ρ σ.h w)(hx:VR ρ x v)(h:run (Uu op x k) σ K=true):Res P w0 ρ w k K (Op.unary op v):=by
 rcases bT h with⟨_,h⟩|⟨_,h⟩
 ·exact Lg hS hG hx h
 ·exact Lb hS hG hx h
end
end Go.Sym
namespace Go.Sym
open Go.RowKit (Below)
def Good.ext{w0:World}{ρ:Rho}{H H':T ABlk}{w:World}(hG:Good w0 ρ H w)(h:∀b,H'.get b=H.get b):Good w0 ρ H' w:=
 ⟨⟨hG.below,λb x hx=>hG.blk b x (by rw[←h];exact hx),λb g y hy=>by obtain⟨q1,x,q2⟩:=hG.dom b g y hy;exact⟨q1,x,by rw[h];exact q2⟩,hG.inj,λb g y x hy hx=>hG.gens b g y x hy (by rw[←h];exact hx),λb arr ty hf=>⟨(hG.frz b arr ty hf).1,λb' g x hh e=>by rw[h];exact(hG.frz b arr ty hf).2 b' g x hh e⟩,hG.frzB,λb k I l hb=>hG.objO b k I l (by rw[←h];exact hb)⟩,hG.ownB⟩
section
variable{P:Program}{w0:World}{ρ:Rho}{w:World}{σ:St}{K:Fin}{k:AV->Tr}
def Aa{t:TypeId}{k:AV->Tr}(ρ:Rho)(w:World)(h:run (rC P t k) σ K=true):∃z zv i,P.info? t=some i/\(zeroValue t).run P w= .ok zv w/\VR ρ z zv/\run (k z) σ K=true:=by obtain⟨i,h1,h2⟩:=ce (k:=λi:TypeInfo=>du i.zero .fail λv=>du (Wk 8 v) .fail k) h;obtain⟨v,h3,h4⟩:=ce h2;obtain⟨a,h5,h6⟩:=ce h4;refine⟨a,v,i,h1, ?_,Kx ρ _ _ _ h5,h6⟩;simp [zeroValue,typeInfo,aad,run_program,h1,h3]
def Lh{k:T Cell->Tr}:∀(l:List AV) (i:Nat) (t:T Cell),run (Q0 l i t k) σ K=true->
 ∃c,run (k c) σ K=true/\∀o x,c.get o=some x->(∃(j:Nat) (a:AV),o=i+j/\l[j]? =some a/\x= .mk 0 a)∨(t.get o=some x/\(o<i∨i+l.length<=o)):=by
 intro l
 induction l with
 |nil=>intro i t h;exact⟨t,h,λo x hx=>.inr ⟨hx,by simp;omega⟩⟩
 |cons a l ih=>
  intro i t h
  have h:run (T.setK t i (.mk 0 a) λt=>fN (Nat.succ i) λi=>Q0 l i t k) σ K=true:=h
  rw[T.setK_eq] at h
  obtain⟨c,h1,h2⟩:=ih _ _ (ke h)
  refine⟨c,h1,λo x hx=>?_⟩
  rcases h2 o x hx with⟨j,b,e,hb,hx'⟩|⟨hx',ho⟩
  ·exact .inl ⟨j+1,b,by omega,by simpa using hb,hx'⟩
  ·by_cases e:o=i
   ·subst e;have:=T.get_set_some _ _ hx';exact .inl ⟨0,a,by omega,rfl,this⟩
   ·rw[T.get_set_ne _ e] at hx';exact .inr ⟨hx',by simp at ho⊢;omega⟩
def C5{l:List AV}{k:Nat->Tr}(fl:Nat)(arr:Array Value)(e:TypeId)(fr:Nat×Nat)(hfr:fr.1<=fr.2/\∀x,(x<arr.size∨fl<=0)->fr.1<=x->x<fr.2->False)(hS:SI σ)(hG:Good w0 ρ σ.h w)(T':l.length<=arr.size)(hl:∀(i:Nat) (a:AV),l[i]? =some a->∃v,arr[i]? =some v/\VR ρ a v)(h:run (EV fl e l k) σ K=true):
 ∃b a9,run (k b) a9 K=true/\SI a9/\ρ.le (ρ.put b 0 ⟨w.heap.size,0,arr.size⟩)/\Good w0 (ρ.put b 0 ⟨w.heap.size,0,arr.size⟩) a9.h {w with heap:=w.heap.push (.cells arr e fr)}:=by
 have h:run (Q0 l 0 .leaf λt=>fN (List.length l) λn=>.new (.cells t 0 0 n fl 0 false e) k) σ K=true:=h
 obtain⟨c,h1,h2⟩:=Lh _ _ _ h
 obtain⟨n,a9,hn,c8,hh,r9,h3⟩:=gw hS (ke h1)
 obtain⟨hle,j9⟩:=hG.alloc hn c8 (.cells c 0 0 l.length fl 0 false e) (.cells arr e fr) 0 arr.size (λρ' hle o6 _=>by
  refine⟨λo x hx=>?_,λg hg=>?_⟩
  ·rcases h2 o x hx with⟨j,a,e1,ha,ex⟩|⟨hx',_⟩
   ·have:x.tag=0:=by rw[ex];rfl
    have:j<l.length:=by
     rcases aah j l.length with h'|h'
     ·exact h'
     ·rw[aam h'] at ha;cases ha
    omega
   ·simp [T.get] at hx'
  ·have:g=0:=by omega
   subst this;refine⟨_,o6,λ_=>.new hG.below.size,(λh=>by cases h),arr,fr, ?_,rfl,λ_=>⟨hfr.1,λx h1 h2 h3=>(hfr.2 x h1 h2 h3).elim⟩,λo tag a ho ht=>?_⟩
   ·show(w.heap.push _)[w.heap.size]? =_;simp
   ·rcases h2 o _ ho with⟨j,b,e1,hb,hx⟩|⟨hx',_⟩
    ·injection hx with hx1 Z';subst Z';obtain⟨v,hv,hr⟩:=hl j a hb;refine⟨aaq _,v, ?_,hr.mono hle⟩;show arr[o-0]? =some v;rw[show o-0=j by omega];exact hv
    ·simp [T.get] at hx')
 exact⟨n,a9,h3,r9,hle,by rw[hh];exact j9⟩
def pe{l:List AV}{k:Nat->Tr}(arr:Array Value)(e:TypeId)(hS:SI σ)(hG:Good w0 ρ σ.h w)(T':l.length<=arr.size)(hl:∀(i:Nat) (a:AV),l[i]? =some a->∃v,arr[i]? =some v/\VR ρ a v)(h:run (qE e l k) σ K=true):
 ∃b a9,run (k b) a9 K=true/\SI a9/\ρ.le (ρ.put b 0 ⟨w.heap.size,0,arr.size⟩)/\Good w0 (ρ.put b 0 ⟨w.heap.size,0,arr.size⟩) a9.h {w with heap:=w.heap.push (.cells arr e)}:=
 C5 0 arr e (0,0) ⟨aac _,λx _ _ h=>absurd h (by simp)⟩ hS hG T' hl h
def LR.to_arr{l:List AV}{cs:Array Value}(h:LR ρ l cs.toList):l.length<=cs.size/\∀(i:Nat) (a:AV),l[i]? =some a->∃v,cs[i]? =some v/\VR ρ a v:=
 ⟨by have:=h.1;simp at this;omega,λi a ha=>by obtain⟨v,hv,hr⟩:=h.get ha;exact⟨v,by simpa using hv,hr⟩⟩
def uY{a:AV}{v:Value}{t:TypeId}(hS:SI σ)(hG:Good w0 ρ σ.h w)(hv:VR ρ a v)(h:run (nl t a k) σ K=true):
 Res P w0 ρ w k K (do pure (.pointer (some (←newVar t v)))):=by
 obtain⟨l,hl,h1⟩:=iu hv h
 obtain⟨q1,q2⟩:=LR.to_arr hl
 obtain⟨b,a9,h2,r9,hle,j9⟩:=pe v.cells t hS hG q1 q2 h1
 refine⟨_,a9,_,_,_,h2,r9,j9,hle,VR.ptr b 0 0 _ (Rho.put_at _ _ _ _) (aaq _), ?_⟩
 simp [newVar,newRow]
def Lk{t:TypeId}(hS:SI σ)(hG:Good w0 ρ σ.h w)(h:run (rC P t λz=>nl t z k) σ K=true):Res P w0 ρ w k K (Instr.alloc t true (.tuple #[])):=by obtain⟨z,zv,i,_,hz,hr,h1⟩:=Aa ρ w h;refine(uY (P:=P) (t:=t) hS hG hr h1).of_eq ?_;simp [Instr.alloc,aad,hz]
def Wx{a:AV}{v:Value}{t:TypeId}(hS:SI σ)(hG:Good w0 ρ σ.h w)(hv:VR ρ a v)(h:run (nl t a k) σ K=true):Res P w0 ρ w k K (Instr.box t v):=
 uY hS hG hv h
def Fc{b g o tag:Nat}{a:AV}{c:T Cell}{gen lo hi fl fh ty:Nat}{ro:Bool}{h:Home}{H:T ABlk}(hG:Good w0 ρ H w)(hb:H.get b=some (.cells c gen lo hi fl fh ro ty))(hh:ρ.at_ b g=some h)(hg:g<=gen)(hc:c.get o=some (.mk tag a))(ht:tag<=g):h.shift<=o/\∃v,w.cell? ⟨h.blk,o-h.shift,none⟩=some v/\VR ρ a v:=by
 obtain⟨hm,q1,_,_,arr,fr,q2,q3,_,q4⟩:=(hG.blk _ _ hb).2 g hg
 rw[hh] at q1;injection q1 with q1;subst q1
 obtain⟨r1,v,r2,r3⟩:=q4 o tag a hc ht
 refine⟨r1,v, ?_,r3⟩
 simp [World.cell?,q2,r2]
def ZF{c:T Cell}{g:Nat}:∀{n o:Nat} {k:List AV->Tr},run (Q1 c g n o k) σ K=true->∃l,run (k l) σ K=true/\l.length=n/\∀(j:Nat) (a:AV),l[j]? =some a->∃tag,c.get (o+j)=some (.mk tag a)/\tag<=g:=by
 intro n
 induction n with
 |zero=>intro o k h;exact⟨[],h,rfl,by simp⟩
 |succ n ih=>
  intro o k h
  have h:run (T.getK c o .fail λx=>match x with
   | .mk tag v=>ac (Nat.ble tag g) (fN (Nat.succ o) λo=>Q1 c g n o λl=>k (v::l)) .fail) σ K=true:=h
  obtain⟨x,hx,h⟩:=uo h
  cases x with
  |mk tag v=>
   obtain⟨ht,h⟩:=ay h
   obtain⟨l,h1,h2,h3⟩:=ih (ke h)
   refine⟨v::l,h1,by simp [h2],λj a ha=>?_⟩
   cases j with
   |zero=>simp at ha;subst ha;exact⟨tag,hx,bU ht⟩
   |succ j=>obtain⟨ae3,q1,q2⟩:=h3 j a (by simpa using ha);exact⟨ae3,by rw[show o+(j+1)=Nat.succ o+j by omega];exact q1,q2⟩
def mq{b g o n:Nat}{h0:Home}{k:List AV->Tr}(hS:SI σ)(hG:Good w0 ρ σ.h w)(hh:ρ.at_ b g=some h0)(ho:h0.shift<=o)(h:run (kC b g o n k) σ K=true):
 ∃l cs a9,a9.h=σ.h/\SI a9/\run (k l) a9 K=true/\LR ρ l cs/\cs.length=n/\(∀(j:Nat) (v:Value),cs[j]? =some v->w.cell? ⟨h0.blk,o-h0.shift+j,none⟩=some v)/\(loadCells ⟨h0.blk,o-h0.shift,none⟩ n).run P w= .ok cs.toArray w:=by
 obtain⟨x,b7,hx,e1,b6,h⟩:=bE hS h
 cases x with
 |cells c gen lo hi fl fh ro ty=>
  obtain⟨hg,h⟩:=ay h
  have hg:=bU hg
  obtain⟨l,h1,h2,h3⟩:=ZF h
  have key:∀(j:Nat) (a:AV),l[j]? =some a->∃v,w.cell? ⟨h0.blk,o-h0.shift+j,none⟩=some v/\VR ρ a v:=λj a ha=>by obtain⟨tag,q1,q2⟩:=h3 j a ha;obtain⟨_,v,r2,r3⟩:=Fc hG hx hh hg q1 q2;exact⟨v,by rw[show o-h0.shift+j=o+j-h0.shift by omega];exact r2,r3⟩
  let cs:List Value:=(List.range l.length).map λj=>(w.cell? ⟨h0.blk,o-h0.shift+j,none⟩).getD undef
  have hcs:cs.length=n:=by simp [cs,h2]
  have j5:∀(j:Nat) (v:Value),cs[j]? =some v->w.cell? ⟨h0.blk,o-h0.shift+j,none⟩=some v:=λj v hv=>by
   have hj:j<l.length:=by
    rcases aah j l.length with h'|h'
    ·exact h'
    ·rw[aam (by simp [cs];exact h')] at hv;cases hv
   obtain⟨v',hv',_⟩:=key j l[j] (aak hj);simp [cs,hj,hv'] at hv;rw[hv',hv]
  refine⟨l,cs,b7,e1,b6,h1,⟨by simp [cs],λj a v ha hv=>?_⟩,hcs,j5, ?_⟩
  ·obtain⟨v',hv',hr⟩:=key j a ha;have:=j5 j v hv;rw[hv'] at this;injection this with this;subst this;exact hr
  ·have:=run_loadCells_list (P:=P) w ⟨h0.blk,o-h0.shift,none⟩ cs (λj v hv=>by
    have:=j5 j v hv;unfold Addr.add;split
    ·rename_i e;subst e;simpa using this
    ·exact this)
   rw[hcs] at this;exact this
 |_=>exact(ah h).elim
def Ab{t:TypeId}{x:AV}{v:Value}(hS:SI σ)(hG:Good w0 ρ σ.h w)(hx:VR ρ x v)(h:run (zK P t x k) σ K=true):∃av a9 u,run (k av) a9 K=true/\SI a9/\Good w0 ρ a9.h w/\VR ρ av u/\(Instr.loadAt t v).run P w= .ok u w:=by
 cases hx with
 |ptr b g o h0 hh ho=>
  obtain⟨d,hu,h⟩:=cL h;rcases bT h with⟨hd,h⟩|⟨hd,h⟩
  ·obtain⟨i,hi,h⟩:=cG h;obtain⟨l,cs,a9,e,r9,h1,hl,hlen,_,c7⟩:=mq (P:=P) hS hG hh ho h;have q9:LR ρ l cs.toArray.toList:=by simpa using hl
   refine⟨_,_,_,h1,r9,by rw[e];exact hG,VR.agg l cs.toArray q9.arr.1 q9.arr.2, ?_⟩;simp only [Instr.loadAt,Instr.sureAddr,loadVar,aad,aaf,aaj,cC hu,hd,if_true,aB hi,c7]
  ·obtain⟨y,b7,hy,e1,b6,h⟩:=bE hS h
   cases y with
   |cells c gen lo hi fl fh ro ty=>
    obtain⟨hg,h⟩:=ay h
    obtain⟨z,hz,h⟩:=uo h
    cases z with
    |mk tag a=>obtain⟨ht,h⟩:=ay h;obtain⟨_,v,hv,hr⟩:=Fc hG hy hh (bU hg) hz (bU ht);refine⟨_,_,_,h,b6,by rw[e1];exact hG,hr, ?_⟩;simp only [Instr.loadAt,Instr.sureAddr,loadVar,aad,aaf,aaj,cC hu,hd,Bool.false_eq_true,if_false,run_load,hv]
   |_=>exact(ah h).elim
 |cptr l blk off arr ty hf hb r=>
  obtain⟨⟨fr,hw⟩,_⟩:=hG.frz _ _ _ hf;obtain⟨d,hu,h⟩:=cL h;rcases bT h with⟨hd,h⟩|⟨hd,h⟩
  ·obtain⟨i,hi,h⟩:=cG h;have h:=gY h;obtain⟨hn,h⟩:=ay h;have hn:=aM hn;have hle:i.size<=l.length:=by rw[aao] at hn;omega
   have hcs:((arr.toList.drop off).take i.size).length=i.size:=by simp;omega
   have l6:∀(j:Nat) (v:Value),((arr.toList.drop off).take i.size)[j]? =some v->j<i.size/\arr[off+j]? =some v:=λj v hv=>by
    have hj:j<i.size:=by
     rcases aah j i.size with h'|h'
     ·exact h'
     ·rw[aam (by omega)] at hv;cases hv
    refine⟨hj, ?_⟩;rw[aav hj,aaz] at hv;simpa using hv
   have hl:LR ρ (l.take i.size) ((arr.toList.drop off).take i.size):=by refine⟨by rw[hcs,hn],λj a v ha hv=>?_⟩;obtain⟨hj,hv⟩:=l6 j v hv;rw[aav hj] at ha;exact r j a v ha hv
   have c7:=run_loadCells_list (P:=P) w ⟨blk,off,none⟩ ((arr.toList.drop off).take i.size) (λj v hv=>by
    obtain⟨_,hv⟩:=l6 j v hv;unfold Addr.add;split
    ·rename_i e;subst e;simp [World.cell?,hw];simpa using hv
    ·simp [World.cell?,hw];exact hv)
   rw[hcs] at c7;have q9:LR ρ (l.take i.size) ((arr.toList.drop off).take i.size).toArray.toList:=by simpa using hl
   refine⟨_,_,_,h,hS,hG,VR.agg _ ((arr.toList.drop off).take i.size).toArray q9.arr.1 q9.arr.2, ?_⟩;simp only [Instr.loadAt,Instr.sureAddr,loadVar,aad,aaf,aaj,cC hu,hd,if_true,aB hi,c7]
  ·obtain⟨a,ha,h⟩:=ce h;have c9:0<l.length:=by
    rcases aah 0 l.length with h'|h'
    ·exact h'
    ·rw[aam h'] at ha;cases ha
   have hv:arr[off]? =some arr[off]:=aaQ (by omega);refine⟨_,_,_,h,hS,hG,r 0 a _ ha (show arr[off+0]? =some arr[off] by rw[aau];exact hv), ?_⟩;simp only [Instr.loadAt,Instr.sureAddr,loadVar,aad,aaf,aaj,cC hu,hd,Bool.false_eq_true,if_false,run_load];simp [World.cell?,hw,hv]
 |gptr b g i o es hm hh hs=>
  obtain⟨q,b7,hq,e1,b6,h⟩:=bE hS h
  have b9:Good w0 ρ b7.h w:=by rw[e1];exact hG
  cases q with
  |grow c gen ty=>
   obtain⟨k1,z1⟩:=ay h;obtain⟨k2,z2⟩:=ay z1;obtain⟨c9,z3⟩:=aP z2;clear h z1 z2;have k1:=aM k1;have k2:=aM k2;subst k1;subst k2;have h:=z3;clear z3;rcases hG.blk _ _ hq with h0|⟨hm',q1,q2,q3,arr,fr,q4,q5,q6,q7,q8⟩
   ·omega
   rw[hh] at q1;injection q1 with q1;subst q1;have j5:=q8 i c9;have l6:∀(j:Nat) (a:AV),(c.row i)[j]? =some a->∃u,w.cell? ⟨hm.blk,i * c.es+j,none⟩=some u/\VR ρ a u:=λj a ha=>by obtain⟨u,u1,u2⟩:=j5 j a ha;exact⟨u,by simp [World.cell?,q4,u1],u2⟩
   obtain⟨d,hu,h⟩:=cL h;rcases bT h with⟨hd,h⟩|⟨hd,h⟩
   ·obtain⟨ii,hi,h⟩:=cG h;have h:=gY h;obtain⟨hn,h⟩:=ay h;have hn:=aM hn;let cs:List Value:=(List.range ii.size).map λj=>(w.cell? ⟨hm.blk,i * c.es+o+j,none⟩).getD undef;have hcs:cs.length=ii.size:=by simp [cs]
    have o6:∀j,j<ii.size->∃a,(((c.row i).drop o).take ii.size)[j]? =some a/\(c.row i)[o+j]? =some a:=λj hj=>by
     have hj':j<(((c.row i).drop o).take ii.size).length:=by omega
     refine⟨(((c.row i).drop o).take ii.size)[j],aak hj', ?_⟩;have:=aak hj';rw[aav hj,aaz] at this;exact this
    have hl:LR ρ (((c.row i).drop o).take ii.size) cs:=by
     refine⟨by rw[hcs,hn],λj a v ha hv=>?_⟩;have hj:j<ii.size:=by
      rcases aah j ii.size with h'|h'
      ·exact h'
      ·rw[aam (by omega)] at hv;cases hv
     obtain⟨a',ha',hf⟩:=o6 j hj;rw[ha] at ha';injection ha' with ha';subst ha';obtain⟨u,u1,u2⟩:=l6 _ _ hf;have e2:i * c.es+(o+j)=i * c.es+o+j:=by omega
     rw[e2] at u1;simp [cs,hj,u1] at hv;rw[←hv];exact u2
    have c7:=run_loadCells_list (P:=P) w ⟨hm.blk,i * c.es+o,none⟩ cs (λj v hv=>by
     have hj:j<ii.size:=by
      rcases aah j ii.size with h'|h'
      ·exact h'
      ·rw[aam (by omega)] at hv;cases hv
     obtain⟨a',ha',hf⟩:=o6 j hj;obtain⟨u,u1,u2⟩:=l6 _ _ hf;have e2:i * c.es+(o+j)=i * c.es+o+j:=by omega
     rw[e2] at u1;simp [cs,hj,u1] at hv;subst hv;unfold Addr.add;split
     ·rename_i e;subst e;simpa using u1
     ·exact u1)
    rw[hcs] at c7;have q9:LR ρ (((c.row i).drop o).take ii.size) cs.toArray.toList:=by simpa using hl
    refine⟨_,_,_,h,b6,b9,VR.agg _ cs.toArray q9.arr.1 q9.arr.2, ?_⟩;simp only [Instr.loadAt,Instr.sureAddr,loadVar,aad,aaf,aaj,cC hu,hd,if_true,aB hi,c7]
   ·obtain⟨a,ha,h⟩:=ce h;obtain⟨u,u1,u2⟩:=l6 o a ha;refine⟨_,_,_,h,b6,b9,u2, ?_⟩;simp only [Instr.loadAt,Instr.sureAddr,loadVar,aad,aaf,aaj,cC hu,hd,Bool.false_eq_true,if_false,run_load,u1]
  |_=>exact(ah h).elim
 |_=>exact(ah h).elim
def Ra{t:TypeId}{x:AV}{v:Value}(hS:SI σ)(hG:Good w0 ρ σ.h w)(hx:VR ρ x v)(h:run (zK P t x k) σ K=true):Res P w0 ρ w k K (Instr.loadAt t v):=by obtain⟨av,a9,u,h1,h2,h3,h4,h5⟩:=Ab (P:=P) hS hG hx h;exact .plain h1 h2 h3 h4 h5
end
end Go.Sym
namespace Go.Sym
open Go.RowKit (Below)
def LR.one{ρ:Rho}{a b:AV}{vs:List Value}(h:LR ρ [a] vs)(hw:∀v,VR ρ a v->VR ρ b v):LR ρ [b] vs:=by obtain⟨v,E',rfl,hv,h'⟩:=h.cons_inv;have:=h'.nil_inv;subst this;exact LR.cons (hw v hv) (LR.nil ρ)
def LR.split{ρ:Rho}{l m:List AV}{vs:List Value}(h:LR ρ (l++m) vs):∃v1 v2,vs=v1++v2/\LR ρ l v1/\LR ρ m v2:=by
 have hl:vs.length=l.length+m.length:=by simpa using h.1
 refine⟨vs.take l.length,vs.drop l.length,(abl _ _).symm,⟨by simp;omega,λi a v ha hv=>?_⟩,⟨by simp;omega,λi a v ha hv=>?_⟩⟩
 ·have hi:i<l.length:=by
   rcases aah i l.length with h'|h'
   ·exact h'
   ·rw[aam h'] at ha;cases ha
  rw[aav hi] at hv;exact h.2 i a v (by rw[aaD hi];exact ha) hv
 ·rw[aaz] at hv;exact h.2 (l.length+i) a v (by rw[aaA (by omega)];simpa using ha) hv
def ZG{p:Prop}:pI p=1↔p:=by unfold pI;by_cases h:p <;> simp [h]
def Ll:∀(n:Nat) (cs:List AV) (l:List G) (r:List AV),EQ n cs=some (l,r)->
 ∃c,cs=c++r/\c.length=n/\l.length=n/\∀(ρ:Rho) (vs:List Value) (g:G) (j:Nat),(∀i,i<n->aa g (j+i)=aq l i)->LR ρ c vs->LR ρ (mg g n j) vs:=by
 intro n
 induction n with
 |zero=>
  intro cs l r h
  injection h with h;injection h with h1 h2
  subst h1;subst h2
  exact⟨[],rfl,rfl,rfl,λρ vs g j _ hl=>hl⟩
 |succ n ih=>
  intro cs l r h
  cases cs with
  |nil=>cases h
  |cons a cs=>
   unfold EQ at h
   split at h
   ·rename_i v hv;split at h
    ·rename_i l' q hp;injection h with h;injection h with h1 h2;subst h1;subst h2;obtain⟨c,rfl,e2,e3,e4⟩:=ih _ _ _ hp;refine⟨a::c,rfl,by simp [e2],by simp [e3],λρ vs g j hg hl=>?_⟩;obtain⟨x,E',rfl,hx,q9⟩:=hl.cons_inv;refine LR.cons ?_ (e4 ρ E' g (j+1) (λi hi=>?_) q9)
     ·have:=hg 0 (by omega);rw[aau] at this;rw[this,bo hx hv];exact .sI _ _
     ·have:=hg (i+1) (by omega);rw[show j+1+i=j+(i+1) by omega,this];rfl
    ·cases h
   ·cases h
def Lm{x:Sc}{cs:List AV}{k:G->List AV->Option (List G×List AV)}{q:List G×List AV}(h:KC x cs none k=some q):
 ∃g c r,cs=c++r/\c.length=scW x/\k g r=some q/\∀(ρ:Rho) (vs:List Value),LR ρ c vs->LR ρ (fS x g) vs:=by
 cases cs with
 |nil=>cases h
 |cons a r=>
  unfold KC at h
  cases x with
  |i j=>
   simp only at h
   cases hn:cw a with
   |none=>rw[hn] at h;cases h
   |some y=>
    obtain⟨j',n⟩:=y
    rw[hn] at h
    simp only [ar] at h
    split at h
    ·rename_i e;have e:=of_decide_eq_true e;subst e;exact⟨_,[a],r,rfl,rfl,h,λρ vs hl=>hl.one λv hv=>by rw[bo hv hn];exact .sI _ _⟩
    ·cases h
  |b=>
   simp only at h
   cases hn:dO a with
   |none=>rw[hn] at h;cases h
   |some p=>
    rw[hn] at h
    exact⟨_,[a],r,rfl,rfl,h,λρ vs hl=>hl.one λv hv=>by obtain⟨b,e,hb⟩:=eR hv hn;rw[e];exact .sB _ b (by rw[hb];exact ZG.symm)⟩
  |s=>
   simp only at h
   cases hn:gp a with
   |none=>rw[hn] at h;cases h
   |some p=>
    rw[hn] at h
    exact⟨_,[a],r,rfl,rfl,h,λρ vs hl=>hl.one λv hv=>by obtain⟨b,e,hb⟩:=dD hv hn;rw[e,hb];exact .sS b⟩
  |o=>
   simp only [ar] at h
   split at h
   ·rename_i e;exact⟨_,[a],r,rfl,rfl,h,λρ vs hl=>hl.one λv hv=>.any1 v (jm hv e)⟩
   ·cases h
  |sl m=>
   simp only at h
   split at h
   ·exact⟨_,[_],r,rfl,rfl,h,λρ vs hl=>hl.one λv hv=>by cases hv;exact .cvnil _ rfl⟩
   ·rename_i m' l;simp only [ar] at h;split at h
    ·rename_i e;have e:=aae e;subst e;exact⟨_,[_],r,rfl,rfl,h,λρ vs hl=>hl⟩
    ·cases h
   ·cases h
  |bs=>
   simp only at h
   split at h
   ·exact⟨_,[_],r,rfl,rfl,h,λρ vs hl=>hl.one λv hv=>by cases hv;exact .cvnil _ rfl⟩
   ·exact⟨_,[_],r,rfl,rfl,h,λρ vs hl=>hl⟩
   ·cases h
  |h n=>
   simp only at h
   split at h
   ·rename_i l r' hp;obtain⟨c,e1,e2,e3,e4⟩:=Ll _ _ _ _ hp;exact⟨_,c,r',e1,e2,h,λρ vs hl=>e4 ρ vs (.node l) 0 (λi hi=>by simp [aa,gL,aq]) hl⟩
   ·cases h
def jq:∀(xs:List Sc) (cs:List AV) (gs:List G) (r:List AV),fU xs cs=some (gs,r)->
 ∃c1,cs=c1++r/\c1.length=bm xs/\gs.length=xs.length/\∀(g:G) (j:Nat),(∀i,i<xs.length->aa g (j+i)=aq gs i)->∀(ρ:Rho) (vs:List Value),LR ρ c1 vs->LR ρ (bA xs g j) vs:=by
 intro xs
 induction xs with
 |nil=>
  intro cs gs r h
  injection h with h
  injection h with h1 h2
  subst h1;subst h2
  exact⟨[],rfl,rfl,rfl,λg j _ ρ vs hl=>hl⟩
 |cons x xs ih=>
  intro cs gs r h
  unfold fU at h
  obtain⟨g0,ca,r0,rfl,hw,hk,hc⟩:=Lm h
  split at hk
  ·rename_i gs' r' hp;injection hk with hk;injection hk with h1 h2;subst h1;subst h2;obtain⟨c1,rfl,e2,e4,e3⟩:=ih _ _ _ hp;refine⟨ca++c1,by simp,by simp [bm,hw,e2],by simp [e4],λg j hg ρ vs hl=>?_⟩;obtain⟨v,E',rfl,hv,q9⟩:=hl.split;have h0:=hg 0 (by simp);have j5:=hc ρ v hv;have:aa g j=g0:=h0;show LR ρ (fS x (aa g j)++bA xs g (j+1)) (v++E');rw[this];refine j5.append (e3 g (j+1) (λi hi=>?_) ρ E' q9);have:=hg (i+1) (by simp;omega);rw[show j+1+i=j+(i+1) by omega,this];rfl
  ·cases hk
def g_{xs:List Sc}:∀(n:Nat) (cs:List AV) (gs:List G) (r:List AV),dU xs n cs=some (gs,r)->
 ∃c1,cs=c1++r/\c1.length=n * bm xs/\gs.length=n/\∀i,i<n->∀(ρ:Rho) (vs:List Value),LR ρ ((c1.drop (i * bm xs)).take (bm xs)) vs->LR ρ (bA xs (aq gs i) 0) vs:=by
 intro n
 induction n with
 |zero=>
  intro cs gs r h
  injection h with h
  injection h with h1 h2
  subst h1;subst h2
  exact⟨[],rfl,by simp,rfl,λi hi=>by omega⟩
 |succ n ih=>
  intro cs gs r h
  unfold dU at h
  split at h
  ·rename_i g1 r1 h1;split at h
   ·rename_i gs2 r2 h2
    injection h with h
    injection h with q1 q2
    subst q1;subst q2
    obtain⟨c1,rfl,e1,e0,e2⟩:=jq _ _ _ _ h1
    obtain⟨c2,rfl,f1,f2,f3⟩:=ih _ _ _ h2
    refine⟨c1++c2,by simp,by simp [e1,f1,aaM];omega,by simp [f2],λi hi ρ vs hl=>?_⟩
    cases i with
    |zero=>rw[abc,aaT,abt (by omega),abm (by omega)] at hl;exact e2 (.node g1) 0 (λi hi=>by simp [aa,gL,aq]) ρ vs hl
    |succ i=>
     have:(c1++c2).drop ((i+1) * bm xs)=c2.drop (i * bm xs):=by rw[List.drop_append,List.drop_of_length_le (by rw[aaM];omega)];simp only [aa6];congr 1;rw[e1,aaM];omega
     rw[this] at hl;have:=f3 i (by omega) ρ vs hl;simpa [aq] using this
   ·cases h
  ·cases h
def nx:∀(cs:List AV) (ns:List Int),gq cs=some ns->ns.length=cs.length/\∀(i:Nat) (a:AV),cs[i]? =some a->∃n,ns[i]? =some n/\cw a=some (.u8,n):=by
 intro cs
 induction cs with
 |nil=>intro ns h;injection h with h;subst h;exact⟨rfl,by simp⟩
 |cons a cs ih=>
  intro ns h;unfold gq at h;split at h
  ·rename_i n hn;split at h
   ·rename_i l hl
    injection h with h
    subst h
    obtain⟨h1,h2⟩:=ih _ hl
    refine⟨by simp [h1],λi b hb=>?_⟩
    cases i with
    |zero=>simp at hb;subst hb;exact⟨n,rfl,hn⟩
    |succ i=>simp at hb;obtain⟨m,q1,q2⟩:=h2 i b hb;exact⟨m,by simpa using q1,q2⟩
   ·cases h
  ·cases h
def jr:∀(ns:List Int) (i:Nat) (n:Int),bp ns->ns[i]? =some n->(aI ns)[i]? =some n.toNat/\0<=n:=by
 intro ns
 induction ns with
 |nil=>intro i n _ h;simp at h
 |cons x ns ih=>
  intro i n hn h
  cases i with
  |zero=>simp at h;subst h;exact⟨rfl,hn.1⟩
  |succ i=>simp at h;exact ih i n hn.2 h
def bQ:∀(ns:List Int),(aI ns).length=ns.length:=by
 intro ns
 induction ns with
 |nil=>rfl
 |cons x ns ih=>simp [aI,ih]
def Wy{c c':Ct}{new:List AV}{n:Nat}{p:Prop}(h:c.app new n=some (c',p))(hp:p)(hn:new.length=n * c.es):
 c'.len=c.len+n/\c'.es=c.es/\(∀i,i<c.len->c'.row i=c.row i)/\∀i,c.len<=i->i<c.len+n->∀(ρ:Rho) (vs:List Value),LR ρ ((new.drop ((i-c.len) * c.es)).take c.es) vs->LR ρ (c'.row i) vs:=by
 cases c with
 |rows m l=>
  unfold Ct.app at h
  simp only at h
  split at h
  ·rename_i gs hg;injection h with h;injection h with h1 h2;subst h1;obtain⟨c1,e1,e2,e3,e4⟩:=g_ _ _ _ _ hg;have e1:new=c1:=by simpa using e1
   subst e1;refine⟨by simp [Ct.len,e3],rfl,λi hi=>?_,λi h1 h2 ρ vs hl=>?_⟩
   ·have hi:i<l.length:=hi;simp only [Ct.row,aq,aag,aaD hi]
   ·have h1:l.length<=i:=h1;have h2:i<l.length+n:=h2;have:=e4 (i-l.length) (by omega) ρ vs hl;have e5:aq (l++gs) i=aq gs (i-l.length):=by simp only [aq,aag,aaA h1]
    simp only [Ct.row,e5];exact this
  ·cases h
 |bytes s=>
  unfold Ct.app at h
  simp only at h
  split at h
  ·rename_i ns hg;rw[ar] at h;split at h
   ·rename_i hnl;have hnl:=aae hnl;injection h with h;injection h with h1 h2;subst h1;subst h2;obtain⟨e1,e2⟩:=nx _ _ hg;refine⟨by simp [Ct.len,bQ,hnl],rfl,λi hi=>?_,λi h1 h2 ρ vs hl=>?_⟩
    ·have hi:i<s.length:=hi;simp only [Ct.row,aag,aaD hi]
    ·have h1:s.length<=i:=h1;have h2:i<s.length+n:=h2;have c9:i-s.length<new.length:=by omega
     have hd:(new.drop ((i-s.length) * 1)).take 1= [new[i-s.length]]:=by rw[aaJ,aaX c9];rfl
     have hl:LR ρ ((new.drop ((i-s.length) * 1)).take 1) vs:=hl;rw[hd] at hl;refine hl.one λv hv=>?_;obtain⟨n',q1,q2⟩:=e2 (i-s.length) new[i-s.length] (aak c9);obtain⟨q3,q4⟩:=jr _ _ _ hp q1;rw[bo hv q2];have e5:(s++aI ns).getD i 0=n'.toNat:=by rw[aag,aaA h1,q3];rfl
     rw[e5,show((n'.toNat:Nat):Int)=n' by omega];exact .sI _ _
   ·cases h
  ·cases h
def Wz{c c':Ct}{new:List AV}{i o:Nat}{p:Prop}(h:c.upd i o new=some (c',p))(hp:p)(hi:i<c.len)(ho:o+new.length<=c.es):
 c'.len=c.len/\c'.es=c.es/\(∀i',i'≠i->c'.row i'=c.row i')/\∀(ρ:Rho) (vs:List Value),LR ρ ((c.row i).take o++new++(c.row i).drop (o+new.length)) vs->LR ρ (c'.row i) vs:=by
 cases c with
 |rows m l=>
  unfold Ct.upd at h
  simp only at h
  split at h
  ·rename_i gs hg;injection h with h;injection h with h1 h2;subst h1;obtain⟨c1,e1,e2,e0,e3⟩:=jq _ _ _ _ hg;have e1:((Ct.rows m l).row i).take o++new++((Ct.rows m l).row i).drop (o+new.length)=c1:=by simpa using e1
   have hi:i<l.length:=hi;refine⟨by simp [Ct.len],rfl,λi' m7=>?_,λρ vs hl=>?_⟩
   ·simp only [Ct.row,aq,aag,List.getElem?_set_ne (Ne.symm m7)]
   ·rw[e1] at hl;have e4:aq (l.set i (.node gs)) i= .node gs:=by simp only [aq,aag,abN hi,Option.getD_some]
    simp only [Ct.row,e4];exact e3 (.node gs) 0 (λi hi=>by simp [aa,gL,aq]) ρ vs hl
  ·cases h
 |bytes s=>
  unfold Ct.upd at h
  simp only at h
  split at h
  ·rename_i a;split at h
   ·rename_i n hn;injection h with h;injection h with h1 h2;subst h1;subst h2;have hi:i<s.length:=hi;refine⟨by simp [Ct.len],rfl,λi' m7=>?_,λρ vs hl=>?_⟩
    ·simp only [Ct.row,aag,List.getElem?_set_ne (Ne.symm m7)]
    ·have hl:LR ρ [a] vs:=hl;have e4:(s.set i n.toNat).getD i 0=n.toNat:=by rw[aag,abN hi];rfl
     refine hl.one λv hv=>?_;rw[e4,bo hv hn,show((n.toNat:Nat):Int)=n by omega];exact .sI _ _
   ·cases h
  ·cases h
def LR.ones{ρ:Rho}{l:List AV}{vs:List Value}(hl:LR ρ l vs)(h:∀a∈l,gm a=true):∀v∈vs,v.oneCell'=true:=by
 intro v hv;obtain⟨j,hj,e⟩:=List.mem_iff_getElem.1 hv;have hj':j<l.length:=by have:=hl.1;omega
 have:=hl.2 j l[j] v (aak hj') (by rw[aak hj,e]);exact jm this (h _ (abd _))
def ny{ρ:Rho}{l l':List AV}{A:Nat->Option Value}(h:∀j a,l[j]? =some a->∃u,A j=some u/\VR ρ a u)(hl:∀vs,LR ρ l vs->LR ρ l' vs):∀j a,l'[j]? =some a->∃u,A j=some u/\VR ρ a u:=by
 let vs:List Value:=(List.range l.length).map λj=>(A j).getD undef;have L':LR ρ l vs:=by
  refine⟨by simp [vs],λi a v ha hv=>?_⟩;obtain⟨u,h1,h2⟩:=h i a ha;have hi:i<l.length:=by
   rcases aah i l.length with h'|h'
   ·exact h'
   ·rw[aam h'] at ha;cases ha
  simp [vs,hi,h1] at hv;rw[←hv];exact h2
 have h':=hl vs L';intro j a ha;obtain⟨v,hv,hr⟩:=h'.get ha;have hj:j<l.length:=by
  have:=h'.1;rcases aah j vs.length with h''|h''
  ·simpa [vs] using h''
  ·rw[aam h''] at hv;cases hv
 obtain⟨u,h1,h2⟩:=h j l[j] (aak hj);simp [vs,hj,h1] at hv;exact⟨u,h1,by rw[hv];exact hr⟩
end Go.Sym
