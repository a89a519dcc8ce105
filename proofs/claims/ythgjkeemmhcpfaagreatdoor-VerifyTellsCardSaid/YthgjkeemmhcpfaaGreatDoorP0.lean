/- Part 0. -/
import Derived.CallsIn
import Derived.RangeFuncLeaves
import Derived.OrdersIn
import Derived.Below
import Derived.KernelRfl
import Derived.Laws.Cells
set_option linter.all false
namespace Go.Sym
noncomputable section
def fN{β:Type}(n:Nat)(k:Nat->β):β:=Nat.rec (motive:=λ_=>β) (k 0) (λm _=>k (Nat.succ m)) n
def rB{β:Type}(n:Nat)(k:Nat->β):fN n k=k n:=by cases n <;> rfl
def fI{β:Type}(n:Int)(k:Int->β):β:=Int.rec (motive:=λ_=>β) (λa=>fN a λa=>k (Int.ofNat a)) (λa=>fN a λa=>k (Int.negSucc a)) n
def Zj{β:Type}(n:Int)(k:Int->β):fI n k=k n:=by cases n <;> simp [fI,rB]
def ac{β:Type}(b:Bool)(t e:β):β:=Bool.rec (motive:=λ_=>β) e t b
def ar{β:Type}(b:Bool)(t e:β):ac b t e=if b then t else e:=by cases b <;> rfl
def cU{α β:Type}(o:Option α)(z:β)(k:α->β):β:=Option.rec (motive:=λ_=>β) z k o
def aD{b:Bool}{t:Bool}(h:ac b t false=true):b=true/\t=true:=by cases b <;> first|exact⟨rfl,h⟩|cases h
def CR{b:Bool}{t:Bool}(h:ac b false t=true):b=false/\t=true:=by cases b <;> first|exact⟨rfl,h⟩|cases h
inductive T(α:Type) where
 |leaf
 |node (l:T α) (v:Option α) (r:T α)
namespace T
variable{α β:Type}
def get:T α->Nat->Option α
 | .leaf,_=>none
 | .node l v r,n=>match n with
  |0=>v
  |m+1=>if m%2=0 then get l (m/2) else get r (m/2)
def iJ:Nat->Nat->α->T α
 |0,_,_=>.leaf
 |f+1,n,a=>match n with
  |0=>.node .leaf (some a) .leaf
  |m+1=>if m%2=0 then .node (iJ f (m/2) a) none .leaf else .node .leaf none (iJ f (m/2) a)
def set:T α->Nat->α->T α
 | .leaf,n,a=>iJ 64 n a
 | .node l v r,n,a=>match n with
  |0=>.node l (some a) r
  |m+1=>if m%2=0 then .node (set l (m/2) a) v r else .node l v (set r (m/2) a)
def getK(t:T α)(n:Nat)(z:β)(k:α->β):β:=
 T.rec (motive:=λ_=>Nat->β) (λ_=>z) (λ_ v _ gl gr n=>
  Nat.rec (motive:=λ_=>β) (Option.rec (motive:=λ_=>β) z k v) (λm _=>Bool.rec (motive:=λ_=>β) (gr (Nat.div m 2)) (gl (Nat.div m 2)) (Nat.beq (Nat.mod m 2) 0)) n) t n
def EN(f:Nat)(n:Nat)(a:α)(k:T α->β):β:=
 Nat.rec (motive:=λ_=>Nat->(T α->β)->β) (λ_ k=>k .leaf) (λ_ ih n k=>
  Nat.rec (motive:=λ_=>β) (k (.node .leaf (some a) .leaf)) (λm _=>Bool.rec (motive:=λ_=>β) (ih (Nat.div m 2) λt=>k (.node .leaf none t)) (ih (Nat.div m 2) λt=>k (.node t none .leaf)) (Nat.beq (Nat.mod m 2) 0)) n) f n k
def setK(t:T α)(n:Nat)(a:α)(k:T α->β):β:=
 T.rec (motive:=λ_=>Nat->(T α->β)->β) (λn k=>EN 64 n a k) (λl v r sl sr n k=>
  Nat.rec (motive:=λ_=>β) (k (.node l (some a) r)) (λm _=>Bool.rec (motive:=λ_=>β) (sr (Nat.div m 2) λt=>k (.node l v t)) (sl (Nat.div m 2) λt=>k (.node t v r)) (Nat.beq (Nat.mod m 2) 0)) n) t n k
def getK_eq(t:T α):∀(n:Nat) (z:β) (k:α->β),getK t n z k=match get t n with|none=>z|some a=>k a:=by
 induction t with
 |leaf=>intro n z k;simp [getK,get]
 |node l v r ihl ihr=>
  intro n z k
  cases n with
  |zero=>cases v <;> rfl
  |succ m=>
   show Bool.rec (motive:=λ_=>β) (getK r (m/2) z k) (getK l (m/2) z k) (Nat.beq (m%2) 0)=_;rw[ihl,ihr];by_cases h:m%2=0
   ·have:Nat.beq (m%2) 0=true:=by rw[h];rfl
    simp [get,h]
   ·have:Nat.beq (m%2) 0=false:=by
     cases hb:Nat.beq (m%2) 0 with
     |false=>rfl
     |true=>exact absurd (Nat.eq_of_beq_eq_true hb) h
    rw[this];simp [get,h]
def Kt(a:α):∀(f n:Nat) (k:T α->β),EN f n a k=k (iJ f n a):=by
 intro f
 induction f with
 |zero=>intro n k;rfl
 |succ f ih=>
  intro n k
  cases n with
  |zero=>rfl
  |succ m=>
   show Bool.rec (motive:=λ_=>β) (EN f (m/2) a λt=>k (.node .leaf none t)) (EN f (m/2) a λt=>k (.node t none .leaf)) (Nat.beq (m%2) 0)=_;rw[ih,ih];by_cases h:m%2=0
   ·have:Nat.beq (m%2) 0=true:=by rw[h];rfl
    rw[this];simp [iJ,h]
   ·have:Nat.beq (m%2) 0=false:=by
     cases hb:Nat.beq (m%2) 0 with
     |false=>rfl
     |true=>exact absurd (Nat.eq_of_beq_eq_true hb) h
    rw[this];simp [iJ,h]
def setK_eq(t:T α)(a:α):∀(n:Nat) (k:T α->β),setK t n a k=k (set t n a):=by
 induction t with
 |leaf=>intro n k;exact Kt a 64 n k
 |node l v r ihl ihr=>
  intro n k
  cases n with
  |zero=>rfl
  |succ m=>
   show Bool.rec (motive:=λ_=>β) (setK r (m/2) a λt=>k (.node l v t)) (setK l (m/2) a λt=>k (.node t v r)) (Nat.beq (m%2) 0)=_;rw[ihl,ihr];by_cases h:m%2=0
   ·have:Nat.beq (m%2) 0=true:=by rw[h];rfl
    rw[this];simp [set,h]
   ·have:Nat.beq (m%2) 0=false:=by
     cases hb:Nat.beq (m%2) 0 with
     |false=>rfl
     |true=>exact absurd (Nat.eq_of_beq_eq_true hb) h
    rw[this];simp [set,h]
def Ku(a:α):∀(f n m:Nat),n+1<2 ^ f->get (iJ f n a) m=if m=n then some a else none:=by
 intro f
 induction f with
 |zero=>intro n m h;simp at h
 |succ f ih=>
  intro n m h
  cases n with
  |zero=>
   cases m with
   |zero=>simp [iJ,get]
   |succ m=>simp [iJ,get]
  |succ n=>
   have hn:n/2+1<2 ^ f:=by rw[Nat.pow_succ] at h;omega
   cases m with
   |zero=>simp only [iJ];split <;> simp [get]
   |succ m=>
    simp only [iJ];split
    ·simp only [get];split
     ·rw[ih _ _ hn];by_cases e:m/2=n/2
      ·rw[if_pos e,if_pos (by omega)]
      ·rw[if_neg e,if_neg (by omega)]
     ·rw[if_neg (by omega)]
    ·simp only [get];split
     ·rw[if_neg (by omega)]
     ·rw[ih _ _ hn];by_cases e:m/2=n/2
      ·rw[if_pos e,if_pos (by omega)]
      ·rw[if_neg e,if_neg (by omega)]
def get_set_ne(a:α){n m:Nat}(m8:m≠n):∀(t:T α),get (set t n a) m=get t m:=by
 have hs:∀(f n m:Nat),m≠n->get (iJ f n a) m=none:=by
  intro f
  induction f with
  |zero=>intro n m _;rfl
  |succ f ih=>
   intro n m h
   cases n with
   |zero=>cases m with
    |zero=>exact absurd rfl h
    |succ m=>simp [iJ,get]
   |succ n=>
    cases m with
    |zero=>simp only [iJ];split <;> simp [get]
    |succ m=>
     simp only [iJ];split
     ·simp only [get];split
      ·exact ih _ _ (by omega)
      ·rfl
     ·simp only [get];split
      ·rfl
      ·exact ih _ _ (by omega)
 intro t
 induction t generalizing n m with
 |leaf=>exact hs 64 n m m8
 |node l v r ihl ihr=>
  cases n with
  |zero=>cases m with
   |zero=>exact absurd rfl m8
   |succ m=>simp [set,get]
  |succ n=>
   cases m with
   |zero=>simp only [set];split <;> simp [get]
   |succ m=>
    simp only [set];split
    ·simp only [get];split
     ·exact ihl (by omega)
     ·rfl
    ·simp only [get];split
     ·rfl
     ·exact ihr (by omega)
def get_set_same(a:α):∀(t:T α) (n:Nat),n+1<2 ^ 64->get (set t n a) n=some a:=by
 intro t
 induction t with
 |leaf=>intro n h;show get (iJ 64 n a) n=_;rw[Ku a 64 n n h];simp
 |node l v r ihl ihr=>
  intro n h
  cases n with
  |zero=>simp [set,get]
  |succ m=>
   simp only [set];split <;> simp only [get, *,if_true,if_false]
   ·exact ihl _ (by omega)
   ·exact ihr _ (by omega)
def get_set_some{a b:α}:∀(t:T α) (n:Nat),get (set t n a) n=some b->b=a:=by
 have hs:∀(f n:Nat),get (iJ f n a) n=some b->b=a:=by
  intro f
  induction f with
  |zero=>intro n h;simp [iJ,get] at h
  |succ f ih=>
   intro n h
   cases n with
   |zero=>simp [iJ,get] at h;exact h.symm
   |succ n=>
    simp only [iJ] at h;split at h
    ·simp only [get, *,if_true] at h;exact ih _ h
    ·simp only [get, *,if_false] at h;exact ih _ h
 intro t
 induction t with
 |leaf=>intro n h;exact hs 64 n h
 |node l v r ihl ihr=>
  intro n h
  cases n with
  |zero=>simp [set,get] at h;exact h.symm
  |succ m=>
   simp only [set] at h;split at h
   ·simp only [get, *,if_true] at h;exact ihl _ h
   ·simp only [get, *,if_false] at h;exact ihr _ h
end T
end
end Go.Sym
namespace Go.Sym
abbrev aaa:=@Nat.le_refl
abbrev aab:=@Sem.run_bind
abbrev aac:=@Nat.eq_of_beq_eq_true
abbrev aad:=@Sem.run_pure
abbrev aae:=@Result.andThen_ok
abbrev aaf:=@Nat.lt_or_ge
abbrev aag:=@List.getD_eq_getElem?_getD
abbrev aah:=@List.length_append
abbrev aai:=@List.getElem?_eq_getElem
abbrev aaj:=@List.mem_cons_of_mem
abbrev aak:=@List.getElem?_eq_none
abbrev aal:=@List.length_take
abbrev aam:=@Nat.zero_add
abbrev aan:=@List.mem_cons_self
abbrev aao:=@List.length_drop
abbrev aap:=@Nat.zero_le
abbrev aaq:=@Int.toNat_natCast
abbrev aar:=@List.getElem?_take_of_lt
abbrev aas:=@Nat.add_zero
abbrev aat:=@List.getElem?_drop
abbrev aau:=@List.length_cons
abbrev aav:=@List.append_assoc
abbrev aaw:=@Nat.le_of_ble_eq_true
abbrev aax:=@List.getElem?_append_right
abbrev aay:=@Nat.mul_le_mul_right
abbrev aaz:=@Nat.add_mul
abbrev aaA:=@List.getElem?_append_left
abbrev aaB:=@List.map_cons
abbrev aaC:=@List.setIfInBounds_toArray
abbrev aaD:=@List.set_cons_zero
abbrev aaE:=@List.set_cons_succ
abbrev aaF:=@Nat.mul_one
abbrev aaG:=@Array.getElem?_setIfInBounds
abbrev aaH:=@Nat.le_trans
abbrev aaI:=@List.getElem?_map
abbrev aaJ:=@Array.length_toList
abbrev aaK:=@List.length_map
abbrev aaL:=@List.length_singleton
abbrev aaM:=@Array.getElem?_eq_getElem
abbrev aaN:=@Nat.succ_mul
abbrev aaO:=@List.drop_eq_nil_of_le
abbrev aaP:=@List.not_mem_nil
abbrev aaQ:=@Nat.two_pow_pos
abbrev aaR:=@List.drop_zero
abbrev aaS:=@Nat.eq_zero_or_pos
abbrev aaT:=@Array.getElem?_eq_none
abbrev aaU:=@Array.getD_eq_getD_getElem?
abbrev aaV:=@Option.map_some
abbrev aaW:=@Array.getElem?_toList
abbrev aaX:=@Nat.pow_succ
abbrev aaY:=@List.length_set
abbrev aaZ:=@Int.ofNat_eq_natCast
abbrev aa0:=@List.getElem?_take
abbrev aa1:=@List.drop_drop
abbrev aa2:=@List.drop_eq_getElem_cons
abbrev aa3:=@Option.isSome_none
abbrev aa4:=@List.map_map
abbrev aa5:=@Nat.lt_of_lt_of_le
abbrev aa6:=@List.getElem?_toArray
abbrev aa7:=@List.take_length
abbrev aa8:=@List.nil_append
abbrev aa9:=@Nat.mod_eq_of_lt
abbrev aa_:=@Nat.sub_self
abbrev aba:=@List.append_nil
abbrev abb:=@List.take_append_drop
abbrev abc:=@Nat.zero_mul
abbrev abd:=@List.take_of_length_le
abbrev abe:=@List.getElem_mem
abbrev abf:=@List.mem_of_getElem?
abbrev abg:=@Nat.mul_le_mul
abbrev abh:=@List.sum_cons
abbrev abj:=@List.all_eq_true
abbrev abk:=@Nat.beq_refl
abbrev abl:=@Nat.sub_zero
abbrev abm:=@Int.toNat_of_nonneg
abbrev abn:=@List.mem_append_left
abbrev abo:=@List.mem_append_right
abbrev abp:=@Nat.min_eq_left
abbrev abq:=@List.take_append_of_le_length
abbrev abr:=@Nat.add_assoc
abbrev abs:=@List.drop_take
abbrev abt:=@Classical.choose_spec
abbrev abu:=@List.mem_map_of_mem
abbrev abv:=@Nat.pow_le_pow_right
abbrev abw:=@Nat.mod_two_eq_zero_or_one
abbrev abx:=@List.length_replicate
abbrev aby:=@List.getElem?_cons_succ
abbrev abz:=@List.extract_eq_take_drop
abbrev abA:=@Nat.le_succ_of_le
abbrev abB:=@List.drop_append_of_le_length
abbrev abC:=@List.getElem?_set
abbrev abD:=@List.toList_toArray
abbrev abE:=@List.getElem?_cons_zero
abbrev abF:=@List.getElem_map
abbrev abG:=@Int.dvd_of_emod_eq_zero
abbrev abH:=@List.getElem_of_mem
abbrev abI:=@List.length_range
abbrev abJ:=@List.filter_cons_of_pos
abbrev abK:=@List.filter_cons_of_neg
abbrev abL:=@List.getElem?_set_self
abbrev abM:=@Array.size_setIfInBounds
abbrev abN:=@List.mem_zipIdx_iff_getElem?
abbrev abO:=@Array.getElem?_replicate
abbrev abP:=@Nat.and_two_pow_sub_one_eq_mod
abbrev abQ:=@List.replicate_append_replicate
abbrev abR:=@List.not_of_lt_findIdx
abbrev abS:=@List.getElem_append_left
open Go.RowKit (Below)
noncomputable section
def base:Nat:=1048576
inductive G where
 |int (n:Int)
 |str (s:List Nat)
 |node (l:List G)
def gI(g:G):Int:=match g with | .int n=>n|_=>0
def gS(g:G):List Nat:=match g with | .str s=>s|_=>[]
def gL(g:G):List G:=match g with | .node l=>l|_=>[]
def aa(g:G)(j:Nat):G:=(gL g).getD j (.int 0)
def aq(l:List G)(i:Nat):G:=l.getD i (.int 0)
def kA(s:List Nat)(i:Nat):Nat:=s.getD i 0%256
theorem ak(s:List Nat)(i:Nat):kA s i<256:=Nat.mod_lt _ (by decide)
inductive Sc where
 |i (k:IntKind)
 |b
 |s
 |o
 |sl (m:Nat)
 |bs
 |h (n:Nat)
def cK(m:Nat):List Sc:=match m with
 |0=>[.i .i64,.s,.i .i64]
 |1=>[.s]
 |2=>[.i .i64,.i .i64,.i .i64,.s,.sl 1,.sl 2]
 |3=>[.i .i64,.i .i64,.s,.i .i64,.i .i64,.i .i64,.s,.o,.o,.o,.o]
 |4=>[.b]
 |5=>[.i .i64,.s,.i .i64,.i .i64,.s,.i .i64,.i .i64,.i .i64,.s,.o,.o,.o,.o,.s]
 |6=>[.h 32]
 |7=>[.i .i64,.s,.i .i64,.i .i64,.i .i64,.i .i64,.i .i64,.i .i64,.s,.sl 1,.sl 2,.h 32,.b,.i .i64,.i .i64]
 |8=>[.i .i64]
 |9=>[.i .u32]
 |10=>[.i .u64]
 |11=>[.i .i64,.i .i64,.i .i64,.h 32,.sl 7]
 |12=>[.s,.bs,.i .i64]
 |13=>[.sl 2]
 |14=>[.i .i64,.i .i64]
 |15=>[.bs,.h 32]
 |16=>[.bs]
 |_=>[]
inductive Ct where
 |rows (m:Nat) (l:List G)
 |bytes (s:List Nat)
inductive AV where
 |bool (b:Bool)
 |int (k:IntKind) (n:Int)
 |str (s:List Nat)
 |nilp
 |ptr (b g o:Nat)
 |nils
 |slc (b g o len:Nat) (cap:Option Nat) (es:Nat)
 |nilm
 |map (b:Nat)
 |func (fn:Fn) (first captured:List AV)
 |nilf
 |iface (t:Nat) (v:AV)
 |nili
 |agg (l:List AV)
 |tup (l:List AV)
 |opq (n:Nat)
 |anyB
 |anyI (k:IntKind)
 |osl (n:Nat)
 |opc (n:Nat)
 |sI (k:IntKind) (n:Int)
 |sB (p:Prop)
 |sS (s:List Nat)
 |any1
 |cptr (l:List AV)
 |cv (c:Ct)
 |gsl (b g n es:Nat)
 |gptr (b g i o es:Nat)
 |aptr (b g o n:Nat) (i:Int)
def mo(g:G):Nat->Nat->List AV
 |0,_=>[]
 |n+1,i=>.sI .u8 (gI (aa g i))::mo g n (i+1)
def CS(g:G):∀(n i:Nat),(mo g n i).length=n:=by
 intro n
 induction n with
 |zero=>intro i;rfl
 |succ n ih=>intro i;simp [mo,ih]
def fP(x:Sc)(g:G):List AV:=match x with
 | .i k=>[.sI k (gI g)]
 | .b=>[.sB (gI g=1)]
 | .s=>[.sS (gS g)]
 | .o=>[.any1]
 | .sl m=>[.cv (.rows m (gL g))]
 | .bs=>[.cv (.bytes (gS g))]
 | .h n=>mo g n 0
def bB:List Sc->G->Nat->List AV
 | [],_,_=>[]
 |x::xs,g,j=>fP x (aa g j)++bB xs g (j+1)
def scW(x:Sc):Nat:=match x with | .h n=>n|_=>1
def bq:List Sc->Nat
 | []=>0
 |x::xs=>scW x+bq xs
def zI(x:Sc)(g:G):(fP x g).length=scW x:=by cases x <;> simp [fP,scW,CS]
def rC:∀(xs:List Sc) (g:G) (j:Nat),(bB xs g j).length=bq xs:=by
 intro xs
 induction xs with
 |nil=>intro g j;rfl
 |cons x xs ih=>intro g j;simp [bB,bq,zI,ih]
def Ct.len:Ct->Nat
 | .rows _ l=>l.length
 | .bytes s=>s.length
def Ct.es:Ct->Nat
 | .rows m _=>bq (cK m)
 | .bytes _=>1
def Ct.row:Ct->Nat->List AV
 | .rows m l,i=>bB (cK m) (aq l i) 0
 | .bytes s,i=>[.sI .u8 ((s.getD i 0:Nat):Int)]
def Ct.row_len(c:Ct)(i:Nat):(c.row i).length=c.es:=by
 cases c with
 |rows m l=>exact rC _ _ _
 |bytes s=>rfl
def Ct.cut(c:Ct)(a b:Nat):Ct:=match c with
 | .rows m l=>.rows m ((l.take b).drop a)
 | .bytes s=>.bytes ((s.take b).drop a)
def Ct.cut_len(c:Ct){a b:Nat}(h1:a<=b)(h2:b<=c.len):(c.cut a b).len=b-a:=by
 cases c with
 |rows m l=>simp only [cut,len,aao,aal] at *;omega
 |bytes s=>simp only [cut,len,aao,aal] at *;omega
def Ct.cut_es(c:Ct)(a b:Nat):(c.cut a b).es=c.es:=by cases c <;> rfl
def Ct.cut_row(c:Ct){a b i:Nat}(h:a+i<b):(c.cut a b).row i=c.row (a+i):=by
 cases c with
 |rows m l=>simp only [cut,row,aq,aag,aat];rw[aar h]
 |bytes s=>simp only [cut,row,aag,aat];rw[aar h]
structure MSch where
 ks:List IntKind
 ka:Bool
 vs:List Sc
 va:Bool
def bJ(m:Nat):MSch:=match m with
 |0=>⟨[.i64,.i64],true,[.h 32],true⟩
 |1=>⟨[.i64,.i64],true,[.b],false⟩
 |2=>⟨[.i64],false,[.b],false⟩
 |3=>⟨[.i64],false,[.bs],false⟩
 |4=>⟨[.i64,.i64],true,[.i .i64],false⟩
 |5=>⟨[.i64],false,[.i .i64,.i .i64,.i .i64,.h 32,.sl 7],true⟩
 |_=>⟨[],false,[],false⟩
def V5(b:Bool)(l:List AV):AV:=match b,l with
 |true,l=>.agg l
 |false,a::_=>a
 |false,[]=>.nilp
def mq:List IntKind->G->Nat->List AV
 | [],_,_=>[]
 |k::ks,g,j=>.sI k (gI (aa g j))::mq ks g (j+1)
def ne(m:Nat)(g:G):AV:=V5 (bJ m).ka (mq (bJ m).ks g 0)
def jU(m:Nat)(g:G):AV:=V5 (bJ m).va (bB (bJ m).vs g (bJ m).ks.length)
def dA:Nat->G->Nat->List Int
 |0,_,_=>[]
 |n+1,g,j=>gI (aa g j)::dA n g (j+1)
def cG(m:Nat)(l:List G)(k:List Int):Nat:=l.findIdx λg=>decide (dA (bJ m).ks.length g 0=k)
def kg(m:Nat)(l:List G)(k:List Int):Prop:=cG m l k<l.length
def eM(m:Nat)(l:List G)(k:List Int):G:=aq l (cG m l k)
def dk(m:Nat)(l:List G)(k:List Int)(v:List G):List G:=if cG m l k<l.length then l.set (cG m l k) (.node (k.map G.int++v)) else l++ [.node (k.map G.int++v)]
structure Home where
 blk:Nat
 shift:Nat
 size:Nat
structure Rho where
 at_:Nat->Nat->Option Home
 val:Nat->Value
 own:Nat->Prop
 frz:Nat->Option (Array Value×TypeId)
 frz0:Nat->Option (Array Value×TypeId)
def bytesOf(s:ByteArray):List Nat:=s.data.toList.map UInt8.toNat
def SlOk(ρ:Rho)(b g o len:Nat)(cap:Option Nat)(es:Nat)(a:Addr)(c:Nat):Prop:=
 len<=c/\match cap with
 |some k=>c=k/\∃h,ρ.at_ b g=some h/\h.shift<=o/\a=⟨h.blk,o-h.shift,none⟩
 |none=>(len=0/\c=0)∨∃h,ρ.at_ b g=some h/\h.shift<=o/\a=⟨h.blk,o-h.shift,none⟩/\(o-h.shift)+c * es<=h.size
def zJ:Fn->Bool
 | .yield _=>false
 |_=>true
inductive VR(ρ:Rho):AV->Value->Prop where
 |bool (b:Bool):VR ρ (.bool b) (.bool b)
 |int (k:IntKind) (n:Int):VR ρ (.int k n) (.int k n)
 |str (s:ByteArray):VR ρ (.str (bytesOf s)) (.string s)
 |nilp:VR ρ .nilp (.pointer none)
 |ptr (b g o:Nat) (h:Home) (hh:ρ.at_ b g=some h) (ho:h.shift<=o):VR ρ (.ptr b g o) (.pointer (some ⟨h.blk,o-h.shift,none⟩))
 |nils:VR ρ .nils (.slice none 0 0)
 |slc (b g o len:Nat) (cap:Option Nat) (es:Nat) (a:Addr) (c:Nat) (h:SlOk ρ b g o len cap es a c):VR ρ (.slc b g o len cap es) (.slice (some a) len c)
 |nilm:VR ρ .nilm (.map none)
 |map (b:Nat) (h:Home) (hh:ρ.at_ b 0=some h):VR ρ (.map b) (.map (some h.blk))
 |func (fn:Fn) (l m:List AV) (first captured:Array Value) (h1:first.size=l.length) (h2:captured.size=m.length)
   (r1:∀(i:Nat) (a:AV) (v:Value),l[i]? =some a->first[i]? =some v->VR ρ a v) (r2:∀(i:Nat) (a:AV) (v:Value),m[i]? =some a->captured[i]? =some v->VR ρ a v) (hf:zJ fn=true):
   VR ρ (.func fn l m) (.func fn first captured)
 |yld (b:Nat) (h:Home) (hh:ρ.at_ b 0=some h):VR ρ (.func (.yield b) [] []) (.func (.yield h.blk) #[] #[])
 |nilf:VR ρ .nilf .nilFunc
 |iface (t:Nat) (x:AV) (v:Value) (h:VR ρ x v):VR ρ (.iface t x) (.iface t v)
 |nili:VR ρ .nili .nilIface
 |agg (l:List AV) (cs:Array Value) (h:cs.size=l.length) (r:∀(i:Nat) (a:AV) (v:Value),l[i]? =some a->cs[i]? =some v->VR ρ a v):VR ρ (.agg l) (.agg cs)
 |tup (l:List AV) (cs:Array Value) (h:cs.size=l.length) (r:∀(i:Nat) (a:AV) (v:Value),l[i]? =some a->cs[i]? =some v->VR ρ a v):VR ρ (.tup l) (.tuple cs)
 |opq (n:Nat):VR ρ (.opq n) (ρ.val n)
 |opc (n:Nat) (h:(ρ.val n).oneCell'=true):VR ρ (.opc n) (ρ.val n)
 |anyB (b:Bool):VR ρ .anyB (.bool b)
 |anyI (k:IntKind) (n:Int):VR ρ (.anyI k) (.int k n)
 |osl (n:Nat) (base:Option Addr) (len cap:Nat) (h:ρ.val n= .slice base len cap):VR ρ (.osl n) (.slice base len cap)
 |sI (k:IntKind) (n:Int):VR ρ (.sI k n) (.int k n)
 |sB (p:Prop) (b:Bool) (h:b=true↔p):VR ρ (.sB p) (.bool b)
 |sS (s:ByteArray):VR ρ (.sS (bytesOf s)) (.string s)
 |any1 (v:Value) (h:v.oneCell'=true):VR ρ .any1 v
 |cptr (l:List AV) (blk off:Nat) (arr:Array Value) (ty:TypeId) (hf:ρ.frz blk=some (arr,ty)) (hb:off+l.length<=arr.size)
   (r:∀(j:Nat) (a:AV) (v:Value),l[j]? =some a->arr[off+j]? =some v->VR ρ a v):VR ρ (.cptr l) (.pointer (some ⟨blk,off,none⟩))
 |cv (c:Ct) (blk off cp:Nat) (arr:Array Value) (ty:TypeId) (hf:ρ.frz blk=some (arr,ty)) (hc:c.len<=cp) (hb:off+c.len * c.es<=arr.size)
   (r:∀(i j:Nat) (a:AV) (v:Value),i<c.len->(c.row i)[j]? =some a->arr[off+i * c.es+j]? =some v->VR ρ a v):VR ρ (.cv c) (.slice (some ⟨blk,off,none⟩) c.len cp)
 |cvnil (c:Ct) (h:c.len=0):VR ρ (.cv c) (.slice none 0 0)
 |cvempty (c:Ct) (a:Addr) (h:c.len=0):VR ρ (.cv c) (.slice (some a) 0 0)
 |gsl (b g n es:Nat) (h:Home) (c:Nat) (hn:0<n) (hh:ρ.at_ b g=some h) (hs:h.shift=0) (hc:n<=c) (hz:c * es<=h.size):VR ρ (.gsl b g n es) (.slice (some ⟨h.blk,0,none⟩) n c)
 |gnil (b g es:Nat):VR ρ (.gsl b g 0 es) (.slice none 0 0)
 |gempty (b g es:Nat) (a:Addr):VR ρ (.gsl b g 0 es) (.slice (some a) 0 0)
 |gptr (b g i o es:Nat) (h:Home) (hh:ρ.at_ b g=some h) (hs:h.shift=0):VR ρ (.gptr b g i o es) (.pointer (some ⟨h.blk,i * es+o,none⟩))
 |aptr (b g o n:Nat) (i:Int) (h:Home) (hh:ρ.at_ b g=some h) (ho:h.shift<=o) (h0:0<=i) (h1:i<(n:Int)):VR ρ (.aptr b g o n i) (.pointer (some ⟨h.blk,o-h.shift+i.toNat,none⟩))
def LR(ρ:Rho)(l:List AV)(vs:List Value):Prop:=vs.length=l.length/\∀(i:Nat) (a:AV) (v:Value),l[i]? =some a->vs[i]? =some v->VR ρ a v
def LR.nil(ρ:Rho):LR ρ [] []:=⟨rfl,by simp⟩
def LR.cons{ρ:Rho}{a:AV}{v:Value}{l:List AV}{vs:List Value}(h:VR ρ a v)(h':LR ρ l vs):LR ρ (a::l) (v::vs):=by
 refine⟨by simp [h'.1],λi b u hb hu=>?_⟩
 cases i with
 |zero=>simp at hb hu;subst hb;subst hu;exact h
 |succ i=>simp at hb hu;exact h'.2 i b u hb hu
def LR.cons_inv{ρ:Rho}{a:AV}{l:List AV}{vs:List Value}(h:LR ρ (a::l) vs):∃v K',vs=v::K'/\VR ρ a v/\LR ρ l K':=by
 cases vs with
 |nil=>exact absurd h.1 (by simp)
 |cons v K'=>refine⟨v,K',rfl,h.2 0 a v rfl rfl,by simpa using h.1,λi b u hb hu=>h.2 (i+1) b u (by simpa using hb) (by simpa using hu)⟩
def LR.nil_inv{ρ:Rho}{vs:List Value}(h:LR ρ [] vs):vs= []:=by
 cases vs with
 |nil=>rfl
 |cons v vs=>exact absurd h.1 (by simp)
def LR.append{ρ:Rho}{l m:List AV}{vs us:List Value}(h:LR ρ l vs)(h':LR ρ m us):LR ρ (l++m) (vs++us):=by
 refine⟨by simp [h.1,h'.1],λi a v ha hv=>?_⟩;by_cases hi:i<l.length
 ·rw[aaA hi] at ha;rw[aaA (by rw[h.1];exact hi)] at hv;exact h.2 i a v ha hv
 ·rw[aax (by omega)] at ha;rw[aax (by rw[h.1];omega),h.1] at hv;exact h'.2 _ a v ha hv
def LR.get{ρ:Rho}{l:List AV}{vs:List Value}(h:LR ρ l vs){i:Nat}{a:AV}(ha:l[i]? =some a):∃v,vs[i]? =some v/\VR ρ a v:=by
 have hi:i<l.length:=by
  rcases aaf i l.length with h'|h'
  ·exact h'
  ·rw[aak h'] at ha;cases ha
 have:i<vs.length:=by rw[h.1];exact hi
 exact⟨vs[i],aai this,h.2 i a _ ha (aai this)⟩
structure Rho.le(ρ ρ':Rho):Prop where
 at_:∀b g h,ρ.at_ b g=some h->ρ'.at_ b g=some h
 val:ρ'.val=ρ.val
 own:ρ'.own=ρ.own
 frz:∀b x,ρ.frz b=some x->ρ'.frz b=some x
 frz0:ρ'.frz0=ρ.frz0
def Rho.le.refl(ρ:Rho):ρ.le ρ:=⟨λ_ _ _ h=>h,rfl,rfl,λ_ _ h=>h,rfl⟩
def Rho.le.trans{a b c:Rho}(h:a.le b)(h':b.le c):a.le c:=⟨λx g y hy=>h'.at_ _ _ _ (h.at_ _ _ _ hy),h'.val.trans h.val,h'.own.trans h.own,λx y hy=>h'.frz _ _ (h.frz _ _ hy),h'.frz0.trans h.frz0⟩
def SlOk.mono{ρ ρ':Rho}(hle:ρ.le ρ'){b g o len:Nat}{cap:Option Nat}{es:Nat}{a:Addr}{c:Nat}(h:SlOk ρ b g o len cap es a c):SlOk ρ' b g o len cap es a c:=by
 refine⟨h.1, ?_⟩
 have h2:=h.2
 cases cap with
 |some k=>obtain⟨e,x,hx,r⟩:=h2;exact⟨e,x,hle.at_ _ _ _ hx,r⟩
 |none=>
  rcases h2 with h2|⟨x,hx,r⟩
  ·exact .inl h2
  ·exact .inr ⟨x,hle.at_ _ _ _ hx,r⟩
def VR.mono{ρ ρ':Rho}(hle:ρ.le ρ'){a:AV}{v:Value}(h:VR ρ a v):VR ρ' a v:=by
 induction h with
 |bool b=>exact .bool b
 |int k n=>exact .int k n
 |str s=>exact .str s
 |nilp=>exact .nilp
 |ptr b g o h hh ho=>exact .ptr b g o h (hle.at_ _ _ _ hh) ho
 |nils=>exact .nils
 |slc b g o len cap es a c h=>exact .slc b g o len cap es a c (h.mono hle)
 |nilm=>exact .nilm
 |map b h hh=>exact .map b h (hle.at_ _ _ _ hh)
 |func fn l m first captured h1 h2 r1 r2 hf i1 i2=>exact .func fn l m first captured h1 h2 i1 i2 hf
 |yld b h hh=>exact .yld b h (hle.at_ _ _ _ hh)
 |nilf=>exact .nilf
 |iface t x v h ih=>exact .iface t x v ih
 |nili=>exact .nili
 |agg l cs h r ih=>exact .agg l cs h ih
 |tup l cs h r ih=>exact .tup l cs h ih
 |opq n=>rw[←hle.val];exact .opq n
 |opc n h=>rw[←hle.val];exact .opc n (by rw[hle.val];exact h)
 |anyB b=>exact .anyB b
 |anyI k n=>exact .anyI k n
 |osl n base len cap h=>exact .osl n base len cap (by rw[hle.val];exact h)
 |sI k n=>exact .sI k n
 |sB p b h=>exact .sB p b h
 |sS s=>exact .sS s
 |any1 v h=>exact .any1 v h
 |cptr l blk off arr ty hf hb r ih=>exact .cptr l blk off arr ty (hle.frz _ _ hf) hb ih
 |cv c blk off cp arr ty hf hc hb r ih=>exact .cv c blk off cp arr ty (hle.frz _ _ hf) hc hb ih
 |cvnil c h=>exact .cvnil c h
 |cvempty c a h=>exact .cvempty c a h
 |gsl b g n es h c hn hh hs hc hz=>exact .gsl b g n es h c hn (hle.at_ _ _ _ hh) hs hc hz
 |gnil b g es=>exact .gnil b g es
 |gempty b g es a=>exact .gempty b g es a
 |gptr b g i o es h hh hs=>exact .gptr b g i o es h (hle.at_ _ _ _ hh) hs
 |aptr b g o n i h hh ho h0 h1=>exact .aptr b g o n i h (hle.at_ _ _ _ hh) ho h0 h1
def LR.mono{ρ ρ':Rho}(hle:ρ.le ρ'){l:List AV}{vs:List Value}(h:LR ρ l vs):LR ρ' l vs:=⟨h.1,λi a v ha hv=>(h.2 i a v ha hv).mono hle⟩
def LR.arr{ρ:Rho}{l:List AV}{cs:Array Value}(h:LR ρ l cs.toList):cs.size=l.length/\∀(i:Nat) (a:AV) (v:Value),l[i]? =some a->cs[i]? =some v->VR ρ a v:=
 ⟨by simpa using h.1,λi a v ha hv=>h.2 i a v ha (by simpa using hv)⟩
def LR.of_arr{ρ:Rho}{l:List AV}{cs:Array Value}(h:cs.size=l.length)(r:∀(i:Nat) (a:AV) (v:Value),l[i]? =some a->cs[i]? =some v->VR ρ a v):LR ρ l cs.toList:=
 ⟨by simpa using h,λi a v ha hv=>r i a v ha (by simpa using hv)⟩
def V6:Nat->Value->Option AV
 |0,_=>none
 |f+1,v=>match v with
  | .bool b=>some (.bool b)
  | .int k n=>some (.int k n)
  | .string s=>some (.str (bytesOf s))
  | .pointer none=>some .nilp
  | .slice none 0 0=>some .nils
  | .map none=>some .nilm
  | .nilFunc=>some .nilf
  | .nilIface=>some .nili
  | .agg cs=>match cs.toList.mapM (V6 f) with
   |some l=>some (.agg l)
   |none=>none
  | .tuple cs=>match cs.toList.mapM (V6 f) with
   |some l=>some (.tup l)
   |none=>none
  |_=>none
def EO{ρ:Rho}{f:Value->Option AV}(hf:∀v a,f v=some a->VR ρ a v):∀(vs:List Value) (l:List AV),vs.mapM f=some l->LR ρ l vs:=by
 intro vs
 induction vs with
 |nil=>intro l h;simp at h;subst h;exact LR.nil ρ
 |cons v vs ih=>
  intro l h
  rw[List.mapM_cons] at h
  cases hv:f v with
  |none=>simp [hv] at h
  |some a=>
   cases I':vs.mapM f with
   |none=>simp [hv,I'] at h
   |some l'=>simp [hv,I'] at h;subst h;exact LR.cons (hf v a hv) (ih l' I')
def Kv(ρ:Rho):∀(f:Nat) (v:Value) (a:AV),V6 f v=some a->VR ρ a v:=by
 intro f
 induction f with
 |zero=>intro v a h;cases h
 |succ f ih=>
  intro v a h;unfold V6 at h;split at h
  ·injection h with h;subst h;exact .bool _
  ·injection h with h;subst h;exact .int _ _
  ·injection h with h;subst h;exact .str _
  ·injection h with h;subst h;exact .nilp
  ·injection h with h;subst h;exact .nils
  ·injection h with h;subst h;exact .nilm
  ·injection h with h;subst h;exact .nilf
  ·injection h with h;subst h;exact .nili
  ·split at h
   ·rename_i cs l hl;injection h with h;subst h;obtain⟨h1,h2⟩:=(EO ih _ _ hl).arr;exact .agg _ _ h1 h2
   ·cases h
  ·split at h
   ·rename_i cs l hl;injection h with h;subst h;obtain⟨h1,h2⟩:=(EO ih _ _ hl).arr;exact .tup _ _ h1 h2
   ·cases h
  ·cases h
inductive Cell where
 |mk (tag:Nat) (v:AV)
def Cell.tag:Cell->Nat | .mk t _=>t
inductive ME where
 |mk (k v:AV) (born:Nat)
inductive ABlk where
 |cells (c:T Cell) (gen lo hi fl fh:Nat) (ro:Bool) (ty:Nat)
 |grow (c:Ct) (gen ty:Nat)
 |froz (c:Ct) (gen:Nat)
 |tab (ty:Nat) (l:List Nat)
 |mapo (es:List ME) (clock:Nat)
 |smap (m:Nat) (l:List G)
 |obj (k:Nat) (I:Nat->List Nat->World->Prop) (l:List G)
 |siter (s:List Nat) (pos:Nat)
 |miter (m:Option Nat) (since:Nat) (seen:List Nat) (stepped:Nat)
 |dfr (live:Bool)
 |loop (state:LoopState) (jump:Option Code) (fn:Nat) (nt:Nat) (tmps:T AV) (params:List Nat) (assign body:Code) (defers:Nat)
inductive St where
 |mk (h:T ABlk) (next fs:Nat) (tch:T Unit) (wr:List Nat)
def St.h:St->T ABlk | .mk h _ _ _ _=>h
structure ER(ρ:Rho)(nt:Nat)(env:T AV)(tmps:Array Value):Prop where
 size:tmps.size=nt
 val:∀t a,env.get t=some a->∃v,tmps[t]? =some v/\VR ρ a v
def fQ:AV->Bool
 | .agg _ | .tup _ | .opq _=>false
 |_=>true
def jo{ρ:Rho}{a:AV}{v:Value}(h:VR ρ a v)(ho:fQ a=true):v.oneCell'=true:=by cases h <;> first|rfl|assumption|(simp [fQ] at ho)
def Own(ρ:Rho)(B b:Nat):Prop:=B<=b∨ρ.own b
def Own.new{ρ:Rho}{B b:Nat}(h:B<=b):Own ρ B b:=.inl h
def Own.mono{ρ ρ':Rho}(hle:ρ.le ρ'){B b:Nat}(h:Own ρ B b):Own ρ' B b:=h.imp id λh=>by rw[hle.own];exact h
def rD(I:Nat->List Nat->World->Prop):Prop:=∀(r:Nat) (fp:List Nat) (w w':World),(∀x∈r::fp,w'.heap[x]? =w.heap[x]?)->I r fp w->I r fp w'
def BR(ρ:Rho)(B:Nat)(w:World)(b:Nat):ABlk->Prop
 | .cells c gen lo hi fl fh ro ty=>
  (∀o x,c.get o=some x->lo<=o/\o<hi/\x.tag<=gen)/\
  (∀g,g<=gen->∃h,ρ.at_ b g=some h/\(ro=false->Own ρ B h.blk)/\(ro=true->b<1048576->h.blk=b/\h.shift=0)/\
   ∃arr fr,w.heap[h.blk]? =some (.cells arr ty fr)/\arr.size=h.size/\
    (ro=false->fr.1<=fr.2/\∀x,(x<h.size∨fl<=fh)->fr.1<=x->x<fr.2->fl<=x+h.shift/\x+h.shift<fh)/\
    ∀o tag a,c.get o=some (.mk tag a)->tag<=g->h.shift<=o/\∃v,arr[o-h.shift]? =some v/\VR ρ a v)
 | .grow c gen ty=>c.len=0∨∃h,ρ.at_ b gen=some h/\h.shift=0/\Own ρ B h.blk/\∃arr fr,w.heap[h.blk]? =some (.cells arr ty fr)/\arr.size=h.size/\c.len * c.es<=h.size/\
  (∀x,x<h.size->fr.1<=x->x<fr.2->False)/\∀i,i<c.len->∀j a,(c.row i)[j]? =some a->∃u,arr[i * c.es+j]? =some u/\VR ρ a u
 | .froz c gen=>c.len=0∨∃h arr ty,ρ.at_ b gen=some h/\h.shift=0/\ρ.frz h.blk=some (arr,ty)/\c.len * c.es<=arr.size/\
  ∀i,i<c.len->∀j a,(c.row i)[j]? =some a->∃u,arr[i * c.es+j]? =some u/\VR ρ a u
 | .tab ty l=>b<1048576/\ρ.frz b=some ((l.map λn=>Value.int .u8 (Int.ofNat n)).toArray,ty)
 | .mapo es clock=>∃h,ρ.at_ b 0=some h/\Own ρ B h.blk/\∃R',w.heap[h.blk]? =some (.map R' clock)/\R'.size=es.length/\
  ∀(i:Nat) (k v:AV) (n:Nat) (e:MapEntry),es[i]? =some (.mk k v n)->R'[i]? =some e->VR ρ k e.key/\VR ρ v e.val/\e.born=n
 | .smap m l=>∃h,ρ.at_ b 0=some h/\Own ρ B h.blk/\∃es clock,w.heap[h.blk]? =some (.map es clock)/\es.size=l.length/\
  ∀(i:Nat) (g:G) (e:MapEntry),l[i]? =some g->es[i]? =some e->VR ρ (ne m g) e.key/\VR ρ (jU m g) e.val
 | .obj k I l=>rD I/\∃h fp,ρ.at_ b 0=some h/\h.shift=0/\(∀x∈h.blk::fp,Own ρ B x/\∃g hx,ρ.at_ b g=some hx/\hx.blk=x)/\I h.blk fp w
 | .siter s pos=>∃h,ρ.at_ b 0=some h/\Own ρ B h.blk/\∃s',bytesOf s'=s/\w.heap[h.blk]? =some (.stringIter s' pos)
 | .miter m since seen stepped=>∃h,ρ.at_ b 0=some h/\Own ρ B h.blk/\∃m' ad8,w.heap[h.blk]? =some (.mapIter m' since ad8 stepped)/\ad8.toList=seen/\
  (match m with|none=>m'=none|some x=>∃hx,ρ.at_ x 0=some hx/\m'=some hx.blk)
 | .dfr live=>∃h,ρ.at_ b 0=some h/\Own ρ B h.blk/\w.heap[h.blk]? =some (.deferred (if live then some [] else none))
 | .loop state jump fn nt tmps params assign body defers=>∃h,ρ.at_ b 0=some h/\Own ρ B h.blk/\∃ac6 hd fn',ER ρ nt tmps ac6/\ρ.at_ defers 0=some hd/\
  w.heap[h.blk]? =some (.loop {state,pending:=jump,fn:=fn',tmps:=ac6,params:=params.toArray,assign,body,defers:=hd.blk})
def Kw(g:Nat):ABlk->Prop
 | .cells _ gen _ _ _ _ _ _=>g<=gen
 | .grow _ gen _=>g<=gen
 | .froz _ gen=>g<=gen
 |_=>True
def zK:ABlk->Prop
 | .froz _ _=>True
 |_=>False
structure Kept(own:Nat->Prop)(B:Nat)(w w':World):Prop where
 os:w'.os=w.os
 tape:w'.tape=w.tape
 output:w'.output=w.output
 size:w.heap.size<=w'.heap.size
 block:∀b,b<B->¬own b->w'.heap[b]? =w.heap[b]?
def Kept.refl(own:Nat->Prop)(B:Nat)(w:World):Kept own B w w:=⟨rfl,rfl,rfl,aaa _,λ_ _ _=>rfl⟩
def Kept.trans{own:Nat->Prop}{B:Nat}{a b c:World}(h:Kept own B a b)(h':Kept own B b c):Kept own B a c:=
 ⟨h'.os.trans h.os,h'.tape.trans h.tape,h'.output.trans h.output,aaH h.size h'.size,λx h1 h2=>(h'.block x h1 h2).trans (h.block x h1 h2)⟩
def Kept.of{own:Nat->Prop}{B:Nat}{a b:World}(h:Below B a b):Kept own B a b:=⟨h.os,h.tape,h.output,h.size,λx h1 _=>h.block x h1⟩
def Kept.below{own:Nat->Prop}{B:Nat}{a b:World}(h:Kept own B a b)(ho:∀x,¬own x):Below B a b:=⟨h.os,h.tape,h.output,h.size,λx h1=>h.block x h1 (ho x)⟩
def Kept.alloc{own:Nat->Prop}{B:Nat}{a w:World}(h:Kept own B a w)(hB:B<=w.heap.size)(o:Obj):Kept own B a (w.alloc o):=
 h.trans (Kept.of ((Below.refl B w).alloc hB o))
def Kept.setCell{ρ:Rho}{B:Nat}{w:World}{p:Addr}(hp:Own ρ B p.block)(v:Value):Kept ρ.own B w (w.setCell p v):=
 ⟨rfl,rfl,rfl,by simp [World.setCell],λk hk ho=>Below.heap_setCell _ _ _ _ (λe=>by subst e;rcases hp with h|h;omega;exact ho h)⟩
def Kept.of_set{ρ:Rho}{B b:Nat}{w w':World}(h0:Below 0 w w')(hs:∀k,k≠b->w'.heap[k]? =w.heap[k]?)(hb:Own ρ B b):Kept ρ.own B w w':=
 ⟨h0.os,h0.tape,h0.output,h0.size,λk hk ho=>hs k (λe=>by subst e;rcases hb with h|h;omega;exact ho h)⟩
structure Good0(w0:World)(ρ:Rho)(H:T ABlk)(w:World):Prop where
 below:Kept ρ.own w0.heap.size w0 w
 blk:∀b x,H.get b=some x->BR ρ w0.heap.size w b x
 dom:∀b g h,ρ.at_ b g=some h->h.blk<w.heap.size/\∃x,H.get b=some x
 inj:∀b g h b' g' h',ρ.at_ b g=some h->ρ.at_ b' g'=some h'->h.blk=h'.blk->b=b'/\h=h'
 gens:∀b g h x,ρ.at_ b g=some h->H.get b=some x->Kw g x
 frz:∀b arr ty,ρ.frz b=some (arr,ty)->(∃fr,w.heap[b]? =some (.cells arr ty fr))/\∀b' g h,ρ.at_ b' g=some h->h.blk=b->∃x,H.get b'=some x/\zK x
 frzB:∀b x,ρ.frz b=some x->b<w0.heap.size->ρ.frz0 b=some x
 objO:∀b k I l,H.get b=some (.obj k I l)->∀g h,ρ.at_ b g=some h->Own ρ w0.heap.size h.blk/\(g=0∨g=h.blk+1)
structure Good(w0:World)(ρ:Rho)(H:T ABlk)(w:World):Prop extends Good0 w0 ρ H w where
 ownB:∀x,ρ.own x->∃b g h,b<base+64/\ρ.at_ b g=some h/\h.blk=x
def Good0.frzE{w0:World}{ρ:Rho}{H:T ABlk}{w:World}(hG:Good0 w0 ρ H w){b:Nat}{arr:Array Value}{ty:TypeId}(hf:ρ.frz b=some (arr,ty)){b' g:Nat}{h:Home}{x:ABlk}(hh:ρ.at_ b' g=some h)(hx:H.get b'=some x)(hn:¬zK x):h.blk≠b:=λe=>by obtain⟨y,h1,h2⟩:=(hG.frz _ _ _ hf).2 _ _ _ hh e;rw[hx] at h1;injection h1 with h1;subst h1;exact hn h2
end
end Go.Sym
namespace Go.Sym
noncomputable section
structure Sy where
 i:Nat->Int
 s:Nat->List Nat
 p:Nat->Prop
 g:Nat->List G
inductive Tr where
 |fail
 |ret (a:AV)
 |rd (b:Nat) (k:ABlk->Tr)
 |wr (b:Nat) (x:ABlk) (k:Tr)
 |new (x:ABlk) (k:Nat->Tr)
 |pick (n:Nat) (k:Nat->Tr)
 |sub (t:Tr) (k:AV->Nat->Nat->T Unit->List Nat->Tr)
 |ask (p:Prop) (t e:Tr)
 |req (p:Prop) (t:Tr)
 |sk (p:Sy->Prop) (z:{y:Sy // p y}) (k:Sy->Tr)
abbrev Fin:=AV->St->Bool
def pT(fs b:Nat)(t:T Unit)(k:T Unit->Bool):Bool:=ac (Nat.ble fs b) (k t) (T.setK t b () k)
def note(fs b:Nat)(t:T Unit):T Unit:=if fs<=b then t else t.set b ()
def rE(fs b:Nat)(t:T Unit)(k:T Unit->Bool):pT fs b t k=k (note fs b t):=by
 unfold pT note;rw[ar,T.setK_eq];by_cases h:fs<=b
 ·simp [Nat.ble_eq,h]
 ·have:Nat.ble fs b=false:=by
   cases hb:Nat.ble fs b with
   |false=>rfl
   |true=>exact absurd (Nat.ble_eq.mp hb) h
  simp [this,h]
def oT(fs b:Nat)(w:List Nat)(k:List Nat->Bool):Bool:=ac (Nat.ble fs b) (k w) (k (b::w))
def gT(fs b:Nat)(w:List Nat):List Nat:=if fs<=b then w else b::w
def uI(fs b:Nat)(w:List Nat)(k:List Nat->Bool):oT fs b w k=k (gT fs b w):=by
 unfold oT gT;rw[ar];by_cases h:fs<=b
 ·simp [Nat.ble_eq,h]
 ·have:Nat.ble fs b=false:=by
   cases hb:Nat.ble fs b with
   |false=>rfl
   |true=>exact absurd (Nat.ble_eq.mp hb) h
  simp [this,h]
def T.keys{α:Type}:T α->(Nat->Nat)->List Nat->List Nat
 | .leaf,_,acc=>acc
 | .node l v r,f,acc=>T.keys l (λn=>f (2 * n+1)) (T.keys r (λn=>f (2 * n+2)) (match v with|some _=>f 0::acc|none=>acc))
def ng(fs:Nat):List Nat->T Unit->(T Unit->Bool)->Bool:=λl=>
 List.rec (motive:=λ_=>T Unit->(T Unit->Bool)->Bool) (λt k=>k t) (λb _ ih t k=>pT fs b t λt=>ih t k) l
def fS(fs:Nat):List Nat->T Unit->T Unit
 | [],t=>t
 |b::l,t=>fS fs l (note fs b t)
def zL(fs:Nat):∀(l:List Nat) (t:T Unit) (k:T Unit->Bool),ng fs l t k=k (fS fs l t):=by
 intro l
 induction l with
 |nil=>intro t k;rfl
 |cons b l ih=>intro t k;show pT fs b t (λt=>ng fs l t k)=_;rw[rE,ih];rfl
def lB(fs:Nat):List Nat->List Nat->(List Nat->Bool)->Bool:=λl=>
 List.rec (motive:=λ_=>List Nat->(List Nat->Bool)->Bool) (λt k=>k t) (λb _ ih t k=>oT fs b t λt=>ih t k) l
def fk(fs:Nat):List Nat->List Nat->List Nat
 | [],t=>t
 |b::l,t=>fk fs l (gT fs b t)
def wV(fs:Nat):∀(l:List Nat) (t:List Nat) (k:List Nat->Bool),lB fs l t k=k (fk fs l t):=by
 intro l
 induction l with
 |nil=>intro t k;rfl
 |cons b l ih=>intro t k;show oT fs b t (λt=>lB fs l t k)=_;rw[uI,ih];rfl
def dP(p:Prop):Bool:=@decide p (Classical.propDecidable p)
def fE{p:Prop}:dP p=true↔p:=by simp [dP]
def V7{p:Prop}:dP p=false↔¬p:=by simp [dP]
def Zk(_:St)(_:Fin):Bool:=false
def rRet(a:AV)(σ:St)(K:Fin):Bool:=K a σ
def rRd(b:Nat)(_:ABlk->Tr)(ih:ABlk->St->Fin->Bool)(σ:St)(K:Fin):Bool:=
 St.rec (motive:=λ_=>Bool) (λh n fs t w=>ac (Nat.ble (Nat.succ b) n) (T.getK h b false λx=>pT fs b t λt=>ih x (.mk h n fs t w) K) false) σ
def rWr(b:Nat)(x:ABlk)(_:Tr)(ih:St->Fin->Bool)(σ:St)(K:Fin):Bool:=
 St.rec (motive:=λ_=>Bool) (λh n fs t w=>ac (Nat.ble (Nat.succ b) n) (T.getK h b false λ_=>T.setK h b x λh=>pT fs b t λt=>oT fs b w λw=>ih (.mk h n fs t w) K) false) σ
def rNew(x:ABlk)(_:Nat->Tr)(ih:Nat->St->Fin->Bool)(σ:St)(K:Fin):Bool:=
 St.rec (motive:=λ_=>Bool) (λh n fs t w=>ac (Nat.ble n 1000000000) (T.getK h n (T.setK h n x λh=>fN (Nat.succ n) λm=>ih n (.mk h m fs t w) K) λ_=>false) false) σ
def iK(f:Nat->Bool)(n:Nat):Bool:=Nat.rec (motive:=λ_=>Bool) true (λm ih=>ac (f m) ih false) n
def Zl(n:Nat)(_:Nat->Tr)(ih:Nat->St->Fin->Bool)(σ:St)(K:Fin):Bool:=
 ac (Nat.ble n 1) (ih 0 σ K) (St.rec (motive:=λ_=>Bool) (λh m fs t w=>ac (Nat.beq fs 0) (iK (λi=>ih i (.mk h m fs t w) K) n) false) σ)
def rSub(_:Tr)(_:AV->Nat->Nat->T Unit->List Nat->Tr)(it:St->Fin->Bool)(ik:AV->Nat->Nat->T Unit->List Nat->St->Fin->Bool)(σ:St)(K:Fin):Bool:=
 St.rec (motive:=λ_=>Bool) (λh n fs t w=>it (.mk h n n .leaf []) λa a9=>
  St.rec (motive:=λ_=>Bool) (λh' n' _ t' w'=>ac (Nat.beq fs 0) (ik a n n' t' w' (.mk h' n' fs t w) K)
   (ng fs (T.keys t' id []) t λt2=>lB fs w' w λw2=>ik a n n' t' w' (.mk h' n' fs t2 w2) K)) a9) σ
def rAsk(p:Prop)(_ _:Tr)(it ie:St->Fin->Bool)(σ:St)(K:Fin):Bool:=dP ((p->it σ K=true)/\(¬p->ie σ K=true))
def rReq(p:Prop)(_:Tr)(it:St->Fin->Bool)(σ:St)(K:Fin):Bool:=dP (p/\it σ K=true)
def rSk(p:Sy->Prop)(z:{y:Sy // p y})(_:Sy->Tr)(ik:Sy->St->Fin->Bool)(σ:St)(K:Fin):Bool:=ik z.1 σ K
def run(t:Tr):St->Fin->Bool:=Tr.rec (motive:=λ_=>St->Fin->Bool) Zk rRet rRd rWr rNew Zl rSub rAsk rReq rSk t
def iu(b:Nat)(k:ABlk->Tr)(h:T ABlk)(n fs:Nat)(t:T Unit)(w:List Nat)(K:Fin):
 run (.rd b k) (.mk h n fs t w) K=if b<n then(match h.get b with|none=>false|some x=>run (k x) (.mk h n fs (note fs b t) w) K) else false:=by
 show ac (Nat.ble (Nat.succ b) n) (T.getK h b false (λx=>pT fs b t λt=>run (k x) (.mk h n fs t w) K)) false=_
 rw[ar,T.getK_eq]
 by_cases hn:b<n
 ·rw[if_pos (Nat.ble_eq.mpr hn),if_pos hn];split <;> simp_all [rE]
 ·rw[if_neg (λh=>hn (Nat.ble_eq.mp h)),if_neg hn]
def kB(b:Nat)(x:ABlk)(k:Tr)(h:T ABlk)(n fs:Nat)(t:T Unit)(w:List Nat)(K:Fin):
 run (.wr b x k) (.mk h n fs t w) K=if b<n then(match h.get b with|none=>false|some _=>run k (.mk (h.set b x) n fs (note fs b t) (gT fs b w)) K) else false:=by
 show ac (Nat.ble (Nat.succ b) n) (T.getK h b false (λ_=>T.setK h b x λh=>pT fs b t λt=>oT fs b w λw=>run k (.mk h n fs t w) K)) false=_
 rw[ar,T.getK_eq]
 by_cases hn:b<n
 ·rw[if_pos (Nat.ble_eq.mpr hn),if_pos hn];split <;> simp_all [rE,uI,T.setK_eq]
 ·rw[if_neg (λh=>hn (Nat.ble_eq.mp h)),if_neg hn]
def gU(x:ABlk)(k:Nat->Tr)(h:T ABlk)(n fs:Nat)(t:T Unit)(w:List Nat)(K:Fin):
 run (.new x k) (.mk h n fs t w) K=if n<=1000000000 then(match h.get n with|some _=>false|none=>run (k n) (.mk (h.set n x) (n+1) fs t w) K) else false:=by
 show ac (Nat.ble n 1000000000) (T.getK h n (T.setK h n x λh=>fN (Nat.succ n) λm=>run (k n) (.mk h m fs t w) K) λ_=>false) false=_
 rw[ar]
 by_cases hn:n<=1000000000
 ·rw[if_pos (Nat.ble_eq.mpr hn),if_pos hn,T.getK_eq];split <;> simp_all [T.setK_eq,rB]
 ·rw[if_neg (λh=>hn (Nat.ble_eq.mp h)),if_neg hn]
def nh{f:Nat->Bool}:∀{n:Nat},iK f n=true↔∀i,i<n->f i=true:=by
 intro n
 induction n with
 |zero=>exact⟨λ_ i hi=>absurd hi (by omega),λ_=>rfl⟩
 |succ n ih=>
  show ac (f n) (iK f n) false=true↔_;constructor
  ·intro h i hi;obtain⟨h1,h2⟩:=aD h;rcases aaf i n with h'|h'
   ·exact ih.mp h2 i h'
   ·have:i=n:=by omega
    subst this;exact h1
  ·intro h;rw[h n (by omega),ar,if_pos rfl];exact ih.mpr λi hi=>h i (by omega)
def gV(t:Tr)(k:AV->Nat->Nat->T Unit->List Nat->Tr)(h:T ABlk)(n fs:Nat)(tc:T Unit)(w:List Nat)(K:Fin):
 run (.sub t k) (.mk h n fs tc w) K=run t (.mk h n n .leaf []) λa a9=>match a9 with
  | .mk h' n' _ t' w'=>if fs=0 then run (k a n n' t' w') (.mk h' n' fs tc w) K else run (k a n n' t' w') (.mk h' n' fs (fS fs (T.keys t' id []) tc) (fk fs w' w)) K:=by
 show run t (.mk h n n .leaf []) (λa a9=>St.rec (motive:=λ_=>Bool) (λh' n' _ t' w'=>ac (Nat.beq fs 0) (run (k a n n' t' w') (.mk h' n' fs tc w) K)
  (ng fs (T.keys t' id []) tc λt2=>lB fs w' w λw2=>run (k a n n' t' w') (.mk h' n' fs t2 w2) K)) a9)=_
 congr 1
 funext a a9
 cases a9 with
 |mk h' n' f' t' w'=>
  show ac (Nat.beq fs 0) _ _=_
  rw[ar,zL,wV]
  by_cases hf:fs=0
  ·subst hf;rfl
  ·have:Nat.beq fs 0=false:=by
    cases hb:Nat.beq fs 0 with
    |false=>rfl
    |true=>exact absurd (aac hb) hf
   simp [this,hf]
def fm{p:Prop}(t e:Tr)(σ:St)(K:Fin)(h:p):run (.ask p t e) σ K=run t σ K:=by show dP ((p->run t σ K=true)/\(¬p->run e σ K=true))=_;rw[Bool.eq_iff_iff,fE];exact⟨λq=>q.1 h,λq=>⟨λ_=>q,λn=>absurd h n⟩⟩
def fo{p:Prop}(t e:Tr)(σ:St)(K:Fin)(h:¬p):run (.ask p t e) σ K=run e σ K:=by show dP ((p->run t σ K=true)/\(¬p->run e σ K=true))=_;rw[Bool.eq_iff_iff,fE];exact⟨λq=>q.2 h,λq=>⟨λn=>absurd n h,λ_=>q⟩⟩
def fq{p:Prop}(t:Tr)(σ:St)(K:Fin)(h:p):run (.req p t) σ K=run t σ K:=by show dP (p/\run t σ K=true)=_;rw[Bool.eq_iff_iff,fE];exact⟨λq=>q.2,λq=>⟨h,q⟩⟩
def pU{p:Prop}(t:Tr)(σ:St)(K:Fin)(h:¬p):run (.req p t) σ K=false:=by show dP (p/\run t σ K=true)=_;rw[V7];exact λq=>h q.1
end
attribute [irreducible] dP
end Go.Sym
namespace Go.Sym
def T.mem_keys_acc{α:Type}:∀(t:T α) (f:Nat->Nat) (acc:List Nat) (x:Nat),x∈acc->x∈T.keys t f acc:=by
 intro t
 induction t with
 |leaf=>intro f acc x h;exact h
 |node l v r ihl ihr=>intro f acc x h;simp only [T.keys];refine ihl _ _ _ (ihr _ _ _ ?_);cases v <;> simp [h]
def T.mem_keys{α:Type}:∀(t:T α) (f:Nat->Nat) (acc:List Nat) (b:Nat) (a:α),t.get b=some a->f b∈T.keys t f acc:=by
 intro t
 induction t with
 |leaf=>intro f acc b a h;simp [T.get] at h
 |node l v r ihl ihr=>
  intro f acc b a h
  simp only [T.keys]
  cases b with
  |zero=>simp only [T.get] at h;subst h;exact T.mem_keys_acc _ _ _ _ (T.mem_keys_acc _ _ _ _ (by simp))
  |succ m=>
   simp only [T.get] at h;split at h
   ·have e:m+1=2 * (m/2)+1:=by omega
    rw[e];exact ihl (λn=>f (2 * n+1)) _ _ _ h
   ·have e:m+1=2 * (m/2)+2:=by omega
    rw[e];exact T.mem_keys_acc _ _ _ _ (ihr (λn=>f (2 * n+2)) _ _ _ h)
def dI{fs b:Nat}{t:T Unit}{x:Nat}(hb:b+1<2 ^ 64)(h:t.get x=some ()):(note fs b t).get x=some ():=by
 unfold note;split
 ·exact h
 ·by_cases e:x=b
  ·subst e;exact T.get_set_same _ _ _ hb
  ·rw[T.get_set_ne _ e];exact h
def kC{fs b:Nat}{t:T Unit}(hb:b+1<2 ^ 64)(h:b<fs):(note fs b t).get b=some ():=by unfold note;rw[if_neg (by omega)];exact T.get_set_same _ _ _ hb
def fc{fs:Nat}:∀(l:List Nat) (t:T Unit) (x:Nat),(∀b∈l,b+1<2 ^ 64)->t.get x=some ()->(fS fs l t).get x=some ():=by
 intro l
 induction l with
 |nil=>intro t x _ h;exact h
 |cons b l ih=>intro t x hl h;exact ih _ _ (λb hb=>hl b (by simp [hb])) (dI (hl b (by simp)) h)
def kD{fs:Nat}:∀(l:List Nat) (t:T Unit) (x:Nat),(∀b∈l,b+1<2 ^ 64)->x∈l->x<fs->(fS fs l t).get x=some ():=by
 intro l
 induction l with
 |nil=>intro t x _ h;cases h
 |cons b l ih=>
  intro t x hl h hx;have E':∀b∈l,b+1<2 ^ 64:=λb hb=>hl b (by simp [hb]);rcases List.mem_cons.mp h with e|h
  ·subst e;exact fc l _ _ E' (kC (hl x (by simp)) hx)
  ·exact ih _ _ E' h hx
def pV{fs b:Nat}{w:List Nat}{x:Nat}(h:x∈w):x∈gT fs b w:=by unfold gT;split <;> simp [h]
def uJ{fs b:Nat}{w:List Nat}(h:b<fs):b∈gT fs b w:=by unfold gT;rw[if_neg (by omega)];simp
def oU{fs b:Nat}{w:List Nat}{x:Nat}(h:x∈gT fs b w):x∈w∨(x=b/\b<fs):=by
 unfold gT at h;split at h
 ·exact .inl h
 ·rcases List.mem_cons.mp h with e|h
  ·exact .inr ⟨e,by omega⟩
  ·exact .inl h
def kE{fs:Nat}:∀(l w:List Nat) (x:Nat),x∈w->x∈fk fs l w:=by
 intro l
 induction l with
 |nil=>intro w x h;exact h
 |cons b l ih=>intro w x h;exact ih _ _ (pV h)
def wW{fs:Nat}:∀(l w:List Nat) (x:Nat),x∈l->x<fs->x∈fk fs l w:=by
 intro l
 induction l with
 |nil=>intro w x h;cases h
 |cons b l ih=>
  intro w x h hx;rcases List.mem_cons.mp h with e|h
  ·subst e;exact kE l _ _ (uJ hx)
  ·exact ih _ _ h hx
def ni{fs:Nat}:∀(l w:List Nat) (x:Nat),x∈fk fs l w->x∈w∨(x∈l/\x<fs):=by
 intro l
 induction l with
 |nil=>intro w x h;exact .inl h
 |cons b l ih=>
  intro w x h;rcases ih _ _ h with h|h
  ·rcases oU h with h|⟨e,h⟩
   ·exact .inl h
   ·subst e;exact .inr ⟨by simp,h⟩
  ·exact .inr ⟨by simp [h.1],h.2⟩
def V9(fs n':Nat)(tc':T Unit)(b:Nat):Prop:=tc'.get b=some ()∨(fs<=b/\b<n')
def Un(fs n':Nat)(w':List Nat)(b:Nat):Prop:=b∈w'∨(fs<=b/\b<n')
def uK{α:Type}:∀(t:T α) (f:Nat->Nat) (acc:List Nat) (b:Nat),b∈T.keys t f acc->b∈acc∨∃x a,b=f x/\t.get x=some a:=by
 intro t
 induction t with
 |leaf=>intro f acc b h;exact .inl h
 |node l v r ihl ihr=>
  intro f acc b h;simp only [T.keys] at h;rcases ihl _ _ _ h with h|⟨x,a,e,hx⟩
  ·rcases ihr _ _ _ h with h|⟨x,a,e,hx⟩
   ·cases v with
    |none=>exact .inl h
    |some a=>
     simp only [List.mem_cons] at h;rcases h with h|h
     ·exact .inr ⟨0,a,h,by simp [T.get]⟩
     ·exact .inl h
   ·refine .inr ⟨2 * x+2,a,e, ?_⟩;show(if(2 * x+1)%2=0 then _ else _)=_;rw[if_neg (by omega),show(2 * x+1)/2=x by omega];exact hx
  ·refine .inr ⟨2 * x+1,a,e, ?_⟩;show(if(2 * x)%2=0 then _ else _)=_;rw[if_pos (by omega),show(2 * x)/2=x by omega];exact hx
structure LocAt(t:Tr)(h:T ABlk)(n fs:Nat)(tc:T Unit)(w:List Nat)(a:AV)(h':T ABlk)(n':Nat)(tc':T Unit)(w':List Nat):Prop where
 run:∀K,run t (.mk h n fs tc w) K=K a (.mk h' n' fs tc' w')
 le:n<=n'
 lid:n'<=1000000001
 tch:∀b,tc.get b=some ()->tc'.get b=some ()
 wrt:∀b∈w,b∈w'
 sub:∀b∈w',tc'.get b=some ()
 low:∀b,tc'.get b=some ()->b<fs
 same:∀b,¬Un fs n' w' b->h'.get b=h.get b
 like:∀h2,(∀b,V9 fs n' tc' b->h2.get b=h.get b)->∃h2',(∀K,Sym.run t (.mk h2 n fs tc w) K=K a (.mk h2' n' fs tc' w'))/\
  (∀b,V9 fs n' tc' b->h2'.get b=h'.get b)/\∀b,¬Un fs n' w' b->h2'.get b=h2.get b
def loc(t:Tr):∀(h:T ABlk) (n fs:Nat) (tc:T Unit) (w:List Nat),0<fs->fs<=n->n<=1000000001->(∀b∈w,tc.get b=some ())->(∀b,tc.get b=some ()->b<fs)->
 (∀K,run t (.mk h n fs tc w) K=false)∨∃a h' n' tc' w',LocAt t h n fs tc w a h' n' tc' w':=by
 induction t with
 |fail=>intro h n fs tc w _ _ _ _ _;exact .inl λK=>rfl
 |ret a=>
  intro h n fs tc w h0 h1 h2 h4 h5
  exact .inr ⟨a,h,n,tc,w,λK=>rfl,aaa _,h2,λ_ x=>x,λ_ x=>x,h4,h5,λ_ _=>rfl,λg hg=>⟨g,λK=>rfl,hg,λ_ _=>rfl⟩⟩
 |rd b k ih=>
  intro h n fs tc w h0 h1 h2 h4 h5
  by_cases hbn:b<n
  case neg=>exact .inl λK=>by rw[iu,if_neg hbn]
  cases hb:h.get b with
  |none=>exact .inl λK=>by rw[iu,if_pos hbn,hb]
  |some x=>
   have ad4:b+1<2 ^ 64:=by omega
   rcases ih x h n fs (note fs b tc) w h0 h1 h2 (λy hy=>dI ad4 (h4 y hy)) (λy hy=>by
    by_cases e:fs<=b
    ·rw[note,if_pos e] at hy;exact h5 y hy
    ·by_cases ey:y=b
     ·omega
     ·rw[note,if_neg e,T.get_set_ne _ ey] at hy;exact h5 y hy) with hf|⟨a,h',n',tc',w',L⟩
   ·exact .inl λK=>by rw[iu,if_pos hbn,hb];exact hf K
   ·refine .inr ⟨a,h',n',tc',w',λK=>?_,L.le,L.lid,λy hy=>L.tch y (dI ad4 hy),L.wrt,L.sub,L.low,L.same,λg hg=>?_⟩
    ·rw[iu,if_pos hbn,hb];exact L.run K
    ·obtain⟨g',r1,r2,r3⟩:=L.like g hg;refine⟨g',λK=>?_,r2,r3⟩;have hgb:g.get b=some x:=by
      rw[hg b ?_,hb];by_cases e:b<fs
      ·exact .inl (L.tch b (kC ad4 e))
      ·exact .inr ⟨by omega,by have:=L.le;omega⟩
     rw[iu,if_pos hbn,hgb];exact r1 K
 |wr b x k ih=>
  intro h n fs tc w h0 h1 h2 h4 h5
  by_cases hbn:b<n
  case neg=>exact .inl λK=>by rw[kB,if_neg hbn]
  cases hb:h.get b with
  |none=>exact .inl λK=>by rw[kB,if_pos hbn,hb]
  |some x0=>
   have ad4:b+1<2 ^ 64:=by omega
   rcases ih (h.set b x) n fs (note fs b tc) (gT fs b w) h0 h1 h2 (λy hy=>by
    rcases oU hy with hy|⟨e,hy⟩
    ·exact dI ad4 (h4 y hy)
    ·subst e;exact kC ad4 hy) (λy hy=>by
    by_cases e:fs<=b
    ·rw[note,if_pos e] at hy;exact h5 y hy
    ·by_cases ey:y=b
     ·omega
     ·rw[note,if_neg e,T.get_set_ne _ ey] at hy;exact h5 y hy) with hf|⟨a,h',n',tc',w',L⟩
   ·exact .inl λK=>by rw[kB,if_pos hbn,hb];exact hf K
   ·have hwb:Un fs n' w' b:=by
     by_cases e:b<fs
     ·exact .inl (L.wrt b (uJ e))
     ·exact .inr ⟨by omega,by have:=L.le;omega⟩
    have htb:V9 fs n' tc' b:=by
     by_cases e:b<fs
     ·exact .inl (L.tch b (kC ad4 e))
     ·exact .inr ⟨by omega,by have:=L.le;omega⟩
    refine .inr ⟨a,h',n',tc',w',λK=>?_,L.le,L.lid,λy hy=>L.tch y (dI ad4 hy),λy hy=>L.wrt y (pV hy),L.sub,L.low,λy hy=>?_,λg hg=>?_⟩
    ·rw[kB,if_pos hbn,hb];exact L.run K
    ·rw[L.same y hy,T.get_set_ne];intro e;subst e;exact hy hwb
    ·have hgb:g.get b=some x0:=by rw[hg b htb,hb]
     obtain⟨g',r1,r2,r3⟩:=L.like (g.set b x) (λy hy=>by
      by_cases e:y=b
      ·subst e;rw[T.get_set_same _ _ _ ad4,T.get_set_same _ _ _ ad4]
      ·rw[T.get_set_ne _ e,T.get_set_ne _ e];exact hg y hy)
     refine⟨g',λK=>?_,r2,λy hy=>?_⟩
     ·rw[kB,if_pos hbn,hgb];exact r1 K
     ·rw[r3 y hy,T.get_set_ne];intro e;subst e;exact hy hwb
 |new x k ih=>
  intro h n fs tc w h0 h1 h2 h4 h5
  by_cases hn:n<=1000000000
  case neg=>exact .inl λK=>by rw[gU,if_neg hn]
  cases s8:h.get n with
  |some x0=>exact .inl λK=>by rw[gU,if_pos hn,s8]
  |none=>
  have ak6:n+1<2 ^ 64:=by omega
  rcases ih n (h.set n x) (n+1) fs tc w h0 (by omega) (by omega) h4 h5 with hf|⟨a,h',n',tc',w',L⟩
  ·exact .inl λK=>by rw[gU,if_pos hn,s8];exact hf K
  ·have hle:=L.le;have hwn:Un fs n' w' n:=.inr ⟨h1,by omega⟩;refine .inr ⟨a,h',n',tc',w',λK=>?_,by omega,L.lid,L.tch,L.wrt,L.sub,L.low,λy hy=>?_,λg hg=>?_⟩
   ·rw[gU,if_pos hn,s8];exact L.run K
   ·rw[L.same y hy,T.get_set_ne];intro e;subst e;exact hy hwn
   ·have hgn:g.get n=none:=by rw[hg n (.inr ⟨h1,by omega⟩),s8]
    obtain⟨g',r1,r2,r3⟩:=L.like (g.set n x) (λy hy=>by
     by_cases e:y=n
     ·subst e;rw[T.get_set_same _ _ _ ak6,T.get_set_same _ _ _ ak6]
     ·rw[T.get_set_ne _ e,T.get_set_ne _ e];exact hg y hy)
    refine⟨g',λK=>?_,r2,λy hy=>?_⟩
    ·rw[gU,if_pos hn,hgn];exact r1 K
    ·rw[r3 y hy,T.get_set_ne];intro e;subst e;exact hy hwn
 |pick m k ih=>
  intro h n fs tc w h0 h1 h2 h4 h5
  by_cases hm:m<=1
  ·have e:∀g K,run (.pick m k) (.mk g n fs tc w) K=run (k 0) (.mk g n fs tc w) K:=λg K=>by show ac (Nat.ble m 1) (run (k 0) (.mk g n fs tc w) K) _=_;rw[ar,if_pos (Nat.ble_eq.mpr hm)]
   rcases ih 0 h n fs tc w h0 h1 h2 h4 h5 with hf|⟨a,h',n',tc',w',L⟩
   ·exact .inl λK=>by rw[e];exact hf K
   ·refine .inr ⟨a,h',n',tc',w',λK=>by rw[e];exact L.run K,L.le,L.lid,L.tch,L.wrt,L.sub,L.low,L.same,λg hg=>?_⟩;obtain⟨g',r1,r2,r3⟩:=L.like g hg;exact⟨g',λK=>by rw[e];exact r1 K,r2,r3⟩
  ·refine .inl λK=>?_;show ac (Nat.ble m 1) (run (k 0) (.mk h n fs tc w) K) (ac (Nat.beq fs 0) (iK _ m) false)=_;have e1:Nat.ble m 1=false:=by
    cases hb:Nat.ble m 1 with
    |false=>rfl
    |true=>exact absurd (Nat.ble_eq.mp hb) hm
   have e2:Nat.beq fs 0=false:=by
    cases hb:Nat.beq fs 0 with
    |false=>rfl
    |true=>have:=aac hb;omega
   rw[e1,e2];rfl
 |sub t k iht ihk=>
  intro h n fs tc w h0 h1 h2 h4 h5
  have hfs:fs≠0:=by omega
  rcases iht h n n .leaf [] (by omega) (aaa _) h2 (by simp) (λb hb=>by simp [T.get] at hb) with hf|⟨a1,h1',n1,t1,w1,L1⟩
  ·exact .inl λK=>by rw[gV];exact hf _
  ·have hk1:∀b∈T.keys t1 id [],b+1<2 ^ 64/\b<n:=λb hb=>by
    rcases uK t1 id [] b hb with hb|⟨x,u,e,hx⟩
    ·cases hb
    ·have:=L1.low x hx;have e':b=x:=e;subst e';omega
   have af6:∀b∈T.keys t1 id [],b+1<2 ^ 64:=λb hb=>(hk1 b hb).1;rcases ihk a1 n n1 t1 w1 h1' n1 fs (fS fs (T.keys t1 id []) tc) (fk fs w1 w) h0 (by have:=L1.le;omega) L1.lid (λb hb=>by
    rcases ni _ _ _ hb with hb|⟨hb,c8⟩
    ·exact fc _ _ _ af6 (h4 b hb)
    ·exact kD _ _ _ af6 (by have:=T.mem_keys t1 id [] b () (L1.sub b hb);simpa using this) c8) (λb hb=>by
    have key:∀(l:List Nat) (t:T Unit),(∀b,t.get b=some ()->b<fs)->∀b,(fS fs l t).get b=some ()->b<fs:=by
     intro l
     induction l with
     |nil=>intro t ht b hb;exact ht b hb
     |cons x l ih=>
      intro t ht b hb;refine ih _ (λy hy=>?_) b hb;by_cases e:fs<=x
      ·rw[note,if_pos e] at hy;exact ht y hy
      ·by_cases ey:y=x
       ·omega
       ·rw[note,if_neg e,T.get_set_ne _ ey] at hy;exact ht y hy
    exact key _ _ h5 b hb) with hf|⟨a,h',n',tc',w',L⟩
   ·refine .inl λK=>?_;rw[gV,L1.run];simp only [hfs,if_false];exact hf K
   ·have L':=L1.le;have hle:=L.le;have aq1:∀b,V9 n n1 t1 b->V9 fs n' tc' b:=λb hb=>by
     rcases hb with hb|hb
     ·by_cases e:b<fs
      ·exact .inl (L.tch b (kD _ _ _ af6 (by have:=T.mem_keys t1 id [] b () hb;simpa using this) e))
      ·have:=L1.low b hb;exact .inr ⟨by omega,by omega⟩
     ·exact .inr ⟨by omega,by omega⟩
    have am6:∀b,Un n n1 w1 b->Un fs n' w' b:=λb hb=>by
     rcases hb with hb|hb
     ·by_cases e:b<fs
      ·exact .inl (L.wrt b (wW _ _ _ hb e))
      ·have:=L1.low b (L1.sub b hb);exact .inr ⟨by omega,by omega⟩
     ·exact .inr ⟨by omega,by omega⟩
    refine .inr ⟨a,h',n',tc',w',λK=>?_,by omega,L.lid,λb hb=>L.tch b (fc _ _ _ af6 hb),λb hb=>L.wrt b (kE _ _ _ hb),L.sub,L.low,λb hb=>?_,λg hg=>?_⟩
    ·rw[gV,L1.run];simp only [hfs,if_false];exact L.run K
    ·rw[L.same b hb,L1.same b (λhw=>hb (am6 b hw))]
    ·obtain⟨g1,r1,r2,r3⟩:=L1.like g (λb hb=>hg b (aq1 b hb));obtain⟨g',q1,q2,q3⟩:=L.like g1 (λb hb=>by
      by_cases e:V9 n n1 t1 b
      ·exact r2 b e
      ·have hnw:¬Un n n1 w1 b:=λhw=>e (by
        rcases hw with hw|hw
        ·exact .inl (L1.sub b hw)
        ·exact .inr hw)
       rw[r3 b hnw,L1.same b hnw];exact hg b hb)
     refine⟨g',λK=>?_,q2,λb hb=>?_⟩
     ·rw[gV,r1];simp only [hfs,if_false];exact q1 K
     ·rw[q3 b hb,r3 b (λhw=>hb (am6 b hw))]
 |ask p t e iht ihe=>
  intro h n fs tc w h0 h1 h2 h4 h5
  by_cases hp:p
  ·have e1:∀g K,run (.ask p t e) (.mk g n fs tc w) K=run t (.mk g n fs tc w) K:=λg K=>fm _ _ _ _ hp;rcases iht h n fs tc w h0 h1 h2 h4 h5 with hf|⟨a,h',n',tc',w',L⟩
   ·exact .inl λK=>by rw[e1];exact hf K
   ·refine .inr ⟨a,h',n',tc',w',λK=>by rw[e1];exact L.run K,L.le,L.lid,L.tch,L.wrt,L.sub,L.low,L.same,λg hg=>?_⟩;obtain⟨g',r1,r2,r3⟩:=L.like g hg;exact⟨g',λK=>by rw[e1];exact r1 K,r2,r3⟩
  ·have e1:∀g K,run (.ask p t e) (.mk g n fs tc w) K=run e (.mk g n fs tc w) K:=λg K=>fo _ _ _ _ hp;rcases ihe h n fs tc w h0 h1 h2 h4 h5 with hf|⟨a,h',n',tc',w',L⟩
   ·exact .inl λK=>by rw[e1];exact hf K
   ·refine .inr ⟨a,h',n',tc',w',λK=>by rw[e1];exact L.run K,L.le,L.lid,L.tch,L.wrt,L.sub,L.low,L.same,λg hg=>?_⟩;obtain⟨g',r1,r2,r3⟩:=L.like g hg;exact⟨g',λK=>by rw[e1];exact r1 K,r2,r3⟩
 |req p t ih=>
  intro h n fs tc w h0 h1 h2 h4 h5
  by_cases hp:p
  ·have e1:∀g K,run (.req p t) (.mk g n fs tc w) K=run t (.mk g n fs tc w) K:=λg K=>fq _ _ _ hp;rcases ih h n fs tc w h0 h1 h2 h4 h5 with hf|⟨a,h',n',tc',w',L⟩
   ·exact .inl λK=>by rw[e1];exact hf K
   ·refine .inr ⟨a,h',n',tc',w',λK=>by rw[e1];exact L.run K,L.le,L.lid,L.tch,L.wrt,L.sub,L.low,L.same,λg hg=>?_⟩;obtain⟨g',r1,r2,r3⟩:=L.like g hg;exact⟨g',λK=>by rw[e1];exact r1 K,r2,r3⟩
  ·exact .inl λK=>pU _ _ _ hp
 |sk p z k ih=>
  intro h n fs tc w h0 h1 h2 h4 h5
  rcases ih z.1 h n fs tc w h0 h1 h2 h4 h5 with hf|⟨a,h',n',tc',w',L⟩
  ·exact .inl λK=>hf K
  ·exact .inr ⟨a,h',n',tc',w',λK=>L.run K,L.le,L.lid,L.tch,L.wrt,L.sub,L.low,L.same,L.like⟩
end Go.Sym
