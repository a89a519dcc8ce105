/- Part 0. -/
import Derived.CallsIn
import Derived.RangeFuncLeaves
import Derived.OrdersIn
import Derived.Below
import Derived.KernelRfl
import Derived.Laws.Cells
set_option linter.all false
namespace Go.Sym
noncomputable section
def fN{β:Type}(n:Nat)(k:Nat->β):β:=Nat.rec (motive:=λ_=>β) (k 0) (λm _=>k (Nat.succ m)) n
def eG{β:Type}(n:Nat)(k:Nat->β):fN n k=k n:=by cases n <;> rfl
def fI{β:Type}(n:Int)(k:Int->β):β:=Int.rec (motive:=λ_=>β) (λa=>fN a λa=>k (Int.ofNat a)) (λa=>fN a λa=>k (Int.negSucc a)) n
def R5{β:Type}(n:Int)(k:Int->β):fI n k=k n:=by cases n <;> simp [fI,eG]
def aa{β:Type}(b:Bool)(t e:β):β:=Bool.rec (motive:=λ_=>β) e t b
def ak{β:Type}(b:Bool)(t e:β):aa b t e=if b then t else e:=by cases b <;> rfl
def bS{α β:Type}(o:Option α)(z:β)(k:α->β):β:=Option.rec (motive:=λ_=>β) z k o
def az{b:Bool}{t:Bool}(h:aa b t false=true):b=true/\t=true:=by cases b <;> first|exact⟨rfl,h⟩|cases h
def zi{b:Bool}{t:Bool}(h:aa b false t=true):b=false/\t=true:=by cases b <;> first|exact⟨rfl,h⟩|cases h
inductive T(α:Type) where
 |leaf
 |node (l:T α) (v:Option α) (r:T α)
namespace T
variable{α β:Type}
def get:T α->Nat->Option α
 | .leaf,_=>none
 | .node l v r,n=>match n with
  |0=>v
  |m+1=>if m%2=0 then get l (m/2) else get r (m/2)
def sing:Nat->Nat->α->T α
 |0,_,_=>.leaf
 |f+1,n,a=>match n with
  |0=>.node .leaf (some a) .leaf
  |m+1=>if m%2=0 then .node (sing f (m/2) a) none .leaf else .node .leaf none (sing f (m/2) a)
def set:T α->Nat->α->T α
 | .leaf,n,a=>sing 64 n a
 | .node l v r,n,a=>match n with
  |0=>.node l (some a) r
  |m+1=>if m%2=0 then .node (set l (m/2) a) v r else .node l v (set r (m/2) a)
def getK(t:T α)(n:Nat)(z:β)(k:α->β):β:=
 T.rec (motive:=λ_=>Nat->β) (λ_=>z) (λ_ v _ gl gr n=>
  Nat.rec (motive:=λ_=>β) (Option.rec (motive:=λ_=>β) z k v) (λm _=>Bool.rec (motive:=λ_=>β) (gr (Nat.div m 2)) (gl (Nat.div m 2)) (Nat.beq (Nat.mod m 2) 0)) n) t n
def singK(f:Nat)(n:Nat)(a:α)(k:T α->β):β:=
 Nat.rec (motive:=λ_=>Nat->(T α->β)->β) (λ_ k=>k .leaf) (λ_ ih n k=>
  Nat.rec (motive:=λ_=>β) (k (.node .leaf (some a) .leaf)) (λm _=>Bool.rec (motive:=λ_=>β) (ih (Nat.div m 2) λt=>k (.node .leaf none t)) (ih (Nat.div m 2) λt=>k (.node t none .leaf)) (Nat.beq (Nat.mod m 2) 0)) n) f n k
def setK(t:T α)(n:Nat)(a:α)(k:T α->β):β:=
 T.rec (motive:=λ_=>Nat->(T α->β)->β) (λn k=>singK 64 n a k) (λl v r sl sr n k=>
  Nat.rec (motive:=λ_=>β) (k (.node l (some a) r)) (λm _=>Bool.rec (motive:=λ_=>β) (sr (Nat.div m 2) λt=>k (.node l v t)) (sl (Nat.div m 2) λt=>k (.node t v r)) (Nat.beq (Nat.mod m 2) 0)) n) t n k
def getK_eq(t:T α):∀(n:Nat) (z:β) (k:α->β),getK t n z k=match get t n with|none=>z|some a=>k a:=by
 induction t with
 |leaf=>intro n z k;simp [getK,get]
 |node l v r ihl ihr=>
  intro n z k
  cases n with
  |zero=>cases v <;> rfl
  |succ m=>
   show Bool.rec (motive:=λ_=>β) (getK r (m/2) z k) (getK l (m/2) z k) (Nat.beq (m%2) 0)=_;rw[ihl,ihr];by_cases h:m%2=0
   ·have:Nat.beq (m%2) 0=true:=by rw[h];rfl
    simp [get,h]
   ·have:Nat.beq (m%2) 0=false:=by
     cases hb:Nat.beq (m%2) 0 with
     |false=>rfl
     |true=>exact absurd (Nat.eq_of_beq_eq_true hb) h
    rw[this];simp [get,h]
def singK_eq(a:α):∀(f n:Nat) (k:T α->β),singK f n a k=k (sing f n a):=by
 intro f
 induction f with
 |zero=>intro n k;rfl
 |succ f ih=>
  intro n k
  cases n with
  |zero=>rfl
  |succ m=>
   show Bool.rec (motive:=λ_=>β) (singK f (m/2) a λt=>k (.node .leaf none t)) (singK f (m/2) a λt=>k (.node t none .leaf)) (Nat.beq (m%2) 0)=_;rw[ih,ih];by_cases h:m%2=0
   ·have:Nat.beq (m%2) 0=true:=by rw[h];rfl
    rw[this];simp [sing,h]
   ·have:Nat.beq (m%2) 0=false:=by
     cases hb:Nat.beq (m%2) 0 with
     |false=>rfl
     |true=>exact absurd (Nat.eq_of_beq_eq_true hb) h
    rw[this];simp [sing,h]
def setK_eq(t:T α)(a:α):∀(n:Nat) (k:T α->β),setK t n a k=k (set t n a):=by
 induction t with
 |leaf=>intro n k;exact singK_eq a 64 n k
 |node l v r ihl ihr=>
  intro n k
  cases n with
  |zero=>rfl
  |succ m=>
   show Bool.rec (motive:=λ_=>β) (setK r (m/2) a λt=>k (.node l v t)) (setK l (m/2) a λt=>k (.node t v r)) (Nat.beq (m%2) 0)=_;rw[ihl,ihr];by_cases h:m%2=0
   ·have:Nat.beq (m%2) 0=true:=by rw[h];rfl
    rw[this];simp [set,h]
   ·have:Nat.beq (m%2) 0=false:=by
     cases hb:Nat.beq (m%2) 0 with
     |false=>rfl
     |true=>exact absurd (Nat.eq_of_beq_eq_true hb) h
    rw[this];simp [set,h]
def get_sing(a:α):∀(f n m:Nat),n+1<2 ^ f->get (sing f n a) m=if m=n then some a else none:=by
 intro f
 induction f with
 |zero=>intro n m h;simp at h
 |succ f ih=>
  intro n m h
  cases n with
  |zero=>
   cases m with
   |zero=>simp [sing,get]
   |succ m=>simp [sing,get]
  |succ n=>
   have hn:n/2+1<2 ^ f:=by rw[Nat.pow_succ] at h;omega
   cases m with
   |zero=>simp only [sing];split <;> simp [get]
   |succ m=>
    simp only [sing];split
    ·simp only [get];split
     ·rw[ih _ _ hn];by_cases e:m/2=n/2
      ·rw[if_pos e,if_pos (by omega)]
      ·rw[if_neg e,if_neg (by omega)]
     ·rw[if_neg (by omega)]
    ·simp only [get];split
     ·rw[if_neg (by omega)]
     ·rw[ih _ _ hn];by_cases e:m/2=n/2
      ·rw[if_pos e,if_pos (by omega)]
      ·rw[if_neg e,if_neg (by omega)]
def get_set_ne(a:α){n m:Nat}(j0:m≠n):∀(t:T α),get (set t n a) m=get t m:=by
 have hs:∀(f n m:Nat),m≠n->get (sing f n a) m=none:=by
  intro f
  induction f with
  |zero=>intro n m _;rfl
  |succ f ih=>
   intro n m h
   cases n with
   |zero=>cases m with
    |zero=>exact absurd rfl h
    |succ m=>simp [sing,get]
   |succ n=>
    cases m with
    |zero=>simp only [sing];split <;> simp [get]
    |succ m=>
     simp only [sing];split
     ·simp only [get];split
      ·exact ih _ _ (by omega)
      ·rfl
     ·simp only [get];split
      ·rfl
      ·exact ih _ _ (by omega)
 intro t
 induction t generalizing n m with
 |leaf=>exact hs 64 n m j0
 |node l v r ihl ihr=>
  cases n with
  |zero=>cases m with
   |zero=>exact absurd rfl j0
   |succ m=>simp [set,get]
  |succ n=>
   cases m with
   |zero=>simp only [set];split <;> simp [get]
   |succ m=>
    simp only [set];split
    ·simp only [get];split
     ·exact ihl (by omega)
     ·rfl
    ·simp only [get];split
     ·rfl
     ·exact ihr (by omega)
def get_set_same(a:α):∀(t:T α) (n:Nat),n+1<2 ^ 64->get (set t n a) n=some a:=by
 intro t
 induction t with
 |leaf=>intro n h;show get (sing 64 n a) n=_;rw[get_sing a 64 n n h];simp
 |node l v r ihl ihr=>
  intro n h
  cases n with
  |zero=>simp [set,get]
  |succ m=>
   simp only [set];split <;> simp only [get, *,if_true,if_false]
   ·exact ihl _ (by omega)
   ·exact ihr _ (by omega)
def get_set_some{a b:α}:∀(t:T α) (n:Nat),get (set t n a) n=some b->b=a:=by
 have hs:∀(f n:Nat),get (sing f n a) n=some b->b=a:=by
  intro f
  induction f with
  |zero=>intro n h;simp [sing,get] at h
  |succ f ih=>
   intro n h
   cases n with
   |zero=>simp [sing,get] at h;exact h.symm
   |succ n=>
    simp only [sing] at h;split at h
    ·simp only [get, *,if_true] at h;exact ih _ h
    ·simp only [get, *,if_false] at h;exact ih _ h
 intro t
 induction t with
 |leaf=>intro n h;exact hs 64 n h
 |node l v r ihl ihr=>
  intro n h
  cases n with
  |zero=>simp [set,get] at h;exact h.symm
  |succ m=>
   simp only [set] at h;split at h
   ·simp only [get, *,if_true] at h;exact ihl _ h
   ·simp only [get, *,if_false] at h;exact ihr _ h
end T
end
end Go.Sym
namespace Go.Sym
abbrev aaa:=@Sem.run_bind
abbrev aab:=@Nat.le_refl
abbrev aac:=@Sem.run_pure
abbrev aad:=@Result.andThen_ok
abbrev aae:=@Nat.eq_of_beq_eq_true
abbrev aaf:=@Nat.lt_or_ge
abbrev aag:=@List.mem_cons_of_mem
abbrev aah:=@List.getElem?_eq_getElem
abbrev aai:=@List.getD_eq_getElem?_getD
abbrev aaj:=@List.mem_cons_self
abbrev aak:=@List.getElem?_eq_none
abbrev aal:=@List.length_append
abbrev aam:=@Nat.zero_add
abbrev aan:=@Nat.zero_le
abbrev aao:=@List.setIfInBounds_toArray
abbrev aap:=@List.set_cons_zero
abbrev aaq:=@List.set_cons_succ
abbrev aar:=@List.length_take
abbrev aas:=@Nat.add_zero
abbrev aat:=@List.length_drop
abbrev aau:=@Nat.le_of_ble_eq_true
abbrev aav:=@List.getElem?_take_of_lt
abbrev aaw:=@List.map_cons
abbrev aax:=@List.getElem?_drop
abbrev aay:=@Nat.mul_le_mul_right
abbrev aaz:=@Nat.add_mul
abbrev aaA:=@Int.toNat_natCast
abbrev aaB:=@List.getElem?_append_left
abbrev aaC:=@Nat.mul_one
abbrev aaD:=@Array.getElem?_setIfInBounds
abbrev aaE:=@List.getElem?_map
abbrev aaF:=@List.length_map
abbrev aaG:=@List.getElem?_append_right
abbrev aaH:=@Nat.le_trans
abbrev aaI:=@Array.length_toList
abbrev aaJ:=@List.append_assoc
abbrev aaK:=@Array.getElem?_eq_getElem
abbrev aaL:=@Nat.succ_mul
abbrev aaM:=@List.length_cons
abbrev aaN:=@Array.getElem?_eq_none
abbrev aaO:=@Nat.two_pow_pos
abbrev aaP:=@Array.getElem?_toList
abbrev aaQ:=@Option.map_some
abbrev aaR:=@Nat.eq_zero_or_pos
abbrev aaS:=@List.not_mem_nil
abbrev aaT:=@List.drop_zero
abbrev aaU:=@Array.getD_eq_getD_getElem?
abbrev aaV:=@List.getElem?_take
abbrev aaW:=@List.map_map
abbrev aaX:=@List.toList_toArray
abbrev aaY:=@Nat.pow_succ
abbrev aaZ:=@Int.ofNat_eq_natCast
abbrev Zl:=@Option.isSome_none
abbrev Zm:=@Nat.lt_of_lt_of_le
abbrev Zu:=@List.getElem?_toArray
abbrev Zv:=@List.mem_of_getElem?
abbrev Zw:=@List.drop_eq_nil_of_le
abbrev Zx:=@List.length_singleton
abbrev Zy:=@List.map_append
abbrev ZW:=@List.drop_drop
abbrev ZX:=@Nat.mul_le_mul
abbrev aa9:=@Nat.ble_eq
abbrev aa_:=@Nat.zero_mul
abbrev aba:=@List.drop_eq_getElem_cons
abbrev abb:=@Array.getElem?_modify
abbrev abc:=@Nat.mod_eq_of_lt
abbrev abd:=@List.mem_append_left
abbrev abe:=@List.mem_append_right
abbrev abf:=@List.mem_map_of_mem
abbrev abg:=@List.sum_cons
abbrev abh:=@List.filter_cons_of_neg
abbrev abj:=@List.all_eq_true
abbrev abk:=@List.getElem_mem
abbrev abl:=@Nat.beq_refl
abbrev abm:=@Nat.sub_zero
abbrev abn:=@Nat.sub_self
abbrev abo:=@List.append_nil
abbrev abp:=@List.getElem?_set
abbrev abq:=@Nat.min_eq_left
abbrev abr:=@List.mem_cons
abbrev abs:=@List.take_append_of_le_length
abbrev abt:=@List.take_of_length_le
abbrev abu:=@Nat.add_assoc
abbrev abv:=@List.drop_take
abbrev abw:=@List.take_length
abbrev abx:=@List.length_nil
abbrev aby:=@Classical.choose_spec
abbrev abz:=@List.length_set
abbrev abA:=@List.filter_cons_of_pos
abbrev abB:=@Int.natCast_emod
abbrev abC:=@Option.getD_some
abbrev abD:=@List.getElem?_cons_succ
abbrev abE:=@List.extract_eq_take_drop
abbrev abF:=@Nat.le_succ_of_le
abbrev abG:=@List.drop_append_of_le_length
abbrev abH:=@List.ext_getElem?
abbrev abI:=@List.getElem?_cons_zero
abbrev abJ:=@Int.dvd_of_emod_eq_zero
abbrev abK:=@Nat.pow_le_pow_right
abbrev abL:=@List.flatMap_cons
abbrev abM:=@List.getElem_of_mem
abbrev abN:=@List.getElem?_set_self
abbrev abO:=@Array.size_setIfInBounds
abbrev abP:=@List.mem_zipIdx_iff_getElem?
abbrev abQ:=@Array.getElem?_replicate
abbrev abR:=@Nat.and_two_pow_sub_one_eq_mod
abbrev abS:=@List.replicate_append_replicate
abbrev abT:=@List.not_of_lt_findIdx
abbrev abU:=@List.getElem_append_left
open Go.RowKit (Below)
noncomputable section
def base:Nat:=1048576
inductive G where
 |int (n:Int)
 |str (s:List Nat)
 |node (l:List G)
def gI(g:G):Int:=match g with | .int n=>n|_=>0
def gS(g:G):List Nat:=match g with | .str s=>s|_=>[]
def gL(g:G):List G:=match g with | .node l=>l|_=>[]
def ah(g:G)(j:Nat):G:=(gL g).getD j (.int 0)
def aL(l:List G)(i:Nat):G:=l.getD i (.int 0)
def iE(s:List Nat)(i:Nat):Nat:=s.getD i 0%256
theorem ao(s:List Nat)(i:Nat):iE s i<256:=Nat.mod_lt _ (by decide)
inductive Sc where
 |i (k:IntKind)
 |b
 |s
 |o
 |sl (m:Nat)
 |bs
 |h (n:Nat)
def bO(m:Nat):List Sc:=match m with
 |0=>[.i .i64,.s,.i .i64]
 |1=>[.s]
 |2=>[.i .i64,.i .i64,.i .i64,.s,.sl 1,.sl 2]
 |3=>[.i .i64,.i .i64,.s,.i .i64,.i .i64,.i .i64,.s,.o,.o,.o,.o]
 |4=>[.b]
 |5=>[.i .i64,.s,.i .i64,.i .i64,.s,.i .i64,.i .i64,.i .i64,.s,.o,.o,.o,.o,.s]
 |6=>[.h 32]
 |7=>[.i .i64,.s,.i .i64,.i .i64,.i .i64,.i .i64,.i .i64,.i .i64,.s,.sl 1,.sl 2,.h 32,.b,.i .i64,.i .i64]
 |8=>[.i .i64]
 |9=>[.i .u32]
 |10=>[.i .u64]
 |11=>[.i .i64,.i .i64,.i .i64,.h 32,.sl 7]
 |12=>[.s,.bs,.i .i64]
 |13=>[.sl 2]
 |14=>[.i .i64,.i .i64]
 |15=>[.bs,.h 32]
 |16=>[.bs]
 |_=>[]
inductive Ct where
 |rows (m:Nat) (l:List G)
 |bytes (s:List Nat)
inductive AV where
 |bool (b:Bool)
 |int (k:IntKind) (n:Int)
 |str (s:List Nat)
 |nilp
 |ptr (b g o:Nat)
 |nils
 |slc (b g o len:Nat) (cap:Option Nat) (es:Nat)
 |nilm
 |map (b:Nat)
 |func (fn:Fn) (first captured:List AV)
 |nilf
 |iface (t:Nat) (v:AV)
 |nili
 |agg (l:List AV)
 |tup (l:List AV)
 |opq (n:Nat)
 |anyB
 |anyI (k:IntKind)
 |osl (n:Nat)
 |opc (n:Nat)
 |sI (k:IntKind) (n:Int)
 |sB (p:Prop)
 |sS (s:List Nat)
 |any1
 |cptr (l:List AV)
 |cv (c:Ct)
 |gsl (b g n es:Nat)
 |gptr (b g i o es:Nat)
 |aptr (b g o n:Nat) (i:Int)
def kr(g:G):Nat->Nat->List AV
 |0,_=>[]
 |n+1,i=>.sI .u8 (gI (ah g i))::kr g n (i+1)
def zj(g:G):∀(n i:Nat),(kr g n i).length=n:=by
 intro n
 induction n with
 |zero=>intro i;rfl
 |succ n ih=>intro i;simp [kr,ih]
def eJ(x:Sc)(g:G):List AV:=match x with
 | .i k=>[.sI k (gI g)]
 | .b=>[.sB (gI g=1)]
 | .s=>[.sS (gS g)]
 | .o=>[.any1]
 | .sl m=>[.cv (.rows m (gL g))]
 | .bs=>[.cv (.bytes (gS g))]
 | .h n=>kr g n 0
def aV:List Sc->G->Nat->List AV
 | [],_,_=>[]
 |x::xs,g,j=>eJ x (ah g j)++aV xs g (j+1)
def Us(x:Sc):Nat:=match x with | .h n=>n|_=>1
def aS:List Sc->Nat
 | []=>0
 |x::xs=>Us x+aS xs
def vI(x:Sc)(g:G):(eJ x g).length=Us x:=by cases x <;> simp [eJ,Us,zj]
def oK:∀(xs:List Sc) (g:G) (j:Nat),(aV xs g j).length=aS xs:=by
 intro xs
 induction xs with
 |nil=>intro g j;rfl
 |cons x xs ih=>intro g j;simp [aV,aS,vI,ih]
def Ct.len:Ct->Nat
 | .rows _ l=>l.length
 | .bytes s=>s.length
def Ct.es:Ct->Nat
 | .rows m _=>aS (bO m)
 | .bytes _=>1
def Ct.row:Ct->Nat->List AV
 | .rows m l,i=>aV (bO m) (aL l i) 0
 | .bytes s,i=>[.sI .u8 ((s.getD i 0:Nat):Int)]
def Ct.row_len(c:Ct)(i:Nat):(c.row i).length=c.es:=by
 cases c with
 |rows m l=>exact oK _ _ _
 |bytes s=>rfl
def Ct.cut(c:Ct)(a b:Nat):Ct:=match c with
 | .rows m l=>.rows m ((l.take b).drop a)
 | .bytes s=>.bytes ((s.take b).drop a)
def Ct.cut_len(c:Ct){a b:Nat}(h1:a<=b)(h2:b<=c.len):(c.cut a b).len=b-a:=by
 cases c with
 |rows m l=>simp only [cut,len,aat,aar] at *;omega
 |bytes s=>simp only [cut,len,aat,aar] at *;omega
def Ct.cut_es(c:Ct)(a b:Nat):(c.cut a b).es=c.es:=by cases c <;> rfl
def Ct.cut_row(c:Ct){a b i:Nat}(h:a+i<b):(c.cut a b).row i=c.row (a+i):=by
 cases c with
 |rows m l=>simp only [cut,row,aL,aai,aax];rw[aav h]
 |bytes s=>simp only [cut,row,aai,aax];rw[aav h]
structure MSch where
 ks:List IntKind
 ka:Bool
 vs:List Sc
 va:Bool
def bo(m:Nat):MSch:=match m with
 |0=>⟨[.i64,.i64],true,[.h 32],true⟩
 |1=>⟨[.i64,.i64],true,[.b],false⟩
 |2=>⟨[.i64],false,[.b],false⟩
 |3=>⟨[.i64],false,[.bs],false⟩
 |4=>⟨[.i64,.i64],true,[.i .i64],false⟩
 |5=>⟨[.i64],false,[.i .i64,.i .i64,.i .i64,.h 32,.sl 7],true⟩
 |_=>⟨[],false,[],false⟩
def O9(b:Bool)(l:List AV):AV:=match b,l with
 |true,l=>.agg l
 |false,a::_=>a
 |false,[]=>.nilp
def ku:List IntKind->G->Nat->List AV
 | [],_,_=>[]
 |k::ks,g,j=>.sI k (gI (ah g j))::ku ks g (j+1)
def kY(m:Nat)(g:G):AV:=O9 (bo m).ka (ku (bo m).ks g 0)
def iw(m:Nat)(g:G):AV:=O9 (bo m).va (aV (bo m).vs g (bo m).ks.length)
def cK:Nat->G->Nat->List Int
 |0,_,_=>[]
 |n+1,g,j=>gI (ah g j)::cK n g (j+1)
def bT(m:Nat)(l:List G)(k:List Int):Nat:=l.findIdx λg=>decide (cK (bo m).ks.length g 0=k)
def kw(m:Nat)(l:List G)(k:List Int):Prop:=bT m l k<l.length
def dA(m:Nat)(l:List G)(k:List Int):G:=aL l (bT m l k)
def cE(m:Nat)(l:List G)(k:List Int)(v:List G):List G:=if bT m l k<l.length then l.set (bT m l k) (.node (k.map G.int++v)) else l++ [.node (k.map G.int++v)]
structure Home where
 blk:Nat
 shift:Nat
 size:Nat
structure Rho where
 at_:Nat->Nat->Option Home
 val:Nat->Value
 own:Nat->Prop
 frz:Nat->Option (Array Value×TypeId)
 frz0:Nat->Option (Array Value×TypeId)
def bytesOf(s:ByteArray):List Nat:=s.data.toList.map UInt8.toNat
def SlOk(ρ:Rho)(b g o len:Nat)(cap:Option Nat)(es:Nat)(a:Addr)(c:Nat):Prop:=
 len<=c/\match cap with
 |some k=>c=k/\∃h,ρ.at_ b g=some h/\h.shift<=o/\a=⟨h.blk,o-h.shift,none⟩
 |none=>(len=0/\c=0)∨∃h,ρ.at_ b g=some h/\h.shift<=o/\a=⟨h.blk,o-h.shift,none⟩/\(o-h.shift)+c * es<=h.size
def vJ:Fn->Bool
 | .yield _=>false
 |_=>true
inductive VR(ρ:Rho):AV->Value->Prop where
 |bool (b:Bool):VR ρ (.bool b) (.bool b)
 |int (k:IntKind) (n:Int):VR ρ (.int k n) (.int k n)
 |str (s:ByteArray):VR ρ (.str (bytesOf s)) (.string s)
 |nilp:VR ρ .nilp (.pointer none)
 |ptr (b g o:Nat) (h:Home) (hh:ρ.at_ b g=some h) (ho:h.shift<=o):VR ρ (.ptr b g o) (.pointer (some ⟨h.blk,o-h.shift,none⟩))
 |nils:VR ρ .nils (.slice none 0 0)
 |slc (b g o len:Nat) (cap:Option Nat) (es:Nat) (a:Addr) (c:Nat) (h:SlOk ρ b g o len cap es a c):VR ρ (.slc b g o len cap es) (.slice (some a) len c)
 |nilm:VR ρ .nilm (.map none)
 |map (b:Nat) (h:Home) (hh:ρ.at_ b 0=some h):VR ρ (.map b) (.map (some h.blk))
 |func (fn:Fn) (l m:List AV) (first captured:Array Value) (h1:first.size=l.length) (h2:captured.size=m.length)
   (r1:∀(i:Nat) (a:AV) (v:Value),l[i]? =some a->first[i]? =some v->VR ρ a v) (r2:∀(i:Nat) (a:AV) (v:Value),m[i]? =some a->captured[i]? =some v->VR ρ a v) (hf:vJ fn=true):
   VR ρ (.func fn l m) (.func fn first captured)
 |yld (b:Nat) (h:Home) (hh:ρ.at_ b 0=some h):VR ρ (.func (.yield b) [] []) (.func (.yield h.blk) #[] #[])
 |nilf:VR ρ .nilf .nilFunc
 |iface (t:Nat) (x:AV) (v:Value) (h:VR ρ x v):VR ρ (.iface t x) (.iface t v)
 |nili:VR ρ .nili .nilIface
 |agg (l:List AV) (cs:Array Value) (h:cs.size=l.length) (r:∀(i:Nat) (a:AV) (v:Value),l[i]? =some a->cs[i]? =some v->VR ρ a v):VR ρ (.agg l) (.agg cs)
 |tup (l:List AV) (cs:Array Value) (h:cs.size=l.length) (r:∀(i:Nat) (a:AV) (v:Value),l[i]? =some a->cs[i]? =some v->VR ρ a v):VR ρ (.tup l) (.tuple cs)
 |opq (n:Nat):VR ρ (.opq n) (ρ.val n)
 |opc (n:Nat) (h:(ρ.val n).oneCell'=true):VR ρ (.opc n) (ρ.val n)
 |anyB (b:Bool):VR ρ .anyB (.bool b)
 |anyI (k:IntKind) (n:Int):VR ρ (.anyI k) (.int k n)
 |osl (n:Nat) (base:Option Addr) (len cap:Nat) (h:ρ.val n= .slice base len cap):VR ρ (.osl n) (.slice base len cap)
 |sI (k:IntKind) (n:Int):VR ρ (.sI k n) (.int k n)
 |sB (p:Prop) (b:Bool) (h:b=true↔p):VR ρ (.sB p) (.bool b)
 |sS (s:ByteArray):VR ρ (.sS (bytesOf s)) (.string s)
 |any1 (v:Value) (h:v.oneCell'=true):VR ρ .any1 v
 |cptr (l:List AV) (blk off:Nat) (arr:Array Value) (ty:TypeId) (hf:ρ.frz blk=some (arr,ty)) (hb:off+l.length<=arr.size)
   (r:∀(j:Nat) (a:AV) (v:Value),l[j]? =some a->arr[off+j]? =some v->VR ρ a v):VR ρ (.cptr l) (.pointer (some ⟨blk,off,none⟩))
 |cv (c:Ct) (blk off cp:Nat) (arr:Array Value) (ty:TypeId) (hf:ρ.frz blk=some (arr,ty)) (hc:c.len<=cp) (hb:off+c.len * c.es<=arr.size)
   (r:∀(i j:Nat) (a:AV) (v:Value),i<c.len->(c.row i)[j]? =some a->arr[off+i * c.es+j]? =some v->VR ρ a v):VR ρ (.cv c) (.slice (some ⟨blk,off,none⟩) c.len cp)
 |cvnil (c:Ct) (h:c.len=0):VR ρ (.cv c) (.slice none 0 0)
 |cvempty (c:Ct) (a:Addr) (h:c.len=0):VR ρ (.cv c) (.slice (some a) 0 0)
 |gsl (b g n es:Nat) (h:Home) (c:Nat) (hn:0<n) (hh:ρ.at_ b g=some h) (hs:h.shift=0) (hc:n<=c) (hz:c * es<=h.size):VR ρ (.gsl b g n es) (.slice (some ⟨h.blk,0,none⟩) n c)
 |gnil (b g es:Nat):VR ρ (.gsl b g 0 es) (.slice none 0 0)
 |gempty (b g es:Nat) (a:Addr):VR ρ (.gsl b g 0 es) (.slice (some a) 0 0)
 |gptr (b g i o es:Nat) (h:Home) (hh:ρ.at_ b g=some h) (hs:h.shift=0):VR ρ (.gptr b g i o es) (.pointer (some ⟨h.blk,i * es+o,none⟩))
 |aptr (b g o n:Nat) (i:Int) (h:Home) (hh:ρ.at_ b g=some h) (ho:h.shift<=o) (h0:0<=i) (h1:i<(n:Int)):VR ρ (.aptr b g o n i) (.pointer (some ⟨h.blk,o-h.shift+i.toNat,none⟩))
def LR(ρ:Rho)(l:List AV)(vs:List Value):Prop:=vs.length=l.length/\∀(i:Nat) (a:AV) (v:Value),l[i]? =some a->vs[i]? =some v->VR ρ a v
def LR.nil(ρ:Rho):LR ρ [] []:=⟨rfl,by simp⟩
def LR.cons{ρ:Rho}{a:AV}{v:Value}{l:List AV}{vs:List Value}(h:VR ρ a v)(h':LR ρ l vs):LR ρ (a::l) (v::vs):=by
 refine⟨by simp [h'.1],λi b u hb hu=>?_⟩
 cases i with
 |zero=>simp at hb hu;subst hb;subst hu;exact h
 |succ i=>simp at hb hu;exact h'.2 i b u hb hu
def LR.cons_inv{ρ:Rho}{a:AV}{l:List AV}{vs:List Value}(h:LR ρ (a::l) vs):∃v o7,vs=v::o7/\VR ρ a v/\LR ρ l o7:=by
 cases vs with
 |nil=>exact absurd h.1 (by simp)
 |cons v o7=>refine⟨v,o7,rfl,h.2 0 a v rfl rfl,by simpa using h.1,λi b u hb hu=>h.2 (i+1) b u (by simpa using hb) (by simpa using hu)⟩
def LR.nil_inv{ρ:Rho}{vs:List Value}(h:LR ρ [] vs):vs= []:=by
 cases vs with
 |nil=>rfl
 |cons v vs=>exact absurd h.1 (by simp)
def LR.append{ρ:Rho}{l m:List AV}{vs us:List Value}(h:LR ρ l vs)(h':LR ρ m us):LR ρ (l++m) (vs++us):=by
 refine⟨by simp [h.1,h'.1],λi a v ha hv=>?_⟩;by_cases hi:i<l.length
 ·rw[aaB hi] at ha;rw[aaB (by rw[h.1];exact hi)] at hv;exact h.2 i a v ha hv
 ·rw[aaG (by omega)] at ha;rw[aaG (by rw[h.1];omega),h.1] at hv;exact h'.2 _ a v ha hv
def LR.get{ρ:Rho}{l:List AV}{vs:List Value}(h:LR ρ l vs){i:Nat}{a:AV}(ha:l[i]? =some a):∃v,vs[i]? =some v/\VR ρ a v:=by
 have hi:i<l.length:=by
  rcases aaf i l.length with h'|h'
  ·exact h'
  ·rw[aak h'] at ha;cases ha
 have:i<vs.length:=by rw[h.1];exact hi
 exact⟨vs[i],aah this,h.2 i a _ ha (aah this)⟩
structure Rho.le(ρ ρ':Rho):Prop where
 at_:∀b g h,ρ.at_ b g=some h->ρ'.at_ b g=some h
 val:ρ'.val=ρ.val
 own:ρ'.own=ρ.own
 frz:∀b x,ρ.frz b=some x->ρ'.frz b=some x
 frz0:ρ'.frz0=ρ.frz0
def Rho.le.refl(ρ:Rho):ρ.le ρ:=⟨λ_ _ _ h=>h,rfl,rfl,λ_ _ h=>h,rfl⟩
def Rho.le.trans{a b c:Rho}(h:a.le b)(h':b.le c):a.le c:=⟨λx g y hy=>h'.at_ _ _ _ (h.at_ _ _ _ hy),h'.val.trans h.val,h'.own.trans h.own,λx y hy=>h'.frz _ _ (h.frz _ _ hy),h'.frz0.trans h.frz0⟩
def SlOk.mono{ρ ρ':Rho}(hle:ρ.le ρ'){b g o len:Nat}{cap:Option Nat}{es:Nat}{a:Addr}{c:Nat}(h:SlOk ρ b g o len cap es a c):SlOk ρ' b g o len cap es a c:=by
 refine⟨h.1, ?_⟩
 have h2:=h.2
 cases cap with
 |some k=>obtain⟨e,x,hx,r⟩:=h2;exact⟨e,x,hle.at_ _ _ _ hx,r⟩
 |none=>
  rcases h2 with h2|⟨x,hx,r⟩
  ·exact .inl h2
  ·exact .inr ⟨x,hle.at_ _ _ _ hx,r⟩
def VR.mono{ρ ρ':Rho}(hle:ρ.le ρ'){a:AV}{v:Value}(h:VR ρ a v):VR ρ' a v:=by
 induction h with
 |bool b=>exact .bool b
 |int k n=>exact .int k n
 |str s=>exact .str s
 |nilp=>exact .nilp
 |ptr b g o h hh ho=>exact .ptr b g o h (hle.at_ _ _ _ hh) ho
 |nils=>exact .nils
 |slc b g o len cap es a c h=>exact .slc b g o len cap es a c (h.mono hle)
 |nilm=>exact .nilm
 |map b h hh=>exact .map b h (hle.at_ _ _ _ hh)
 |func fn l m first captured h1 h2 r1 r2 hf i1 i2=>exact .func fn l m first captured h1 h2 i1 i2 hf
 |yld b h hh=>exact .yld b h (hle.at_ _ _ _ hh)
 |nilf=>exact .nilf
 |iface t x v h ih=>exact .iface t x v ih
 |nili=>exact .nili
 |agg l cs h r ih=>exact .agg l cs h ih
 |tup l cs h r ih=>exact .tup l cs h ih
 |opq n=>rw[←hle.val];exact .opq n
 |opc n h=>rw[←hle.val];exact .opc n (by rw[hle.val];exact h)
 |anyB b=>exact .anyB b
 |anyI k n=>exact .anyI k n
 |osl n base len cap h=>exact .osl n base len cap (by rw[hle.val];exact h)
 |sI k n=>exact .sI k n
 |sB p b h=>exact .sB p b h
 |sS s=>exact .sS s
 |any1 v h=>exact .any1 v h
 |cptr l blk off arr ty hf hb r ih=>exact .cptr l blk off arr ty (hle.frz _ _ hf) hb ih
 |cv c blk off cp arr ty hf hc hb r ih=>exact .cv c blk off cp arr ty (hle.frz _ _ hf) hc hb ih
 |cvnil c h=>exact .cvnil c h
 |cvempty c a h=>exact .cvempty c a h
 |gsl b g n es h c hn hh hs hc hz=>exact .gsl b g n es h c hn (hle.at_ _ _ _ hh) hs hc hz
 |gnil b g es=>exact .gnil b g es
 |gempty b g es a=>exact .gempty b g es a
 |gptr b g i o es h hh hs=>exact .gptr b g i o es h (hle.at_ _ _ _ hh) hs
 |aptr b g o n i h hh ho h0 h1=>exact .aptr b g o n i h (hle.at_ _ _ _ hh) ho h0 h1
def LR.mono{ρ ρ':Rho}(hle:ρ.le ρ'){l:List AV}{vs:List Value}(h:LR ρ l vs):LR ρ' l vs:=⟨h.1,λi a v ha hv=>(h.2 i a v ha hv).mono hle⟩
def LR.arr{ρ:Rho}{l:List AV}{cs:Array Value}(h:LR ρ l cs.toList):cs.size=l.length/\∀(i:Nat) (a:AV) (v:Value),l[i]? =some a->cs[i]? =some v->VR ρ a v:=
 ⟨by simpa using h.1,λi a v ha hv=>h.2 i a v ha (by simpa using hv)⟩
def LR.of_arr{ρ:Rho}{l:List AV}{cs:Array Value}(h:cs.size=l.length)(r:∀(i:Nat) (a:AV) (v:Value),l[i]? =some a->cs[i]? =some v->VR ρ a v):LR ρ l cs.toList:=
 ⟨by simpa using h,λi a v ha hv=>r i a v ha (by simpa using hv)⟩
def O_:Nat->Value->Option AV
 |0,_=>none
 |f+1,v=>match v with
  | .bool b=>some (.bool b)
  | .int k n=>some (.int k n)
  | .string s=>some (.str (bytesOf s))
  | .pointer none=>some .nilp
  | .slice none 0 0=>some .nils
  | .map none=>some .nilm
  | .nilFunc=>some .nilf
  | .nilIface=>some .nili
  | .agg cs=>match cs.toList.mapM (O_ f) with
   |some l=>some (.agg l)
   |none=>none
  | .tuple cs=>match cs.toList.mapM (O_ f) with
   |some l=>some (.tup l)
   |none=>none
  |_=>none
def Bf{ρ:Rho}{f:Value->Option AV}(hf:∀v a,f v=some a->VR ρ a v):∀(vs:List Value) (l:List AV),vs.mapM f=some l->LR ρ l vs:=by
 intro vs
 induction vs with
 |nil=>intro l h;simp at h;subst h;exact LR.nil ρ
 |cons v vs ih=>
  intro l h
  rw[List.mapM_cons] at h
  cases hv:f v with
  |none=>simp [hv] at h
  |some a=>
   cases l6:vs.mapM f with
   |none=>simp [hv,l6] at h
   |some l'=>simp [hv,l6] at h;subst h;exact LR.cons (hf v a hv) (ih l' l6)
def F5(ρ:Rho):∀(f:Nat) (v:Value) (a:AV),O_ f v=some a->VR ρ a v:=by
 intro f
 induction f with
 |zero=>intro v a h;cases h
 |succ f ih=>
  intro v a h;unfold O_ at h;split at h
  ·injection h with h;subst h;exact .bool _
  ·injection h with h;subst h;exact .int _ _
  ·injection h with h;subst h;exact .str _
  ·injection h with h;subst h;exact .nilp
  ·injection h with h;subst h;exact .nils
  ·injection h with h;subst h;exact .nilm
  ·injection h with h;subst h;exact .nilf
  ·injection h with h;subst h;exact .nili
  ·split at h
   ·rename_i cs l hl;injection h with h;subst h;obtain⟨h1,h2⟩:=(Bf ih _ _ hl).arr;exact .agg _ _ h1 h2
   ·cases h
  ·split at h
   ·rename_i cs l hl;injection h with h;subst h;obtain⟨h1,h2⟩:=(Bf ih _ _ hl).arr;exact .tup _ _ h1 h2
   ·cases h
  ·cases h
inductive Cell where
 |mk (tag:Nat) (v:AV)
def Cell.tag:Cell->Nat | .mk t _=>t
inductive ME where
 |mk (k v:AV) (born:Nat)
inductive ABlk where
 |cells (c:T Cell) (gen lo hi fl fh:Nat) (ro:Bool) (ty:Nat)
 |grow (c:Ct) (gen ty:Nat)
 |froz (c:Ct) (gen:Nat)
 |tab (ty:Nat) (l:List Nat)
 |mapo (es:List ME) (clock:Nat)
 |smap (m:Nat) (l:List G)
 |obj (k:Nat) (I:Nat->List Nat->World->Prop) (l:List G)
 |siter (s:List Nat) (pos:Nat)
 |miter (m:Option Nat) (since:Nat) (seen:List Nat) (stepped:Nat)
 |dfr (live:Bool)
 |loop (state:LoopState) (jump:Option Code) (fn:Nat) (nt:Nat) (tmps:T AV) (params:List Nat) (assign body:Code) (defers:Nat)
inductive St where
 |mk (h:T ABlk) (next fs:Nat) (tch:T Unit) (wr:List Nat)
def St.h:St->T ABlk | .mk h _ _ _ _=>h
structure ER(ρ:Rho)(nt:Nat)(env:T AV)(tmps:Array Value):Prop where
 size:tmps.size=nt
 val:∀t a,env.get t=some a->∃v,tmps[t]? =some v/\VR ρ a v
def eK:AV->Bool
 | .agg _ | .tup _ | .opq _=>false
 |_=>true
def gO{ρ:Rho}{a:AV}{v:Value}(h:VR ρ a v)(ho:eK a=true):v.oneCell'=true:=by cases h <;> first|rfl|assumption|(simp [eK] at ho)
def Own(ρ:Rho)(B b:Nat):Prop:=B<=b∨ρ.own b
def Own.new{ρ:Rho}{B b:Nat}(h:B<=b):Own ρ B b:=.inl h
def Own.mono{ρ ρ':Rho}(hle:ρ.le ρ'){B b:Nat}(h:Own ρ B b):Own ρ' B b:=h.imp id λh=>by rw[hle.own];exact h
def kx(I:Nat->List Nat->World->Prop):Prop:=∀(r:Nat) (fp:List Nat) (w w':World),(∀x∈r::fp,w'.heap[x]? =w.heap[x]?)->I r fp w->I r fp w'
def Pa(n:Nat)(v:Value):Prop:=if n<=255 then v= .int .u8 (Int.ofNat n) else v.oneCell'=true
def oL(l:List Nat)(arr:Array Value):Prop:=arr.size=l.length/\∀(j n:Nat) (v:Value),l[j]? =some n->arr[j]? =some v->Pa n v
def BR(ρ:Rho)(B:Nat)(w:World)(b:Nat):ABlk->Prop
 | .cells c gen lo hi fl fh ro ty=>
  (∀o x,c.get o=some x->lo<=o/\o<hi/\x.tag<=gen)/\
  (∀g,g<=gen->∃h,ρ.at_ b g=some h/\(ro=false->Own ρ B h.blk)/\(ro=true->b<1048576->h.blk=b/\h.shift=0)/\
   ∃arr fr,w.heap[h.blk]? =some (.cells arr ty fr)/\arr.size=h.size/\
    (ro=false->fr.1<=fr.2/\∀x,(x<h.size∨fl<=fh)->fr.1<=x->x<fr.2->fl<=x+h.shift/\x+h.shift<fh)/\
    ∀o tag a,c.get o=some (.mk tag a)->tag<=g->h.shift<=o/\∃v,arr[o-h.shift]? =some v/\VR ρ a v)
 | .grow c gen ty=>c.len=0∨∃h,ρ.at_ b gen=some h/\h.shift=0/\Own ρ B h.blk/\∃arr fr,w.heap[h.blk]? =some (.cells arr ty fr)/\arr.size=h.size/\c.len * c.es<=h.size/\
  (∀x,x<h.size->fr.1<=x->x<fr.2->False)/\∀i,i<c.len->∀j a,(c.row i)[j]? =some a->∃u,arr[i * c.es+j]? =some u/\VR ρ a u
 | .froz c gen=>c.len=0∨∃h arr ty,ρ.at_ b gen=some h/\h.shift=0/\ρ.frz h.blk=some (arr,ty)/\c.len * c.es<=arr.size/\
  ∀i,i<c.len->∀j a,(c.row i)[j]? =some a->∃u,arr[i * c.es+j]? =some u/\VR ρ a u
 | .tab ty l=>b<1048576/\∃arr,ρ.frz b=some (arr,ty)/\oL l arr
 | .mapo es clock=>∃h,ρ.at_ b 0=some h/\Own ρ B h.blk/\∃o4,w.heap[h.blk]? =some (.map o4 clock)/\o4.size=es.length/\
  ∀(i:Nat) (k v:AV) (n:Nat) (e:MapEntry),es[i]? =some (.mk k v n)->o4[i]? =some e->VR ρ k e.key/\VR ρ v e.val/\e.born=n
 | .smap m l=>∃h,ρ.at_ b 0=some h/\Own ρ B h.blk/\∃es clock,w.heap[h.blk]? =some (.map es clock)/\es.size=l.length/\
  ∀(i:Nat) (g:G) (e:MapEntry),l[i]? =some g->es[i]? =some e->VR ρ (kY m g) e.key/\VR ρ (iw m g) e.val
 | .obj k I l=>kx I/\∃h fp,ρ.at_ b 0=some h/\h.shift=0/\(∀x∈h.blk::fp,Own ρ B x/\∃g hx,ρ.at_ b g=some hx/\hx.blk=x)/\I h.blk fp w
 | .siter s pos=>∃h,ρ.at_ b 0=some h/\Own ρ B h.blk/\∃s',bytesOf s'=s/\w.heap[h.blk]? =some (.stringIter s' pos)
 | .miter m since seen stepped=>∃h,ρ.at_ b 0=some h/\Own ρ B h.blk/\∃m' u7,w.heap[h.blk]? =some (.mapIter m' since u7 stepped)/\u7.toList=seen/\
  (match m with|none=>m'=none|some x=>∃hx,ρ.at_ x 0=some hx/\m'=some hx.blk)
 | .dfr live=>∃h,ρ.at_ b 0=some h/\Own ρ B h.blk/\w.heap[h.blk]? =some (.deferred (if live then some [] else none))
 | .loop state jump fn nt tmps params assign body defers=>∃h,ρ.at_ b 0=some h/\Own ρ B h.blk/\∃WM hd YU,ER ρ nt tmps WM/\ρ.at_ defers 0=some hd/\
  w.heap[h.blk]? =some (.loop {state,pending:=jump,fn:=YU,tmps:=WM,params:=params.toArray,assign,body,defers:=hd.blk})
def F6(g:Nat):ABlk->Prop
 | .cells _ gen _ _ _ _ _ _=>g<=gen
 | .grow _ gen _=>g<=gen
 | .froz _ gen=>g<=gen
 |_=>True
def tz:ABlk->Prop
 | .froz _ _=>True
 |_=>False
structure Kept(own:Nat->Prop)(B:Nat)(w w':World):Prop where
 os:w'.os=w.os
 tape:w'.tape=w.tape
 output:w'.output=w.output
 size:w.heap.size<=w'.heap.size
 block:∀b,b<B->¬own b->w'.heap[b]? =w.heap[b]?
def Kept.refl(own:Nat->Prop)(B:Nat)(w:World):Kept own B w w:=⟨rfl,rfl,rfl,aab _,λ_ _ _=>rfl⟩
def Kept.trans{own:Nat->Prop}{B:Nat}{a b c:World}(h:Kept own B a b)(h':Kept own B b c):Kept own B a c:=
 ⟨h'.os.trans h.os,h'.tape.trans h.tape,h'.output.trans h.output,aaH h.size h'.size,λx h1 h2=>(h'.block x h1 h2).trans (h.block x h1 h2)⟩
def Kept.of{own:Nat->Prop}{B:Nat}{a b:World}(h:Below B a b):Kept own B a b:=⟨h.os,h.tape,h.output,h.size,λx h1 _=>h.block x h1⟩
def Kept.below{own:Nat->Prop}{B:Nat}{a b:World}(h:Kept own B a b)(ho:∀x,¬own x):Below B a b:=⟨h.os,h.tape,h.output,h.size,λx h1=>h.block x h1 (ho x)⟩
def Kept.alloc{own:Nat->Prop}{B:Nat}{a w:World}(h:Kept own B a w)(hB:B<=w.heap.size)(o:Obj):Kept own B a (w.alloc o):=
 h.trans (Kept.of ((Below.refl B w).alloc hB o))
def Kept.setCell{ρ:Rho}{B:Nat}{w:World}{p:Addr}(hp:Own ρ B p.block)(v:Value):Kept ρ.own B w (w.setCell p v):=
 ⟨rfl,rfl,rfl,by simp [World.setCell],λk hk ho=>Below.heap_setCell _ _ _ _ (λe=>by subst e;rcases hp with h|h;omega;exact ho h)⟩
def Kept.of_set{ρ:Rho}{B b:Nat}{w w':World}(h0:Below 0 w w')(hs:∀k,k≠b->w'.heap[k]? =w.heap[k]?)(hb:Own ρ B b):Kept ρ.own B w w':=
 ⟨h0.os,h0.tape,h0.output,h0.size,λk hk ho=>hs k (λe=>by subst e;rcases hb with h|h;omega;exact ho h)⟩
structure Good0(w0:World)(ρ:Rho)(H:T ABlk)(w:World):Prop where
 below:Kept ρ.own w0.heap.size w0 w
 blk:∀b x,H.get b=some x->BR ρ w0.heap.size w b x
 dom:∀b g h,ρ.at_ b g=some h->h.blk<w.heap.size/\∃x,H.get b=some x
 inj:∀b g h b' g' h',ρ.at_ b g=some h->ρ.at_ b' g'=some h'->h.blk=h'.blk->b=b'/\h=h'
 gens:∀b g h x,ρ.at_ b g=some h->H.get b=some x->F6 g x
 frz:∀b arr ty,ρ.frz b=some (arr,ty)->(∃fr,w.heap[b]? =some (.cells arr ty fr))/\∀b' g h,ρ.at_ b' g=some h->h.blk=b->∃x,H.get b'=some x/\tz x
 frzB:∀b x,ρ.frz b=some x->b<w0.heap.size->ρ.frz0 b=some x
 objO:∀b k I l,H.get b=some (.obj k I l)->∀g h,ρ.at_ b g=some h->Own ρ w0.heap.size h.blk/\(g=0∨g=h.blk+1)
structure Good(w0:World)(ρ:Rho)(H:T ABlk)(w:World):Prop extends Good0 w0 ρ H w where
 ownB:∀x,ρ.own x->∃b g h,b<base+64/\ρ.at_ b g=some h/\h.blk=x
def Good0.frzE{w0:World}{ρ:Rho}{H:T ABlk}{w:World}(hG:Good0 w0 ρ H w){b:Nat}{arr:Array Value}{ty:TypeId}(hf:ρ.frz b=some (arr,ty)){b' g:Nat}{h:Home}{x:ABlk}(hh:ρ.at_ b' g=some h)(hx:H.get b'=some x)(hn:¬tz x):h.blk≠b:=λe=>by obtain⟨y,h1,h2⟩:=(hG.frz _ _ _ hf).2 _ _ _ hh e;rw[hx] at h1;injection h1 with h1;subst h1;exact hn h2
end
end Go.Sym
namespace Go.Sym
noncomputable section
structure Sy where
 i:Nat->Int
 s:Nat->List Nat
 p:Nat->Prop
 g:Nat->List G
inductive Tr where
 |fail
 |ret (a:AV)
 |rd (b:Nat) (k:ABlk->Tr)
 |wr (b:Nat) (x:ABlk) (k:Tr)
 |new (x:ABlk) (k:Nat->Tr)
 |pick (n:Nat) (k:Nat->Tr)
 |sub (t:Tr) (k:AV->Nat->Nat->T Unit->List Nat->Tr)
 |ask (p:Prop) (t e:Tr)
 |req (p:Prop) (t:Tr)
 |sk (p:Sy->Prop) (z:{y:Sy // p y}) (k:Sy->Tr)
abbrev Fin:=AV->St->Bool
def ng(fs b:Nat)(t:T Unit)(k:T Unit->Bool):Bool:=aa (Nat.ble fs b) (k t) (T.setK t b () k)
def note(fs b:Nat)(t:T Unit):T Unit:=if fs<=b then t else t.set b ()
def oM(fs b:Nat)(t:T Unit)(k:T Unit->Bool):ng fs b t k=k (note fs b t):=by
 unfold ng note;rw[ak,T.setK_eq];by_cases h:fs<=b
 ·simp [aa9,h]
 ·have:Nat.ble fs b=false:=by
   cases hb:Nat.ble fs b with
   |false=>rfl
   |true=>exact absurd (Nat.ble_eq.mp hb) h
  simp [this,h]
def mr(fs b:Nat)(w:List Nat)(k:List Nat->Bool):Bool:=aa (Nat.ble fs b) (k w) (k (b::w))
def fB(fs b:Nat)(w:List Nat):List Nat:=if fs<=b then w else b::w
def rH(fs b:Nat)(w:List Nat)(k:List Nat->Bool):mr fs b w k=k (fB fs b w):=by
 unfold mr fB;rw[ak];by_cases h:fs<=b
 ·simp [aa9,h]
 ·have:Nat.ble fs b=false:=by
   cases hb:Nat.ble fs b with
   |false=>rfl
   |true=>exact absurd (Nat.ble_eq.mp hb) h
  simp [this,h]
def T.keys{α:Type}:T α->(Nat->Nat)->List Nat->List Nat
 | .leaf,_,acc=>acc
 | .node l v r,f,acc=>T.keys l (λn=>f (2 * n+1)) (T.keys r (λn=>f (2 * n+2)) (match v with|some _=>f 0::acc|none=>acc))
def kZ(fs:Nat):List Nat->T Unit->(T Unit->Bool)->Bool:=λl=>
 List.rec (motive:=λ_=>T Unit->(T Unit->Bool)->Bool) (λt k=>k t) (λb _ ih t k=>ng fs b t λt=>ih t k) l
def eL(fs:Nat):List Nat->T Unit->T Unit
 | [],t=>t
 |b::l,t=>eL fs l (note fs b t)
def vK(fs:Nat):∀(l:List Nat) (t:T Unit) (k:T Unit->Bool),kZ fs l t k=k (eL fs l t):=by
 intro l
 induction l with
 |nil=>intro t k;rfl
 |cons b l ih=>intro t k;show ng fs b t (λt=>kZ fs l t k)=_;rw[oM,ih];rfl
def ju(fs:Nat):List Nat->List Nat->(List Nat->Bool)->Bool:=λl=>
 List.rec (motive:=λ_=>List Nat->(List Nat->Bool)->Bool) (λt k=>k t) (λb _ ih t k=>mr fs b t λt=>ih t k) l
def dL(fs:Nat):List Nat->List Nat->List Nat
 | [],t=>t
 |b::l,t=>dL fs l (fB fs b t)
def tA(fs:Nat):∀(l:List Nat) (t:List Nat) (k:List Nat->Bool),ju fs l t k=k (dL fs l t):=by
 intro l
 induction l with
 |nil=>intro t k;rfl
 |cons b l ih=>intro t k;show mr fs b t (λt=>ju fs l t k)=_;rw[rH,ih];rfl
def dP(p:Prop):Bool:=@decide p (Classical.propDecidable p)
def fX{p:Prop}:dP p=true↔p:=by simp [dP]
def Pb{p:Prop}:dP p=false↔¬p:=by simp [dP]
def R6(_:St)(_:Fin):Bool:=false
def UY(a:AV)(σ:St)(K:Fin):Bool:=K a σ
def V_(b:Nat)(_:ABlk->Tr)(ih:ABlk->St->Fin->Bool)(σ:St)(K:Fin):Bool:=
 St.rec (motive:=λ_=>Bool) (λh n fs t w=>aa (Nat.ble (Nat.succ b) n) (T.getK h b false λx=>ng fs b t λt=>ih x (.mk h n fs t w) K) false) σ
def Wa(b:Nat)(x:ABlk)(_:Tr)(ih:St->Fin->Bool)(σ:St)(K:Fin):Bool:=
 St.rec (motive:=λ_=>Bool) (λh n fs t w=>aa (Nat.ble (Nat.succ b) n) (T.getK h b false λ_=>T.setK h b x λh=>ng fs b t λt=>mr fs b w λw=>ih (.mk h n fs t w) K) false) σ
def UZ(x:ABlk)(_:Nat->Tr)(ih:Nat->St->Fin->Bool)(σ:St)(K:Fin):Bool:=
 St.rec (motive:=λ_=>Bool) (λh n fs t w=>aa (Nat.ble n 1000000000) (T.getK h n (T.setK h n x λh=>fN (Nat.succ n) λm=>ih n (.mk h m fs t w) K) λ_=>false) false) σ
def gj(f:Nat->Bool)(n:Nat):Bool:=Nat.rec (motive:=λ_=>Bool) true (λm ih=>aa (f m) ih false) n
def R7(n:Nat)(_:Nat->Tr)(ih:Nat->St->Fin->Bool)(σ:St)(K:Fin):Bool:=
 aa (Nat.ble n 1) (ih 0 σ K) (St.rec (motive:=λ_=>Bool) (λh m fs t w=>aa (Nat.beq fs 0) (gj (λi=>ih i (.mk h m fs t w) K) n) false) σ)
def U0(_:Tr)(_:AV->Nat->Nat->T Unit->List Nat->Tr)(it:St->Fin->Bool)(ik:AV->Nat->Nat->T Unit->List Nat->St->Fin->Bool)(σ:St)(K:Fin):Bool:=
 St.rec (motive:=λ_=>Bool) (λh n fs t w=>it (.mk h n n .leaf []) λa a8=>
  St.rec (motive:=λ_=>Bool) (λh' n' _ t' w'=>aa (Nat.beq fs 0) (ik a n n' t' w' (.mk h' n' fs t w) K)
   (kZ fs (T.keys t' id []) t λt2=>ju fs w' w λw2=>ik a n n' t' w' (.mk h' n' fs t2 w2) K)) a8) σ
def U1(p:Prop)(_ _:Tr)(it ie:St->Fin->Bool)(σ:St)(K:Fin):Bool:=dP ((p->it σ K=true)/\(¬p->ie σ K=true))
def U2(p:Prop)(_:Tr)(it:St->Fin->Bool)(σ:St)(K:Fin):Bool:=dP (p/\it σ K=true)
def Wb(p:Sy->Prop)(z:{y:Sy // p y})(_:Sy->Tr)(ik:Sy->St->Fin->Bool)(σ:St)(K:Fin):Bool:=ik z.1 σ K
def run(t:Tr):St->Fin->Bool:=Tr.rec (motive:=λ_=>St->Fin->Bool) R6 UY V_ Wa UZ R7 U0 U1 U2 Wb t
def fY(b:Nat)(k:ABlk->Tr)(h:T ABlk)(n fs:Nat)(t:T Unit)(w:List Nat)(K:Fin):
 run (.rd b k) (.mk h n fs t w) K=if b<n then(match h.get b with|none=>false|some x=>run (k x) (.mk h n fs (note fs b t) w) K) else false:=by
 show aa (Nat.ble (Nat.succ b) n) (T.getK h b false (λx=>ng fs b t λt=>run (k x) (.mk h n fs t w) K)) false=_
 rw[ak,T.getK_eq]
 by_cases hn:b<n
 ·rw[if_pos (Nat.ble_eq.mpr hn),if_pos hn];split <;> simp_all [oM]
 ·rw[if_neg (λh=>hn (Nat.ble_eq.mp h)),if_neg hn]
def iF(b:Nat)(x:ABlk)(k:Tr)(h:T ABlk)(n fs:Nat)(t:T Unit)(w:List Nat)(K:Fin):
 run (.wr b x k) (.mk h n fs t w) K=if b<n then(match h.get b with|none=>false|some _=>run k (.mk (h.set b x) n fs (note fs b t) (fB fs b w)) K) else false:=by
 show aa (Nat.ble (Nat.succ b) n) (T.getK h b false (λ_=>T.setK h b x λh=>ng fs b t λt=>mr fs b w λw=>run k (.mk h n fs t w) K)) false=_
 rw[ak,T.getK_eq]
 by_cases hn:b<n
 ·rw[if_pos (Nat.ble_eq.mpr hn),if_pos hn];split <;> simp_all [oM,rH,T.setK_eq]
 ·rw[if_neg (λh=>hn (Nat.ble_eq.mp h)),if_neg hn]
def fC(x:ABlk)(k:Nat->Tr)(h:T ABlk)(n fs:Nat)(t:T Unit)(w:List Nat)(K:Fin):
 run (.new x k) (.mk h n fs t w) K=if n<=1000000000 then(match h.get n with|some _=>false|none=>run (k n) (.mk (h.set n x) (n+1) fs t w) K) else false:=by
 show aa (Nat.ble n 1000000000) (T.getK h n (T.setK h n x λh=>fN (Nat.succ n) λm=>run (k n) (.mk h m fs t w) K) λ_=>false) false=_
 rw[ak]
 by_cases hn:n<=1000000000
 ·rw[if_pos (Nat.ble_eq.mpr hn),if_pos hn,T.getK_eq];split <;> simp_all [T.setK_eq,eG]
 ·rw[if_neg (λh=>hn (Nat.ble_eq.mp h)),if_neg hn]
def k_{f:Nat->Bool}:∀{n:Nat},gj f n=true↔∀i,i<n->f i=true:=by
 intro n
 induction n with
 |zero=>exact⟨λ_ i hi=>absurd hi (by omega),λ_=>rfl⟩
 |succ n ih=>
  show aa (f n) (gj f n) false=true↔_;constructor
  ·intro h i hi;obtain⟨h1,h2⟩:=az h;rcases aaf i n with h'|h'
   ·exact ih.mp h2 i h'
   ·have:i=n:=by omega
    subst this;exact h1
  ·intro h;rw[h n (by omega),ak,if_pos rfl];exact ih.mpr λi hi=>h i (by omega)
def fD(t:Tr)(k:AV->Nat->Nat->T Unit->List Nat->Tr)(h:T ABlk)(n fs:Nat)(tc:T Unit)(w:List Nat)(K:Fin):
 run (.sub t k) (.mk h n fs tc w) K=run t (.mk h n n .leaf []) λa a8=>match a8 with
  | .mk h' n' _ t' w'=>if fs=0 then run (k a n n' t' w') (.mk h' n' fs tc w) K else run (k a n n' t' w') (.mk h' n' fs (eL fs (T.keys t' id []) tc) (dL fs w' w)) K:=by
 show run t (.mk h n n .leaf []) (λa a8=>St.rec (motive:=λ_=>Bool) (λh' n' _ t' w'=>aa (Nat.beq fs 0) (run (k a n n' t' w') (.mk h' n' fs tc w) K)
  (kZ fs (T.keys t' id []) tc λt2=>ju fs w' w λw2=>run (k a n n' t' w') (.mk h' n' fs t2 w2) K)) a8)=_
 congr 1
 funext a a8
 cases a8 with
 |mk h' n' f' t' w'=>
  show aa (Nat.beq fs 0) _ _=_
  rw[ak,vK,tA]
  by_cases hf:fs=0
  ·subst hf;rfl
  ·have:Nat.beq fs 0=false:=by
    cases hb:Nat.beq fs 0 with
    |false=>rfl
    |true=>exact absurd (aae hb) hf
   simp [this,hf]
def dM{p:Prop}(t e:Tr)(σ:St)(K:Fin)(h:p):run (.ask p t e) σ K=run t σ K:=by show dP ((p->run t σ K=true)/\(¬p->run e σ K=true))=_;rw[Bool.eq_iff_iff,fX];exact⟨λq=>q.1 h,λq=>⟨λ_=>q,λn=>absurd h n⟩⟩
def dN{p:Prop}(t e:Tr)(σ:St)(K:Fin)(h:¬p):run (.ask p t e) σ K=run e σ K:=by show dP ((p->run t σ K=true)/\(¬p->run e σ K=true))=_;rw[Bool.eq_iff_iff,fX];exact⟨λq=>q.2 h,λq=>⟨λn=>absurd n h,λ_=>q⟩⟩
def dO{p:Prop}(t:Tr)(σ:St)(K:Fin)(h:p):run (.req p t) σ K=run t σ K:=by show dP (p/\run t σ K=true)=_;rw[Bool.eq_iff_iff,fX];exact⟨λq=>q.2,λq=>⟨h,q⟩⟩
def nh{p:Prop}(t:Tr)(σ:St)(K:Fin)(h:¬p):run (.req p t) σ K=false:=by show dP (p/\run t σ K=true)=_;rw[Pb];exact λq=>h q.1
end
attribute [irreducible] dP
end Go.Sym
namespace Go.Sym
def T.mem_keys_acc{α:Type}:∀(t:T α) (f:Nat->Nat) (acc:List Nat) (x:Nat),x∈acc->x∈T.keys t f acc:=by
 intro t
 induction t with
 |leaf=>intro f acc x h;exact h
 |node l v r ihl ihr=>intro f acc x h;simp only [T.keys];refine ihl _ _ _ (ihr _ _ _ ?_);cases v <;> simp [h]
def T.mem_keys{α:Type}:∀(t:T α) (f:Nat->Nat) (acc:List Nat) (b:Nat) (a:α),t.get b=some a->f b∈T.keys t f acc:=by
 intro t
 induction t with
 |leaf=>intro f acc b a h;simp [T.get] at h
 |node l v r ihl ihr=>
  intro f acc b a h
  simp only [T.keys]
  cases b with
  |zero=>simp only [T.get] at h;subst h;exact T.mem_keys_acc _ _ _ _ (T.mem_keys_acc _ _ _ _ (by simp))
  |succ m=>
   simp only [T.get] at h;split at h
   ·have e:m+1=2 * (m/2)+1:=by omega
    rw[e];exact ihl (λn=>f (2 * n+1)) _ _ _ h
   ·have e:m+1=2 * (m/2)+2:=by omega
    rw[e];exact T.mem_keys_acc _ _ _ _ (ihr (λn=>f (2 * n+2)) _ _ _ h)
def cP{fs b:Nat}{t:T Unit}{x:Nat}(hb:b+1<2 ^ 64)(h:t.get x=some ()):(note fs b t).get x=some ():=by
 unfold note;split
 ·exact h
 ·by_cases e:x=b
  ·subst e;exact T.get_set_same _ _ _ hb
  ·rw[T.get_set_ne _ e];exact h
def iG{fs b:Nat}{t:T Unit}(hb:b+1<2 ^ 64)(h:b<fs):(note fs b t).get b=some ():=by unfold note;rw[if_neg (by omega)];exact T.get_set_same _ _ _ hb
def dI{fs:Nat}:∀(l:List Nat) (t:T Unit) (x:Nat),(∀b∈l,b+1<2 ^ 64)->t.get x=some ()->(eL fs l t).get x=some ():=by
 intro l
 induction l with
 |nil=>intro t x _ h;exact h
 |cons b l ih=>intro t x hl h;exact ih _ _ (λb hb=>hl b (by simp [hb])) (cP (hl b (by simp)) h)
def iH{fs:Nat}:∀(l:List Nat) (t:T Unit) (x:Nat),(∀b∈l,b+1<2 ^ 64)->x∈l->x<fs->(eL fs l t).get x=some ():=by
 intro l
 induction l with
 |nil=>intro t x _ h;cases h
 |cons b l ih=>
  intro t x hl h hx;have m7:∀b∈l,b+1<2 ^ 64:=λb hb=>hl b (by simp [hb]);rcases List.mem_cons.mp h with e|h
  ·subst e;exact dI l _ _ m7 (iG (hl x (by simp)) hx)
  ·exact ih _ _ m7 h hx
def ni{fs b:Nat}{w:List Nat}{x:Nat}(h:x∈w):x∈fB fs b w:=by unfold fB;split <;> simp [h]
def rI{fs b:Nat}{w:List Nat}(h:b<fs):b∈fB fs b w:=by unfold fB;rw[if_neg (by omega)];simp
def mt{fs b:Nat}{w:List Nat}{x:Nat}(h:x∈fB fs b w):x∈w∨(x=b/\b<fs):=by
 unfold fB at h;split at h
 ·exact .inl h
 ·rcases List.mem_cons.mp h with e|h
  ·exact .inr ⟨e,by omega⟩
  ·exact .inl h
def iI{fs:Nat}:∀(l w:List Nat) (x:Nat),x∈w->x∈dL fs l w:=by
 intro l
 induction l with
 |nil=>intro w x h;exact h
 |cons b l ih=>intro w x h;exact ih _ _ (ni h)
def tB{fs:Nat}:∀(l w:List Nat) (x:Nat),x∈l->x<fs->x∈dL fs l w:=by
 intro l
 induction l with
 |nil=>intro w x h;cases h
 |cons b l ih=>
  intro w x h hx;rcases List.mem_cons.mp h with e|h
  ·subst e;exact iI l _ _ (rI hx)
  ·exact ih _ _ h hx
def lc{fs:Nat}:∀(l w:List Nat) (x:Nat),x∈dL fs l w->x∈w∨(x∈l/\x<fs):=by
 intro l
 induction l with
 |nil=>intro w x h;exact .inl h
 |cons b l ih=>
  intro w x h;rcases ih _ _ h with h|h
  ·rcases mt h with h|⟨e,h⟩
   ·exact .inl h
   ·subst e;exact .inr ⟨by simp,h⟩
  ·exact .inr ⟨by simp [h.1],h.2⟩
def Pc(fs n':Nat)(tc':T Unit)(b:Nat):Prop:=tc'.get b=some ()∨(fs<=b/\b<n')
def N2(fs n':Nat)(w':List Nat)(b:Nat):Prop:=b∈w'∨(fs<=b/\b<n')
def rJ{α:Type}:∀(t:T α) (f:Nat->Nat) (acc:List Nat) (b:Nat),b∈T.keys t f acc->b∈acc∨∃x a,b=f x/\t.get x=some a:=by
 intro t
 induction t with
 |leaf=>intro f acc b h;exact .inl h
 |node l v r ihl ihr=>
  intro f acc b h;simp only [T.keys] at h;rcases ihl _ _ _ h with h|⟨x,a,e,hx⟩
  ·rcases ihr _ _ _ h with h|⟨x,a,e,hx⟩
   ·cases v with
    |none=>exact .inl h
    |some a=>
     simp only [abr] at h;rcases h with h|h
     ·exact .inr ⟨0,a,h,by simp [T.get]⟩
     ·exact .inl h
   ·refine .inr ⟨2 * x+2,a,e, ?_⟩;show(if(2 * x+1)%2=0 then _ else _)=_;rw[if_neg (by omega),show(2 * x+1)/2=x by omega];exact hx
  ·refine .inr ⟨2 * x+1,a,e, ?_⟩;show(if(2 * x)%2=0 then _ else _)=_;rw[if_pos (by omega),show(2 * x)/2=x by omega];exact hx
structure LocAt(t:Tr)(h:T ABlk)(n fs:Nat)(tc:T Unit)(w:List Nat)(a:AV)(h':T ABlk)(n':Nat)(tc':T Unit)(w':List Nat):Prop where
 run:∀K,run t (.mk h n fs tc w) K=K a (.mk h' n' fs tc' w')
 le:n<=n'
 lid:n'<=1000000001
 tch:∀b,tc.get b=some ()->tc'.get b=some ()
 wrt:∀b∈w,b∈w'
 sub:∀b∈w',tc'.get b=some ()
 low:∀b,tc'.get b=some ()->b<fs
 same:∀b,¬N2 fs n' w' b->h'.get b=h.get b
 like:∀h2,(∀b,Pc fs n' tc' b->h2.get b=h.get b)->∃h2',(∀K,Sym.run t (.mk h2 n fs tc w) K=K a (.mk h2' n' fs tc' w'))/\
  (∀b,Pc fs n' tc' b->h2'.get b=h'.get b)/\∀b,¬N2 fs n' w' b->h2'.get b=h2.get b
def loc(t:Tr):∀(h:T ABlk) (n fs:Nat) (tc:T Unit) (w:List Nat),0<fs->fs<=n->n<=1000000001->(∀b∈w,tc.get b=some ())->(∀b,tc.get b=some ()->b<fs)->
 (∀K,run t (.mk h n fs tc w) K=false)∨∃a h' n' tc' w',LocAt t h n fs tc w a h' n' tc' w':=by
 induction t with
 |fail=>intro h n fs tc w _ _ _ _ _;exact .inl λK=>rfl
 |ret a=>
  intro h n fs tc w h0 h1 h2 h4 h5
  exact .inr ⟨a,h,n,tc,w,λK=>rfl,aab _,h2,λ_ x=>x,λ_ x=>x,h4,h5,λ_ _=>rfl,λg hg=>⟨g,λK=>rfl,hg,λ_ _=>rfl⟩⟩
 |rd b k ih=>
  intro h n fs tc w h0 h1 h2 h4 h5
  by_cases WX:b<n
  case neg=>exact .inl λK=>by rw[fY,if_neg WX]
  cases hb:h.get b with
  |none=>exact .inl λK=>by rw[fY,if_pos WX,hb]
  |some x=>
   have Xd:b+1<2 ^ 64:=by omega
   rcases ih x h n fs (note fs b tc) w h0 h1 h2 (λy hy=>cP Xd (h4 y hy)) (λy hy=>by
    by_cases e:fs<=b
    ·rw[note,if_pos e] at hy;exact h5 y hy
    ·by_cases ey:y=b
     ·omega
     ·rw[note,if_neg e,T.get_set_ne _ ey] at hy;exact h5 y hy) with hf|⟨a,h',n',tc',w',L⟩
   ·exact .inl λK=>by rw[fY,if_pos WX,hb];exact hf K
   ·refine .inr ⟨a,h',n',tc',w',λK=>?_,L.le,L.lid,λy hy=>L.tch y (cP Xd hy),L.wrt,L.sub,L.low,L.same,λg hg=>?_⟩
    ·rw[fY,if_pos WX,hb];exact L.run K
    ·obtain⟨g',r1,r2,r3⟩:=L.like g hg;refine⟨g',λK=>?_,r2,r3⟩;have hgb:g.get b=some x:=by
      rw[hg b ?_,hb];by_cases e:b<fs
      ·exact .inl (L.tch b (iG Xd e))
      ·exact .inr ⟨by omega,by have:=L.le;omega⟩
     rw[fY,if_pos WX,hgb];exact r1 K
 |wr b x k ih=>
  intro h n fs tc w h0 h1 h2 h4 h5
  by_cases WX:b<n
  case neg=>exact .inl λK=>by rw[iF,if_neg WX]
  cases hb:h.get b with
  |none=>exact .inl λK=>by rw[iF,if_pos WX,hb]
  |some x0=>
   have Xd:b+1<2 ^ 64:=by omega
   rcases ih (h.set b x) n fs (note fs b tc) (fB fs b w) h0 h1 h2 (λy hy=>by
    rcases mt hy with hy|⟨e,hy⟩
    ·exact cP Xd (h4 y hy)
    ·subst e;exact iG Xd hy) (λy hy=>by
    by_cases e:fs<=b
    ·rw[note,if_pos e] at hy;exact h5 y hy
    ·by_cases ey:y=b
     ·omega
     ·rw[note,if_neg e,T.get_set_ne _ ey] at hy;exact h5 y hy) with hf|⟨a,h',n',tc',w',L⟩
   ·exact .inl λK=>by rw[iF,if_pos WX,hb];exact hf K
   ·have hwb:N2 fs n' w' b:=by
     by_cases e:b<fs
     ·exact .inl (L.wrt b (rI e))
     ·exact .inr ⟨by omega,by have:=L.le;omega⟩
    have htb:Pc fs n' tc' b:=by
     by_cases e:b<fs
     ·exact .inl (L.tch b (iG Xd e))
     ·exact .inr ⟨by omega,by have:=L.le;omega⟩
    refine .inr ⟨a,h',n',tc',w',λK=>?_,L.le,L.lid,λy hy=>L.tch y (cP Xd hy),λy hy=>L.wrt y (ni hy),L.sub,L.low,λy hy=>?_,λg hg=>?_⟩
    ·rw[iF,if_pos WX,hb];exact L.run K
    ·rw[L.same y hy,T.get_set_ne];intro e;subst e;exact hy hwb
    ·have hgb:g.get b=some x0:=by rw[hg b htb,hb]
     obtain⟨g',r1,r2,r3⟩:=L.like (g.set b x) (λy hy=>by
      by_cases e:y=b
      ·subst e;rw[T.get_set_same _ _ _ Xd,T.get_set_same _ _ _ Xd]
      ·rw[T.get_set_ne _ e,T.get_set_ne _ e];exact hg y hy)
     refine⟨g',λK=>?_,r2,λy hy=>?_⟩
     ·rw[iF,if_pos WX,hgb];exact r1 K
     ·rw[r3 y hy,T.get_set_ne];intro e;subst e;exact hy hwb
 |new x k ih=>
  intro h n fs tc w h0 h1 h2 h4 h5
  by_cases hn:n<=1000000000
  case neg=>exact .inl λK=>by rw[fC,if_neg hn]
  cases j6:h.get n with
  |some x0=>exact .inl λK=>by rw[fC,if_pos hn,j6]
  |none=>
  have ab_:n+1<2 ^ 64:=by omega
  rcases ih n (h.set n x) (n+1) fs tc w h0 (by omega) (by omega) h4 h5 with hf|⟨a,h',n',tc',w',L⟩
  ·exact .inl λK=>by rw[fC,if_pos hn,j6];exact hf K
  ·have hle:=L.le;have hwn:N2 fs n' w' n:=.inr ⟨h1,by omega⟩;refine .inr ⟨a,h',n',tc',w',λK=>?_,by omega,L.lid,L.tch,L.wrt,L.sub,L.low,λy hy=>?_,λg hg=>?_⟩
   ·rw[fC,if_pos hn,j6];exact L.run K
   ·rw[L.same y hy,T.get_set_ne];intro e;subst e;exact hy hwn
   ·have hgn:g.get n=none:=by rw[hg n (.inr ⟨h1,by omega⟩),j6]
    obtain⟨g',r1,r2,r3⟩:=L.like (g.set n x) (λy hy=>by
     by_cases e:y=n
     ·subst e;rw[T.get_set_same _ _ _ ab_,T.get_set_same _ _ _ ab_]
     ·rw[T.get_set_ne _ e,T.get_set_ne _ e];exact hg y hy)
    refine⟨g',λK=>?_,r2,λy hy=>?_⟩
    ·rw[fC,if_pos hn,hgn];exact r1 K
    ·rw[r3 y hy,T.get_set_ne];intro e;subst e;exact hy hwn
 |pick m k ih=>
  intro h n fs tc w h0 h1 h2 h4 h5
  by_cases hm:m<=1
  ·have e:∀g K,run (.pick m k) (.mk g n fs tc w) K=run (k 0) (.mk g n fs tc w) K:=λg K=>by show aa (Nat.ble m 1) (run (k 0) (.mk g n fs tc w) K) _=_;rw[ak,if_pos (Nat.ble_eq.mpr hm)]
   rcases ih 0 h n fs tc w h0 h1 h2 h4 h5 with hf|⟨a,h',n',tc',w',L⟩
   ·exact .inl λK=>by rw[e];exact hf K
   ·refine .inr ⟨a,h',n',tc',w',λK=>by rw[e];exact L.run K,L.le,L.lid,L.tch,L.wrt,L.sub,L.low,L.same,λg hg=>?_⟩;obtain⟨g',r1,r2,r3⟩:=L.like g hg;exact⟨g',λK=>by rw[e];exact r1 K,r2,r3⟩
  ·refine .inl λK=>?_;show aa (Nat.ble m 1) (run (k 0) (.mk h n fs tc w) K) (aa (Nat.beq fs 0) (gj _ m) false)=_;have e1:Nat.ble m 1=false:=by
    cases hb:Nat.ble m 1 with
    |false=>rfl
    |true=>exact absurd (Nat.ble_eq.mp hb) hm
   have e2:Nat.beq fs 0=false:=by
    cases hb:Nat.beq fs 0 with
    |false=>rfl
    |true=>have:=aae hb;omega
   rw[e1,e2];rfl
 |sub t k iht ihk=>
  intro h n fs tc w h0 h1 h2 h4 h5
  have Yj:fs≠0:=by omega
  rcases iht h n n .leaf [] (by omega) (aab _) h2 (by simp) (λb hb=>by simp [T.get] at hb) with hf|⟨a1,ZY,n1,t1,w1,L1⟩
  ·exact .inl λK=>by rw[fD];exact hf _
  ·have hk1:∀b∈T.keys t1 id [],b+1<2 ^ 64/\b<n:=λb hb=>by
    rcases rJ t1 id [] b hb with hb|⟨x,u,e,hx⟩
    ·cases hb
    ·have:=L1.low x hx;have e':b=x:=e;subst e';omega
   have X3:∀b∈T.keys t1 id [],b+1<2 ^ 64:=λb hb=>(hk1 b hb).1;rcases ihk a1 n n1 t1 w1 ZY n1 fs (eL fs (T.keys t1 id []) tc) (dL fs w1 w) h0 (by have:=L1.le;omega) L1.lid (λb hb=>by
    rcases lc _ _ _ hb with hb|⟨hb,c8⟩
    ·exact dI _ _ _ X3 (h4 b hb)
    ·exact iH _ _ _ X3 (by have:=T.mem_keys t1 id [] b () (L1.sub b hb);simpa using this) c8) (λb hb=>by
    have key:∀(l:List Nat) (t:T Unit),(∀b,t.get b=some ()->b<fs)->∀b,(eL fs l t).get b=some ()->b<fs:=by
     intro l
     induction l with
     |nil=>intro t ht b hb;exact ht b hb
     |cons x l ih=>
      intro t ht b hb;refine ih _ (λy hy=>?_) b hb;by_cases e:fs<=x
      ·rw[note,if_pos e] at hy;exact ht y hy
      ·by_cases ey:y=x
       ·omega
       ·rw[note,if_neg e,T.get_set_ne _ ey] at hy;exact ht y hy
    exact key _ _ h5 b hb) with hf|⟨a,h',n',tc',w',L⟩
   ·refine .inl λK=>?_;rw[fD,L1.run];simp only [Yj,if_false];exact hf K
   ·have o8:=L1.le;have hle:=L.le;have ah0:∀b,Pc n n1 t1 b->Pc fs n' tc' b:=λb hb=>by
     rcases hb with hb|hb
     ·by_cases e:b<fs
      ·exact .inl (L.tch b (iH _ _ _ X3 (by have:=T.mem_keys t1 id [] b () hb;simpa using this) e))
      ·have:=L1.low b hb;exact .inr ⟨by omega,by omega⟩
     ·exact .inr ⟨by omega,by omega⟩
    have ad7:∀b,N2 n n1 w1 b->N2 fs n' w' b:=λb hb=>by
     rcases hb with hb|hb
     ·by_cases e:b<fs
      ·exact .inl (L.wrt b (tB _ _ _ hb e))
      ·have:=L1.low b (L1.sub b hb);exact .inr ⟨by omega,by omega⟩
     ·exact .inr ⟨by omega,by omega⟩
    refine .inr ⟨a,h',n',tc',w',λK=>?_,by omega,L.lid,λb hb=>L.tch b (dI _ _ _ X3 hb),λb hb=>L.wrt b (iI _ _ _ hb),L.sub,L.low,λb hb=>?_,λg hg=>?_⟩
    ·rw[fD,L1.run];simp only [Yj,if_false];exact L.run K
    ·rw[L.same b hb,L1.same b (λhw=>hb (ad7 b hw))]
    ·obtain⟨g1,r1,r2,r3⟩:=L1.like g (λb hb=>hg b (ah0 b hb));obtain⟨g',q1,q2,q3⟩:=L.like g1 (λb hb=>by
      by_cases e:Pc n n1 t1 b
      ·exact r2 b e
      ·have hnw:¬N2 n n1 w1 b:=λhw=>e (by
        rcases hw with hw|hw
        ·exact .inl (L1.sub b hw)
        ·exact .inr hw)
       rw[r3 b hnw,L1.same b hnw];exact hg b hb)
     refine⟨g',λK=>?_,q2,λb hb=>?_⟩
     ·rw[fD,r1];simp only [Yj,if_false];exact q1 K
     ·rw[q3 b hb,r3 b (λhw=>hb (ad7 b hw))]
 |ask p t e iht ihe=>
  intro h n fs tc w h0 h1 h2 h4 h5
  by_cases hp:p
  ·have e1:∀g K,run (.ask p t e) (.mk g n fs tc w) K=run t (.mk g n fs tc w) K:=λg K=>dM _ _ _ _ hp;rcases iht h n fs tc w h0 h1 h2 h4 h5 with hf|⟨a,h',n',tc',w',L⟩
   ·exact .inl λK=>by rw[e1];exact hf K
   ·refine .inr ⟨a,h',n',tc',w',λK=>by rw[e1];exact L.run K,L.le,L.lid,L.tch,L.wrt,L.sub,L.low,L.same,λg hg=>?_⟩;obtain⟨g',r1,r2,r3⟩:=L.like g hg;exact⟨g',λK=>by rw[e1];exact r1 K,r2,r3⟩
  ·have e1:∀g K,run (.ask p t e) (.mk g n fs tc w) K=run e (.mk g n fs tc w) K:=λg K=>dN _ _ _ _ hp;rcases ihe h n fs tc w h0 h1 h2 h4 h5 with hf|⟨a,h',n',tc',w',L⟩
   ·exact .inl λK=>by rw[e1];exact hf K
   ·refine .inr ⟨a,h',n',tc',w',λK=>by rw[e1];exact L.run K,L.le,L.lid,L.tch,L.wrt,L.sub,L.low,L.same,λg hg=>?_⟩;obtain⟨g',r1,r2,r3⟩:=L.like g hg;exact⟨g',λK=>by rw[e1];exact r1 K,r2,r3⟩
 |req p t ih=>
  intro h n fs tc w h0 h1 h2 h4 h5
  by_cases hp:p
  ·have e1:∀g K,run (.req p t) (.mk g n fs tc w) K=run t (.mk g n fs tc w) K:=λg K=>dO _ _ _ hp;rcases ih h n fs tc w h0 h1 h2 h4 h5 with hf|⟨a,h',n',tc',w',L⟩
   ·exact .inl λK=>by rw[e1];exact hf K
   ·refine .inr ⟨a,h',n',tc',w',λK=>by rw[e1];exact L.run K,L.le,L.lid,L.tch,L.wrt,L.sub,L.low,L.same,λg hg=>?_⟩;obtain⟨g',r1,r2,r3⟩:=L.like g hg;exact⟨g',λK=>by rw[e1];exact r1 K,r2,r3⟩
  ·exact .inl λK=>nh _ _ _ hp
 |sk p z k ih=>
  intro h n fs tc w h0 h1 h2 h4 h5
  rcases ih z.1 h n fs tc w h0 h1 h2 h4 h5 with hf|⟨a,h',n',tc',w',L⟩
  ·exact .inl λK=>hf K
  ·exact .inr ⟨a,h',n',tc',w',λK=>L.run K,L.le,L.lid,L.tch,L.wrt,L.sub,L.low,L.same,L.like⟩
end Go.Sym
namespace Go.Sym
noncomputable section
def Bg(v:AV)(k:Bool->Tr):Tr:=match v with | .bool b=>k b | .sB p=>.ask p (k true) (k false)|_=>.fail
def N3(v:AV)(t e:Tr):Tr:=match v with
 | .bool b=>aa b t e
 | .anyB=>.pick 2 λi=>Nat.rec (motive:=λ_=>Tr) t (λ_ _=>e) i
 | .sB p=>.ask p t e
 |_=>.fail
def iJ(v:AV)(k:IntKind->Int->Tr):Tr:=match v with | .int j n=>k j n|_=>.fail
def F7(v:AV)(k:List AV->Tr):Tr:=match v with | .agg l=>k l|_=>.fail
def eV(v:AV)(k:List AV->Tr):Tr:=match v with | .agg l=>k l | .opq _=>.fail|v=>k [v]
def oN(n:Int)(k:Nat->Tr):Tr:=match n with | .ofNat a=>k a | .negSucc _=>.fail
def ld(l:List Nat):List AV:=l.map λn=>aa (Nat.ble n 255) (.int .u8 (Int.ofNat n)) .any1
def cL(env:T AV)(x:Operand)(k:AV->Tr):Tr:=match x with
 | .tmp t=>T.getK env t .fail k
 | .const v=>bS (O_ 8 v) .fail k
 | .global g=>aa (Nat.ble (Nat.succ g) 1048576) (.rd g λx=>match x with | .cells _ _ _ _ _ _ ro _=>aa ro (k (.ptr g 0 0)) .fail | .tab _ l=>k (.cptr (ld l))|_=>.fail) .fail
 | .func f=>k (.func (.func f) [] [])
def lg(env:T AV)(l:List Operand)(k:List AV->Tr):Tr:=
 List.rec (motive:=λ_=>(List AV->Tr)->Tr) (λk=>k []) (λx _ ih k=>cL env x λa=>ih λl=>k (a::l)) l k
def DN(env:T AV)(o:Option Operand)(k:Option AV->Tr):Tr:=match o with|none=>k none|some x=>cL env x λa=>k (some a)
def fE(k:IntKind)(n:Int)(f:Int->Tr):Tr:=match k,n with
 | .i64,.ofNat a=>aa (Nat.ble a 9223372036854775807) (fN a λa=>f (.ofNat a)) (fI (IntKind.wrap .i64 n) f)
 | .u64,.ofNat a=>fN (Nat.mod a 18446744073709551616) λa=>f (.ofNat a)
 | .u32,.ofNat a=>fN (Nat.mod a 4294967296) λa=>f (.ofNat a)
 | .u8,.ofNat a=>fN (Nat.mod a 256) λa=>f (.ofNat a)
 | .u64,.negSucc a=>fN (Nat.sub 18446744073709551615 (Nat.mod a 18446744073709551616)) λa=>f (.ofNat a)
 | .u32,.negSucc a=>fN (Nat.sub 4294967295 (Nat.mod a 4294967296)) λa=>f (.ofNat a)
 | .u8,.negSucc a=>fN (Nat.sub 255 (Nat.mod a 256)) λa=>f (.ofNat a)
 | .i64,.negSucc a=>aa (Nat.ble a 9223372036854775807) (fN a λa=>f (.negSucc a)) (fI (IntKind.wrap .i64 n) f)
 |_,_=>fI (k.wrap n) f
def ai(k:IntKind):Nat:=match k with
 | .i8 | .u8=>256
 | .i16 | .u16=>65536
 | .i32 | .u32=>4294967296
 | .i64 | .u64=>18446744073709551616
def aD(m:Nat)(n:Int):Nat:=match n with
 | .ofNat a=>Nat.mod a m
 | .negSucc a=>Nat.sub (Nat.sub m 1) (Nat.mod a m)
def aZ(k:IntKind):Nat:=match k with | .i8 | .u8=>8 | .i16 | .u16=>16 | .i32 | .u32=>32 | .i64 | .u64=>64
def Pd(op:BinOp)(x y:Int)(k:Bool->Tr)(z:Tr):Tr:=match x,y with
 | .ofNat a,.ofNat b=>(match op with
  | .eql=>k (Nat.beq a b) | .neq=>k (aa (Nat.beq a b) false true) | .lss=>k (Nat.ble (Nat.succ a) b) | .leq=>k (Nat.ble a b) | .gtr=>k (Nat.ble (Nat.succ b) a) | .geq=>k (Nat.ble b a)|_=>z)
 |_,_=>(match op with
  | .eql=>k (x==y) | .neq=>k (x !=y) | .lss=>k (x<y) | .leq=>k (x<=y) | .gtr=>k (x > y) | .geq=>k (x≥y)|_=>z)
def eW(b:Bool)(k:AV->Tr):Tr:=aa b (k (.bool true)) (k (.bool false))
def U3(n:Int):Bool:=match n with | .ofNat 0=>true|_=>false
def Bh(op:BinOp)(j:IntKind)(x y:Int)(k:AV->Tr):Tr:=match op with
 | .add=>fE j (Int.add x y) λn=>k (.int j n)
 | .sub=>fE j (Int.sub x y) λn=>k (.int j n)
 | .mul=>fE j (Int.mul x y) λn=>k (.int j n)
 | .quo=>aa (U3 y) .fail (fE j (x.tdiv y) λn=>k (.int j n))
 | .rem=>aa (U3 y) .fail (fI (x.tmod y) λn=>k (.int j n))
 | .and=>fE j (.ofNat (Nat.land (aD (ai j) x) (aD (ai j) y))) λn=>k (.int j n)
 | .or=>fE j (.ofNat (Nat.lor (aD (ai j) x) (aD (ai j) y))) λn=>k (.int j n)
 | .xor=>fE j (.ofNat (Nat.xor (aD (ai j) x) (aD (ai j) y))) λn=>k (.int j n)
 | .andNot=>fE j (.ofNat (Nat.land (aD (ai j) x) (Nat.sub (Nat.sub (ai j) 1) (aD (ai j) y)))) λn=>k (.int j n)
 |op=>Pd op x y (λb=>eW b k) .fail
def jN(a b:Nat):Nat:=aa (Nat.ble a b) a b
def F8(op:BinOp)(j:IntKind)(x:Int)(y:Int)(k:AV->Tr):Tr:=oN y λn=>match op with
 | .shl=>fE j (Int.mul x (.ofNat (Nat.pow 2 (jN n (aZ j))))) λn=>k (.int j n)
 | .shr=>(match x with
  | .ofNat a=>fN (Nat.div a (Nat.pow 2 (jN n (aZ j)))) λn=>k (.int j (.ofNat n))
  | .negSucc _=>fI (x.fdiv (.ofNat (Nat.pow 2 (jN n (aZ j))))) λn=>k (.int j n))
 |_=>.fail
def vL:List Nat->List Nat->Bool
 | [],[]=>true
 |a::x,b::y=>aa (Nat.beq a b) (vL x y) false
 |_,_=>false
def tC:List Nat->List Nat->Bool
 |_,[]=>false
 | [],_::_=>true
 |a::x,b::y=>aa (Nat.ble (Nat.succ a) b) true (aa (Nat.beq a b) (tC x y) false)
def mw(l:List Nat)(k:List Nat->Tr):Tr:=List.rec (motive:=λ_=>(List Nat->Tr)->Tr) (λk=>k []) (λa _ ih k=>fN a λa=>ih λl=>k (a::l)) l k
def Bi(op:BinOp)(x y:List Nat)(k:AV->Tr):Tr:=match op with
 | .add=>mw (x++y) λl=>aa (Nat.ble (List.length l) 1000000000) (k (.str l)) .fail
 | .eql=>eW (vL x y) k
 | .neq=>eW (aa (vL x y) false true) k
 | .lss=>eW (tC x y) k
 | .leq=>eW (aa (tC x y) true (vL x y)) k
 | .gtr=>eW (aa (aa (tC x y) true (vL x y)) false true) k
 | .geq=>eW (aa (tC x y) false true) k
 |_=>.fail
def eX(l:List AV)(k:List AV->Tr):Tr:=List.rec (motive:=λ_=>(List AV->Tr)->Tr) (λk=>k []) (λa _ ih k=>ih λl=>k (a::l)) l k
def bD(v:AV):Option (IntKind×Int):=match v with | .int k n=>some (k,n) | .sI k n=>some (k,n)|_=>none
def eY(v:AV):Option (List Nat):=match v with | .str s=>some s | .sS s=>some s|_=>none
def cS(v:AV):Option Prop:=match v with | .bool b=>some (b=true) | .sB p=>some p|_=>none
def zk(v:AV):Bool:=match v with | .sI _ _=>true | .sB _=>true | .sS _=>true|_=>false
def jW(j:IntKind)(n:Int)(f:Int->Tr):Tr:=match j with
 | .u8=>f (n%256)
 | .u16=>f (n%65536)
 | .u32=>f (n%4294967296)
 | .u64=>f (n%18446744073709551616)
 | .i64=>.ask (-9223372036854775808<=n/\n<=9223372036854775807) (f n) (f (IntKind.wrap .i64 n))
 |j=>f (j.wrap n)
def F9(op:BinOp)(j:IntKind)(x y:Int)(k:AV->Tr):Tr:=match op with
 | .add=>jW j (x+y) λn=>k (.sI j n)
 | .sub=>jW j (x-y) λn=>k (.sI j n)
 | .mul=>jW j (x * y) λn=>k (.sI j n)
 | .quo=>.req (y≠0) (.ask (0<=x/\0<y) (jW j (x/y) λn=>k (.sI j n)) (jW j (x.tdiv y) λn=>k (.sI j n)))
 | .rem=>.req (y≠0) (.ask (0<=x/\0<y) (k (.sI j (x%y))) (k (.sI j (x.tmod y))))
 | .and=>k (.sI j (j.wrap (.ofNat (Nat.land (aD (ai j) x) (aD (ai j) y)))))
 | .or=>k (.sI j (j.wrap (.ofNat (Nat.lor (aD (ai j) x) (aD (ai j) y)))))
 | .xor=>k (.sI j (j.wrap (.ofNat (Nat.xor (aD (ai j) x) (aD (ai j) y)))))
 | .andNot=>k (.sI j (j.wrap (.ofNat (Nat.land (aD (ai j) x) (Nat.sub (Nat.sub (ai j) 1) (aD (ai j) y))))))
 | .eql=>k (.sB (x=y))
 | .neq=>k (.sB (x≠y))
 | .lss=>k (.sB (x<y))
 | .leq=>k (.sB (x<=y))
 | .gtr=>k (.sB (y<x))
 | .geq=>k (.sB (y<=x))
 |_=>.fail
def vM(op:BinOp)(j:IntKind)(x y:Int)(k:AV->Tr):Tr:=oN y λn=>fN (Nat.pow 2 (jN n (aZ j))) λm=>match op with
 | .shl=>jW j (x * (m:Int)) λn=>k (.sI j n)
 | .shr=>k (.sI j (x/(m:Int)))
 |_=>.fail
def rK(op:BinOp)(j:IntKind)(x y:Int)(k:AV->Tr):Tr:=.req (0<=y) (match op with
 | .shl=>jW j (x * ((2 ^ min y.toNat (aZ j):Nat):Int)) λn=>k (.sI j n)
 | .shr=>k (.sI j (x/((2 ^ min y.toNat (aZ j):Nat):Int)))
 |_=>.fail)
def Pe(v:AV):Bool:=match v with | .sI _ _=>true|_=>false
def F_(op:BinOp)(x y:List Nat)(k:AV->Tr):Tr:=match op with
 | .add=>.req ((x++y).length<=1000000000) (k (.sS (x++y)))
 | .eql=>k (.sB (x=y))
 | .neq=>k (.sB (x≠y))
 | .lss=>k (.sB (tC x y=true))
 | .leq=>k (.sB (tC y x=false))
 | .gtr=>k (.sB (tC y x=true))
 | .geq=>k (.sB (tC x y=false))
 |_=>.fail
def K6(op:BinOp):Bool:=match op with | .shl=>true | .shr=>true|_=>false
def tD(op:BinOp)(x y:AV)(k:AV->Tr):Tr:=match bD x,bD y with
 |some (j,a),some (j',b)=>aa (K6 op) (aa (Pe y) (rK op j a b k) (vM op j a b k)) (aa (decide (j=j')) (F9 op j a b k) .fail)
 |_,_=>(match eY x,eY y with
  |some a,some b=>F_ op a b k
  |_,_=>.fail)
def zm(op:UnOp)(x:AV)(k:AV->Tr):Tr:=match op,x with
 | .neg,.sI j n=>jW j (0-n) λn=>k (.sI j n)
 | .xor,.sI j n=>k (.sI j (j.wrap (.ofNat (Nat.xor (aD (ai j) (if j.signed then -1 else j.max)) (aD (ai j) n)))))
 | .not,.sB p=>k (.sB (¬p))
 |_,_=>.fail
def pI(p:Prop):Int:=@ite Int p (Classical.propDecidable p) 1 0
def Ga(s:List Nat):List Nat:=s.map (· % 256)
def Bj:Nat->List AV->Option (List G×List AV)
 |0,cs=>some ([],cs)
 |n+1,a::r=>match bD a with
  |some (.u8,v)=>(match Bj n r with|some (l,q)=>some (.int v::l,q)|none=>none)
  |_=>none
 |_+1,[]=>none
def Gb(x:Sc)(cs:List AV)(z:Option (List G×List AV))(k:G->List AV->Option (List G×List AV)):Option (List G×List AV):=match cs with
 | []=>z
 |a::r=>(match x with
  | .i j=>(match bD a with|some (j',n)=>aa (decide (j=j')) (k (.int n) r) z|none=>z)
  | .b=>(match cS a with|some p=>k (.int (pI p)) r|none=>z)
  | .s=>(match eY a with|some l=>k (.str l) r|none=>z)
  | .o=>aa (eK a) (k (.int 0) r) z
  | .sl m=>(match a with | .nils=>k (.node []) r | .cv (.rows m' l)=>aa (Nat.beq m m') (k (.node l) r) z|_=>z)
  | .bs=>(match a with | .nils=>k (.str []) r | .cv (.bytes l)=>k (.str l) r|_=>z)
  | .h n=>(match Bj n (a::r) with|some (l,q)=>k (.node l) q|none=>z))
def eM:List Sc->List AV->Option (List G×List AV)
 | [],cs=>some ([],cs)
 |x::xs,cs=>Gb x cs none λg r=>match eM xs r with|some (gs,r)=>some (g::gs,r)|none=>none
def cW(xs:List Sc):Nat->List AV->Option (List G×List AV)
 |0,cs=>some ([],cs)
 |n+1,cs=>match eM xs cs with
  |some (g,r)=>(match cW xs n r with|some (gs,r)=>some (.node g::gs,r)|none=>none)
  |none=>none
def eZ:List AV->Option (List Int)
 | []=>some []
 |a::r=>match bD a with
  |some (.u8,n)=>(match eZ r with|some l=>some (n::l)|none=>none)
  |_=>none
def bA:List Int->Prop
 | []=>True
 |x::l=>0<=x/\bA l
def aN:List Int->List Nat
 | []=>[]
 |x::l=>x.toNat::aN l
def Ct.app(c:Ct)(new:List AV)(n:Nat):Option (Ct×Prop):=match c with
 | .rows m l=>(match cW (bO m) n new with|some (gs,[])=>some (.rows m (l++gs),True)|_=>none)
 | .bytes s=>(match eZ new with|some ns=>aa (Nat.beq ns.length n) (some (.bytes (s++aN ns),bA ns)) none|none=>none)
def Ct.upd(c:Ct)(i o:Nat)(new:List AV):Option (Ct×Prop):=match c with
 | .rows m l=>(match eM (bO m) ((c.row i).take o++new++(c.row i).drop (o+new.length)) with|some (gs,[])=>some (.rows m (l.set i (.node gs)),True)|_=>none)
 | .bytes s=>(match new with
  | [a]=>(match o,bD a with|0,some (.u8,n)=>some (.bytes (s.set i n.toNat),0<=n)|_,_=>none)
  |_=>none)
variable(P:Program)
def be(t:TypeId)(k:TypeDesc->Tr):Tr:=bS (P.underlying t) .fail k
def Gc(t:TypeId)(k:TypeInfo->Tr):Tr:=bS (P.info? t) .fail k
def bB(t:TypeId)(k:Nat->Tr):Tr:=bS (P.info? t) .fail λi=>fN i.size k
def bH(d:TypeDesc):Bool:=match d with | .struct _ | .array _ _=>true|_=>false
def fF(t:TypeId)(k:AV->Tr):Tr:=bS (P.info? t) .fail λi=>bS i.zero .fail λv=>bS (O_ 8 v) .fail k
def dZ:Nat->TypeDesc->AV->AV->Option Bool
 |0,_,_,_=>none
 |f+1,d,x,y=>match d,x,y with
  | .bool,.bool a,.bool b=>some (a==b)
  | .int _,.int j a,.int j' b=>if j=j' then some (a==b) else none
  | .string,.str a,.str b=>some (vL a b)
  | .pointer _,.nilp,.nilp=>some true
  | .pointer _,.nilp,.ptr _ _ _=>some false
  | .pointer _,.ptr _ _ _,.nilp=>some false
  | .pointer e,.ptr b g o,.ptr b' g' o'=>if b=b'/\g=g' then(match P.info? e with|some i=>if i.size=0 then none else some (o==o')|none=>none) else none
  | .interface _,.nili,.nili=>some true
  | .interface _,.nili,.iface _ _=>some false
  | .interface _,.iface _ _,.nili=>some false
  | .interface _,.iface t a,.iface u b=>if t=u then(match P.info? t,P.underlying t with
   |some i,some d'=>if i.comparable && !bH d' then dZ f d' a b else none
   |_,_=>none) else some false
  | .slice _,.nils,.nils=>some true
  | .slice _,.nils,.slc .. =>some false
  | .slice _,.slc ..,.nils=>some false
  | .map _ _,.nilm,.nilm=>some true
  | .map _ _,.nilm,.map _=>some false
  | .map _ _,.map _,.nilm=>some false
  | .func _ _ _,.nilf,.nilf=>some true
  | .func _ _ _,.nilf,.func _ _ _=>some false
  | .func _ _ _,.func _ _ _,.nilf=>some false
  | .array len e,.agg xs,.agg ys=>match P.info? e,P.underlying e with
   |some i,some d'=>if i.size=1 && !bH d' && xs.length==len && ys.length==len then eqArr (dZ f d') xs ys else none
   |_,_=>none
  | .struct fs,.agg xs,.agg ys=>eqFs (dZ f) fs.toList xs ys
  |_,_,_=>none
where
 eqArr (q:AV->AV->Option Bool):List AV->List AV->Option Bool
  | [],[]=>some true
  |a::xs,b::ys=>match q a b with
   |some true=>eqArr q xs ys
   |r=>r
  |_,_=>none
 eqFs (q:TypeDesc->AV->AV->Option Bool):List Field->List AV->List AV->Option Bool
  | [],_,_=>some true
  |fd::fs,xs,ys=>if fd.name= "_" then eqFs q fs xs ys else
   match P.info? fd.type,P.underlying fd.type with
   |some i,some d'=>
    (match(if bH d' then some (AV.agg ((xs.drop fd.offset).take i.size)) else xs[fd.offset]?),(if bH d' then some (AV.agg ((ys.drop fd.offset).take i.size)) else ys[fd.offset]?) with
    |some a,some b=>(match q d' a b with
     |some true=>eqFs q fs xs ys
     |r=>r)
    |_,_=>none)
   |_,_=>none
def nT(i:Nat):List Field->Option (List IntKind)
 | []=>some []
 |fd::fs=>if fd.name= "_" then none else if fd.offset=i then(match P.info? fd.type,P.underlying fd.type with
  |some _,some (.int j)=>(match nT (i+1) fs with|some l=>some (j::l)|none=>none)
  |_,_=>none) else none
def tE(d:TypeDesc):Option (List IntKind):=match d with
 | .array n e=>(match P.info? e,P.underlying e with
  |some i,some (.int j)=>aa (Nat.beq i.size 1) (some (List.replicate n j)) none
  |_,_=>none)
 | .struct fs=>nT P 0 fs.toList
 |_=>none
def bP:List IntKind->List AV->Option (List Int)
 | [],[]=>some []
 |j::ks,a::as=>(match bD a with
  |some (j',n)=>aa (decide (j=j')) (match bP ks as with|some l=>some (n::l)|none=>none) none
  |none=>none)
 |_,_=>none
def U4(d:TypeDesc)(xs ys:List AV):Option Prop:=match tE P d with
 |some ks=>(match bP ks xs,bP ks ys with|some l,some m=>some (l=m)|_,_=>none)
 |none=>none
def Bk(d:TypeDesc)(a b:List AV)(k:Bool->Tr)(ks:Prop->Tr):Tr:=match dZ P 16 d (.agg a) (.agg b) with
 |some r=>k r
 |none=>bS (U4 P d a b) .fail ks
def e_:Nat->TypeId->Bool
 |0,_=>false
 |f+1,t=>match P.underlying t with
  |some (.interface _)=>false
  |some (.struct fs)=>!P.stoodInHeld t && fs.toList.all λfd=>e_ f fd.type
  |some (.array _ e)=>e_ f e
  |some _=>true
  |none=>false
def tF(lit:Bool)(x y:AV):Bool:=match x,y with
 | .nili,.nili=>lit
 | .opq _,_=>false
 |_,.opq _=>false
 | .anyB,_=>false
 |_,.anyB=>false
 | .anyI _,_=>false
 |_,.anyI _=>false
 | .osl _,_=>false
 |_,.osl _=>false
 | .opc _,_=>false
 |_,.opc _=>false
 | .sI _ _,_=>false
 |_,.sI _ _=>false
 | .sB _,_=>false
 |_,.sB _=>false
 | .sS _,_=>false
 |_,.sS _=>false
 | .any1,_=>false
 |_,.any1=>false
 | .cptr _,_=>false
 |_,.cptr _=>false
 | .cv _,_=>false
 |_,.cv _=>false
 | .gsl ..,_=>false
 |_,.gsl .. =>false
 | .gptr ..,_=>false
 |_,.gptr .. =>false
 | .aptr ..,_=>false
 |_,.aptr .. =>false
 |_,_=>true
def Bl(op:BinOp):Bool:=match op with | .lss | .leq | .gtr | .geq=>true|_=>false
def nj(x:Operand):Bool:=match x with | .const _=>true|_=>false
def nU(lit:Bool)(op:BinOp)(t:TypeId)(x y:AV)(k:AV->Tr):Tr:=match op,x,y with
 | .shl,.int j a,.int _ b | .shr,.int j a,.int _ b=>F8 op j a b k
 |_,.int j a,.int j' b=>aa (decide (j=j')) (Bh op j a b k) .fail
 |_,.str a,.str b=>Bi op a b k
 | .eql,.agg a,.agg b=>aa (aa (P.eqGuardType P.depth t) false (e_ P 16 t)) (be P t λd=>Bk P d a b (λr=>eW r k) λp=>k (.sB p)) .fail
 | .neq,.agg a,.agg b=>aa (aa (P.eqGuardType P.depth t) false (e_ P 16 t)) (be P t λd=>Bk P d a b (λr=>eW (aa r false true) k) λp=>k (.sB (¬p))) .fail
 | .eql,x,y=>aa (tF lit x y) (be P t λd=>bS (dZ P 16 d x y) .fail λr=>eW r k) .fail
 | .neq,x,y=>aa (tF lit x y) (be P t λd=>bS (dZ P 16 d x y) .fail λr=>eW (aa r false true) k) .fail
 | .and,.anyI .i64,.int .i64 n=>aa (decide (n=3)) (.pick 4 λi=>k (.int .i64 (.ofNat i))) .fail
 |op,.anyI j,.int j' _=>aa (decide (j=j')) (aa (Bl op) (k .anyB) .fail) .fail
 |_,_,_=>.fail
def Bm(x:AV)(k:AV->Tr):Tr:=match x with | .sB p=>.ask p (k (.bool true)) (k (.bool false))|x=>k x
def R8(x y:AV):Bool:=match cS x,cS y with|some _,some _=>true|_,_=>false
def K7(x y:AV):Bool:=match x,y with | .cv _,.nils=>true | .gsl ..,.nils=>true|_,_=>false
def tG(x:AV):Nat:=match x with | .cv c=>c.len | .gsl _ _ n _=>n|_=>0
def Gd(op:BinOp)(t:TypeId)(x:AV)(k:AV->Tr):Tr:=be P t λd=>match d,op with | .slice _,.eql=>.ask (tG x=0) (k .anyB) (k (.bool false)) | .slice _,.neq=>.ask (tG x=0) (k .anyB) (k (.bool true))|_,_=>.fail
def R9(op:BinOp)(t:TypeId)(x y:AV)(k:AV->Tr)(z:Tr):Tr:=match op,x,y with
 | .eql,.sB p,.sB q=>be P t λd=>(match d with | .bool=>.ask (p↔q) (k (.bool true)) (k (.bool false))|_=>.fail)
 |_,_,_=>z
def Ge(lit:Bool)(op:BinOp)(t:TypeId)(x y:AV)(k:AV->Tr):Tr:=aa (K7 x y) (Gd P op t x k) (aa (aa (zk x) true (zk y)) (aa (R8 x y) (R9 P op t x y k (Bm x λx=>Bm y λy=>nU P lit op t x y k)) (tD op x y k)) (nU P lit op t x y k))
def zn(op:UnOp)(x:AV)(k:AV->Tr):Tr:=match op,x with
 | .neg,.int j n=>fE j (Int.sub 0 n) λn=>k (.int j n)
 | .xor,.int j n=>fE j (.ofNat (Nat.xor (aD (ai j) (if j.signed then -1 else j.max)) (aD (ai j) n))) λn=>k (.int j n)
 | .not,.bool b=>eW (aa b false true) k
 |_,_=>.fail
def N4(op:UnOp)(x:AV)(k:AV->Tr):Tr:=aa (zk x) (zm op x k) (zn op x k)
def K8(l:List AV)(i:Nat)(t:T Cell)(k:T Cell->Tr):Tr:=
 List.rec (motive:=λ_=>Nat->T Cell->(T Cell->Tr)->Tr) (λ_ t k=>k t) (λa _ ih i t k=>T.setK t i (.mk 0 a) λt=>fN (Nat.succ i) λi=>ih i t k) l i t k
def lh(fl ty:Nat)(l:List AV)(k:Nat->Tr):Tr:=K8 l 0 .leaf λt=>fN (List.length l) λn=>.new (.cells t 0 0 n fl 0 false ty) k
def lj(ty:Nat)(l:List AV)(k:Nat->Tr):Tr:=lh 0 ty l k
def lk(ty:Nat)(v:AV)(k:AV->Tr):Tr:=eV v λl=>lj ty l λb=>k (.ptr b 0 0)
def Gf(c:T Cell)(g:Nat)(n:Nat)(o:Nat)(k:List AV->Tr):Tr:=
 Nat.rec (motive:=λ_=>Nat->(List AV->Tr)->Tr) (λ_ k=>k []) (λ_ ih o k=>T.getK c o .fail λx=>match x with
  | .mk tag v=>aa (Nat.ble tag g) (fN (Nat.succ o) λo=>ih o λl=>k (v::l)) .fail) n o k
def fa(b g o n:Nat)(k:List AV->Tr):Tr:=.rd b λx=>match x with | .cells c gen _ _ _ _ _ _=>aa (Nat.ble g gen) (Gf c g n o k) .fail|_=>.fail
def Gg(b g o:Nat)(k:AV->Tr):Tr:=.rd b λx=>match x with
 | .cells c gen _ _ _ _ _ _=>aa (Nat.ble g gen) (T.getK c o .fail λx=>(match x with | .mk tag v=>aa (Nat.ble tag g) (k v) .fail)) .fail
 |_=>.fail
def Bn(l:List AV):Option (IntKind×List Int):=match l with
 | []=>none
 |a::r=>(match bD a with|some (j,_)=>(match bP (List.replicate (List.length (a::r)) j) (a::r) with|some ns=>some (j,ns)|none=>none)|none=>none)
def R_(p:Prop)(x y:Int):Int:=@ite Int p (Classical.propDecidable p) x y
def ri(j:IntKind)(i x:Int):Nat->List Int->List AV
 |_,[]=>[]
 |m,n::ns=>.sI j (R_ (i=(m:Int)) x n)::ri j i x (m+1) ns
def vO(t:TypeId)(x:AV)(k:AV->Tr):Tr:=match x with
 | .ptr b g o=>be P t λd=>aa (bH d) (bB P t λn=>fa b g o n λl=>k (.agg l)) (Gg b g o k)
 | .cptr l=>be P t λd=>aa (bH d) (bB P t λn=>eX (l.take n) λr=>aa (Nat.beq r.length n) (k (.agg r)) .fail) (bS l[0]? .fail k)
 | .gptr b g i o es=>.rd b λq=>(match q with
  | .grow c gen _=>aa (Nat.beq g gen) (aa (Nat.beq es c.es) (.req (i<c.len) (be P t λd=>aa (bH d) (bB P t λm=>eX (((c.row i).drop o).take m) λr=>aa (Nat.beq r.length m) (k (.agg r)) .fail) (bS (c.row i)[o]? .fail k))) .fail) .fail
  |_=>.fail)
 | .aptr b g o n i=>be P t λd=>aa (bH d) .fail (fa b g o n λl=>bS (Bn l) .fail λq=>k (.sI q.1 (q.2.getD i.toNat 0)))
 |_=>.fail
def Pf(g fl fh:Nat)(l:List AV)(o:Nat)(c:T Cell)(k:T Cell->Tr):Tr:=
 List.rec (motive:=λ_=>Nat->T Cell->(T Cell->Tr)->Tr) (λ_ c k=>k c) (λv _ ih o c k=>
  aa (eK v) (aa (aa (Nat.ble fl o) (Nat.ble (Nat.succ o) fh) false) .fail (T.getK c o .fail λx=>match x with | .mk tag _=>aa (Nat.ble tag g) (T.setK c o (.mk g v) λc=>fN (Nat.succ o) λo=>ih o c k) .fail)) .fail) l o c k
def gk(b g o:Nat)(l:List AV)(k:Tr):Tr:=.rd b λx=>match x with
 | .cells c gen lo hi fl fh ro ty=>aa ro .fail (aa (Nat.beq g gen) (Pf g fl fh l o c λc=>.wr b (.cells c gen lo hi fl fh false ty) k) .fail)
 |_=>.fail
def Gh(t:TypeId)(x v:AV)(k:Tr):Tr:=match x with
 | .ptr b g o=>bB P t λn=>eV v λl=>aa (Nat.beq (List.length l) n) (gk b g o l k) .fail
 | .gptr b g i o es=>bB P t λn=>eV v λl=>aa (Nat.beq (List.length l) n) (aa (Nat.ble 1 n) (.rd b λq=>(match q with
  | .grow c gen ty=>aa (Nat.beq g gen) (aa (Nat.beq es c.es) (aa (Nat.ble (o+n) es) (aa (l.all eK) (match c.upd i o l with
   |some (c',p)=>.req (i<c.len/\p) (.wr b (.grow c' gen ty) k)
   |none=>.fail) .fail) .fail) .fail) .fail
  |_=>.fail)) .fail) .fail
 | .aptr b g o n i=>bB P t λm=>aa (Nat.beq m 1) (fa b g o n λl=>bS (Bn l) .fail λq=>bS (bD v) .fail λr=>aa (decide (q.1=r.1)) (gk b g o (ri q.1 i r.2 0 q.2) k) .fail) .fail
 |_=>.fail
def cX(cells:List AV)(off:Nat)(cs:List AV):List AV:=cells.take off++cs++cells.drop (off+cs.length)
def vP(place:Nat->Option (Nat×Nat))(cells:List AV)(parts:List (Nat×AV))(k:List AV->Tr):Tr:=
 List.rec (motive:=λ_=>List AV->(List AV->Tr)->Tr) (λcells k=>k cells) (λp _ ih cells k=>
  bS (place p.1) .fail λq=>eV p.2 λcs=>aa (Nat.beq cs.length q.2) (aa (Nat.ble (q.1+q.2) cells.length) (eX (cX cells q.1 cs) λcells=>ih cells k) .fail) .fail) parts cells k
def gm(env:T AV)(l:List (Nat×Operand))(k:List (Nat×AV)->Tr):Tr:=
 List.rec (motive:=λ_=>(List (Nat×AV)->Tr)->Tr) (λk=>k []) (λx _ ih k=>cL env x.2 λa=>ih λl=>k ((x.1,a)::l)) l k
def tH(fs:Array Field)(i:Nat):Option (Nat×Nat):=match fs[i]? with
 |some f=>(match P.info? f.type with|some i=>some (f.offset,i.size)|none=>none)
 |none=>none
def nV(fs:Array Field):Bool:=fs.toList.all λf=>(P.info? f.type).isSome
def Gi(t:TypeId)(parts:List (Nat×AV))(k:AV->Tr):Tr:=fF P t λz=>be P t λd=>match d with
 | .struct fs=>aa (nV P fs) (eV z λz=>vP (tH P fs) z parts λl=>k (.agg l)) .fail
 | .array _ e=>bB P e λn=>eV z λz=>vP (λi=>some (i * n,n)) z parts λl=>k (.agg l)
 |_=>.fail
def cO(z:List AV):Nat->List AV
 |0=>[]
 |n+1=>z++cO z n
def nk(t:TypeId)(len:Nat)(parts:List (Nat×AV))(k:AV->Tr):Tr:=be P t λd=>match d with
 | .slice e=>bB P e λn=>aa (Nat.ble (len * n) 1000000) (aa (Nat.ble 1 n) (fF P e λz=>eV z λz=>aa (Nat.beq z.length n)
  (vP (λi=>some (i * n,n)) (cO z len) parts λl=>lj e l λb=>k (.slc b 0 0 len (some len) n)) .fail) .fail) .fail
 |_=>.fail
def bY(l:List Nat):List AV:=l.map λb=>.int .u8 (.ofNat b)
def Gj(b g o:Nat)(u:TypeId)(n:Nat)(k:Tr):Tr:=.rd b λq=>match q with
 | .cells c gen lo hi _ _ _ ty=>aa (Nat.ble g gen) (aa (Nat.beq lo 0) (T.getK c 0 .fail λx=>match x with
  | .mk t0 _=>aa (Nat.ble t0 g) (fN (Nat.sub hi 1) λh1=>T.getK c h1 .fail λx=>match x with
   | .mk t1 _=>aa (Nat.ble t1 g) (aa (liesAt P P.depth ty (hi/P.cellsOf ty) o u n) k .fail) .fail) .fail) .fail) .fail
 |_=>.fail
def vR(src dst:TypeId)(x:AV)(k:AV->Tr):Tr:=be P src λs=>be P dst λd=>match s,d,x with
 |_,.int j,.sI _ n=>jW j n λn=>k (.sI j n)
 |_,.string,.sS s=>k (.sS s)
 | .string,.slice e,.sS s=>be P e λde=>(match de with
  | .int .u8=>.ask (0<s.length) (.new (.grow (.bytes s) 0 e) λb=>k (.gsl b 0 s.length 1)) (lh 1 e [] λb=>k (.slc b 0 0 0 none 1))
  |_=>.fail)
 | .slice e,.string,.cv (.bytes s)=>be P e λde=>(match de with | .int .u8=>k (.sS (Ga s))|_=>.fail)
 | .slice e,.string,.gsl b g n es=>be P e λde=>(match de with
  | .int .u8=>.rd b λq=>(match q with
   | .grow (.bytes s) gen _=>aa (Nat.beq g gen) (aa (Nat.beq es 1) (.req (s.length=n) (k (.sS (Ga s)))) .fail) .fail
   |_=>.fail)
  |_=>.fail)
 |_,_,_=>.fail
def Bo:List AV->Option (List Nat)
 | []=>some []
 | .int .u8 (.ofNat n)::r=>if n<256 then(match Bo r with|some l=>some (n::l)|none=>none) else none
 |_=>none
def U5:List Int->Prop
 | []=>True
 |x::l=>(0<=x/\x<256)/\U5 l
def ll(l:List AV)(k:AV->Tr):Tr:=match Bo l with
 |some l=>k (.str l)
 |none=>bS (eZ l) .fail λns=>.req (U5 ns) (k (.sS (aN ns)))
def Gk(src dst:TypeId)(x:AV)(k:AV->Tr):Tr:=be P src λs=>be P dst λd=>match s,d,x with
 |_,.int j,.int _ n=>fE j n λn=>k (.int j n)
 |_,.string,.str s=>k (.str s)
 | .string,.slice e,.str s=>be P e λde=>(match de with
  | .int .u8=>fN (List.length s) λn=>aa (Nat.ble n 1000000) (lh 1 e (bY s) λb=>k (.slc b 0 0 n none 1)) .fail
  |_=>.fail)
 | .slice _,.slice e,.slc b g o len cap es=>aa (Nat.beq src dst) (be P e λde=>(match de with
  | .int .u8=>aa (Nat.ble 1 len) (.rd b λq=>(match q with
   | .cells c gen lo hi fl fh ro ty=>aa ro .fail (aa (Nat.beq fh 0) (aa (Nat.ble g gen) (.wr b (.cells c gen lo hi 1 0 false ty) (k (.slc b g o len cap es))) .fail) .fail)
   |_=>.fail)) .fail
  |_=>.fail)) .fail
 | .pointer _,.unsafePointer,.nilp=>k .nilp
 | .pointer t0,.unsafePointer,.ptr b g o=>bB P t0 λn=>aa (Nat.beq n 0) .fail (.rd b λq=>(match q with
  | .cells c gen _ _ _ _ _ _=>aa (Nat.ble g gen) (T.getK c o .fail λx=>(match x with | .mk tag _=>aa (Nat.ble tag g) (k (.ptr b g o)) .fail)) .fail
  |_=>.fail))
 | .unsafePointer,.pointer _,.nilp=>k .nilp
 | .unsafePointer,.pointer u,.ptr b g o=>bB P u λ_=>Gj P b g o u 1 (k (.ptr b g o))
 | .slice e,.string,x=>be P e λde=>(match de,x with
  | .int .u8,.nils=>k (.str [])
  | .int .u8,.slc b g o len _ es=>aa (Nat.beq len 0) (k (.str [])) (fa b g o len λl=>ll l k)
  |_,_=>.fail)
 |_,_,_=>.fail
def U6(v:AV):Bool:=match v with | .sI _ _=>true | .sB _=>true | .sS _=>true | .cv _=>true | .gsl .. =>true|_=>false
def N5(src dst:TypeId)(x:AV)(k:AV->Tr):Tr:=aa (U6 x) (vR P src dst x k) (Gk P src dst x k)
def vS(t:TypeId)(x:AV)(k:AV->Tr):Tr:=be P t λd=>match d with | .interface _=>.fail|_=>k (.iface t x)
def Gl(t:TypeId)(cs:List AV)(off:Nat)(k:AV->Tr):Tr:=be P t λd=>
 aa (bH d) (bB P t λn=>eX ((cs.drop off).take n) λl=>k (.agg l)) (bS cs[off]? .fail k)
def Gm(t:TypeId)(x:AV)(i:Nat)(k:AV->Tr):Tr:=be P t λd=>match d with
 | .struct fs=>bS fs[i]? .fail λf=>F7 x λcs=>Gl P f.type cs f.offset k
 |_=>.fail
def oO(t:TypeId)(x:AV)(i:Nat)(k:AV->Tr):Tr:=be P t λd=>match d,x with
 | .struct fs,.ptr b g o=>bS fs[i]? .fail λf=>bB P f.type λn=>aa (Nat.beq n 0) .fail (fN (o+f.offset) λo=>k (.ptr b g o))
 | .struct fs,.gptr b g m o es=>bS fs[i]? .fail λf=>bB P f.type λn=>aa (Nat.beq n 0) .fail (k (.gptr b g m (o+f.offset) es))
 | .struct fs,.cptr l=>bS fs[i]? .fail λf=>bB P f.type λn=>aa (Nat.beq n 0) .fail (aa (Nat.ble f.offset l.length) (eX (l.drop f.offset) λl=>k (.cptr l)) .fail)
 |_,_=>.fail
def Bp(t:TypeId)(c:Ct)(ix:AV)(k:AV->Tr):Tr:=be P t λd=>match d,bD ix with
 | .slice e,some (_,i)=>bB P e λs=>aa (Nat.beq s c.es) (.req (0<=i/\i<(c.len:Int)) (eX (c.row i.toNat) λl=>k (.cptr l))) .fail
 |_,_=>.fail
def iK(t:TypeId)(x ix:AV)(k:AV->Tr):Tr:=iJ ix λ_ i=>oN i λi=>be P t λd=>match d,x with
 | .array len e,.ptr b g o=>aa (Nat.ble (Nat.succ i) len) (bB P e λn=>fN (o+i * n) λo=>k (.ptr b g o)) .fail
 | .slice e,.slc b g o len _ _=>aa (Nat.ble (Nat.succ i) len) (bB P e λn=>fN (o+i * n) λo=>k (.ptr b g o)) .fail
 |_,_=>.fail
def Bq(t:TypeId)(b g n es:Nat)(ix:AV)(k:AV->Tr):Tr:=be P t λd=>match d,bD ix with
 | .slice e,some (_,i)=>bB P e λs=>aa (Nat.beq s es) (.req (0<=i/\i<(n:Int)) (k (.gptr b g i.toNat 0 es))) .fail
 |_,_=>.fail
def iL(b:Nat)(l:List (Nat×Nat×Nat)):Bool:=List.rec (motive:=λ_=>Bool) true (λx _ ih=>aa (Nat.beq x.2.1 b) false ih) l
def bi{α β:Type}(o:Option α)(k:α->Option β):Option β:=Option.rec (motive:=λ_=>Option β) none k o
def KZ(c:T Cell)(g:Nat)(n o:Nat):Option (List AV):=
 Nat.rec (motive:=λ_=>Nat->Option (List AV)) (λ_=>some []) (λ_ ih o=>T.getK c o none λx=>match x with
  | .mk tag v=>aa (Nat.ble tag g) (fN (Nat.succ o) λo=>bi (ih o) λl=>some (v::l)) none) n o
def jX(cap:Option Nat)(len:Nat):Nat:=match cap with|some k=>k|none=>len
def K9(loc:List (Nat×Nat×Nat))(b g o len:Nat)(cap:Option Nat)(es:Nat)(rows:Nat->List AV->(Ct->Nat->Tr)->Tr)(k:Ct->Nat->Tr):Tr:=.rd b λq=>match q with
 | .cells c gen lo hi fl fh ro ty=>aa ro .fail (aa (Nat.beq gen g) (aa (Nat.beq lo 0) (aa (Nat.beq fl 0) (aa (Nat.beq fh 0) (aa (Nat.beq g g) (aa (Nat.beq o 0) (aa (Nat.ble 1 len) (aa (aa (iL b loc) (aa (Nat.ble 1 es) (Nat.ble len (jX cap len)) false) false)
  (bS (KZ c g (jX cap len * es) 0) .fail λas=>rows ty (as.take (len * es)) λct Ww=>aa (Nat.beq ty Ww) (aa (Nat.beq ct.es es) (.req (ct.len=len) (k ct ty)) .fail) .fail)
  .fail) .fail) .fail) .fail) .fail) .fail) .fail) .fail)
 |_=>.fail
def my(loc:List (Nat×Nat×Nat))(b g o len:Nat)(cap:Option Nat)(es:Nat)(rows:Nat->List AV->(Ct->Nat->Tr)->Tr)(k:AV->Tr):Tr:=K9 loc b g o len cap es rows λct ty=>.wr b (.grow ct g ty) (k (.gsl b g len es))
def oP(m len:Nat)(ty:Nat)(as:List AV)(k:Ct->Nat->Tr):Tr:=bS (cW (bO m) len as) .fail λq=>match q with|(gs,[])=>k (.rows m gs) ty|_=>.fail
def oQ(ty:Nat)(as:List AV)(k:Ct->Nat->Tr):Tr:=bS (eZ as) .fail λns=>.req (bA ns) (k (.bytes (aN ns)) ty)
def nW(e:TypeId)(len:Nat):Option (Nat->List AV->(Ct->Nat->Tr)->Tr):=match P.underlying e with
 |some (.int .u8)=>some oQ
 |some (.int .u32)=>some (oP 9 len)
 |some (.int .i64)=>some (oP 8 len)
 |some (.int .u64)=>some (oP 10 len)
 |_=>none
def Gn(t:TypeId)(b g o:Nat)(ix:AV)(k:AV->Tr):Tr:=be P t λd=>match d,bD ix with
 | .array len e,some (_,i)=>bB P e λs=>aa (Nat.beq o 0) (aa (Nat.beq s 1) (.req (0<=i/\i<(len:Int)) (.rd b λq=>(match q with
  | .grow c gen _=>aa (Nat.beq g gen) (aa (Nat.beq c.es 1) (.req (0<c.len) (k (.gptr b g i.toNat 0 1))) .fail) .fail
  |_=>aa (Nat.beq g 0) (bS (nW P e len) .fail λrows=>my [] b g 0 len (some len) 1 rows λ_=>k (.gptr b 0 i.toNat 0 1)) .fail))) .fail) (aa (Nat.beq s 1) (.req (0<=i/\i<(len:Int)) (k (.aptr b g o len i))) .fail)
 |_,_=>.fail
def Gp(t:TypeId)(l:List AV)(ix:AV)(k:AV->Tr):Tr:=be P t λd=>match d,bD ix with
 | .array len e,some (_,i)=>bB P e λs=>aa (Nat.beq s 1) (bS (Bo l) .fail λbs=>aa (Nat.ble len bs.length) (aa (Pe ix) (.req (0<=i/\i<(len:Int)) (k (.cptr [.sI .u8 ((bs.getD i.toNat 0:Nat):Int)]))) (oN i λn=>aa (Nat.ble (Nat.succ n) len) (fN (bs.getD n 0) λm=>k (.cptr [.int .u8 (Int.ofNat m)])) .fail)) .fail) .fail
 |_,_=>.fail
def ky(t:TypeId)(x ix:AV)(k:AV->Tr):Tr:=match x with
 | .cptr l=>Gp P t l ix k
 | .cv c=>Bp P t c ix k
 | .gsl b g n es=>Bq P t b g n es ix k
 | .ptr b g o=>aa (Pe ix) (Gn P t b g o ix k) (iK P t (.ptr b g o) ix k)
 |x=>iK P t x ix k
def Gq(t:TypeId)(s:List Nat)(i:Int)(k:AV->Tr):Tr:=be P t λd=>match d with
 | .string=>.req (0<=i/\i<(s.length:Int)) (k (.sI .u8 ((iE s i.toNat:Nat):Int)))
 |_=>.fail
def Br(t:TypeId)(x ix:AV)(k:AV->Tr):Tr:=iJ ix λ_ i=>oN i λi=>be P t λd=>match d,x with
 | .array len e,.agg cs=>aa (Nat.ble (Nat.succ i) len) (bB P e λn=>Gl P e cs (i * n) k) .fail
 | .string,.str s=>bS s[i]? .fail λb=>fN b λb=>k (.int .u8 (.ofNat b))
 |_,_=>.fail
def Gr(t:TypeId)(x ix:AV)(k:AV->Tr):Tr:=aa (aa (zk x) true (zk ix)) (match eY x,bD ix with|some s,some (_,i)=>Gq P t s i k|_,_=>.fail) (Br P t x ix k)
def iM(o:Option AV)(dflt top:Nat)(k:Nat->Tr):Tr:=match o with
 |none=>k dflt
 |some v=>iJ v λ_ i=>oN i λi=>aa (Nat.ble i top) (k i) .fail
def Gs(len:Nat)(lo hi mx:Option AV)(k:Nat->Nat->Nat->Tr)(m:Nat):Tr:=match hi,mx with
 |none,some _=>.fail
 |_,_=>iM hi len m λh=>iM lo 0 h λl=>k l h m
def gP(len cap:Nat)(lo hi mx:Option AV)(k:Nat->Nat->Nat->Tr):Tr:=iM mx cap cap (Gs len lo hi mx k)
def vT(b g o s l h m:Nat)(k:AV->Tr):Tr:=fN (h-l) λlen=>fN (m-l) λcap=>
 aa (Nat.beq m l) (k (.slc b g o len (some cap) s)) (fN (o+l * s) λo=>k (.slc b g o len (some cap) s))
def Gt(b g o s l h:Nat)(k:AV->Tr):Tr:=fN (h-l) λlen=>aa (Nat.beq l 0) (k (.slc b g o len none s)) (fN (o+l * s) λo=>k (.slc b g o len none s))
def Bs(b g o len s:Nat)(lo hi mx:Option AV)(k:AV->Tr):Tr:=match mx with
 |none=>iM hi len len λh=>iM lo 0 h λl=>Gt b g o s l h k
 |some _=>aa (Nat.beq len 0) .fail (gP len len lo hi mx λl h m=>vT b g o s l h m k)
def zo(s:List Nat)(lo hi mx:Option AV)(k:AV->Tr):Tr:=match mx with
 |some _=>.fail
 |none=>fN s.length λn=>gP n n lo hi none λl h _=>mw ((s.take h).drop l) λr=>k (.str r)
def bZ(o:Option AV)(dflt:Int)(k:Int->Tr):Tr:=match o with
 |none=>k dflt
 |some v=>(match bD v with|some (_,i)=>k i|none=>.fail)
def N6(o:Option AV):Bool:=match o with|some v=>zk v|none=>false
def rL(t:TypeId)(x:AV)(lo hi mx:Option AV)(k:AV->Tr):Tr:=be P t λd=>match mx,d,x with
 |none,.slice e,.cv c=>bB P e λs=>aa (Nat.beq s c.es) (bZ hi (c.len:Int) λh=>bZ lo 0 λl=>.req (0<=l/\l<=h/\h<=(c.len:Int)) (k (.cv (c.cut l.toNat h.toNat)))) .fail
 |none,.string,x=>(match eY x with
  |some s=>bZ hi (s.length:Int) λh=>bZ lo 0 λl=>.req (0<=l/\l<=h/\h<=(s.length:Int)) (k (.sS ((s.take h.toNat).drop l.toNat)))
  |none=>.fail)
 |_,_,_=>.fail
def Pg(v:AV):Bool:=match v with | .cv _=>true|_=>false
def Bu(t:TypeId)(x:AV)(lo hi mx:Option AV)(k:AV->Tr):Tr:=be P t λd=>match d,x with
 | .array n e,.ptr b g o=>gP n n lo hi mx λl h m=>bB P e λs=>vT b g o s l h m k
 | .string,.str s=>zo s lo hi mx k
 | .slice e,.nils=>bB P e λ_=>gP 0 0 lo hi mx λ_ _ _=>k .nils
 | .slice e,.slc b g o len (some c) s=>bB P e λs'=>aa (Nat.beq s s') (gP len c lo hi mx λl h m=>vT b g o s l h m k) .fail
 | .slice e,.slc b g o len none s=>bB P e λs'=>aa (Nat.beq s s') (Bs b g o len s lo hi mx k) .fail
 |_,_=>.fail
def tI(t:TypeId)(x:AV)(lo hi mx:Option AV)(k:AV->Tr):Tr:=aa (aa (zk x) true (aa (Pg x) true (aa (N6 lo) true (N6 hi)))) (rL P t x lo hi mx k) (Bu P t x lo hi mx k)
def isNone(o:Option AV):Bool:=match o with|none=>true|_=>false
def tJ(n:Nat)(c:Ct)(lo hi:Option AV)(k:AV->Tr):Tr:=bZ hi (n:Int) λh=>bZ lo 0 λl=>.req (0<=l/\l<=h/\h<=(n:Int)) (k (.cv (c.cut l.toNat h.toNat)))
def Gu(t:TypeId)(b g o:Nat)(q:ABlk)(lo hi mx:Option AV)(k:AV->Tr):Tr:=be P t λd=>match mx,d with
 |none,.array n e=>bB P e λs=>aa (Nat.beq o 0) (match q with
  | .grow c gen _=>aa (Nat.beq g gen) (aa (Nat.beq c.es s) (aa (Nat.ble 1 n) (.req (c.len=n) (aa (aa (isNone lo) (isNone hi) false) (k (.gsl b g n s))
   (aa (Nat.ble (base+64) b) (.wr b (.froz c gen) (tJ n c lo hi k)) .fail))) .fail) .fail) .fail
  | .froz c gen=>aa (Nat.beq g gen) (aa (Nat.beq c.es s) (aa (Nat.ble 1 n) (.req (c.len=n) (tJ n c lo hi k)) .fail) .fail) .fail
  |_=>.fail) .fail
 |_,_=>.fail
def U7(q:ABlk):Bool:=match q with | .grow _ _ _=>true | .froz _ _=>true|_=>false
def N7(t:TypeId)(b g n es:Nat)(lo hi mx:Option AV)(k:AV->Tr):Tr:=be P t λd=>match mx,d with
 |none,.slice e=>bB P e λs=>aa (Nat.beq s es) (bZ hi (n:Int) λh=>bZ lo 0 λl=>.ask (n=0) (.req (l=0/\h=0) (k (.gsl b g 0 es))) (.req (0<=l/\l<=h/\h<=(n:Int)) (k (.slc b g (l.toNat * es) (h-l).toNat none es)))) .fail
 |_,_=>.fail
def zp(t:TypeId)(x:AV)(lo hi mx:Option AV)(k:AV->Tr):Tr:=match x with
 | .gsl b g n es=>N7 P t b g n es lo hi mx k
 | .ptr b g o=>.rd b λq=>aa (U7 q) (Gu P t b g o q lo hi mx k) (tI P t (.ptr b g o) lo hi mx k)
 |x=>tI P t x lo hi mx k
def vU(x:AV)(i:Nat)(k:AV->Tr):Tr:=match x with | .tup l=>bS l[i]? .fail k|_=>.fail
def oR(t:TypeId)(l c:AV)(k:AV->Tr):Tr:=iJ l λ_ l=>iJ c λ_ c=>oN l λl=>oN c λc=>be P t λd=>match d with
 | .slice e=>aa (Nat.ble l c) (aa (Nat.ble c 1000000) (Gc P e λi=>aa (Nat.ble i.bytes 1000) (fN i.size λn=>aa (Nat.ble 1 n) (fF P e λz=>eV z λz=>aa (Nat.beq z.length n)
  (eX (cO z c) λr=>lj e r λb=>k (.slc b 0 0 l (some c) n)) .fail) .fail) .fail) .fail) .fail
 |_=>.fail
def zq(x:AV)(k:Nat->Tr):Tr:=match x with
 | .nils=>k 0
 | .slc _ _ _ len _ _=>k len
 | .str s=>fN s.length k
 |_=>.fail
def iN(size n:Nat)(x:AV)(k:List AV->Tr):Tr:=match x with
 | .nils=>k []
 | .slc b g o _ _ _=>aa (Nat.beq (n * size) 0) (k []) (fN (n * size) λm=>fa b g o m k)
 | .str s=>aa (Nat.beq size 1) (mw (s.take n) λs=>eX (bY s) k) .fail
 |_=>.fail
def Gv(g:Nat)(l:List AV)(i:Nat)(t:T Cell)(k:T Cell->Tr):Tr:=
 List.rec (motive:=λ_=>Nat->T Cell->(T Cell->Tr)->Tr) (λ_ t k=>k t) (λa _ ih i t k=>aa (eK a) (T.setK t i (.mk g a) λt=>fN (Nat.succ i) λi=>ih i t k) .fail) l i t k
def kz(e:TypeId)(size:Nat)(old new:List AV)(need:Nat)(k:AV->Tr):Tr:=
 eX (old++new) λl=>lj e l λb=>k (.slc b 0 0 need none size)
def Sb(e:Nat)(b g o len size n need:Nat)(new:List AV)(k:AV->Tr):Tr:=.rd b λq=>match q with
 | .cells c gen lo hi fl fh ro ty=>aa ro .fail (aa (Nat.beq g gen) (aa (Nat.beq o lo) (aa (Nat.beq (o+len * size) hi) (aa (Nat.ble fh hi) (aa (Nat.beq ty e)
  (fN (Nat.succ gen) λg'=>Gv g' new hi c λc=>fN (hi+n * size) λhi'=>.wr b (.cells c g' lo hi' fl fh false e) (k (.slc b g' o need none size))) .fail) .fail) .fail) .fail) .fail)
 |_=>.fail
def Gw(e:TypeId)(b g len size n:Nat)(new:List AV)(k:AV->Tr):Tr:=.rd b λq=>match q with
 | .grow c gen ty=>aa (Nat.beq g gen) (aa (Nat.beq c.es size) (aa (Nat.beq ty e) (aa (Nat.beq new.length (n * size)) (aa (new.all eK) (match c.app new n with
  |some (c',p)=>.req (c.len=len/\len<=1000000000/\p) (.wr b (.grow c' (gen+1) ty) (k (.gsl b (gen+1) (len+n) size)))
  |none=>.fail) .fail) .fail) .fail) .fail) .fail
 |_=>.fail
def iO(e:TypeId)(size n:Nat)(new:List AV)(s:AV)(k:AV->Tr):Tr:=match s with
 | .gsl b g len es=>aa (Nat.beq es size) (aa (Nat.beq n 0) (k (.gsl b g len es)) (Gw e b g len size n new k)) .fail
 | .nils=>aa (Nat.beq n 0) (k .nils) (kz e size [] new n k)
 | .slc b g o len cap es=>aa (Nat.beq es size) (aa (Nat.ble len 1000000) (aa (Nat.beq n 0) (k (.slc b g o len cap es))
  (fN (len+n) λneed=>match cap with
   |some c=>aa (Nat.ble need c) (fN (o+len * size) λp=>gk b g p new (k (.slc b g o need (some c) es)))
    (iN size len s λold=>kz e size old new need k)
   |none=>Sb e b g o len size n need new k)) .fail) .fail
 |_=>.fail
def zr(x:AV):Option (List Nat):=match x with
 | .sS t=>some t
 | .cv (.bytes t)=>some t
 |_=>none
def N8(e:TypeId)(b g len:Nat)(t:List Nat)(k:AV->Tr):Tr:=.rd b λq=>match q with
 | .grow (.bytes l0) gen ty=>aa (Nat.beq g gen) (aa (Nat.beq ty e) (.req (l0.length=len/\len<=1000000000/\t.length<=1000000) (.wr b (.grow (.bytes (l0++t)) (gen+1) ty) (k (.gsl b (gen+1) (len+t.length) 1)))) .fail) .fail
 |_=>.fail
def vV(e:TypeId)(t:List Nat)(k:AV->Tr)(a:AV):Tr:=match a with
 | .gsl b g len es=>aa (Nat.beq es 1) (N8 e b g len t k) .fail
 |_=>.fail
def tK(cap:Option Nat):Bool:=match cap with|some 0=>true|_=>false
def nX(e:TypeId)(size:Nat)(t:List Nat)(s:AV)(k:AV->Tr):Tr:=aa (Nat.beq size 1) (match s with
 | .gsl b g len es=>vV e t k (.gsl b g len es)
 | .nils=>.new (.grow (.bytes []) 0 e) λb=>vV e t k (.gsl b 0 0 1)
 | .slc b g o len cap es=>aa (Nat.beq es 1) (aa (Nat.beq len 0) (aa (tK cap) (.new (.grow (.bytes []) 0 e) λb=>vV e t k (.gsl b 0 0 1)) .fail) (my [] b g o len cap 1 oQ (vV e t k))) .fail
 |_=>.fail) .fail
def rM(e:TypeId)(size m:Nat)(l:List G)(k:AV->Tr)(a:AV):Tr:=match a with
 | .gsl b g len es=>aa (Nat.beq es size) (.rd b λq=>match q with
  | .grow (.rows m0 l0) gen ty=>aa (Nat.beq g gen) (aa (Nat.beq ty e) (aa (Nat.beq m0 m) (aa (Nat.beq (aS (bO m)) size) (.req (l0.length=len/\len<=1000000000/\l.length<=1000000) (.wr b (.grow (.rows m (l0++l)) (gen+1) ty) (k (.gsl b (gen+1) (len+l.length) es)))) .fail) .fail) .fail) .fail
  |_=>.fail) .fail
 |_=>.fail
def jv(e:TypeId)(size m:Nat)(l:List G)(s:AV)(k:AV->Tr):Tr:=match s with
 | .gsl b g len es=>rM e size m l k (.gsl b g len es)
 | .nils=>.new (.grow (.rows m []) 0 e) λb=>rM e size m l k (.gsl b 0 0 size)
 | .slc b g o len cap es=>aa (Nat.beq es size) (aa (Nat.beq len 0) (aa (tK cap) (.new (.grow (.rows m []) 0 e) λb=>rM e size m l k (.gsl b 0 0 size)) .fail) (my [] b g o len cap es (oP m len) (rM e size m l k))) .fail
 |_=>.fail
def Bv(x:AV):Option (Nat×List G):=match x with | .cv (.rows m l)=>some (m,l)|_=>none
def Bw(e:TypeId)(size:Nat)(s x:AV)(k:AV->Tr):Tr:=match x with
 | .gsl b g n es=>.rd b λq=>match q with
  | .grow (.bytes t) gen _=>aa (Nat.beq g gen) (aa (Nat.beq es 1) (.req (t.length=n) (nX e size t s k)) .fail) .fail
  | .grow (.rows m l) gen _=>aa (Nat.beq g gen) (aa (Nat.beq es (aS (bO m))) (.ask (l.length=n) (jv e size m l s k) (.req (n<=l.length) (jv e size m (l.take n) s k))) .fail) .fail
  |_=>.fail
 | .slc b g o n none es=>.rd b λq=>match q with
  | .grow (.rows m l) gen _=>aa (Nat.beq g gen) (aa (Nat.beq es (aS (bO m))) (.req (o=o/es * es/\o/es+n<=l.length) (jv e size m ((l.drop (o/es)).take n) s k)) .fail) .fail
  |_=>zq (.slc b g o n none es) λn'=>aa (Nat.ble n' 1000000) (iN size n' (.slc b g o n none es) λnew=>iO e size n' new s k) .fail
 |x=>match Bv x with
  |some (m,l)=>jv e size m l s k
  |none=>match zr x with
   |some t=>nX e size t s k
   |none=>zq x λn=>aa (Nat.ble n 1000000) (iN size n x λnew=>iO e size n new s k) .fail
def Bx(e:TypeId)(s x:AV)(k:AV->Tr):Tr:=Gc P e λi=>aa (Nat.ble i.bytes 1000) (fN i.size λsize=>aa (Nat.ble 1 size)
 (fF P e λz=>eV z λz=>aa (Nat.beq z.length size) (Bw e size s x k) .fail) .fail) .fail
def tL(tys:Array TypeId)(args:List AV)(k:AV->Tr):Tr:=match tys[0]?,tys[1]?,args with
 |some ts,some tx,[s,x]=>be P ts λd=>be P tx λdx=>(match d,dx with
  |_,.int _=>.fail
  | .slice e,_=>Bx P e s x k
  |_,_=>.fail)
 |_,_,_=>.fail
def zs(tys:Array TypeId)(args:List AV)(k:AV->Tr):Tr:=match tys[0]?,args with
 |some t,[x]=>be P t λd=>(match d,x with
  | .string,.str s=>fN s.length λn=>k (.int .i64 (.ofNat n))
  | .array n _,_=>k (.int .i64 (.ofNat n))
  | .slice _,.nils=>k (.int .i64 0)
  | .slice _,.slc _ _ _ len _ _=>k (.int .i64 (.ofNat len))
  | .slice _,.osl _=>k (.anyI .i64)
  | .slice _,.cv c=>k (.sI .i64 (c.len:Int))
  | .slice _,.gsl _ _ n _=>k (.sI .i64 (n:Int))
  | .string,.sS s=>k (.sI .i64 (s.length:Int))
  | .map _ _,.nilm=>k (.int .i64 0)
  | .map _ _,.map b=>.rd b λq=>(match q with | .mapo es _=>fN es.length λn=>k (.int .i64 (.ofNat n)) | .smap _ l=>k (.sI .i64 (l.length:Int))|_=>.fail)
  |_,_=>.fail)
 |_,_=>.fail
def oS(args:List AV)(k:AV->Tr):Tr:=match args with
 | [.nils]=>k .nilp
 | [.slc b g o len cap _]=>aa (match cap with|some c=>Nat.ble 1 c|none=>Nat.ble 1 len) (k (.ptr b g o)) .fail
 |_=>.fail
def Gx(tys:Array TypeId)(args:List AV)(k:AV->Tr):Tr:=match tys[0]?,args with
 |some pt,[x,.int _ n]=>oN n λn=>be P pt λd=>(match d,x with
  | .pointer e,.nilp=>aa (Nat.beq n 0) (k (.str [])) .fail
  | .pointer e,.ptr b g o=>aa (Nat.beq n 0) (k (.str [])) (aa (Nat.ble n 1000000) (be P e λde=>(match de with
   | .int .u8=>Gj P b g o e n (.rd b λq=>(match q with
    | .cells c gen lo hi fl fh ro ty=>aa ro .fail (aa (Nat.ble fl fh) (Gf c g n o λl=>bS (Bo l) .fail λbs=>
     aa (Nat.beq fl fh) (fN (o+n) λe2=>.wr b (.cells c gen lo hi o e2 false ty) (k (.str bs)))
      (fN (aa (Nat.ble fl o) fl o) λl2=>fN (aa (Nat.ble fh (o+n)) (o+n) fh) λe2=>.wr b (.cells c gen lo hi l2 e2 false ty) (k (.str bs)))) .fail)
    |_=>.fail))
   |_=>.fail)) .fail)
  |_,_=>.fail)
 |_,_=>.fail
def N9(b g len:Nat)(t:List Nat)(k:AV->Tr):Tr:=.rd b λq=>match q with
 | .grow (.bytes l0) gen ty=>aa (Nat.beq g gen) (.req (l0.length=len) (.wr b (.grow (.bytes (t.take len++l0.drop t.length)) gen ty) (k (.sI .i64 ((min t.length len:Nat):Int))))) .fail
 |_=>.fail
def Gy(t:List Nat)(k:AV->Tr)(a:AV):Tr:=match a with
 | .gsl b g len es=>aa (Nat.beq es 1) (N9 b g len t k) .fail
 |_=>.fail
def Sd(t:List Nat)(d:AV)(k:AV->Tr):Tr:=match d with
 | .gsl b g len es=>Gy t k (.gsl b g len es)
 | .slc b g o len cap es=>aa (Nat.beq es 1) (my [] b g o len cap 1 oQ (Gy t k)) .fail
 |_=>.fail
def zt(tys:Array TypeId)(args:List AV)(k:AV->Tr):Tr:=match tys[0]?,args with
 |some t,[d,x]=>be P t λdd=>(match dd,d with
  | .slice e,.nils=>bB P e λsize=>aa (Nat.ble 1 size) (zq x λn=>iN size 0 x λ_=>k (.int .i64 0)) .fail
  | .slice e,.slc b g o len _ _=>bB P e λsize=>aa (Nat.ble 1 size) (zq x λn=>fN (jN n len) λm=>iN size m x λl=>
   aa (Nat.beq m 0) (k (.int .i64 (.ofNat m))) (gk b g o l (k (.int .i64 (.ofNat m))))) .fail
  |_,_=>.fail)
 |_,_=>.fail
def Gz(tys:Array TypeId)(args:List AV)(k:AV->Tr):Tr:=match args with
 | [d,x]=>(match zr x with
  |some t=>(match tys[0]? with
   |some ty=>be P ty λdd=>(match dd with
    | .slice e=>bB P e λsize=>aa (Nat.beq size 1) (Sd t d k) .fail
    |_=>.fail)
   |none=>.fail)
  |none=>zt P tys [d,x] k)
 |_=>.fail
end
end Go.Sym
namespace Go.Sym
noncomputable section
variable(P:Program)
def bj:Nat->AV->AV->Bool
 |0,_,_=>false
 |f+1,x,y=>match x,y with
  | .bool a,.bool b=>a==b
  | .int j a,.int j' b=>aa (decide (j=j')) (a==b) false
  | .str a,.str b=>vL a b
  | .agg a,.agg b=>sameAll (bj f) a b
  |_,_=>false
where
 sameAll (q:AV->AV->Bool):List AV->List AV->Bool
  | [],[]=>true
  |a::x,b::y=>aa (q a b) (sameAll q x y) false
  |_,_=>false
def fc(q:AV->AV->Option Bool)(key:AV):List ME->Nat->Option (Option (Nat×AV))
 | [],_=>some none
 | .mk k v _::es,i=>match q key k with
  |some true=>some (some (i,v))
  |some false=>fc q key es (i+1)
  |none=>none
def vW:Nat->TypeId->Bool
 |0,_=>false
 |f+1,t=>match P.underlying t with
  |some .bool|some (.int _)|some .string=>true
  |some (.struct fs)=>!P.stoodInHeld t && fs.toList.all λfd=>fd.name != "_" && vW f fd.type
  |some (.array _ e)=>vW f e
  |_=>false
def vX:Nat->TypeId->AV->Bool
 |0,_,_=>false
 |f+1,t,v=>match P.underlying t with
  |some .bool|some (.int _)|some .string=>true
  |some (.struct fs)=>(match v with
   | .agg l=>fs.toList.all λfd=>match P.info? fd.type,P.underlying fd.type with
    |some i,some d=>(match(if bH d then some (AV.agg ((l.drop fd.offset).take i.size)) else l[fd.offset]?) with
     |some a=>vX f fd.type a
     |none=>false)
    |_,_=>false
   |_=>false)
  |some (.array n e)=>(match v,P.info? e,P.underlying e with
   | .agg l,some i,some d=>Nat.beq i.size 1 && !bH d && Nat.beq l.length n && l.all (vX f e)
   |_,_,_=>false)
  |_=>false
def oT(x:AV)(k:Nat->List ME->Nat->Tr):Tr:=match x with
 | .map b=>.rd b λq=>(match q with | .mapo es clock=>k b es clock|_=>.fail)
 |_=>.fail
def vY(x:AV)(k:List ME->Tr):Tr:=match x with
 | .nilm=>k []
 | .map b=>.rd b λq=>(match q with | .mapo es _=>k es|_=>.fail)
 |_=>.fail
def v_(kt:TypeId)(key:AV)(es:List ME)(k:Option (Nat×AV)->Tr):Tr:=
 aa (vW P 8 kt) (aa (vX P 8 kt key) (be P kt λd=>bS (fc (dZ P 16 d) key es 0) .fail k) .fail) .fail
def GA(x:AV)(k1:Nat->Nat->List G->Tr)(k0:Tr):Tr:=match x with
 | .map b=>.rd b λq=>(match q with | .smap m l=>k1 b m l|_=>k0)
 |_=>k0
def DO(m:Nat)(d:TypeDesc):Bool:=match(bo m).ka with
 |true=>(match tE P d with|some ks=>decide (ks=(bo m).ks)|none=>false)
 |false=>(match d with | .int j=>decide ((bo m).ks= [j])|_=>false)
def Ph(m:Nat)(ix:AV):Option (List Int):=match(bo m).ka,ix with
 |true,.agg xs=>bP (bo m).ks xs
 |true,_=>none
 |false,a=>bP (bo m).ks [a]
def GB(m:Nat)(kt:TypeId)(ix:AV)(k:List Int->Tr):Tr:=
 aa (vW P 8 kt) (aa (vX P 8 kt ix) (be P kt λd=>aa (DO P m d) (bS (Ph m ix) .fail k) .fail) .fail) .fail
def Pi(m:Nat)(v:AV):Option (List G):=match(bo m).va,v with
 |true,.agg l=>(match eM (bo m).vs l with|some (gs,[])=>some gs|_=>none)
 |true,_=>none
 |false,a=>(match eM (bo m).vs [a] with|some ([g],[])=>some [g]|_=>none)
def Pj(kt e:TypeId)(m:Nat)(l:List G)(ix:AV)(ok:Bool)(k:AV->Tr):Tr:=GB P m kt ix λns=>
 .ask (kw m l ns) (aa ok (k (.tup [iw m (dA m l ns),.bool true])) (k (iw m (dA m l ns)))) (fF P e λz=>aa ok (k (.tup [z,.bool false])) (k z))
def wc(t:TypeId)(x ix:AV)(ok:Bool)(k:AV->Tr):Tr:=be P t λd=>match d with
 | .map kt e=>vY x λes=>v_ P kt ix es λr=>(match r with
  |some (_,v)=>aa ok (k (.tup [v,.bool true])) (k v)
  |none=>fF P e λz=>aa ok (k (.tup [z,.bool false])) (k z))
 |_=>.fail
def By(t:TypeId)(x ix:AV)(ok:Bool)(k:AV->Tr):Tr:=GA x (λ_ m l=>be P t λd=>match d with
 | .map kt e=>Pj P kt e m l ix ok k
 |_=>.fail) (wc P t x ix ok k)
def nl(es:List ME)(i:Nat)(key v:AV):List ME:=match es[i]? with
 |some (.mk _ _ n)=>es.set i (.mk key v n)
 |none=>es
def gQ(l:List ME)(k:List ME->Tr):Tr:=List.rec (motive:=λ_=>(List ME->Tr)->Tr) (λk=>k []) (λa _ ih k=>ih λl=>k (a::l)) l k
def nq(t:TypeId)(x key v:AV)(k:Tr):Tr:=be P t λd=>match d with
 | .map kt e=>oT x λb es clock=>v_ P kt key es λr=>(match r with
  |some (i,_)=>(match es[i]? with
   |some (.mk old _ _)=>aa (bj 8 old key) (gQ (nl es i key v) λes=>.wr b (.mapo es clock) k) .fail
   |none=>.fail)
  |none=>gQ (es++ [.mk key v clock]) λes=>fN (Nat.succ clock) λc=>.wr b (.mapo es c) k)
 |_=>.fail
def kA(t:TypeId)(x key v:AV)(k:Tr):Tr:=GA x (λb m l=>be P t λd=>match d with
 | .map kt e=>GB P m kt key λns=>bS (Pi m v) .fail λvs=>.wr b (.smap m (cE m l ns vs)) k
 |_=>.fail) (nq P t x key v k)
def rN(t:TypeId)(x key:AV)(k:AV->Tr):Tr:=be P t λd=>match d with
 | .map kt e=>oT x λb es clock=>v_ P kt key es λr=>(match r with
  |some (i,v)=>(match es[i]? with
   |some (.mk old _ n)=>aa (bj 8 old key) (gQ (nl es i key v) λes=>.wr b (.mapo es clock) (k (.tup [v,.int .i64 (.ofNat n)]))) .fail
   |none=>.fail)
  |none=>fF P e λz=>gQ (es++ [.mk key z clock]) λes=>fN (Nat.succ clock) λc=>.wr b (.mapo es c) (k (.tup [z,.int .i64 (.ofNat clock)])))
 |_=>.fail
def lm(n:Nat)(v:AV):List ME->Option (List ME)
 | []=>none
 | .mk a b m::es=>if m=n then some (.mk a v m::es) else(match lm n v es with|some l=>some (.mk a b m::l)|none=>none)
def nr(x stamp v:AV)(k:Tr):Tr:=iJ stamp λ_ s=>oN s λn=>oT x λb es clock=>
 bS (lm n v es) .fail λes=>.wr b (.mapo es clock) k
def nY:List ME->Nat->List ME
 | [],_=>[]
 |_::es,0=>es
 |e::es,i+1=>e::nY es i
def tM(tys:Array TypeId)(args:List AV)(k:AV->Tr):Tr:=match tys[0]?,args with
 |some t,[x,key]=>be P t λd=>(match d with
  | .map kt e=>oT x λb es clock=>v_ P kt key es λr=>(match r with
   |some (i,_)=>gQ (nY es i) λes=>.wr b (.mapo es clock) (k (.tup []))
   |none=>.wr b (.mapo es clock) (k (.tup [])))
  |_=>.fail)
 |_,_=>.fail
def GC(t:TypeId)(x:AV)(k:AV->Tr):Tr:=be P t λd=>match d,x with
 | .string,.str s=>.new (.siter s 0) λb=>k (.ptr b 0 0)
 | .map _ _,.nilm=>.new (.miter none 0 [] 0) λb=>k (.ptr b 0 0)
 | .map _ _,.map m=>.rd m λq=>(match q with | .mapo _ clock=>.new (.miter (some m) clock [] clock) λb=>k (.ptr b 0 0)|_=>.fail)
 |_,_=>.fail
def tN(l:List Nat)(n:Nat):Bool:=List.rec (motive:=λ_=>Bool) false (λa _ ih=>aa (Nat.beq a n) true ih) l
def wd(seen:List Nat)(since:Nat):List ME->Option (List ME)
 | []=>some []
 | .mk a v n::es=>if n<since then(match wd seen since es with|some l=>some (aa (tN seen n) l (.mk a v n::l))|none=>none) else none
def N_(it:AV)(isStr:Bool)(k:AV->Tr):Tr:=match it with
 | .ptr b 0 0=>.rd b λq=>(match q,isStr with
  | .siter s pos,true=>aa (Nat.ble (Nat.succ pos) s.length)
   (match s[pos]? with
    |some c=>aa (Nat.ble c 127) (fN (Nat.succ pos) λp=>.wr b (.siter s p) (k (.tup [.bool true,.int .i64 (.ofNat pos),.int .i32 (.ofNat c)]))) .fail
    |none=>.fail) (k (.tup [.bool false]))
  | .miter none _ _ _,false=>k (.tup [.bool false])
  | .miter (some m) since seen stepped,false=>.rd m λq=>(match q with
   | .mapo es clock=>aa (Nat.ble since stepped) (bS (wd seen since es) .fail λleft=>(match left with
    | []=>k (.tup [.bool false])
    |_=>.pick left.length λi=>bS left[i]? .fail λe=>(match e with
     | .mk key v n=>.wr b (.miter (some m) since (seen++ [n]) clock) (k (.tup [.bool true,key,v]))))) .fail
   |_=>.fail)
  |_,_=>.fail)
 |_=>.fail
def Bz:List Nat->Option Nat
 | []=>none
 | [a]=>some a
 |_::l=>Bz l
def iP(n:Nat):List ME->Option (AV×AV)
 | []=>none
 | .mk a v m::es=>if m=n then some (a,v) else iP n es
def GD(it:AV)(k:AV->Tr):Tr:=match it with
 | .ptr b 0 0=>.rd b λq=>(match q with
  | .miter (some m) _ seen stepped=>bS (Bz seen) .fail λn=>.rd m λq=>(match q with
   | .mapo es clock=>aa (Nat.beq clock stepped) (bS (iP n es) .fail λp=>k (.tup [p.1,p.2])) .fail
   |_=>.fail)
  |_=>.fail)
 |_=>.fail
def nu(x:AV)(t:TypeId)(ok:Bool)(k:AV->Tr):Tr:=be P t λd=>match d,x with
 | .interface _,_=>.fail
 |_,.iface u v=>aa (Nat.beq u t) (aa ok (k (.tup [v,.bool true])) (k v)) (aa ok (fF P t λz=>k (.tup [z,.bool false])) .fail)
 |_,.nili=>aa ok (fF P t λz=>k (.tup [z,.bool false])) .fail
 |_,_=>.fail
def rO(x:AV)(k:AV->Tr):Tr:=match x with
 | .ptr b g o=>k (.ptr b g o)
 | .cptr l=>k (.cptr l)
 | .func (.func f) l m=>k (.func (.func f) l m)
 | .func (.yield f) l m=>k (.func (.yield f) l m)
 |_=>.fail
def Ut(a b:Int):Bool:=match a,b with
 | .ofNat a,.ofNat b=>Nat.ble (Nat.succ a) b
 |a,b=>decide (a<b)
def fe(mx:Bool):List AV->AV->(AV->Tr)->Tr
 | [],x,k=>k x
 |y::rest,x,k=>(match x,y with
  | .int j a,.int j' b=>aa (decide (j=j')) (aa (aa mx (Ut a b) (Ut b a)) (fe mx rest (.int j b) k) (fe mx rest (.int j a) k)) .fail
  |x,y=>(match bD x,bD y with
   |some (j,a),some (j',b)=>aa (decide (j=j')) (fe mx rest (.sI j (match mx with|true=>max a b|false=>min a b)) k) .fail
   |_,_=>.fail))
def nZ(mx:Bool)(l:List AV)(k:AV->Tr):Tr:=match l with
 | []=>.fail
 |x::rest=>fe mx rest x k
def oU(x:AV)(k:AV->Tr):Tr:=match x with
 | .gsl b g n es=>.rd b λq=>(match q with
  | .froz c gen=>aa (Nat.beq g gen) (aa (Nat.beq c.es es) (.req (c.len=n) (k (.cv c))) .fail) .fail
  |_=>k (.gsl b g n es))
 |x=>k x
def K_(x:AV)(k:AV->Tr):Tr:=match x with
 | .ptr b g o=>.rd b λq=>(match q with
  | .grow c gen _=>aa (Nat.beq g gen) (aa (Nat.beq c.es 1) (.req (0<c.len) (k (.gptr b g o 0 1))) .fail) .fail
  |_=>k (.ptr b g o))
 |x=>k x
def mz(l:List AV)(k:List AV->Tr):Tr:=List.rec (motive:=λ_=>(List AV->Tr)->Tr) (λk=>k []) (λx _ ih k=>oU x λx=>ih λl=>k (x::l)) l k
def frz0(x:AV)(k:AV->Tr):Tr:=match x with
 | .gsl b g n es=>.rd b λq=>(match q with
  | .grow c gen _=>aa (aa (aa (Nat.beq g gen) (Nat.beq c.es es) false) (Nat.ble (base+64) b) false) (.req (c.len=n) (.wr b (.froz c gen) (k (.cv c)))) (k (.gsl b g n es))
  | .froz c gen=>aa (Nat.beq g gen) (aa (Nat.beq c.es es) (.req (c.len=n) (k (.cv c))) .fail) .fail
  |_=>k (.gsl b g n es))
 |x=>k x
def GE(x:AV)(k:AV->Tr):Tr:=match x with
 | .slc b g o len cap es=>aa (aa (Nat.beq es 6) (Nat.ble 1 len) false) (my [] b g o len cap es (oP 2 len) λa=>frz0 a k) (k (.slc b g o len cap es))
 |x=>frz0 x k
def GF(l:List AV)(k:List AV->Tr):Tr:=List.rec (motive:=λ_=>(List AV->Tr)->Tr) (λk=>k []) (λx _ ih k=>GE x λx=>ih λl=>k (x::l)) l k
def we(x:AV)(k:AV->Tr):Tr:=match x with
 | .agg l=>GF l λl=>k (.agg l)
 |x=>GE x k
def GG(l:List (Nat×AV))(k:List (Nat×AV)->Tr):Tr:=List.rec (motive:=λ_=>(List (Nat×AV)->Tr)->Tr) (λk=>k []) (λx _ ih k=>we x.2 λa=>ih λl=>k ((x.1,a)::l)) l k
def GH(a v:AV)(k:AV->Tr):Tr:=match a with
 | .gptr _ _ _ _ _=>we v k
 |_=>k v
abbrev cq:=Nat->List AV->(AV->Tr)->Tr
def lp(b:Builtin)(tys:Array TypeId)(args:List AV)(k:AV->Tr):Tr:=match b with
 | .append=>tL P tys args k
 | .len=>zs P tys args k
 | .unsafeString=>Gx P tys args k
 | .unsafeSliceData=>oS args k
 | .copy=>Gz P tys args k
 | .delete=>tM P tys args k
 | .max=>nZ true args k
 | .min=>nZ false args k
 |_=>.fail
def BA(f:Nat):Bool:=match P.funcs[f]? with
 |some fn=>(match fn.body with
  |none=>decide (fn.origin= "")
  |some _=>false)
 |none=>false
def zu(a b c:AV)(k:AV->Tr):Tr:=match bD a,bD b,bD c with
 |some (_,x),some (_,y),some (_,z)=>.req (0<=x/\0<=y/\0<=z/\z<=1) (k (.tup [.sI .u64 ((x+y+z)%18446744073709551616),.sI .u64 ((x+y+z)/18446744073709551616)]))
 |_,_,_=>.fail
def zx(a b c:AV)(k:AV->Tr):Tr:=match bD a,bD b,bD c with
 |some (_,x),some (_,y),some (_,z)=>.req (0<=x/\0<=y/\y<18446744073709551616/\0<=z/\z<=1) (.ask (x<y+z) (k (.tup [.sI .u64 ((x+18446744073709551616-y-z)%18446744073709551616),.sI .u64 1])) (k (.tup [.sI .u64 ((x+18446744073709551616-y-z)%18446744073709551616),.sI .u64 0])))
 |_,_,_=>.fail
def zy(args:List AV)(k:AV->Tr):Tr:=match args with
 | [.int _ x,.int _ y,.int _ c]=>aa (Nat.ble c.toNat 1) (fN (Nat.add (Nat.add x.toNat y.toNat) c.toNat) λs=>fN (Nat.mod s 18446744073709551616) λa=>fN (Nat.div s 18446744073709551616) λb=>k (.tup [.int .u64 (.ofNat a),.int .u64 (.ofNat b)])) .fail
 | [a,b,c]=>zu a b c k
 |_=>.fail
def zz(args:List AV)(k:AV->Tr):Tr:=match args with
 | [.int _ x,.int _ y,.int _ c]=>aa (Nat.ble c.toNat 1) (fN (Nat.mod (Nat.sub (Nat.sub (Nat.add x.toNat 18446744073709551616) y.toNat) c.toNat) 18446744073709551616) λa=>fN (aa (Nat.ble (Nat.succ x.toNat) (Nat.add y.toNat c.toNat)) 1 0) λb=>k (.tup [.int .u64 (.ofNat a),.int .u64 (.ofNat b)])) .fail
 | [a,b,c]=>zx a b c k
 |_=>.fail
def La(i:Nat)(args:List AV)(k:AV->Tr):Tr:=match P.funcs[i]? with
 |some fn=>aa (decide (fn.name= "internal/abi.NoEscape")) (match args with | [x]=>k x|_=>.fail)
  (aa (decide (fn.name= "math/bits.Add64")) (zy args k)
  (aa (decide (fn.name= "math/bits.Sub64")) (zz args k) .fail))
 |none=>.fail
def BB(en:cq)(rn:cq)(f:AV)(args:List AV)(k:AV->Tr):Tr:=match f with
 | .func (.func i) first cap=>aa (BA P i) (La P i (first++args++cap) k) (en i (first++args++cap) k)
 | .func (.yield l) first cap=>rn l (first++args) k
 |_=>.fail
def wg(k:AV->Tr):Tr:=k (.tup [])
def Lb(en rn:cq)(env:T AV)(op:Op)(k:AV->Tr):Tr:=match op with
 | .move x=>cL env x k
 | .assign x=>cL env x k
 | .pick c a b=>cL env c λc=>Bg c λc=>aa c (cL env a k) (cL env b k)
 | .alloc t=>fF P t λz=>lk t z k
 | .box t x=>cL env x λv=>lk t v k
 | .build t ps=>gm env ps.toList λl=>Gi P t l k
 | .buildSlice t n ps=>gm env ps.toList λl=>GG l λl=>nk P t n l k
 | .load t a=>cL env a λa=>K_ a λa=>vO P t a k
 | .store t a v=>cL env a λa=>cL env v λv=>K_ a λa=>GH a v λv=>Gh P t a v (wg k)
 | .nilCheck x=>cL env x λx=>rO x k
 | .binOp op t x y _=>cL env x λa=>cL env y λb=>Ge P (aa (nj x) true (nj y)) op t a b k
 | .unOp op _ x=>cL env x λx=>N4 op x k
 | .convert s d x=>cL env x λx=>oU x λx=>N5 P s d x k
 | .makeInterface t x=>cL env x λx=>vS P t x k
 | .makeFunc fn first cap=>aa (vJ fn) (lg env first.toList λa=>lg env cap.toList λb=>k (.func fn a b)) .fail
 | .makeMap t r=>(match r with
  |none=>.new (.mapo [] 0) λb=>k (.map b)
  |some x=>be P t λd=>(match d with | .map _ _=>cL env x λv=>iJ v λ_ _=>.new (.mapo [] 0) λb=>k (.map b)|_=>.fail))
 | .makeSlice t l c=>cL env l λl=>cL env c λc=>oR P t l c k
 | .slice t x lo hi mx=>cL env x λx=>DN env lo λlo=>DN env hi λhi=>DN env mx λmx=>oU x λx=>zp P t x lo hi mx k
 | .fieldAddr t x f=>cL env x λx=>oO P t x f k
 | .field t x f=>cL env x λx=>Gm P t x f k
 | .indexAddr t x i=>cL env x λx=>cL env i λi=>oU x λx=>ky P t x i k
 | .index t x i=>cL env x λx=>cL env i λi=>Gr P t x i k
 | .lookup t x i ok=>cL env x λx=>cL env i λi=>By P t x i ok k
 | .mapUpdate t m i v=>cL env m λm=>cL env i λi=>cL env v λv=>kA P t m i v (wg k)
 | .insert t m i v=>cL env m λm=>cL env i λi=>cL env v λv=>kA P t m i v (wg k)
 | .mapEntry t m i=>cL env m λm=>cL env i λi=>rN P t m i k
 | .entryStore _ m s v=>cL env m λm=>cL env s λs=>cL env v λv=>nr m s v (wg k)
 | .range t x=>cL env x λx=>GC P t x k
 | .next it s=>cL env it λit=>N_ it s k
 | .entry it=>cL env it λit=>GD it k
 | .typeAssert x _ t ok=>cL env x λx=>nu P x t ok k
 | .extract t i=>cL env t λt=>vU t i k
 | .call c=>(match c.callee with
  | .builtin b=>lg env c.args.toList λl=>mz l λl=>lp P b c.argTypes l k
  | .value f=>cL env f λf=>lg env c.args.toList λl=>BB P en rn f l k
  | .invoke _ _=>.fail)
 |_=>.fail
inductive AEx where
 |normal
 |exit (id:Nat)
 |goto (l:Nat)
 |ret
abbrev XK:=AEx->T AV->List Nat->Tr
abbrev X:=Code->T AV->Nat->Nat->Option Nat->List Nat->XK->Tr
def wh(nt:Nat)(dst:Option Nat)(v:AV)(env:T AV)(k:T AV->Tr):Tr:=match dst with
 |none=>k env
 |some d=>aa (Nat.ble (Nat.succ d) nt) (T.setK env d v k) .fail
def iQ(ops:Array Oper)(env:T AV)(o:Oper)(yes no:Tr):Tr:=match o.guard with
 |none=>yes
 |some (j,want)=>(match ops[j]? with
  |some oj=>(match oj.dst with
   |some d=>T.getK env d .fail λv=>(match v with | .bool b=>aa (b==want) yes no | .sB p=>aa want (.ask p yes no) (.ask p no yes) | .tup _=>no|_=>.fail)
   |none=>.fail)
  |none=>.fail)
def n_(ops:Array Oper)(env:T AV)(o:Oper)(yes no:T AV->Tr):Tr:=match o.guard with
 |none=>yes env
 |some (j,want)=>(match ops[j]? with
  |some oj=>(match oj.dst with
   |some d=>T.getK env d .fail λv=>(match v with
    | .bool b=>aa (b==want) (yes env) (no env)
    | .sB p=>.ask p (T.setK env d (.bool true) λenv=>aa want (yes env) (no env)) (T.setK env d (.bool false) λenv=>aa want (no env) (yes env))
    | .tup _=>no env
    |_=>.fail)
   |none=>.fail)
  |none=>.fail)
def Lc(en rn:cq)(nt:Nat)(ops:Array Oper)(l:List Oper)(env:T AV)(k:T AV->Tr):Tr:=
 List.rec (motive:=λ_=>T AV->(T AV->Tr)->Tr) (λenv k=>k env) (λo _ ih env k=>
  n_ ops env o (λenv=>Lb P en rn env o.op λv=>wh nt o.dst v env λenv=>ih env k) (λenv=>wh nt o.dst (.tup []) env λenv=>ih env k)) l env k
inductive Note where
 |mk (c c':Nat) (t:T Unit) (w:List Nat)
def mA(t:T Unit)(l:List Nat):Bool:=List.rec (motive:=λ_=>Bool) true (λb _ ih=>T.getK t b ih λ_=>false) l
def cx(c c':Nat)(l:List Nat):Bool:=List.rec (motive:=λ_=>Bool) true (λb _ ih=>aa (Nat.ble c b) (aa (Nat.ble (Nat.succ b) c') false ih) ih) l
def zA(a b:Note):Bool:=match a,b with
 | .mk c c' t w,.mk d d' u v=>aa (mA u w) (aa (mA t v) (aa (cx c c' (T.keys u id [])) (aa (cx c c' v) true false) false) false) false
def gR:List Oper->List Nat->List Nat
 | [],acc=>acc
 |o::l,acc=>gR l (acc++ [o.after.toList.foldl (λs e=>if Region.binds .any e then s ||| 2 ^ e.on ||| acc.getD e.on 0 else s) 0])
def looks(ops:Array Oper)(o:Oper):List Nat:=
 o.op.operands.toList.filterMap (λ| .tmp t=>some t|_=>none)++(match o.guard with|some (j,_)=>(match ops[j]? with|some oj=>oj.dst.toList|none=>[])|none=>[])
def tO(ops:Array Oper)(a b:Oper):Bool:=
 (match a.dst with|some d=>!(looks ops b).contains d|none=>true) && (match b.dst with|some d=>!(looks ops a).contains d|none=>true) && (match a.dst,b.dst with|some d,some e=>d !=e|_,_=>true)
def mB(ops:Array Oper):Bool:=
 let bs:=gR ops.toList []
 ops.toList.zipIdx.all λ(o,j)=>o.after.toList.all (λe=>!Region.binds .any e || decide (e.on<j)) && (ops.toList.zipIdx.all λ(p,i)=>!(decide (i<j)) || (bs.getD j 0).testBit i || tO ops p o)
def mC(bs:List Nat):List (Nat×Note)->Bool
 | []=>true
 |(j,b)::l=>aa (l.all λ(i,a)=>aa ((bs.getD j 0).testBit i) true (zA a b)) (mC bs l) false
def BC(en rn:cq)(nt:Nat)(ops:Array Oper)(l:List Oper)(i:Nat)(env:T AV)(ns:List (Nat×Note))(k:T AV->Tr):Tr:=
 List.rec (motive:=λ_=>Nat->T AV->List (Nat×Note)->(T AV->Tr)->Tr) (λ_ env ns k=>aa (mC (gR ops.toList []) ns) (k env) .fail) (λo _ ih i env ns k=>
  .sub (iQ ops env o (Lb P en rn env o.op .ret) (.ret (.tup []))) λv c c' t w=>wh nt o.dst v env λenv=>fN (Nat.succ i) λi'=>ih i' env ((i,.mk c c' t w)::ns) k) l i env ns k
def GI(l:List AV)(i:Nat)(t:T AV)(k:T AV->Tr):Tr:=
 List.rec (motive:=λ_=>Nat->T AV->(T AV->Tr)->Tr) (λ_ t k=>k t) (λa _ ih i t k=>T.setK t i a λt=>fN (Nat.succ i) λi=>ih i t k) l i t k
def GJ(env:T AV)(l:List ResultVar)(k:List AV->Tr):Tr:=
 List.rec (motive:=λ_=>(List AV->Tr)->Tr) (λk=>k []) (λr _ ih k=>(match r with
  | .tmp t=>T.getK env t .fail λv=>ih λl=>k (v::l)
  | .cell a t=>T.getK env a .fail λp=>vO P t p λv=>ih λl=>k (v::l))) l k
def tP(df:List Nat)(k:Tr):Tr:=
 List.rec (motive:=λ_=>Tr->Tr) (λk=>k) (λb _ ih k=>.rd b λq=>(match q with | .dfr true=>.wr b (.dfr false) (ih k)|_=>.fail)) df k
def iR(x:X):cq:=λf args k=>bS P.funcs[f]? .fail λfn=>bS fn.body .fail λc=>
 aa (decide (fn.name= "runtime.NumGoroutine")) .fail (aa (Nat.ble args.length fn.ntmps) (GI args 0 .leaf λenv=>x c env fn.ntmps f none [] λex env df=>
  (match ex with
  | .normal | .ret=>tP df (GJ P env fn.results.toList λl=>(match l with | [v]=>k v|l=>k (.tup l)))
  |_=>.fail)) .fail)
def BD(l:List Nat)(vs:List AV)(nt:Nat)(t:T AV)(k:T AV->Tr):Tr:=match l,vs with
 | [],[]=>k t
 |p::l,v::vs=>aa (Nat.ble (Nat.succ p) nt) (T.setK t p v λt=>BD l vs nt t k) .fail
 |_,_=>.fail
def gp(l:Nat)(jump:Option Code)(k:AV->Tr):Tr:=.rd l λq=>match q with
 | .loop _ _ fn nt tmps ps as bd d=>.wr l (.loop (match jump with|none=>.ready|some _=>.done) jump fn nt tmps ps as bd d) (k (.bool (match jump with|none=>true|some _=>false)))
 |_=>.fail
def zB(x:X):cq:=λl args k=>.rd l λq=>match q with
 | .loop _ _ fn nt tmps ps as bd d=>BD ps args nt tmps λenv=>x as env nt fn (some l) [] λex env df=>(match ex,df with
  | .normal,[]=>.rd l λq=>(match q with
   | .loop .ready jump fn nt' tmps ps m6 bd' d=>.wr l (.loop .busy jump fn nt' tmps ps m6 bd' d) (x bd env nt fn (some l) [] λex env df=>(match df with
    | []=>(match ex with
     | .normal=>gp l none k
     | .ret=>gp l (some .ret) k
     | .exit id=>gp l (some (.exit id)) k
     | .goto t=>gp l (some (.goto t)) k)
    |_=>.fail))
   |_=>.fail)
  |_,_=>.fail)
 |_=>.fail
def zC(fn nt:Nat)(tmps:T AV)(ps:List Nat)(as bd:Code)(dr:Option Nat)(df:List Nat)(k:Nat->List Nat->Tr):Tr:=match dr with
 |none=>.new (.dfr true) λd=>.new (.loop .ready none fn nt tmps ps as bd d) λl=>k l (d::df)
 |some _=>.fail
def zD(x:X)(g:AV)(l:Nat)(k:Tr->Tr)(go:Code->Tr)(z:Tr):Tr:=
 match g with
 | .func (.func i) first cap=>iR P x i (first++ [.func (.yield l) [] []]++cap) λ_=>.rd l λq=>(match q with
  | .loop st jump fn nt tmps ps as bd d=>(match st with
   | .busy=>.fail
   |_=>.wr l (.loop .exhausted jump fn nt tmps ps as bd d) (match jump with|none=>z|some c=>go c))
  |_=>.fail)
 |_=>.fail
inductive Memo where
 |mk (f:Nat) (ty:Option Nat) (arg:List Nat) (res:AV)
def U8(f:Nat)(l:List Memo):Bool:=List.rec (motive:=λ_=>Bool) false (λm _ ih=>match m with | .mk g _ _ _=>aa (Nat.beq f g) true ih) l
def zE(a b:Option Nat):Bool:=match a,b with
 |none,none=>true
 |some a,some b=>Nat.beq a b
 |_,_=>false
def cY(f:Nat)(ty:Option Nat)(arg:List Nat)(l:List Memo):Option AV:=List.rec (motive:=λ_=>Option AV) none (λm _ ih=>match m with
 | .mk g u a r=>aa (Nat.beq f g) (aa (zE ty u) (aa (vL arg a) (some r) ih) ih) ih) l
def jY(f:Nat):Bool:=match P.funcs[f]? with
 |some fn=>(match fn.body with|some _=>!decide (fn.name= "runtime.NumGoroutine")|none=>false)
 |none=>false
def Se(M:List Memo)(f:Nat)(a:AV)(k:AV->Tr)(z:Tr):Tr:=match a with
 | .slc b g o n none es=>aa (Nat.beq o 0) (aa (Nat.beq es 1) (.rd b λq=>(match q with
  | .cells c gen lo _ _ _ _ ty=>aa (Nat.beq lo 0) (aa (Nat.ble g gen) (aa (Nat.ble 1 n) (Gf c g n 0 λl=>bS (Bo l) .fail λbs=>bS (cY f (some ty) bs M) z λr=>aa (jY P f) (k r) .fail) .fail) .fail) .fail
  |_=>.fail)) z) z
 | .str s=>bS (cY f none s M) z λr=>aa (jY P f) (k r) .fail
 |_=>z
def GK(M:List Memo)(en:cq):cq:=λf args k=>aa (U8 f M) (match args with | [a]=>Se P M f a k (en f args k) | []=>bS (cY f (some 0) [] M) (en f args k) λr=>aa (jY P f) (k r) .fail|_=>en f args k) (en f args k)
structure Tab where
 memos:List Memo
 con:Nat->List AV->Option ((AV->Tr)->Tr)
 blk:Nat->Nat->Option (Nat->T AV->(AEx->T AV->Tr)->Tr)
def Tab.of(l:List Memo):Tab:=⟨l,λ_ _=>none,λ_ _=>none⟩
def GL(M:Tab)(en:cq):cq:=λf args k=>bS (M.con f args) (GK P M.memos en f args k) λt=>t k
def wi(c:Code):Bool:=match c with | .ret=>true | .exit _=>true | .goto _=>true|_=>false
variable(M:Tab)
def FX(x:X):X:=λc env nt fn dr df k=>match c with
 | .skip=>k .normal env df
 | .label _=>k .normal env df
 | .ret=>k .ret env df
 | .exit id=>k (.exit id) env df
 | .goto l=>k (.goto l) env df
 | .region _ ops draw=>aa draw (aa (P.follows .mixedOrders) (aa (Nat.ble nt 1000000000) (aa (mB ops) (BC P (GL P M (iR P x)) (zB x) nt ops ops.toList 0 env [] λenv=>k .normal env df) .fail) .fail) .fail)
  (Lc P (GL P M (iR P x)) (zB x) nt ops ops.toList env λenv=>k .normal env df)
 | .seq a b=>x a env nt fn dr df λex env df=>(match ex with
  | .normal=>x b env nt fn dr df k
  |ex=>k ex env df)
 | .cond c a b=>cL env c λv=>N3 v (x a env nt fn dr df k) (x b env nt fn dr df k)
 | .block id c=>bS (match dr,df with|none,[]=>M.blk fn id|_,_=>none) (x c env nt fn dr df λex env df=>(match ex with
  | .exit XJ=>aa (Nat.beq XJ id) (k .normal env df) (k (.exit XJ) env df)
  |ex=>k ex env df)) λt=>t nt env λex env=>k ex env df
 | .loop c=>x c env nt fn dr df λex env df=>(match ex with
  | .normal=>x (.loop c) env nt fn dr df k
  |ex=>k ex env df)
 | .rangeFunc g ps as bd=>zC fn nt env ps.toList as bd dr df λl df=>cL env g λg=>
  zD P x g l id (λc=>aa (wi c) (x c env nt fn dr df k) .fail) (k .normal env df)
 |_=>.fail
def oV(n:Nat):X:=Nat.rec (motive:=λ_=>X) (λ_ _ _ _ _ _ _=>.fail) (λ_ x=>FX P M x) n
def start(H:T ABlk)(next:Nat):St:=.mk H next 0 .leaf []
def oW(fuel f:Nat)(args:List AV)(H:T ABlk)(next:Nat):Bool:=
 run (iR P (oV P M fuel) f args .ret) (start H next) λv _=>match v with | .bool true=>true|_=>false
def tQ(l:List Nat)(i:Nat)(t:T Cell)(k:T Cell->Bool):Bool:=
 List.rec (motive:=λ_=>Nat->T Cell->(T Cell->Bool)->Bool) (λ_ t k=>k t) (λa _ ih i t k=>T.setK t i (.mk 0 (.int .u8 (.ofNat a))) λt=>fN (Nat.succ i) λi=>ih i t k) l i t k
def aW(fuel f ty:Nat)(arg:List Nat)(res:AV):Bool:=
 tQ arg 0 .leaf λt=>fN (List.length arg) λn=>T.singK 64 1048576 (.cells t 0 0 n 0 0 true ty) λH=>
  run (iR P (oV P M fuel) f [.slc 1048576 0 0 n none 1] .ret) (start H 1048577) λv _=>bj 8 v res
end
end Go.Sym
namespace Go.Sym
open Go.RowKit (Below)
def SI:St->Prop
 | .mk h n fs tc w=>1<=n/\n<=1000000001/\fs<=n/\(∀b∈w,tc.get b=some ())/\∀b,tc.get b=some ()->b<fs
def cy{b:Nat}{k:ABlk->Tr}{σ:St}{K:Fin}(hS:SI σ)(h:run (.rd b k) σ K=true):b+1<2 ^ 64:=by
 cases σ with
 |mk H n fs tc w=>
  rw[fY] at h;split at h;case isFalse=>cases h
  obtain⟨h1,h2,_⟩:=hS;omega
def aT{b:Nat}{k:ABlk->Tr}{σ:St}{K:Fin}(hS:SI σ)(h:run (.rd b k) σ K=true):
 ∃x a8,σ.h.get b=some x/\a8.h=σ.h/\SI a8/\run (k x) a8 K=true:=by
 cases σ with
 |mk H n fs tc w=>
  rw[fY] at h
  split at h
  case isFalse=>cases h
  rename_i WX
  split at h
  ·cases h
  ·rename_i x hb;refine⟨x,_,hb, ?_, ?_,h⟩
   ·rfl
   ·obtain⟨h1,h2,h3,h5,h6⟩:=hS;have d4:b+1<2 ^ 64:=by omega
    show 1<=n/\n<=1000000001/\fs<=n/\(∀y∈w,(note fs b tc).get y=some ())/\∀y,(note fs b tc).get y=some ()->y<fs;refine⟨h1,h2,h3,λy hy=>cP d4 (h5 y hy),λy hy=>?_⟩;by_cases e:fs<=b
    ·rw[note,if_pos e] at hy;exact h6 y hy
    ·by_cases ey:y=b
     ·omega
     ·rw[note,if_neg e,T.get_set_ne _ ey] at hy;exact h6 y hy
def cr{b:Nat}{x:ABlk}{k:Tr}{σ:St}{K:Fin}(hS:SI σ)(h:run (.wr b x k) σ K=true):
 ∃x0 a8,σ.h.get b=some x0/\a8.h=σ.h.set b x/\SI a8/\b+1<2 ^ 64/\run k a8 K=true:=by
 cases σ with
 |mk H n fs tc w=>
  rw[iF] at h
  split at h
  case isFalse=>cases h
  rename_i WX
  split at h
  ·cases h
  ·rename_i x0 hb;obtain⟨h1,h2,h3,h5,h6⟩:=hS;have d4:b+1<2 ^ 64:=by omega
   refine⟨x0,_,hb,rfl, ?_,d4,h⟩;show 1<=n/\n<=1000000001/\fs<=n/\(∀y∈fB fs b w,(note fs b tc).get y=some ())/\∀y,(note fs b tc).get y=some ()->y<fs;refine⟨h1,h2,h3,λy hy=>?_,λy hy=>?_⟩
   ·rcases mt hy with hy|⟨e,hy⟩
    ·exact cP d4 (h5 y hy)
    ·subst e;exact iG d4 hy
   ·by_cases e:fs<=b
    ·rw[note,if_pos e] at hy;exact h6 y hy
    ·by_cases ey:y=b
     ·omega
     ·rw[note,if_neg e,T.get_set_ne _ ey] at hy;exact h6 y hy
def cZ{x:ABlk}{k:Nat->Tr}{σ:St}{K:Fin}(hS:SI σ)(h:run (.new x k) σ K=true):
 ∃n a8,σ.h.get n=none/\n+1<2 ^ 64/\a8.h=σ.h.set n x/\SI a8/\run (k n) a8 K=true:=by
 cases σ with
 |mk H n fs tc w=>
  rw[fC] at h
  split at h
  ·split at h
   ·cases h
   ·rename_i hn j6;obtain⟨h1,h2,h3,h5,h6⟩:=hS;refine⟨n,_,j6,by omega,rfl, ?_,h⟩;show 1<=n+1/\n+1<=1000000001/\fs<=n+1/\(∀y∈w,tc.get y=some ())/\∀y,tc.get y=some ()->y<fs;exact⟨by omega,by omega,by omega,h5,h6⟩
  ·cases h
def tS{n:Nat}{k:Nat->Tr}{σ:St}{K:Fin}(h:run (.pick n k) σ K=true):∀i,(i=0∨i<n)->(n<=1->i=0)->run (k i) σ K=true:=by
 intro i hi h1;by_cases hn:n<=1
 ·rw[h1 hn];have:run (.pick n k) σ K=run (k 0) σ K:=by show aa (Nat.ble n 1) (run (k 0) σ K) _=_;rw[ak,if_pos (Nat.ble_eq.mpr hn)]
  rw[←this];exact h
 ·cases σ with
  |mk H m fs tc w=>
   have hb:Nat.ble n 1=false:=by
    cases hb:Nat.ble n 1 with
    |false=>rfl
    |true=>exact absurd (Nat.ble_eq.mp hb) hn
   have h':aa (Nat.ble n 1) (run (k 0) (.mk H m fs tc w) K) (aa (Nat.beq fs 0) (gj (λi=>run (k i) (.mk H m fs tc w) K) n) false)=true:=h;rw[hb] at h';have h2:=(az (b:=Nat.beq fs 0) h').2;exact k_.mp h2 i (by omega)
def bU{p:Prop}{t e:Tr}{σ:St}{K:Fin}(h:run (.ask p t e) σ K=true):(p/\run t σ K=true)∨(¬p/\run e σ K=true):=by
 by_cases hp:p
 ·exact .inl ⟨hp,by rw[←dM t e σ K hp];exact h⟩
 ·exact .inr ⟨hp,by rw[←dN t e σ K hp];exact h⟩
def aJ{p:Prop}{t:Tr}{σ:St}{K:Fin}(h:run (.req p t) σ K=true):p/\run t σ K=true:=by
 by_cases hp:p
 ·exact⟨hp,by rw[←dO t σ K hp];exact h⟩
 ·rw[nh t σ K hp] at h;cases h
def Wt(w w':World):Prop:=∀k,k<w.heap.size->w'.heap[k]? =w.heap[k]?
def ER.mono{ρ ρ':Rho}(hle:ρ.le ρ'){nt:Nat}{env:T AV}{tmps:Array Value}(h:ER ρ nt env tmps):ER ρ' nt env tmps:=
 ⟨h.size,λt a ha=>let⟨v,hv,r⟩:=h.val t a ha;⟨v,hv,r.mono hle⟩⟩
def BR.keep{ρ ρ':Rho}{B:Nat}{w w':World}{b:Nat}{x:ABlk}(hle:ρ.le ρ')(hg:∀g h,ρ.at_ b g=some h->w'.heap[h.blk]? =w.heap[h.blk]?)(h:BR ρ B w b x):BR ρ' B w' b x:=by
 cases x with
 |cells c gen lo hi fl fh ro ty=>
  refine⟨h.1,λg Xx=>?_⟩
  obtain⟨hm,h1,h2,h2',arr,fr,h3,h4,h5,h6⟩:=h.2 g Xx
  refine⟨hm,hle.at_ _ _ _ h1,λhr=>(h2 hr).mono hle,h2',arr,fr,by rw[hg g hm h1];exact h3,h4,h5,λo tag a ho ht=>?_⟩
  obtain⟨q1,v,q2,q3⟩:=h6 o tag a ho ht
  exact⟨q1,v,q2,q3.mono hle⟩
 |grow c gen ty=>
  rcases h with h1|⟨hm,h1,hs,h2,arr,fr,h3,h4,h5,h6,h7⟩
  ·exact .inl h1
  ·refine .inr ⟨hm,hle.at_ _ _ _ h1,hs,h2.mono hle,arr,fr,by rw[hg gen hm h1];exact h3,h4,h5,h6,λi hi j a ha=>?_⟩;obtain⟨u,q1,q2⟩:=h7 i hi j a ha;exact⟨u,q1,q2.mono hle⟩
 |tab ty l=>obtain⟨h1,arr,h2,h3⟩:=h;exact⟨h1,arr,hle.frz _ _ h2,h3⟩
 |froz c gen=>
  rcases h with h1|⟨hm,arr,ty,h1,hs,h2,h3,h4⟩
  ·exact .inl h1
  ·refine .inr ⟨hm,arr,ty,hle.at_ _ _ _ h1,hs,hle.frz _ _ h2,h3,λi hi j a ha=>?_⟩;obtain⟨u,q1,q2⟩:=h4 i hi j a ha;exact⟨u,q1,q2.mono hle⟩
 |mapo es clock=>
  obtain⟨hm,h1,h2,o4,h3,h4,h5⟩:=h
  refine⟨hm,hle.at_ _ _ _ h1,h2.mono hle,o4,by rw[hg 0 hm h1];exact h3,h4,λi k v n e hi he=>?_⟩
  obtain⟨q1,q2,q3⟩:=h5 i k v n e hi he
  exact⟨q1.mono hle,q2.mono hle,q3⟩
 |smap m l=>
  obtain⟨hm,h1,h2,es,clock,h3,h4,h5⟩:=h
  refine⟨hm,hle.at_ _ _ _ h1,h2.mono hle,es,clock,by rw[hg 0 hm h1];exact h3,h4,λi g e hi he=>?_⟩
  obtain⟨q1,q2⟩:=h5 i g e hi he
  exact⟨q1.mono hle,q2.mono hle⟩
 |obj k I l=>
  obtain⟨hl,hm,fp,h1,h2,h3,h4⟩:=h
  refine⟨hl,hm,fp,hle.at_ _ _ _ h1,h2,λx hx=>?_,hl _ _ _ _ (λx hx=>?_) h4⟩
  ·obtain⟨q1,g,hh,q2,q3⟩:=h3 x hx;exact⟨q1.mono hle,g,hh,hle.at_ _ _ _ q2,q3⟩
  ·obtain⟨_,g,hh,q2,q3⟩:=h3 x hx;rw[←q3];exact hg g hh q2
 |siter s pos=>
  obtain⟨hm,h1,h2,s',h3,h4⟩:=h
  exact⟨hm,hle.at_ _ _ _ h1,h2.mono hle,s',h3,by rw[hg 0 hm h1];exact h4⟩
 |miter m since seen stepped=>
  obtain⟨hm,h1,h2,m',u7,h3,h4,h5⟩:=h
  refine⟨hm,hle.at_ _ _ _ h1,h2.mono hle,m',u7,by rw[hg 0 hm h1];exact h3,h4, ?_⟩
  cases m with
  |none=>exact h5
  |some x=>obtain⟨hx,q1,q2⟩:=h5;exact⟨hx,hle.at_ _ _ _ q1,q2⟩
 |dfr live=>
  obtain⟨hm,h1,h2,h3⟩:=h
  exact⟨hm,hle.at_ _ _ _ h1,h2.mono hle,by rw[hg 0 hm h1];exact h3⟩
 |loop state jump fn nt tmps params assign body defers=>
  obtain⟨hm,h1,h2,WM,hd,YU,h3,h4,h5⟩:=h
  exact⟨hm,hle.at_ _ _ _ h1,h2.mono hle,WM,hd,YU,h3.mono hle,hle.at_ _ _ _ h4,by rw[hg 0 hm h1];exact h5⟩
def Rho.put(ρ:Rho)(b g:Nat)(h:Home):Rho:={at_:=λx y=>if x=b/\y=g then some h else ρ.at_ x y,val:=ρ.val,own:=ρ.own,frz:=ρ.frz,frz0:=ρ.frz0}
def Rho.put_at(ρ:Rho)(b g:Nat)(h:Home):(ρ.put b g h).at_ b g=some h:=by simp [Rho.put]
def Rho.le_put{ρ:Rho}{b g:Nat}{h:Home}(j6:ρ.at_ b g=none):ρ.le (ρ.put b g h):=
 ⟨λx y z hz=>by
  show(if x=b/\y=g then some h else ρ.at_ x y)=some z;by_cases e:x=b/\y=g
  ·rw[e.1,e.2,j6] at hz;cases hz
  ·rw[if_neg e];exact hz,rfl,rfl,λ_ _ h=>h,rfl⟩
def Good.none_at{w0:World}{ρ:Rho}{H:T ABlk}{w:World}(hG:Good w0 ρ H w){n:Nat}(hn:H.get n=none)(g:Nat):ρ.at_ n g=none:=by
 cases h:ρ.at_ n g with
 |none=>rfl
 |some x=>obtain⟨_,y,hy⟩:=hG.dom _ _ _ h;rw[hn] at hy;cases hy
def Good.alloc{w0:World}{ρ:Rho}{H:T ABlk}{w:World}(hG:Good w0 ρ H w){n:Nat}(hn:H.get n=none)(d4:n+1<2 ^ 64)(x:ABlk)(o:Obj)(shift size:Nat)(hB:∀ρ':Rho,ρ.le ρ'->ρ'.at_ n 0=some ⟨w.heap.size,shift,size⟩->ρ'=ρ.put n 0 ⟨w.heap.size,shift,size⟩->BR ρ' w0.heap.size {w with heap:=w.heap.push o} n x):
 ρ.le (ρ.put n 0 ⟨w.heap.size,shift,size⟩)/\Good w0 (ρ.put n 0 ⟨w.heap.size,shift,size⟩) (H.set n x) {w with heap:=w.heap.push o}:=by
 have j6:=hG.none_at hn 0
 have hle:ρ.le (ρ.put n 0 ⟨w.heap.size,shift,size⟩):=Rho.le_put j6
 refine⟨hle,⟨⟨?_,λb y hy=>?_,λb g h hh=>?_,λb g h b' g' h' hh g7 e=>?_,λb g h y hh hy=>?_,λb arr ty hf=>?_,hG.frzB,λb k I l hb g h hh=>?_⟩,λx hx=>by obtain⟨b,g,h,q1,q2,q3⟩:=hG.ownB x hx;exact⟨b,g,h,q1,hle.at_ _ _ _ q2,q3⟩⟩⟩
 ·exact hG.below.alloc hG.below.size o
 ·by_cases e:b=n
  ·subst e;rw[T.get_set_same _ _ _ d4] at hy;injection hy with hy;subst hy;exact hB _ hle (Rho.put_at _ _ _ _) rfl
  ·rw[T.get_set_ne _ e] at hy;refine(hG.blk b y hy).keep hle λg h hh=>?_;have:=(hG.dom _ _ _ hh).1;show(w.heap.push o)[h.blk]? =_;rw[Array.getElem?_push,if_neg (by omega)]
 ·simp only [Rho.put] at hh;split at hh
  ·rename_i e;injection hh with hh;subst hh;obtain⟨e1,e2⟩:=e;subst e1;exact⟨by simp,x,T.get_set_same _ _ _ d4⟩
  ·obtain⟨q1,y,q2⟩:=hG.dom _ _ _ hh;refine⟨by show h.blk<(w.heap.push o).size;simp;omega,y, ?_⟩;rw[T.get_set_ne]
   ·exact q2
   ·intro e;subst e;rw[hn] at q2;cases q2
 ·simp only [Rho.put] at hh g7;split at hh
  ·rename_i c;split at g7
   ·rename_i c';injection hh with hh;injection g7 with g7;exact⟨c.1.trans c'.1.symm,hh.symm.trans g7⟩
   ·injection hh with hh;subst hh;have:=(hG.dom _ _ _ g7).1;simp only at e;omega
  ·split at g7
   ·injection g7 with g7;subst g7;have:=(hG.dom _ _ _ hh).1;simp only at e;omega
   ·exact hG.inj _ _ _ _ _ _ hh g7 e
 ·simp only [Rho.put] at hh;split at hh
  ·rename_i c;rw[c.2];cases y <;> first|exact aan _|trivial
  ·have WX:b≠n:=λe=>by subst e;rw[hG.none_at hn g] at hh;cases hh
   rw[T.get_set_ne _ WX] at hy;exact hG.gens b g h y hh hy
 ·have hf:ρ.frz b=some (arr,ty):=hf;obtain⟨⟨fr,q1⟩,q2⟩:=hG.frz b arr ty hf;have c8:b<w.heap.size:=by
   rcases aaf b w.heap.size with h'|h'
   ·exact h'
   ·rw[aaN h'] at q1;cases q1
  refine⟨⟨fr, ?_⟩,λb' g h hh e=>?_⟩
  ·show(w.heap.push o)[b]? =_;rw[Array.getElem?_push,if_neg (by omega)];exact q1
  ·simp only [Rho.put] at hh;split at hh
   ·injection hh with hh;subst hh;have e:w.heap.size=b:=e;omega
   ·obtain⟨y,r1,r2⟩:=q2 _ _ _ hh e;exact⟨y,by rw[T.get_set_ne _ (λe=>by subst e;rw[hn] at r1;cases r1)];exact r1,r2⟩
 ·simp only [Rho.put] at hh;split at hh
  ·rename_i hc;injection hh with hh;subst hh;exact⟨.new hG.below.size,.inl hc.2⟩
  ·have WX:b≠n:=λe=>by subst e;rw[hG.none_at hn g] at hh;cases hh
   rw[T.get_set_ne _ WX] at hb;exact hG.objO b k I l hb g h hh
def Good.drawn{w0:World}{ρ:Rho}{H:T ABlk}{w:World}(hG:Good w0 ρ H w)(n:Nat):Good w0 ρ H {w with drawn:=n}:=
 ⟨⟨⟨hG.below.os,hG.below.tape,hG.below.output,hG.below.size,hG.below.block⟩,λb x hx=>BR.keep (w:=w) (w':={w with drawn:=n}) (Rho.le.refl ρ) (λ_ _ _=>rfl) (hG.blk b x hx),hG.dom,hG.inj,hG.gens,hG.frz,hG.frzB,hG.objO⟩,hG.ownB⟩
def Good.turn{w0:World}{ρ:Rho}{H:T ABlk}{w w':World}(hG:Good w0 ρ H w){b:Nat}{x0 x:ABlk}(hb:H.get b=some x0)(d4:b+1<2 ^ 64)(r:Nat)(hr:Own ρ w0.heap.size r)(hbe:Kept ρ.own w0.heap.size w w')(m8:w.heap.size<=w'.heap.size)(WG:∀k,k≠r->k<w.heap.size->w'.heap[k]? =w.heap[k]?)(d6:∀b' g h,ρ.at_ b' g=some h->h.blk=r->b'=b)(hB:BR ρ w0.heap.size w' b x)(WH:∀g,F6 g x0->F6 g x:=by intro g h;exact h)(hrs:∃b' g h,ρ.at_ b' g=some h/\h.blk=r)(hnf:¬tz x0:=by exact λh=>h)(hxo:∀k I l,x≠ .obj k I l:=by intro _ _ _ h;cases h):Good w0 ρ (H.set b x) w':=by
 refine⟨⟨hG.below.trans hbe,λb' y hy=>?_,λb' g h hh=>?_,hG.inj,λb' g h y hh hy=>?_,λb' arr ty hf=>?_,hG.frzB,λb' k I l w9 g h hh=>?_⟩,hG.ownB⟩
 ·by_cases e:b'=b
  ·subst e;rw[T.get_set_same _ _ _ d4] at hy;injection hy with hy;subst hy;exact hB
  ·rw[T.get_set_ne _ e] at hy;refine(hG.blk b' y hy).keep (Rho.le.refl ρ) λg h hh=>?_;exact WG _ (λer=>e (d6 _ _ _ hh er)) (hG.dom _ _ _ hh).1
 ·obtain⟨q1,y,q2⟩:=hG.dom _ _ _ hh;refine⟨by omega, ?_⟩;by_cases e:b'=b
  ·subst e;exact⟨x,T.get_set_same _ _ _ d4⟩
  ·exact⟨y,by rw[T.get_set_ne _ e];exact q2⟩
 ·by_cases e:b'=b
  ·subst e;rw[T.get_set_same _ _ _ d4] at hy;injection hy with hy;subst hy;exact WH g (hG.gens b' g h x0 hh hb)
  ·rw[T.get_set_ne _ e] at hy;exact hG.gens b' g h y hh hy
 ·obtain⟨⟨fr,q1⟩,q2⟩:=hG.frz b' arr ty hf;have c8:b'<w.heap.size:=by
   rcases aaf b' w.heap.size with h'|h'
   ·exact h'
   ·rw[aaN h'] at q1;cases q1
  refine⟨⟨fr, ?_⟩,λb1 g h hh e=>?_⟩
  ·obtain⟨x1,x2,x3,x4,x5⟩:=hrs;have:=d6 _ _ _ x4 x5;subst this;rw[WG b' (λe=>hG.frzE hf x4 hb hnf (x5.trans e.symm)) c8];exact q1
  ·obtain⟨y,r1,r2⟩:=q2 _ _ _ hh e;exact⟨y,by rw[T.get_set_ne _ (λe=>by subst e;rw[hb] at r1;injection r1 with r1;subst r1;exact hnf r2)];exact r1,r2⟩
 ·by_cases e:b'=b
  ·subst e;rw[T.get_set_same _ _ _ d4] at w9;injection w9 with w9;exact absurd w9 (hxo _ _ _)
  ·rw[T.get_set_ne _ e] at w9;exact hG.objO b' k I l w9 g h hh
def nf{H H':T ABlk}{b:Nat}{x x0:ABlk}(e:H'=H)(h:H.get b=some x)(hx:H'.get b=some x0)(hn:¬tz x):¬tz x0:=by subst e;rw[h] at hx;injection hx with hx;subst hx;exact hn
end Go.Sym
namespace Go.Sym
open Go.RowKit (Below)
def ac{σ:St}{K:Fin}(h:run .fail σ K=true):False:=by cases h
def br{α:Type}{o:Option α}{k:α->Tr}{σ:St}{K:Fin}(h:run (bS o .fail k) σ K=true):∃a,o=some a/\run (k a) σ K=true:=by
 cases o with
 |none=>exact(ac h).elim
 |some a=>exact⟨a,rfl,h⟩
def aj{b:Bool}{t:Tr}{σ:St}{K:Fin}(h:run (aa b t .fail) σ K=true):b=true/\run t σ K=true:=by
 cases b with
 |true=>exact⟨rfl,h⟩
 |false=>exact(ac h).elim
def kB{b:Bool}{t:Tr}{σ:St}{K:Fin}(h:run (aa b .fail t) σ K=true):b=false/\run t σ K=true:=by
 cases b with
 |false=>exact⟨rfl,h⟩
 |true=>exact(ac h).elim
def bf{b:Bool}{t e:Tr}{σ:St}{K:Fin}(h:run (aa b t e) σ K=true):(b=true/\run t σ K=true)∨(b=false/\run e σ K=true):=by
 cases b with
 |false=>exact .inr ⟨rfl,h⟩
 |true=>exact .inl ⟨rfl,h⟩
def mD{α:Type}{t:T α}{n:Nat}{k:α->Tr}{σ:St}{K:Fin}(h:run (T.getK t n .fail k) σ K=true):∃a,t.get n=some a/\run (k a) σ K=true:=by
 rw[T.getK_eq] at h;split at h
 ·exact(ac h).elim
 ·exact⟨_,by assumption,h⟩
def fg{n:Nat}{k:Nat->Tr}{σ:St}{K:Fin}(h:run (fN n k) σ K=true):run (k n) σ K=true:=by rw[eG] at h;exact h
def Sf{n:Int}{k:Int->Tr}{σ:St}{K:Fin}(h:run (fI n k) σ K=true):run (k n) σ K=true:=by rw[R5] at h;exact h
def aU{a b:Nat}(h:Nat.ble a b=true):a<=b:=Nat.ble_eq.mp h
def Pk{a b:Nat}(h:Nat.ble a b=false):b<a:=by
 rcases aaf b a with e|e
 ·exact e
 ·rw[Nat.ble_eq.mpr e] at h;cases h
def aF{a b:Nat}(h:Nat.beq a b=true):a=b:=aae h
def Ld{ρ:Rho}{v:AV}{u:Value}{k:Bool->Tr}{σ:St}{K:Fin}(hv:VR ρ v u)(h:run (Bg v k) σ K=true):∃b,u= .bool b/\run (k b) σ K=true:=by
 cases hv with
 |bool b=>exact⟨b,rfl,h⟩
 |sB p b hb=>
  rcases bU h with⟨hp,h⟩|⟨hp,h⟩
  ·exact⟨b,rfl,by rw[hb.2 hp];exact h⟩
  ·refine⟨b,rfl, ?_⟩
   cases b with
   |true=>exact absurd (hb.1 rfl) hp
   |false=>exact h
 |_=>exact(ac h).elim
def kC{v:AV}{k:IntKind->Int->Tr}{σ:St}{K:Fin}(h:run (iJ v k) σ K=true):∃j n,v= .int j n/\run (k j n) σ K=true:=by cases v <;> first|exact⟨_,_,rfl,h⟩|exact(ac h).elim
def Pl{v:AV}{k:List AV->Tr}{σ:St}{K:Fin}(h:run (F7 v k) σ K=true):∃l,v= .agg l/\run (k l) σ K=true:=by cases v <;> first|exact⟨_,rfl,h⟩|exact(ac h).elim
def tT{n:Int}{k:Nat->Tr}{σ:St}{K:Fin}(h:run (oN n k) σ K=true):∃a:Nat,n=(a:Int)/\run (k a) σ K=true:=by
 cases n with
 |ofNat a=>exact⟨a,rfl,h⟩
 |negSucc a=>exact(ac h).elim
def fi{ρ:Rho}{a:AV}{v:Value}{k:List AV->Tr}{σ:St}{K:Fin}(hv:VR ρ a v)(h:run (eV a k) σ K=true):∃l,LR ρ l v.cells.toList/\run (k l) σ K=true:=by
 cases hv with
 |agg l cs h1 h2=>exact⟨l,LR.of_arr h1 h2,h⟩
 |opq n=>exact(ac h).elim
 |opc n ho=>
  refine⟨_, ?_,h⟩;have e:(ρ.val n).cells.toList= [ρ.val n]:=by cases hv:ρ.val n <;> first|rfl|(rw[hv] at ho;cases ho)
  rw[e];exact LR.cons (.opc n ho) (LR.nil ρ)
 |any1 _ ho=>
  refine⟨_, ?_,h⟩;have e:v.cells.toList= [v]:=by cases v <;> first|rfl|cases ho
  rw[e];exact LR.cons (.any1 v ho) (LR.nil ρ)
 |sB p b hb=>exact⟨_,LR.cons (.sB p b hb) (LR.nil ρ),h⟩
 |_=>exact⟨_,LR.cons (by constructor <;> assumption) (LR.nil ρ),h⟩
def Res(P:Program)(w0:World)(ρ:Rho)(w:World)(k:AV->Tr)(K:Fin)(s:Sem Value):Prop:=
 ∃av a8 ρ' v w',run (k av) a8 K=true/\SI a8/\Good w0 ρ' a8.h w'/\ρ.le ρ'/\VR ρ' av v/\s.run P w= .ok v w'
def zF(P:Program)(w0:World)(ρ:Rho)(w:World)(k:Tr)(K:Fin)(s:Sem Unit):Prop:=
 ∃a8 w',run k a8 K=true/\SI a8/\Good w0 ρ a8.h w'/\s.run P w= .ok () w'
def Res.plain{P:Program}{w0:World}{ρ:Rho}{w:World}{k:AV->Tr}{K:Fin}{s:Sem Value}{av:AV}{σ:St}{v:Value}(hr:run (k av) σ K=true)(hS:SI σ)(hG:Good w0 ρ σ.h w)(hv:VR ρ av v)(hs:s.run P w= .ok v w):Res P w0 ρ w k K s:=
 ⟨av,σ,ρ,v,w,hr,hS,hG,Rho.le.refl ρ,hv,hs⟩
def Res.of_eq{P:Program}{w0:World}{ρ:Rho}{w:World}{k:AV->Tr}{K:Fin}{s s':Sem Value}(h:Res P w0 ρ w k K s)(e:s'.run P w=s.run P w):Res P w0 ρ w k K s':=by obtain⟨av,a8,ρ',v,w',h1,h2,h3,h4,h5,h6⟩:=h;exact⟨av,a8,ρ',v,w',h1,h2,h3,h4,h5,e.trans h6⟩
section
variable{w0:World}{ρ:Rho}{w:World}{σ:St}{K:Fin}{nt:Nat}{env:T AV}{a:Act}
def rP{x:Operand}{k:AV->Tr}(hS:SI σ)(hG:Good w0 ρ σ.h w)(hE:ER ρ nt env a.tmps)(h:run (cL env x k) σ K=true):
 ∃av a8,a8.h=σ.h/\SI a8/\run (k av) a8 K=true/\VR ρ av (a.eval x):=by
 cases x with
 |tmp t=>
  obtain⟨av,h1,h2⟩:=mD (k:=k) h
  obtain⟨v,hv,hr⟩:=hE.val t av h1
  refine⟨av,σ,rfl,hS,h2, ?_⟩
  show VR ρ av (a.tmps.getD t undef)
  rw[aaU,hv];exact hr
 |const v=>
  obtain⟨av,h1,h2⟩:=br (k:=k) h
  exact⟨av,σ,rfl,hS,h2,F5 ρ _ _ _ h1⟩
 |func f=>exact⟨_,σ,rfl,hS,h,.func _ _ _ _ _ rfl rfl (by simp) (by simp) rfl⟩
 |global g=>
  obtain⟨c8,h⟩:=aj h
  have c8:=aU c8
  obtain⟨x,a8,h1,h2,h3,h4⟩:=aT hS h
  cases x with
  |cells c gen lo hi fl fh ro ty=>
   obtain⟨h5,h6⟩:=aj h4
   subst h5
   obtain⟨hm,q1,_,q2,_⟩:=(hG.blk _ _ h1).2 0 (aan _)
   obtain⟨e1,e2⟩:=q2 rfl c8
   refine⟨_,a8,h2,h3,h6, ?_⟩
   have:=VR.ptr (ρ:=ρ) g 0 0 hm q1 (by omega)
   rw[e1] at this
   show VR ρ _ (.pointer (some ⟨g,0,none⟩))
   simpa using this
  |tab ty l=>
   refine⟨_,a8,h2,h3,h4, ?_⟩
   obtain⟨_,arr,hf,hz,hr⟩:=hG.blk _ _ h1
   show VR ρ _ (.pointer (some ⟨g,0,none⟩))
   refine .cptr (ld l) g 0 arr _ hf (by simp [ld,hz]) λj a v ha hv=>?_
   unfold ld at ha
   rw[aaE] at ha
   cases e:l[j]? with
   |none=>rw[e] at ha;cases ha
   |some n=>
    rw[e] at ha
    injection ha with ha
    subst ha
    have ht:=hr j n v e (by simpa using hv)
    unfold Pa at ht
    show VR ρ (aa (Nat.ble n 255) (.int .u8 (Int.ofNat n)) .any1) v
    by_cases hn:n<=255
    ·rw[if_pos hn] at ht;subst ht;rw[show Nat.ble n 255=true from Nat.ble_eq_true_of_le hn];exact VR.int _ _
    ·rw[if_neg hn] at ht;rw[show Nat.ble n 255=false from Bool.eq_false_iff.2 λh=>hn (aau h)];exact VR.any1 _ ht
  |_=>exact(ac h4).elim
def tU:∀{l:List Operand} {k:List AV->Tr} {σ:St},SI σ->Good w0 ρ σ.h w->ER ρ nt env a.tmps->run (lg env l k) σ K=true->
 ∃av a8,a8.h=σ.h/\SI a8/\run (k av) a8 K=true/\LR ρ av (l.map a.eval):=by
 intro l
 induction l with
 |nil=>intro k σ hS hG hE h;exact⟨[],σ,rfl,hS,h,LR.nil ρ⟩
 |cons x l ih=>
  intro k σ hS hG hE h
  obtain⟨v,c7,e1,b6,h1,r1⟩:=rP (k:=λa=>lg env l λl=>k (a::l)) hS hG hE h
  obtain⟨vs,d5,e2,d8,h2,r2⟩:=ih b6 (by rw[e1];exact hG) hE h1
  exact⟨v::vs,d5,e2.trans e1,d8,h2,LR.cons r1 r2⟩
def OR(ρ:Rho):Option AV->Option Value->Prop
 |none,none=>True
 |some a,some v=>VR ρ a v
 |_,_=>False
def zG{x:Option Operand}{k:Option AV->Tr}(hS:SI σ)(hG:Good w0 ρ σ.h w)(hE:ER ρ nt env a.tmps)(h:run (DN env x k) σ K=true):
 ∃av a8,a8.h=σ.h/\SI a8/\run (k av) a8 K=true/\OR ρ av (x.map a.eval):=by
 cases x with
 |none=>exact⟨none,σ,rfl,hS,h,trivial⟩
 |some x=>
  obtain⟨v,c7,e1,b6,h1,r1⟩:=rP (k:=λa=>k (some a)) hS hG hE h
  exact⟨some v,c7,e1,b6,h1,r1⟩
def oX:∀{l:List (Nat×Operand)} {k:List (Nat×AV)->Tr} {σ:St},SI σ->Good w0 ρ σ.h w->ER ρ nt env a.tmps->run (gm env l k) σ K=true->
 ∃av a8,a8.h=σ.h/\SI a8/\run (k av) a8 K=true/\av.map (·.1)=l.map (·.1)/\LR ρ (av.map (·.2)) (l.map λx=>a.eval x.2):=by
 intro l
 induction l with
 |nil=>intro k σ hS hG hE h;exact⟨[],σ,rfl,hS,h,rfl,LR.nil ρ⟩
 |cons x l ih=>
  intro k σ hS hG hE h
  obtain⟨v,c7,e1,b6,h1,r1⟩:=rP (k:=λa=>gm env l λl=>k ((x.1,a)::l)) hS hG hE h
  obtain⟨vs,d5,e2,d8,h2,r2,r3⟩:=ih b6 (by rw[e1];exact hG) hE h1
  exact⟨(x.1,v)::vs,d5,e2.trans e1,d8,h2,by simp [r2],LR.cons r1 r3⟩
end
end Go.Sym
