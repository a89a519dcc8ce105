/- Part 0: SymA, SymB, SymC, SymD, SymE, SymF, SymG, SymH, SymI, SymJ, SymK, SymL, SymLa. Names and spaces are cut short by program. -/
import Derived.CallsIn
import Derived.RangeFuncLeaves
import Derived.OrdersIn
import Derived.Below
import Derived.KernelRfl
import Derived.Laws.Cells
import Derived.IntWalk
import Derived.Laws.Strings
import Derived.DeepKeys
set_option linter.all false
namespace Go.Sym
noncomputable section
def fN{β:Type}(n:Nat)(k:Nat->β):β:=Nat.rec (motive:=fun _=>β) (k 0) (fun m _=>k (Nat.succ m)) n
theorem je{β:Type}(n:Nat)(k:Nat->β):fN n k=k n:=by cases n <;> rfl
def fI{β:Type}(n:Int)(k:Int->β):β:=Int.rec (motive:=fun _=>β) (fun a=>fN a fun a=>k (Int.ofNat a)) (fun a=>fN a fun a=>k (Int.negSucc a)) n
theorem Uk{β:Type}(n:Int)(k:Int->β):fI n k=k n:=by cases n <;> simp [fI,je]
def ac{β:Type}(b:Bool)(t e:β):β:=Bool.rec (motive:=fun _=>β) e t b
theorem ax{β:Type}(b:Bool)(t e:β):ac b t e=if b then t else e:=by cases b <;> rfl
def cE{α β:Type}(o:Option α)(z:β)(k:α->β):β:=Option.rec (motive:=fun _=>β) z k o
theorem aM{b:Bool}{t:Bool}(h:ac b t false=true):b=true/\t=true:=by cases b <;> first|exact⟨rfl,h⟩|cases h
theorem A6{b:Bool}{t:Bool}(h:ac b false t=true):b=false/\t=true:=by cases b <;> first|exact⟨rfl,h⟩|cases h
inductive T(α:Type) where
 |leaf
 |node (l:T α) (v:Option α) (r:T α)
namespace T
variable{α β:Type}
def get:T α->Nat->Option α
 | .leaf,_=>none
 | .node l v r,n=>match n with
  |0=>v
  |m+1=>if m%2=0 then get l (m/2) else get r (m/2)
def gJ:Nat->Nat->α->T α
 |0,_,_=>.leaf
 |f+1,n,a=>match n with
  |0=>.node .leaf (some a) .leaf
  |m+1=>if m%2=0 then .node (gJ f (m/2) a) none .leaf else .node .leaf none (gJ f (m/2) a)
def set:T α->Nat->α->T α
 | .leaf,n,a=>gJ 64 n a
 | .node l v r,n,a=>match n with
  |0=>.node l (some a) r
  |m+1=>if m%2=0 then .node (set l (m/2) a) v r else .node l v (set r (m/2) a)
def getK(t:T α)(n:Nat)(z:β)(k:α->β):β:=
 T.rec (motive:=fun _=>Nat->β) (fun _=>z) (fun _ v _ gl gr n=>
  Nat.rec (motive:=fun _=>β) (Option.rec (motive:=fun _=>β) z k v) (fun m _=>Bool.rec (motive:=fun _=>β) (gr (Nat.div m 2)) (gl (Nat.div m 2)) (Nat.beq (Nat.mod m 2) 0)) n) t n
def Dy(f:Nat)(n:Nat)(a:α)(k:T α->β):β:=
 Nat.rec (motive:=fun _=>Nat->(T α->β)->β) (fun _ k=>k .leaf) (fun _ ih n k=>
  Nat.rec (motive:=fun _=>β) (k (.node .leaf (some a) .leaf)) (fun m _=>Bool.rec (motive:=fun _=>β) (ih (Nat.div m 2) fun t=>k (.node .leaf none t)) (ih (Nat.div m 2) fun t=>k (.node t none .leaf)) (Nat.beq (Nat.mod m 2) 0)) n) f n k
def setK(t:T α)(n:Nat)(a:α)(k:T α->β):β:=
 T.rec (motive:=fun _=>Nat->(T α->β)->β) (fun n k=>Dy 64 n a k) (fun l v r sl sr n k=>
  Nat.rec (motive:=fun _=>β) (k (.node l (some a) r)) (fun m _=>Bool.rec (motive:=fun _=>β) (sr (Nat.div m 2) fun t=>k (.node l v t)) (sl (Nat.div m 2) fun t=>k (.node t v r)) (Nat.beq (Nat.mod m 2) 0)) n) t n k
theorem getK_eq(t:T α):∀(n:Nat) (z:β) (k:α->β),getK t n z k=match get t n with|none=>z|some a=>k a:=by
 induction t with
 |leaf=>intro n z k;simp [getK,get]
 |node l v r ihl ihr=>
  intro n z k
  cases n with
  |zero=>cases v <;> rfl
  |succ m=>
   show Bool.rec (motive:=fun _=>β) (getK r (m/2) z k) (getK l (m/2) z k) (Nat.beq (m%2) 0)=_
   rw[ihl,ihr]
   by_cases h:m%2=0
   ·have:Nat.beq (m%2) 0=true:=by rw[h];rfl
    simp [get,h]
   ·have:Nat.beq (m%2) 0=false:=by
     cases hb:Nat.beq (m%2) 0 with
     |false=>rfl
     |true=>exact absurd (Nat.eq_of_beq_eq_true hb) h
    rw[this];simp [get,h]
theorem Id(a:α):∀(f n:Nat) (k:T α->β),Dy f n a k=k (gJ f n a):=by
 intro f
 induction f with
 |zero=>intro n k;rfl
 |succ f ih=>
  intro n k
  cases n with
  |zero=>rfl
  |succ m=>
   show Bool.rec (motive:=fun _=>β) (Dy f (m/2) a fun t=>k (.node .leaf none t)) (Dy f (m/2) a fun t=>k (.node t none .leaf)) (Nat.beq (m%2) 0)=_
   rw[ih,ih]
   by_cases h:m%2=0
   ·have:Nat.beq (m%2) 0=true:=by rw[h];rfl
    rw[this];simp [gJ,h]
   ·have:Nat.beq (m%2) 0=false:=by
     cases hb:Nat.beq (m%2) 0 with
     |false=>rfl
     |true=>exact absurd (Nat.eq_of_beq_eq_true hb) h
    rw[this];simp [gJ,h]
theorem setK_eq(t:T α)(a:α):∀(n:Nat) (k:T α->β),setK t n a k=k (set t n a):=by
 induction t with
 |leaf=>intro n k;exact Id a 64 n k
 |node l v r ihl ihr=>
  intro n k
  cases n with
  |zero=>rfl
  |succ m=>
   show Bool.rec (motive:=fun _=>β) (setK r (m/2) a fun t=>k (.node l v t)) (setK l (m/2) a fun t=>k (.node t v r)) (Nat.beq (m%2) 0)=_
   rw[ihl,ihr]
   by_cases h:m%2=0
   ·have:Nat.beq (m%2) 0=true:=by rw[h];rfl
    rw[this];simp [set,h]
   ·have:Nat.beq (m%2) 0=false:=by
     cases hb:Nat.beq (m%2) 0 with
     |false=>rfl
     |true=>exact absurd (Nat.eq_of_beq_eq_true hb) h
    rw[this];simp [set,h]
theorem Ie(a:α):∀(f n m:Nat),n+1<2 ^ f->get (gJ f n a) m=if m=n then some a else none:=by
 intro f
 induction f with
 |zero=>intro n m h;simp at h
 |succ f ih=>
  intro n m h
  cases n with
  |zero=>
   cases m with
   |zero=>simp [gJ,get]
   |succ m=>simp [gJ,get]
  |succ n=>
   have hn:n/2+1<2 ^ f:=by rw[Nat.pow_succ] at h;omega
   cases m with
   |zero=>simp only [gJ];split <;> simp [get]
   |succ m=>
    simp only [gJ]
    split
    ·simp only [get]
     split
     ·rw[ih _ _ hn]
      by_cases e:m/2=n/2
      ·rw[if_pos e,if_pos (by omega)]
      ·rw[if_neg e,if_neg (by omega)]
     ·rw[if_neg (by omega)]
    ·simp only [get]
     split
     ·rw[if_neg (by omega)]
     ·rw[ih _ _ hn]
      by_cases e:m/2=n/2
      ·rw[if_pos e,if_pos (by omega)]
      ·rw[if_neg e,if_neg (by omega)]
theorem get_set_ne(a:α){n m:Nat}(o8:m≠n):∀(t:T α),get (set t n a) m=get t m:=by
 have hs:∀(f n m:Nat),m≠n->get (gJ f n a) m=none:=by
  intro f
  induction f with
  |zero=>intro n m _;rfl
  |succ f ih=>
   intro n m h
   cases n with
   |zero=>cases m with
    |zero=>exact absurd rfl h
    |succ m=>simp [gJ,get]
   |succ n=>
    cases m with
    |zero=>simp only [gJ];split <;> simp [get]
    |succ m=>
     simp only [gJ]
     split
     ·simp only [get]
      split
      ·exact ih _ _ (by omega)
      ·rfl
     ·simp only [get]
      split
      ·rfl
      ·exact ih _ _ (by omega)
 intro t
 induction t generalizing n m with
 |leaf=>exact hs 64 n m o8
 |node l v r ihl ihr=>
  cases n with
  |zero=>cases m with
   |zero=>exact absurd rfl o8
   |succ m=>simp [set,get]
  |succ n=>
   cases m with
   |zero=>simp only [set];split <;> simp [get]
   |succ m=>
    simp only [set]
    split
    ·simp only [get]
     split
     ·exact ihl (by omega)
     ·rfl
    ·simp only [get]
     split
     ·rfl
     ·exact ihr (by omega)
theorem get_set_same(a:α):∀(t:T α) (n:Nat),n+1<2 ^ 64->get (set t n a) n=some a:=by
 intro t
 induction t with
 |leaf=>intro n h;show get (gJ 64 n a) n=_;rw[Ie a 64 n n h];simp
 |node l v r ihl ihr=>
  intro n h
  cases n with
  |zero=>simp [set,get]
  |succ m=>
   simp only [set]
   split <;> simp only [get, *,if_true,if_false]
   ·exact ihl _ (by omega)
   ·exact ihr _ (by omega)
theorem get_set_some{a b:α}:∀(t:T α) (n:Nat),get (set t n a) n=some b->b=a:=by
 have hs:∀(f n:Nat),get (gJ f n a) n=some b->b=a:=by
  intro f
  induction f with
  |zero=>intro n h;simp [gJ,get] at h
  |succ f ih=>
   intro n h
   cases n with
   |zero=>simp [gJ,get] at h;exact h.symm
   |succ n=>
    simp only [gJ] at h
    split at h
    ·simp only [get, *,if_true] at h;exact ih _ h
    ·simp only [get, *,if_false] at h;exact ih _ h
 intro t
 induction t with
 |leaf=>intro n h;exact hs 64 n h
 |node l v r ihl ihr=>
  intro n h
  cases n with
  |zero=>simp [set,get] at h;exact h.symm
  |succ m=>
   simp only [set] at h
   split at h
   ·simp only [get, *,if_true] at h;exact ihl _ h
   ·simp only [get, *,if_false] at h;exact ihr _ h
end T
end
end Go.Sym
namespace Go.Sym
abbrev aaa:=@Nat.le_refl
abbrev aab:=@Sem.run_bind
abbrev aac:=@Sem.run_pure
abbrev aad:=@Nat.eq_of_beq_eq_true
abbrev aae:=@Result.andThen_ok
abbrev aaf:=@Nat.lt_or_ge
abbrev aag:=@List.getD_eq_getElem?_getD
abbrev aah:=@List.getElem?_eq_getElem
abbrev aai:=@List.length_append
abbrev aaj:=@List.getElem?_eq_none
abbrev aak:=@Nat.zero_add
abbrev aal:=@Nat.zero_le
abbrev aam:=@List.length_take
abbrev aan:=@List.length_drop
abbrev aao:=@List.length_cons
abbrev aap:=@Nat.add_zero
abbrev aaq:=@Int.toNat_natCast
abbrev aar:=@List.getElem?_take_of_lt
abbrev aas:=@Nat.le_of_ble_eq_true
abbrev aat:=@Nat.mul_le_mul_right
abbrev aau:=@List.append_assoc
abbrev aav:=@Nat.add_mul
abbrev aaw:=@List.mem_cons_of_mem
abbrev aax:=@List.getElem?_drop
abbrev aay:=@List.mem_cons_self
abbrev aaz:=@List.getElem?_append_left
abbrev aaA:=@List.getElem?_append_right
abbrev aaB:=@List.map_cons
abbrev aaC:=@Array.getElem?_setIfInBounds
abbrev aaD:=@Nat.mul_one
abbrev aaE:=@List.getElem?_map
abbrev aaF:=@Nat.two_pow_pos
abbrev aaG:=@Nat.succ_mul
abbrev aaH:=@Array.length_toList
abbrev aaI:=@List.length_singleton
abbrev aaJ:=@Array.getElem?_eq_getElem
abbrev aaK:=@List.drop_eq_nil_of_le
abbrev aaL:=@List.drop_zero
abbrev aaM:=@Nat.eq_zero_or_pos
abbrev aaN:=@Array.getElem?_eq_none
abbrev aaO:=@List.length_map
abbrev aaP:=@Array.getElem?_toList
abbrev aaQ:=@Option.map_some
abbrev aaR:=@Nat.le_trans
abbrev aaS:=@Array.getD_eq_getD_getElem?
abbrev aaT:=@Nat.pow_succ
abbrev aaU:=@List.drop_eq_getElem_cons
abbrev aaV:=@Int.ofNat_eq_natCast
abbrev aaW:=@List.getElem?_take
abbrev aaX:=@List.drop_drop
abbrev aaY:=@List.map_map
abbrev aaZ:=@List.take_length
abbrev aa0:=@List.length_set
abbrev aa1:=@List.nil_append
abbrev aa2:=@Option.isSome_none
abbrev aa3:=@Nat.mod_eq_of_lt
abbrev aa4:=@Nat.mul_le_mul
abbrev aa5:=@List.append_nil
abbrev aa6:=@Classical.choose_spec
abbrev aa7:=@Nat.ble_eq
abbrev aa8:=@Nat.zero_mul
abbrev aa9:=@List.getElem?_toArray
abbrev aa_:=@Nat.sub_self
abbrev aba:=@List.toList_toArray
abbrev abb:=@Nat.lt_of_lt_of_le
abbrev abc:=@List.length_reverse
abbrev abd:=@List.all_eq_true
abbrev abe:=@List.getElem_mem
abbrev abf:=@List.mem_of_getElem?
abbrev abg:=@Nat.sub_zero
abbrev abh:=@Nat.min_eq_left
abbrev abj:=@Nat.pow_le_pow_right
abbrev abk:=@Nat.pow_add
abbrev abl:=@List.take_append_drop
abbrev abm:=@List.take_append_of_le_length
abbrev abn:=@List.take_of_length_le
abbrev abo:=@Array.getElem?_modify
abbrev abp:=@Nat.add_assoc
abbrev abq:=@List.drop_take
abbrev abr:=@List.getElem?_set
abbrev abs:=@List.mem_append_left
abbrev abt:=@Nat.mod_two_eq_zero_or_one
abbrev abu:=@List.take_zero
abbrev abv:=@List.extract_eq_take_drop
abbrev abw:=@Nat.le_succ_of_le
abbrev abx:=@List.drop_append_of_le_length
abbrev aby:=@List.singleton_append
abbrev abz:=@Int.dvd_of_emod_eq_zero
abbrev abA:=@List.reverse_append
abbrev abB:=@List.getElem?_set_self
abbrev abC:=@Array.size_setIfInBounds
abbrev abD:=@List.mem_zipIdx_iff_getElem?
abbrev abE:=@Array.getElem?_replicate
abbrev abF:=@Nat.and_two_pow_sub_one_eq_mod
abbrev abG:=@List.replicate_append_replicate
abbrev abH:=@List.not_of_lt_findIdx
abbrev abI:=@List.getElem_append_left
abbrev acC:=@List.flatMap_cons
open Go.RowKit (Below)
noncomputable section
def base:Nat:=1048576
inductive G where
 |int (n:Int)
 |str (s:List Nat)
 |node (l:List G)
def gI(g:G):Int:=match g with | .int n=>n|_=>0
def gS(g:G):List Nat:=match g with | .str s=>s|_=>[]
def gL(g:G):List G:=match g with | .node l=>l|_=>[]
def aa(g:G)(j:Nat):G:=(gL g).getD j (.int 0)
def aq(l:List G)(i:Nat):G:=l.getD i (.int 0)
def dn(s:List Nat)(i:Nat):Nat:=s.getD i 0%256
theorem ah(s:List Nat)(i:Nat):dn s i<256:=Nat.mod_lt _ (by decide)
inductive Sc where
 |i (k:IntKind)
 |b
 |s
 |o
 |sl (m:Nat)
 |bs
 |h (n:Nat)
def cK(m:Nat):List Sc:=match m with
 |0=>[.i .i64,.s,.i .i64]
 |1=>[.s]
 |2=>[.i .i64,.i .i64,.i .i64,.s,.sl 1,.sl 2]
 |3=>[.i .i64,.i .i64,.s,.i .i64,.i .i64,.i .i64,.s,.o,.o,.o,.o]
 |4=>[.b]
 |5=>[.i .i64,.s,.i .i64,.i .i64,.s,.i .i64,.i .i64,.i .i64,.s,.o,.o,.o,.o,.s]
 |6=>[.h 32]
 |7=>[.i .i64,.s,.i .i64,.i .i64,.i .i64,.i .i64,.i .i64,.i .i64,.s,.sl 1,.sl 2,.h 32,.b,.i .i64,.i .i64]
 |8=>[.i .i64]
 |9=>[.i .u32]
 |10=>[.i .u64]
 |11=>[.i .i64,.i .i64,.i .i64,.h 32,.sl 7]
 |12=>[.s,.bs,.i .i64]
 |13=>[.sl 2]
 |14=>[.i .i64,.i .i64]
 |15=>[.bs,.h 32]
 |16=>[.bs]
 |_=>[]
inductive Ct where
 |rows (m:Nat) (l:List G)
 |bytes (s:List Nat)
inductive AV where
 |bool (b:Bool)
 |int (k:IntKind) (n:Int)
 |str (s:List Nat)
 |nilp
 |ptr (b g o:Nat)
 |nils
 |slc (b g o len:Nat) (cap:Option Nat) (es:Nat)
 |nilm
 |map (b:Nat)
 |func (fn:Fn) (first captured:List AV)
 |nilf
 |iface (t:Nat) (v:AV)
 |nili
 |agg (l:List AV)
 |tup (l:List AV)
 |opq (n:Nat)
 |anyB
 |anyI (k:IntKind)
 |osl (n:Nat)
 |opc (n:Nat)
 |sI (k:IntKind) (n:Int)
 |sB (p:Prop)
 |sS (s:List Nat)
 |any1
 |cptr (l:List AV)
 |cv (c:Ct)
 |gsl (b g n es:Nat)
 |gptr (b g i o es:Nat)
def kR(g:G):Nat->Nat->List AV
 |0,_=>[]
 |n+1,i=>.sI .u8 (gI (aa g i))::kR g n (i+1)
theorem A7(g:G):∀(n i:Nat),(kR g n i).length=n:=by
 intro n
 induction n with
 |zero=>intro i;rfl
 |succ n ih=>intro i;simp [kR,ih]
def fe(x:Sc)(g:G):List AV:=match x with
 | .i k=>[.sI k (gI g)]
 | .b=>[.sB (gI g=1)]
 | .s=>[.sS (gS g)]
 | .o=>[.any1]
 | .sl m=>[.cv (.rows m (gL g))]
 | .bs=>[.cv (.bytes (gS g))]
 | .h n=>kR g n 0
def bx:List Sc->G->Nat->List AV
 | [],_,_=>[]
 |x::xs,g,j=>fe x (aa g j)++bx xs g (j+1)
def VZ(x:Sc):Nat:=match x with | .h n=>n|_=>1
def bp:List Sc->Nat
 | []=>0
 |x::xs=>VZ x+bp xs
theorem xD(x:Sc)(g:G):(fe x g).length=VZ x:=by cases x <;> simp [fe,VZ,A7]
theorem pD:∀(xs:List Sc) (g:G) (j:Nat),(bx xs g j).length=bp xs:=by
 intro xs
 induction xs with
 |nil=>intro g j;rfl
 |cons x xs ih=>intro g j;simp [bx,bp,xD,ih]
def Ct.len:Ct->Nat
 | .rows _ l=>l.length
 | .bytes s=>s.length
def Ct.es:Ct->Nat
 | .rows m _=>bp (cK m)
 | .bytes _=>1
def Ct.row:Ct->Nat->List AV
 | .rows m l,i=>bx (cK m) (aq l i) 0
 | .bytes s,i=>[.sI .u8 ((s.getD i 0:Nat):Int)]
theorem Ct.row_len(c:Ct)(i:Nat):(c.row i).length=c.es:=by
 cases c with
 |rows m l=>exact pD _ _ _
 |bytes s=>rfl
def Ct.cut(c:Ct)(a b:Nat):Ct:=match c with
 | .rows m l=>.rows m ((l.take b).drop a)
 | .bytes s=>.bytes ((s.take b).drop a)
theorem Ct.cut_len(c:Ct){a b:Nat}(h1:a<=b)(h2:b<=c.len):(c.cut a b).len=b-a:=by
 cases c with
 |rows m l=>simp only [cut,len,aan,aam] at *;omega
 |bytes s=>simp only [cut,len,aan,aam] at *;omega
theorem Ct.cut_es(c:Ct)(a b:Nat):(c.cut a b).es=c.es:=by cases c <;> rfl
theorem Ct.cut_row(c:Ct){a b i:Nat}(h:a+i<b):(c.cut a b).row i=c.row (a+i):=by
 cases c with
 |rows m l=>simp only [cut,row,aq,aag,aax];rw[aar h]
 |bytes s=>simp only [cut,row,aag,aax];rw[aar h]
structure MSch where
 ks:List IntKind
 ka:Bool
 vs:List Sc
 va:Bool
def bC(m:Nat):MSch:=match m with
 |0=>⟨[.i64,.i64],true,[.h 32],true⟩
 |1=>⟨[.i64,.i64],true,[.b],false⟩
 |2=>⟨[.i64],false,[.b],false⟩
 |3=>⟨[.i64],false,[.bs],false⟩
 |4=>⟨[.i64,.i64],true,[.i .i64],false⟩
 |5=>⟨[.i64],false,[.i .i64,.i .i64,.i .i64,.h 32,.sl 7],true⟩
 |_=>⟨[],false,[],false⟩
def Rs(b:Bool)(l:List AV):AV:=match b,l with
 |true,l=>.agg l
 |false,a::_=>a
 |false,[]=>.nilp
def kS:List IntKind->G->Nat->List AV
 | [],_,_=>[]
 |k::ks,g,j=>.sI k (gI (aa g j))::kS ks g (j+1)
def lS(m:Nat)(g:G):AV:=Rs (bC m).ka (kS (bC m).ks g 0)
def iU(m:Nat)(g:G):AV:=Rs (bC m).va (bx (bC m).vs g (bC m).ks.length)
def db:Nat->G->Nat->List Int
 |0,_,_=>[]
 |n+1,g,j=>gI (aa g j)::db n g (j+1)
def cx(m:Nat)(l:List G)(k:List Int):Nat:=l.findIdx fun g=>decide (db (bC m).ks.length g 0=k)
def kT(m:Nat)(l:List G)(k:List Int):Prop:=cx m l k<l.length
def dW(m:Nat)(l:List G)(k:List Int):G:=aq l (cx m l k)
def cL(m:Nat)(l:List G)(k:List Int)(v:List G):List G:=if cx m l k<l.length then l.set (cx m l k) (.node (k.map G.int++v)) else l++ [.node (k.map G.int++v)]
structure Home where
 blk:Nat
 shift:Nat
 size:Nat
structure Rho where
 at_:Nat->Nat->Option Home
 val:Nat->Value
 own:Nat->Prop
 frz:Nat->Option (Array Value×TypeId)
 frz0:Nat->Option (Array Value×TypeId)
def bytesOf(s:ByteArray):List Nat:=s.data.toList.map UInt8.toNat
def SlOk(ρ:Rho)(b g o len:Nat)(cap:Option Nat)(es:Nat)(a:Addr)(c:Nat):Prop:=
 len<=c/\match cap with
 |some k=>c=k/\∃h,ρ.at_ b g=some h/\h.shift<=o/\a=⟨h.blk,o-h.shift,none⟩
 |none=>(len=0/\c=0)∨∃h,ρ.at_ b g=some h/\h.shift<=o/\a=⟨h.blk,o-h.shift,none⟩/\(o-h.shift)+c * es<=h.size
def xE:Fn->Bool
 | .yield _=>false
 |_=>true
inductive VR(ρ:Rho):AV->Value->Prop where
 |bool (b:Bool):VR ρ (.bool b) (.bool b)
 |int (k:IntKind) (n:Int):VR ρ (.int k n) (.int k n)
 |str (s:ByteArray):VR ρ (.str (bytesOf s)) (.string s)
 |nilp:VR ρ .nilp (.pointer none)
 |ptr (b g o:Nat) (h:Home) (hh:ρ.at_ b g=some h) (ho:h.shift<=o):VR ρ (.ptr b g o) (.pointer (some ⟨h.blk,o-h.shift,none⟩))
 |nils:VR ρ .nils (.slice none 0 0)
 |slc (b g o len:Nat) (cap:Option Nat) (es:Nat) (a:Addr) (c:Nat) (h:SlOk ρ b g o len cap es a c):VR ρ (.slc b g o len cap es) (.slice (some a) len c)
 |nilm:VR ρ .nilm (.map none)
 |map (b:Nat) (h:Home) (hh:ρ.at_ b 0=some h):VR ρ (.map b) (.map (some h.blk))
 |func (fn:Fn) (l m:List AV) (first captured:Array Value) (h1:first.size=l.length) (h2:captured.size=m.length)
   (r1:∀(i:Nat) (a:AV) (v:Value),l[i]? =some a->first[i]? =some v->VR ρ a v) (r2:∀(i:Nat) (a:AV) (v:Value),m[i]? =some a->captured[i]? =some v->VR ρ a v) (hf:xE fn=true):
   VR ρ (.func fn l m) (.func fn first captured)
 |yld (b:Nat) (h:Home) (hh:ρ.at_ b 0=some h):VR ρ (.func (.yield b) [] []) (.func (.yield h.blk) #[] #[])
 |nilf:VR ρ .nilf .nilFunc
 |iface (t:Nat) (x:AV) (v:Value) (h:VR ρ x v):VR ρ (.iface t x) (.iface t v)
 |nili:VR ρ .nili .nilIface
 |agg (l:List AV) (cs:Array Value) (h:cs.size=l.length) (r:∀(i:Nat) (a:AV) (v:Value),l[i]? =some a->cs[i]? =some v->VR ρ a v):VR ρ (.agg l) (.agg cs)
 |tup (l:List AV) (cs:Array Value) (h:cs.size=l.length) (r:∀(i:Nat) (a:AV) (v:Value),l[i]? =some a->cs[i]? =some v->VR ρ a v):VR ρ (.tup l) (.tuple cs)
 |opq (n:Nat):VR ρ (.opq n) (ρ.val n)
 |opc (n:Nat) (h:(ρ.val n).oneCell'=true):VR ρ (.opc n) (ρ.val n)
 |anyB (b:Bool):VR ρ .anyB (.bool b)
 |anyI (k:IntKind) (n:Int):VR ρ (.anyI k) (.int k n)
 |osl (n:Nat) (base:Option Addr) (len cap:Nat) (h:ρ.val n= .slice base len cap):VR ρ (.osl n) (.slice base len cap)
 |sI (k:IntKind) (n:Int):VR ρ (.sI k n) (.int k n)
 |sB (p:Prop) (b:Bool) (h:b=true↔p):VR ρ (.sB p) (.bool b)
 |sS (s:ByteArray):VR ρ (.sS (bytesOf s)) (.string s)
 |any1 (v:Value) (h:v.oneCell'=true):VR ρ .any1 v
 |cptr (l:List AV) (blk off:Nat) (arr:Array Value) (ty:TypeId) (hf:ρ.frz blk=some (arr,ty)) (hb:off+l.length<=arr.size)
   (r:∀(j:Nat) (a:AV) (v:Value),l[j]? =some a->arr[off+j]? =some v->VR ρ a v):VR ρ (.cptr l) (.pointer (some ⟨blk,off,none⟩))
 |cv (c:Ct) (blk off cp:Nat) (arr:Array Value) (ty:TypeId) (hf:ρ.frz blk=some (arr,ty)) (hc:c.len<=cp) (hb:off+c.len * c.es<=arr.size)
   (r:∀(i j:Nat) (a:AV) (v:Value),i<c.len->(c.row i)[j]? =some a->arr[off+i * c.es+j]? =some v->VR ρ a v):VR ρ (.cv c) (.slice (some ⟨blk,off,none⟩) c.len cp)
 |cvnil (c:Ct) (h:c.len=0):VR ρ (.cv c) (.slice none 0 0)
 |cvempty (c:Ct) (a:Addr) (h:c.len=0):VR ρ (.cv c) (.slice (some a) 0 0)
 |gsl (b g n es:Nat) (h:Home) (c:Nat) (hn:0<n) (hh:ρ.at_ b g=some h) (hs:h.shift=0) (hc:n<=c) (hz:c * es<=h.size):VR ρ (.gsl b g n es) (.slice (some ⟨h.blk,0,none⟩) n c)
 |gnil (b g es:Nat):VR ρ (.gsl b g 0 es) (.slice none 0 0)
 |gempty (b g es:Nat) (a:Addr):VR ρ (.gsl b g 0 es) (.slice (some a) 0 0)
 |gptr (b g i o es:Nat) (h:Home) (hh:ρ.at_ b g=some h) (hs:h.shift=0):VR ρ (.gptr b g i o es) (.pointer (some ⟨h.blk,i * es+o,none⟩))
def LR(ρ:Rho)(l:List AV)(vs:List Value):Prop:=vs.length=l.length/\∀(i:Nat) (a:AV) (v:Value),l[i]? =some a->vs[i]? =some v->VR ρ a v
theorem LR.nil(ρ:Rho):LR ρ [] []:=⟨rfl,by simp⟩
theorem LR.cons{ρ:Rho}{a:AV}{v:Value}{l:List AV}{vs:List Value}(h:VR ρ a v)(h':LR ρ l vs):LR ρ (a::l) (v::vs):=by
 refine⟨by simp [h'.1],fun i b u hb hu=>?_⟩
 cases i with
 |zero=>simp at hb hu;subst hb;subst hu;exact h
 |succ i=>simp at hb hu;exact h'.2 i b u hb hu
theorem LR.cons_inv{ρ:Rho}{a:AV}{l:List AV}{vs:List Value}(h:LR ρ (a::l) vs):∃v C',vs=v::C'/\VR ρ a v/\LR ρ l C':=by
 cases vs with
 |nil=>exact absurd h.1 (by simp)
 |cons v C'=>
  refine⟨v,C',rfl,h.2 0 a v rfl rfl,by simpa using h.1,fun i b u hb hu=>h.2 (i+1) b u (by simpa using hb) (by simpa using hu)⟩
theorem LR.nil_inv{ρ:Rho}{vs:List Value}(h:LR ρ [] vs):vs= []:=by
 cases vs with
 |nil=>rfl
 |cons v vs=>exact absurd h.1 (by simp)
theorem LR.append{ρ:Rho}{l m:List AV}{vs us:List Value}(h:LR ρ l vs)(h':LR ρ m us):LR ρ (l++m) (vs++us):=by
 refine⟨by simp [h.1,h'.1],fun i a v ha hv=>?_⟩
 by_cases hi:i<l.length
 ·rw[aaz hi] at ha
  rw[aaz (by rw[h.1];exact hi)] at hv
  exact h.2 i a v ha hv
 ·rw[aaA (by omega)] at ha
  rw[aaA (by rw[h.1];omega),h.1] at hv
  exact h'.2 _ a v ha hv
theorem LR.get{ρ:Rho}{l:List AV}{vs:List Value}(h:LR ρ l vs){i:Nat}{a:AV}(ha:l[i]? =some a):∃v,vs[i]? =some v/\VR ρ a v:=by
 have hi:i<l.length:=by
  rcases aaf i l.length with h'|h'
  ·exact h'
  ·rw[aaj h'] at ha;cases ha
 have:i<vs.length:=by rw[h.1];exact hi
 exact⟨vs[i],aah this,h.2 i a _ ha (aah this)⟩
structure Rho.le(ρ ρ':Rho):Prop where
 at_:∀b g h,ρ.at_ b g=some h->ρ'.at_ b g=some h
 val:ρ'.val=ρ.val
 own:ρ'.own=ρ.own
 frz:∀b x,ρ.frz b=some x->ρ'.frz b=some x
 frz0:ρ'.frz0=ρ.frz0
theorem Rho.le.refl(ρ:Rho):ρ.le ρ:=⟨fun _ _ _ h=>h,rfl,rfl,fun _ _ h=>h,rfl⟩
theorem Rho.le.trans{a b c:Rho}(h:a.le b)(h':b.le c):a.le c:=⟨fun x g y hy=>h'.at_ _ _ _ (h.at_ _ _ _ hy),h'.val.trans h.val,h'.own.trans h.own,fun x y hy=>h'.frz _ _ (h.frz _ _ hy),h'.frz0.trans h.frz0⟩
theorem SlOk.mono{ρ ρ':Rho}(hle:ρ.le ρ'){b g o len:Nat}{cap:Option Nat}{es:Nat}{a:Addr}{c:Nat}(h:SlOk ρ b g o len cap es a c):SlOk ρ' b g o len cap es a c:=by
 refine⟨h.1, ?_⟩
 have h2:=h.2
 cases cap with
 |some k=>obtain⟨e,x,hx,r⟩:=h2;exact⟨e,x,hle.at_ _ _ _ hx,r⟩
 |none=>
  rcases h2 with h2|⟨x,hx,r⟩
  ·exact .inl h2
  ·exact .inr ⟨x,hle.at_ _ _ _ hx,r⟩
theorem VR.mono{ρ ρ':Rho}(hle:ρ.le ρ'){a:AV}{v:Value}(h:VR ρ a v):VR ρ' a v:=by
 induction h with
 |bool b=>exact .bool b
 |int k n=>exact .int k n
 |str s=>exact .str s
 |nilp=>exact .nilp
 |ptr b g o h hh ho=>exact .ptr b g o h (hle.at_ _ _ _ hh) ho
 |nils=>exact .nils
 |slc b g o len cap es a c h=>exact .slc b g o len cap es a c (h.mono hle)
 |nilm=>exact .nilm
 |map b h hh=>exact .map b h (hle.at_ _ _ _ hh)
 |func fn l m first captured h1 h2 r1 r2 hf i1 i2=>exact .func fn l m first captured h1 h2 i1 i2 hf
 |yld b h hh=>exact .yld b h (hle.at_ _ _ _ hh)
 |nilf=>exact .nilf
 |iface t x v h ih=>exact .iface t x v ih
 |nili=>exact .nili
 |agg l cs h r ih=>exact .agg l cs h ih
 |tup l cs h r ih=>exact .tup l cs h ih
 |opq n=>rw[←hle.val];exact .opq n
 |opc n h=>rw[←hle.val];exact .opc n (by rw[hle.val];exact h)
 |anyB b=>exact .anyB b
 |anyI k n=>exact .anyI k n
 |osl n base len cap h=>exact .osl n base len cap (by rw[hle.val];exact h)
 |sI k n=>exact .sI k n
 |sB p b h=>exact .sB p b h
 |sS s=>exact .sS s
 |any1 v h=>exact .any1 v h
 |cptr l blk off arr ty hf hb r ih=>exact .cptr l blk off arr ty (hle.frz _ _ hf) hb ih
 |cv c blk off cp arr ty hf hc hb r ih=>exact .cv c blk off cp arr ty (hle.frz _ _ hf) hc hb ih
 |cvnil c h=>exact .cvnil c h
 |cvempty c a h=>exact .cvempty c a h
 |gsl b g n es h c hn hh hs hc hz=>exact .gsl b g n es h c hn (hle.at_ _ _ _ hh) hs hc hz
 |gnil b g es=>exact .gnil b g es
 |gempty b g es a=>exact .gempty b g es a
 |gptr b g i o es h hh hs=>exact .gptr b g i o es h (hle.at_ _ _ _ hh) hs
theorem LR.mono{ρ ρ':Rho}(hle:ρ.le ρ'){l:List AV}{vs:List Value}(h:LR ρ l vs):LR ρ' l vs:=⟨h.1,fun i a v ha hv=>(h.2 i a v ha hv).mono hle⟩
theorem LR.arr{ρ:Rho}{l:List AV}{cs:Array Value}(h:LR ρ l cs.toList):cs.size=l.length/\∀(i:Nat) (a:AV) (v:Value),l[i]? =some a->cs[i]? =some v->VR ρ a v:=
 ⟨by simpa using h.1,fun i a v ha hv=>h.2 i a v ha (by simpa using hv)⟩
theorem LR.of_arr{ρ:Rho}{l:List AV}{cs:Array Value}(h:cs.size=l.length)(r:∀(i:Nat) (a:AV) (v:Value),l[i]? =some a->cs[i]? =some v->VR ρ a v):LR ρ l cs.toList:=
 ⟨by simpa using h,fun i a v ha hv=>r i a v ha (by simpa using hv)⟩
def Rt:Nat->Value->Option AV
 |0,_=>none
 |f+1,v=>match v with
  | .bool b=>some (.bool b)
  | .int k n=>some (.int k n)
  | .string s=>some (.str (bytesOf s))
  | .pointer none=>some .nilp
  | .slice none 0 0=>some .nils
  | .map none=>some .nilm
  | .nilFunc=>some .nilf
  | .nilIface=>some .nili
  | .agg cs=>match cs.toList.mapM (Rt f) with
   |some l=>some (.agg l)
   |none=>none
  | .tuple cs=>match cs.toList.mapM (Rt f) with
   |some l=>some (.tup l)
   |none=>none
  |_=>none
theorem Dz{ρ:Rho}{f:Value->Option AV}(hf:∀v a,f v=some a->VR ρ a v):∀(vs:List Value) (l:List AV),vs.mapM f=some l->LR ρ l vs:=by
 intro vs
 induction vs with
 |nil=>intro l h;simp at h;subst h;exact LR.nil ρ
 |cons v vs ih=>
  intro l h
  rw[List.mapM_cons] at h
  cases hv:f v with
  |none=>simp [hv] at h
  |some a=>
   cases E':vs.mapM f with
   |none=>simp [hv,E'] at h
   |some l'=>
    simp [hv,E'] at h
    subst h
    exact LR.cons (hf v a hv) (ih l' E')
theorem If(ρ:Rho):∀(f:Nat) (v:Value) (a:AV),Rt f v=some a->VR ρ a v:=by
 intro f
 induction f with
 |zero=>intro v a h;cases h
 |succ f ih=>
  intro v a h
  unfold Rt at h
  split at h
  ·injection h with h;subst h;exact .bool _
  ·injection h with h;subst h;exact .int _ _
  ·injection h with h;subst h;exact .str _
  ·injection h with h;subst h;exact .nilp
  ·injection h with h;subst h;exact .nils
  ·injection h with h;subst h;exact .nilm
  ·injection h with h;subst h;exact .nilf
  ·injection h with h;subst h;exact .nili
  ·split at h
   ·rename_i cs l hl
    injection h with h;subst h
    obtain⟨h1,h2⟩:=(Dz ih _ _ hl).arr
    exact .agg _ _ h1 h2
   ·cases h
  ·split at h
   ·rename_i cs l hl
    injection h with h;subst h
    obtain⟨h1,h2⟩:=(Dz ih _ _ hl).arr
    exact .tup _ _ h1 h2
   ·cases h
  ·cases h
inductive Cell where
 |mk (tag:Nat) (v:AV)
def Cell.tag:Cell->Nat | .mk t _=>t
inductive ME where
 |mk (k v:AV) (born:Nat)
inductive ABlk where
 |cells (c:T Cell) (gen lo hi fl fh:Nat) (ro:Bool) (ty:Nat)
 |grow (c:Ct) (gen ty:Nat)
 |froz (c:Ct) (gen:Nat)
 |tab (ty:Nat) (l:List Nat)
 |mapo (es:List ME) (clock:Nat)
 |smap (m:Nat) (l:List G)
 |obj (k:Nat) (I:Nat->List Nat->World->Prop) (l:List G)
 |siter (s:List Nat) (pos:Nat)
 |miter (m:Option Nat) (since:Nat) (seen:List Nat) (stepped:Nat)
 |dfr (live:Bool)
 |loop (state:LoopState) (jump:Option Code) (fn:Nat) (nt:Nat) (tmps:T AV) (params:List Nat) (assign body:Code) (defers:Nat)
inductive St where
 |mk (h:T ABlk) (next fs:Nat) (tch:T Unit) (wr:List Nat)
def St.h:St->T ABlk | .mk h _ _ _ _=>h
def St.next:St->Nat | .mk _ n _ _ _=>n
structure ER(ρ:Rho)(nt:Nat)(env:T AV)(tmps:Array Value):Prop where
 size:tmps.size=nt
 val:∀t a,env.get t=some a->∃v,tmps[t]? =some v/\VR ρ a v
def fB:AV->Bool
 | .agg _ | .tup _ | .opq _=>false
 |_=>true
theorem il{ρ:Rho}{a:AV}{v:Value}(h:VR ρ a v)(ho:fB a=true):v.oneCell'=true:=by
 cases h <;> first|rfl|assumption|(simp [fB] at ho)
def Own(ρ:Rho)(B b:Nat):Prop:=B<=b∨ρ.own b
theorem Own.new{ρ:Rho}{B b:Nat}(h:B<=b):Own ρ B b:=.inl h
theorem Own.mono{ρ ρ':Rho}(hle:ρ.le ρ'){B b:Nat}(h:Own ρ B b):Own ρ' B b:=h.imp id fun h=>by rw[hle.own];exact h
def Ru(I:Nat->List Nat->World->Prop):Prop:=∀(r:Nat) (fp:List Nat) (w w':World),(∀x∈r::fp,w'.heap[x]? =w.heap[x]?)->I r fp w->I r fp w'
def BR(ρ:Rho)(B:Nat)(w:World)(b:Nat):ABlk->Prop
 | .cells c gen lo hi fl fh ro ty=>
  (∀o x,c.get o=some x->lo<=o/\o<hi/\x.tag<=gen)/\
  (∀g,g<=gen->∃h,ρ.at_ b g=some h/\(ro=false->Own ρ B h.blk)/\(ro=true->b<1048576->h.blk=b/\h.shift=0)/\
   ∃arr fr,w.heap[h.blk]? =some (.cells arr ty fr)/\arr.size=h.size/\
    (ro=false->fr.1<=fr.2/\∀x,(x<h.size∨fl<=fh)->fr.1<=x->x<fr.2->fl<=x+h.shift/\x+h.shift<fh)/\
    ∀o tag a,c.get o=some (.mk tag a)->tag<=g->h.shift<=o/\∃v,arr[o-h.shift]? =some v/\VR ρ a v)
 | .grow c gen ty=>c.len=0∨∃h,ρ.at_ b gen=some h/\h.shift=0/\Own ρ B h.blk/\∃arr fr,w.heap[h.blk]? =some (.cells arr ty fr)/\arr.size=h.size/\c.len * c.es<=h.size/\
   (∀x,x<h.size->fr.1<=x->x<fr.2->False)/\∀i,i<c.len->∀j a,(c.row i)[j]? =some a->∃u,arr[i * c.es+j]? =some u/\VR ρ a u
 | .froz c gen=>c.len=0∨∃h arr ty,ρ.at_ b gen=some h/\h.shift=0/\ρ.frz h.blk=some (arr,ty)/\c.len * c.es<=arr.size/\
   ∀i,i<c.len->∀j a,(c.row i)[j]? =some a->∃u,arr[i * c.es+j]? =some u/\VR ρ a u
 | .tab ty l=>b<1048576/\ρ.frz b=some ((l.map fun n=>Value.int .u8 (Int.ofNat n)).toArray,ty)
 | .mapo es clock=>∃h,ρ.at_ b 0=some h/\Own ρ B h.blk/\∃p6,w.heap[h.blk]? =some (.map p6 clock)/\p6.size=es.length/\
   ∀(i:Nat) (k v:AV) (n:Nat) (e:MapEntry),es[i]? =some (.mk k v n)->p6[i]? =some e->VR ρ k e.key/\VR ρ v e.val/\e.born=n
 | .smap m l=>∃h,ρ.at_ b 0=some h/\Own ρ B h.blk/\∃es clock,w.heap[h.blk]? =some (.map es clock)/\es.size=l.length/\
   ∀(i:Nat) (g:G) (e:MapEntry),l[i]? =some g->es[i]? =some e->VR ρ (lS m g) e.key/\VR ρ (iU m g) e.val
 | .obj k I l=>Ru I/\∃h fp,ρ.at_ b 0=some h/\h.shift=0/\(∀x∈h.blk::fp,Own ρ B x/\∃g hx,ρ.at_ b g=some hx/\hx.blk=x)/\I h.blk fp w
 | .siter s pos=>∃h,ρ.at_ b 0=some h/\Own ρ B h.blk/\∃s',bytesOf s'=s/\w.heap[h.blk]? =some (.stringIter s' pos)
 | .miter m since seen stepped=>∃h,ρ.at_ b 0=some h/\Own ρ B h.blk/\∃m' A',w.heap[h.blk]? =some (.mapIter m' since A' stepped)/\A'.toList=seen/\
   (match m with|none=>m'=none|some x=>∃hx,ρ.at_ x 0=some hx/\m'=some hx.blk)
 | .dfr live=>∃h,ρ.at_ b 0=some h/\Own ρ B h.blk/\w.heap[h.blk]? =some (.deferred (if live then some [] else none))
 | .loop state jump fn nt tmps params assign body defers=>∃h,ρ.at_ b 0=some h/\Own ρ B h.blk/\∃XV hd ZQ,ER ρ nt tmps XV/\ρ.at_ defers 0=some hd/\
   w.heap[h.blk]? =some (.loop {state,pending:=jump,fn:=ZQ,tmps:=XV,params:=params.toArray,assign,body,defers:=hd.blk})
def Ig(g:Nat):ABlk->Prop
 | .cells _ gen _ _ _ _ _ _=>g<=gen
 | .grow _ gen _=>g<=gen
 | .froz _ gen=>g<=gen
 |_=>True
def xx:ABlk->Prop
 | .froz _ _=>True
 |_=>False
structure Kept(own:Nat->Prop)(B:Nat)(w w':World):Prop where
 os:w'.os=w.os
 tape:w'.tape=w.tape
 output:w'.output=w.output
 size:w.heap.size<=w'.heap.size
 block:∀b,b<B->¬own b->w'.heap[b]? =w.heap[b]?
theorem Kept.refl(own:Nat->Prop)(B:Nat)(w:World):Kept own B w w:=⟨rfl,rfl,rfl,aaa _,fun _ _ _=>rfl⟩
theorem Kept.trans{own:Nat->Prop}{B:Nat}{a b c:World}(h:Kept own B a b)(h':Kept own B b c):Kept own B a c:=
 ⟨h'.os.trans h.os,h'.tape.trans h.tape,h'.output.trans h.output,aaR h.size h'.size,fun x h1 h2=>(h'.block x h1 h2).trans (h.block x h1 h2)⟩
theorem Kept.of{own:Nat->Prop}{B:Nat}{a b:World}(h:Below B a b):Kept own B a b:=⟨h.os,h.tape,h.output,h.size,fun x h1 _=>h.block x h1⟩
theorem Kept.below{own:Nat->Prop}{B:Nat}{a b:World}(h:Kept own B a b)(ho:∀x,¬own x):Below B a b:=⟨h.os,h.tape,h.output,h.size,fun x h1=>h.block x h1 (ho x)⟩
theorem Kept.alloc{own:Nat->Prop}{B:Nat}{a w:World}(h:Kept own B a w)(hB:B<=w.heap.size)(o:Obj):Kept own B a (w.alloc o):=
 h.trans (Kept.of ((Below.refl B w).alloc hB o))
theorem Kept.setCell{ρ:Rho}{B:Nat}{w:World}{p:Addr}(hp:Own ρ B p.block)(v:Value):Kept ρ.own B w (w.setCell p v):=
 ⟨rfl,rfl,rfl,by simp [World.setCell],fun k hk ho=>Below.heap_setCell _ _ _ _ (fun e=>by subst e;rcases hp with h|h;omega;exact ho h)⟩
theorem Kept.of_set{ρ:Rho}{B b:Nat}{w w':World}(h0:Below 0 w w')(hs:∀k,k≠b->w'.heap[k]? =w.heap[k]?)(hb:Own ρ B b):Kept ρ.own B w w':=
 ⟨h0.os,h0.tape,h0.output,h0.size,fun k hk ho=>hs k (fun e=>by subst e;rcases hb with h|h;omega;exact ho h)⟩
structure Good0(w0:World)(ρ:Rho)(H:T ABlk)(w:World):Prop where
 below:Kept ρ.own w0.heap.size w0 w
 blk:∀b x,H.get b=some x->BR ρ w0.heap.size w b x
 dom:∀b g h,ρ.at_ b g=some h->h.blk<w.heap.size/\∃x,H.get b=some x
 inj:∀b g h b' g' h',ρ.at_ b g=some h->ρ.at_ b' g'=some h'->h.blk=h'.blk->b=b'/\h=h'
 gens:∀b g h x,ρ.at_ b g=some h->H.get b=some x->Ig g x
 frz:∀b arr ty,ρ.frz b=some (arr,ty)->(∃fr,w.heap[b]? =some (.cells arr ty fr))/\∀b' g h,ρ.at_ b' g=some h->h.blk=b->∃x,H.get b'=some x/\xx x
 frzB:∀b x,ρ.frz b=some x->b<w0.heap.size->ρ.frz0 b=some x
 objO:∀b k I l,H.get b=some (.obj k I l)->∀g h,ρ.at_ b g=some h->Own ρ w0.heap.size h.blk
structure Good(w0:World)(ρ:Rho)(H:T ABlk)(w:World):Prop extends Good0 w0 ρ H w where
 ownB:∀x,ρ.own x->∃b g h,b<base+64/\ρ.at_ b g=some h/\h.blk=x
theorem Good0.frzE{w0:World}{ρ:Rho}{H:T ABlk}{w:World}(hG:Good0 w0 ρ H w){b:Nat}{arr:Array Value}{ty:TypeId}(hf:ρ.frz b=some (arr,ty)){b' g:Nat}{h:Home}{x:ABlk}(hh:ρ.at_ b' g=some h)(hx:H.get b'=some x)(hn:¬xx x):h.blk≠b:=fun e=>by
 obtain⟨y,h1,h2⟩:=(hG.frz _ _ _ hf).2 _ _ _ hh e
 rw[hx] at h1;injection h1 with h1;subst h1;exact hn h2
end
end Go.Sym
namespace Go.Sym
noncomputable section
structure Sy where
 i:Nat->Int
 s:Nat->List Nat
 p:Nat->Prop
 g:Nat->List G
inductive Tr where
 |fail
 |ret (a:AV)
 |rd (b:Nat) (k:ABlk->Tr)
 |wr (b:Nat) (x:ABlk) (k:Tr)
 |new (x:ABlk) (k:Nat->Tr)
 |pick (n:Nat) (k:Nat->Tr)
 |sub (t:Tr) (k:AV->Nat->Nat->T Unit->List Nat->Tr)
 |ask (p:Prop) (t e:Tr)
 |req (p:Prop) (t:Tr)
 |sk (p:Sy->Prop) (z:{y:Sy // p y}) (k:Sy->Tr)
abbrev Fin:=AV->St->Bool
def ot(fs b:Nat)(t:T Unit)(k:T Unit->Bool):Bool:=ac (Nat.ble fs b) (k t) (T.setK t b () k)
def note(fs b:Nat)(t:T Unit):T Unit:=if fs<=b then t else t.set b ()
theorem pE(fs b:Nat)(t:T Unit)(k:T Unit->Bool):ot fs b t k=k (note fs b t):=by
 unfold ot note
 rw[ax,T.setK_eq]
 by_cases h:fs<=b
 ·simp [aa7,h]
 ·have:Nat.ble fs b=false:=by
   cases hb:Nat.ble fs b with
   |false=>rfl
   |true=>exact absurd (Nat.ble_eq.mp hb) h
  simp [this,h]
def nc(fs b:Nat)(w:List Nat)(k:List Nat->Bool):Bool:=ac (Nat.ble fs b) (k w) (k (b::w))
def gd(fs b:Nat)(w:List Nat):List Nat:=if fs<=b then w else b::w
theorem sH(fs b:Nat)(w:List Nat)(k:List Nat->Bool):nc fs b w k=k (gd fs b w):=by
 unfold nc gd
 rw[ax]
 by_cases h:fs<=b
 ·simp [aa7,h]
 ·have:Nat.ble fs b=false:=by
   cases hb:Nat.ble fs b with
   |false=>rfl
   |true=>exact absurd (Nat.ble_eq.mp hb) h
  simp [this,h]
def T.keys{α:Type}:T α->(Nat->Nat)->List Nat->List Nat
 | .leaf,_,acc=>acc
 | .node l v r,f,acc=>T.keys l (fun n=>f (2 * n+1)) (T.keys r (fun n=>f (2 * n+2)) (match v with|some _=>f 0::acc|none=>acc))
def lT(fs:Nat):List Nat->T Unit->(T Unit->Bool)->Bool:=fun l=>
 List.rec (motive:=fun _=>T Unit->(T Unit->Bool)->Bool) (fun t k=>k t) (fun b _ ih t k=>ot fs b t fun t=>ih t k) l
def fg(fs:Nat):List Nat->T Unit->T Unit
 | [],t=>t
 |b::l,t=>fg fs l (note fs b t)
theorem xF(fs:Nat):∀(l:List Nat) (t:T Unit) (k:T Unit->Bool),lT fs l t k=k (fg fs l t):=by
 intro l
 induction l with
 |nil=>intro t k;rfl
 |cons b l ih=>intro t k;show ot fs b t (fun t=>lT fs l t k)=_;rw[pE,ih];rfl
def jY(fs:Nat):List Nat->List Nat->(List Nat->Bool)->Bool:=fun l=>
 List.rec (motive:=fun _=>List Nat->(List Nat->Bool)->Bool) (fun t k=>k t) (fun b _ ih t k=>nc fs b t fun t=>ih t k) l
def eM(fs:Nat):List Nat->List Nat->List Nat
 | [],t=>t
 |b::l,t=>eM fs l (gd fs b t)
theorem ul(fs:Nat):∀(l:List Nat) (t:List Nat) (k:List Nat->Bool),jY fs l t k=k (eM fs l t):=by
 intro l
 induction l with
 |nil=>intro t k;rfl
 |cons b l ih=>intro t k;show nc fs b t (fun t=>jY fs l t k)=_;rw[sH,ih];rfl
def dP(p:Prop):Bool:=@decide p (Classical.propDecidable p)
theorem dX{p:Prop}:dP p=true↔p:=by simp [dP]
theorem Rv{p:Prop}:dP p=false↔¬p:=by simp [dP]
def Ul(_:St)(_:Fin):Bool:=false
def Wj(a:AV)(σ:St)(K:Fin):Bool:=K a σ
def Xq(b:Nat)(_:ABlk->Tr)(ih:ABlk->St->Fin->Bool)(σ:St)(K:Fin):Bool:=
 St.rec (motive:=fun _=>Bool) (fun h n fs t w=>ac (Nat.ble (Nat.succ b) n) (T.getK h b false fun x=>ot fs b t fun t=>ih x (.mk h n fs t w) K) false) σ
def Xr(b:Nat)(x:ABlk)(_:Tr)(ih:St->Fin->Bool)(σ:St)(K:Fin):Bool:=
 St.rec (motive:=fun _=>Bool) (fun h n fs t w=>ac (Nat.ble (Nat.succ b) n) (T.getK h b false fun _=>T.setK h b x fun h=>ot fs b t fun t=>nc fs b w fun w=>ih (.mk h n fs t w) K) false) σ
def Wl(x:ABlk)(_:Nat->Tr)(ih:Nat->St->Fin->Bool)(σ:St)(K:Fin):Bool:=
 St.rec (motive:=fun _=>Bool) (fun h n fs t w=>ac (Nat.ble n 1000000000) (T.getK h n (T.setK h n x fun h=>fN (Nat.succ n) fun m=>ih n (.mk h m fs t w) K) fun _=>false) false) σ
def gM(f:Nat->Bool)(n:Nat):Bool:=Nat.rec (motive:=fun _=>Bool) true (fun m ih=>ac (f m) ih false) n
def Um(n:Nat)(_:Nat->Tr)(ih:Nat->St->Fin->Bool)(σ:St)(K:Fin):Bool:=
 ac (Nat.ble n 1) (ih 0 σ K) (St.rec (motive:=fun _=>Bool) (fun h m fs t w=>ac (Nat.beq fs 0) (gM (fun i=>ih i (.mk h m fs t w) K) n) false) σ)
def Wm(_:Tr)(_:AV->Nat->Nat->T Unit->List Nat->Tr)(it:St->Fin->Bool)(ik:AV->Nat->Nat->T Unit->List Nat->St->Fin->Bool)(σ:St)(K:Fin):Bool:=
 St.rec (motive:=fun _=>Bool) (fun h n fs t w=>it (.mk h n n .leaf []) fun a c9=>
  St.rec (motive:=fun _=>Bool) (fun h' n' _ t' w'=>ac (Nat.beq fs 0) (ik a n n' t' w' (.mk h' n' fs t w) K)
   (lT fs (T.keys t' id []) t fun t2=>jY fs w' w fun w2=>ik a n n' t' w' (.mk h' n' fs t2 w2) K)) c9) σ
def Wn(p:Prop)(_ _:Tr)(it ie:St->Fin->Bool)(σ:St)(K:Fin):Bool:=dP ((p->it σ K=true)/\(¬p->ie σ K=true))
def Wo(p:Prop)(_:Tr)(it:St->Fin->Bool)(σ:St)(K:Fin):Bool:=dP (p/\it σ K=true)
def Xs(p:Sy->Prop)(z:{y:Sy // p y})(_:Sy->Tr)(ik:Sy->St->Fin->Bool)(σ:St)(K:Fin):Bool:=ik z.1 σ K
def run(t:Tr):St->Fin->Bool:=Tr.rec (motive:=fun _=>St->Fin->Bool) Ul Wj Xq Xr Wl Um Wm Wn Wo Xs t
theorem gA(b:Nat)(k:ABlk->Tr)(h:T ABlk)(n fs:Nat)(t:T Unit)(w:List Nat)(K:Fin):
  run (.rd b k) (.mk h n fs t w) K=if b<n then(match h.get b with|none=>false|some x=>run (k x) (.mk h n fs (note fs b t) w) K) else false:=by
 show ac (Nat.ble (Nat.succ b) n) (T.getK h b false (fun x=>ot fs b t fun t=>run (k x) (.mk h n fs t w) K)) false=_
 rw[ax,T.getK_eq]
 by_cases hn:b<n
 ·rw[if_pos (Nat.ble_eq.mpr hn),if_pos hn]
  split <;> simp_all [pE]
 ·rw[if_neg (fun h=>hn (Nat.ble_eq.mp h)),if_neg hn]
theorem jf(b:Nat)(x:ABlk)(k:Tr)(h:T ABlk)(n fs:Nat)(t:T Unit)(w:List Nat)(K:Fin):
  run (.wr b x k) (.mk h n fs t w) K=if b<n then(match h.get b with|none=>false|some _=>run k (.mk (h.set b x) n fs (note fs b t) (gd fs b w)) K) else false:=by
 show ac (Nat.ble (Nat.succ b) n) (T.getK h b false (fun _=>T.setK h b x fun h=>ot fs b t fun t=>nc fs b w fun w=>run k (.mk h n fs t w) K)) false=_
 rw[ax,T.getK_eq]
 by_cases hn:b<n
 ·rw[if_pos (Nat.ble_eq.mpr hn),if_pos hn]
  split <;> simp_all [pE,sH,T.setK_eq]
 ·rw[if_neg (fun h=>hn (Nat.ble_eq.mp h)),if_neg hn]
theorem ge(x:ABlk)(k:Nat->Tr)(h:T ABlk)(n fs:Nat)(t:T Unit)(w:List Nat)(K:Fin):
  run (.new x k) (.mk h n fs t w) K=if n<=1000000000 then(match h.get n with|some _=>false|none=>run (k n) (.mk (h.set n x) (n+1) fs t w) K) else false:=by
 show ac (Nat.ble n 1000000000) (T.getK h n (T.setK h n x fun h=>fN (Nat.succ n) fun m=>run (k n) (.mk h m fs t w) K) fun _=>false) false=_
 rw[ax]
 by_cases hn:n<=1000000000
 ·rw[if_pos (Nat.ble_eq.mpr hn),if_pos hn,T.getK_eq]
  split <;> simp_all [T.setK_eq,je]
 ·rw[if_neg (fun h=>hn (Nat.ble_eq.mp h)),if_neg hn]
theorem lU{f:Nat->Bool}:∀{n:Nat},gM f n=true↔∀i,i<n->f i=true:=by
 intro n
 induction n with
 |zero=>exact⟨fun _ i hi=>absurd hi (by omega),fun _=>rfl⟩
 |succ n ih=>
  show ac (f n) (gM f n) false=true↔_
  constructor
  ·intro h i hi
   obtain⟨h1,h2⟩:=aM h
   rcases aaf i n with h'|h'
   ·exact ih.mp h2 i h'
   ·have:i=n:=by omega
    subst this;exact h1
  ·intro h
   rw[h n (by omega),ax,if_pos rfl]
   exact ih.mpr fun i hi=>h i (by omega)
theorem gf(t:Tr)(k:AV->Nat->Nat->T Unit->List Nat->Tr)(h:T ABlk)(n fs:Nat)(tc:T Unit)(w:List Nat)(K:Fin):
  run (.sub t k) (.mk h n fs tc w) K=run t (.mk h n n .leaf []) fun a c9=>match c9 with
   | .mk h' n' _ t' w'=>if fs=0 then run (k a n n' t' w') (.mk h' n' fs tc w) K else run (k a n n' t' w') (.mk h' n' fs (fg fs (T.keys t' id []) tc) (eM fs w' w)) K:=by
 show run t (.mk h n n .leaf []) (fun a c9=>St.rec (motive:=fun _=>Bool) (fun h' n' _ t' w'=>ac (Nat.beq fs 0) (run (k a n n' t' w') (.mk h' n' fs tc w) K)
   (lT fs (T.keys t' id []) tc fun t2=>jY fs w' w fun w2=>run (k a n n' t' w') (.mk h' n' fs t2 w2) K)) c9)=_
 congr 1
 funext a c9
 cases c9 with
 |mk h' n' f' t' w'=>
  show ac (Nat.beq fs 0) _ _=_
  rw[ax,xF,ul]
  by_cases hf:fs=0
  ·subst hf;rfl
  ·have:Nat.beq fs 0=false:=by
    cases hb:Nat.beq fs 0 with
    |false=>rfl
    |true=>exact absurd (aad hb) hf
   simp [this,hf]
theorem eO{p:Prop}(t e:Tr)(σ:St)(K:Fin)(h:p):run (.ask p t e) σ K=run t σ K:=by
 show dP ((p->run t σ K=true)/\(¬p->run e σ K=true))=_
 rw[Bool.eq_iff_iff,dX]
 exact⟨fun q=>q.1 h,fun q=>⟨fun _=>q,fun n=>absurd h n⟩⟩
theorem eP{p:Prop}(t e:Tr)(σ:St)(K:Fin)(h:¬p):run (.ask p t e) σ K=run e σ K:=by
 show dP ((p->run t σ K=true)/\(¬p->run e σ K=true))=_
 rw[Bool.eq_iff_iff,dX]
 exact⟨fun q=>q.2 h,fun q=>⟨fun n=>absurd n h,fun _=>q⟩⟩
theorem eQ{p:Prop}(t:Tr)(σ:St)(K:Fin)(h:p):run (.req p t) σ K=run t σ K:=by
 show dP (p/\run t σ K=true)=_
 rw[Bool.eq_iff_iff,dX]
 exact⟨fun q=>q.2,fun q=>⟨h,q⟩⟩
theorem ou{p:Prop}(t:Tr)(σ:St)(K:Fin)(h:¬p):run (.req p t) σ K=false:=by
 show dP (p/\run t σ K=true)=_
 rw[Rv]
 exact fun q=>h q.1
end
attribute [irreducible] dP
end Go.Sym
namespace Go.Sym
theorem T.mem_keys_acc{α:Type}:∀(t:T α) (f:Nat->Nat) (acc:List Nat) (x:Nat),x∈acc->x∈T.keys t f acc:=by
 intro t
 induction t with
 |leaf=>intro f acc x h;exact h
 |node l v r ihl ihr=>
  intro f acc x h
  simp only [T.keys]
  refine ihl _ _ _ (ihr _ _ _ ?_)
  cases v <;> simp [h]
theorem T.mem_keys{α:Type}:∀(t:T α) (f:Nat->Nat) (acc:List Nat) (b:Nat) (a:α),t.get b=some a->f b∈T.keys t f acc:=by
 intro t
 induction t with
 |leaf=>intro f acc b a h;simp [T.get] at h
 |node l v r ihl ihr=>
  intro f acc b a h
  simp only [T.keys]
  cases b with
  |zero=>
   simp only [T.get] at h
   subst h
   exact T.mem_keys_acc _ _ _ _ (T.mem_keys_acc _ _ _ _ (by simp))
  |succ m=>
   simp only [T.get] at h
   split at h
   ·have e:m+1=2 * (m/2)+1:=by omega
    rw[e]
    exact ihl (fun n=>f (2 * n+1)) _ _ _ h
   ·have e:m+1=2 * (m/2)+2:=by omega
    rw[e]
    exact T.mem_keys_acc _ _ _ _ (ihr (fun n=>f (2 * n+2)) _ _ _ h)
theorem dp{fs b:Nat}{t:T Unit}{x:Nat}(hb:b+1<2 ^ 64)(h:t.get x=some ()):(note fs b t).get x=some ():=by
 unfold note
 split
 ·exact h
 ·by_cases e:x=b
  ·subst e;exact T.get_set_same _ _ _ hb
  ·rw[T.get_set_ne _ e];exact h
theorem jg{fs b:Nat}{t:T Unit}(hb:b+1<2 ^ 64)(h:b<fs):(note fs b t).get b=some ():=by
 unfold note
 rw[if_neg (by omega)]
 exact T.get_set_same _ _ _ hb
theorem eE{fs:Nat}:∀(l:List Nat) (t:T Unit) (x:Nat),(∀b∈l,b+1<2 ^ 64)->t.get x=some ()->(fg fs l t).get x=some ():=by
 intro l
 induction l with
 |nil=>intro t x _ h;exact h
 |cons b l ih=>intro t x hl h;exact ih _ _ (fun b hb=>hl b (by simp [hb])) (dp (hl b (by simp)) h)
theorem jh{fs:Nat}:∀(l:List Nat) (t:T Unit) (x:Nat),(∀b∈l,b+1<2 ^ 64)->x∈l->x<fs->(fg fs l t).get x=some ():=by
 intro l
 induction l with
 |nil=>intro t x _ h;cases h
 |cons b l ih=>
  intro t x hl h hx
  have p7:∀b∈l,b+1<2 ^ 64:=fun b hb=>hl b (by simp [hb])
  rcases List.mem_cons.mp h with e|h
  ·subst e;exact eE l _ _ p7 (jg (hl x (by simp)) hx)
  ·exact ih _ _ p7 h hx
theorem ow{fs b:Nat}{w:List Nat}{x:Nat}(h:x∈w):x∈gd fs b w:=by
 unfold gd;split <;> simp [h]
theorem sJ{fs b:Nat}{w:List Nat}(h:b<fs):b∈gd fs b w:=by
 unfold gd;rw[if_neg (by omega)];simp
theorem nd{fs b:Nat}{w:List Nat}{x:Nat}(h:x∈gd fs b w):x∈w∨(x=b/\b<fs):=by
 unfold gd at h
 split at h
 ·exact .inl h
 ·rcases List.mem_cons.mp h with e|h
  ·exact .inr ⟨e,by omega⟩
  ·exact .inl h
theorem ji{fs:Nat}:∀(l w:List Nat) (x:Nat),x∈w->x∈eM fs l w:=by
 intro l
 induction l with
 |nil=>intro w x h;exact h
 |cons b l ih=>intro w x h;exact ih _ _ (ow h)
theorem um{fs:Nat}:∀(l w:List Nat) (x:Nat),x∈l->x<fs->x∈eM fs l w:=by
 intro l
 induction l with
 |nil=>intro w x h;cases h
 |cons b l ih=>
  intro w x h hx
  rcases List.mem_cons.mp h with e|h
  ·subst e;exact ji l _ _ (sJ hx)
  ·exact ih _ _ h hx
theorem lV{fs:Nat}:∀(l w:List Nat) (x:Nat),x∈eM fs l w->x∈w∨(x∈l/\x<fs):=by
 intro l
 induction l with
 |nil=>intro w x h;exact .inl h
 |cons b l ih=>
  intro w x h
  rcases ih _ _ h with h|h
  ·rcases nd h with h|⟨e,h⟩
   ·exact .inl h
   ·subst e;exact .inr ⟨by simp,h⟩
  ·exact .inr ⟨by simp [h.1],h.2⟩
def Rw(fs n':Nat)(tc':T Unit)(b:Nat):Prop:=tc'.get b=some ()∨(fs<=b/\b<n')
def QE(fs n':Nat)(w':List Nat)(b:Nat):Prop:=b∈w'∨(fs<=b/\b<n')
theorem sK{α:Type}:∀(t:T α) (f:Nat->Nat) (acc:List Nat) (b:Nat),b∈T.keys t f acc->b∈acc∨∃x a,b=f x/\t.get x=some a:=by
 intro t
 induction t with
 |leaf=>intro f acc b h;exact .inl h
 |node l v r ihl ihr=>
  intro f acc b h
  simp only [T.keys] at h
  rcases ihl _ _ _ h with h|⟨x,a,e,hx⟩
  ·rcases ihr _ _ _ h with h|⟨x,a,e,hx⟩
   ·cases v with
    |none=>exact .inl h
    |some a=>
     simp only [List.mem_cons] at h
     rcases h with h|h
     ·exact .inr ⟨0,a,h,by simp [T.get]⟩
     ·exact .inl h
   ·refine .inr ⟨2 * x+2,a,e, ?_⟩
    show(if(2 * x+1)%2=0 then _ else _)=_
    rw[if_neg (by omega),show(2 * x+1)/2=x by omega];exact hx
  ·refine .inr ⟨2 * x+1,a,e, ?_⟩
   show(if(2 * x)%2=0 then _ else _)=_
   rw[if_pos (by omega),show(2 * x)/2=x by omega];exact hx
structure LocAt(t:Tr)(h:T ABlk)(n fs:Nat)(tc:T Unit)(w:List Nat)(a:AV)(h':T ABlk)(n':Nat)(tc':T Unit)(w':List Nat):Prop where
 run:∀K,run t (.mk h n fs tc w) K=K a (.mk h' n' fs tc' w')
 le:n<=n'
 lid:n'<=1000000001
 tch:∀b,tc.get b=some ()->tc'.get b=some ()
 wrt:∀b∈w,b∈w'
 sub:∀b∈w',tc'.get b=some ()
 low:∀b,tc'.get b=some ()->b<fs
 same:∀b,¬QE fs n' w' b->h'.get b=h.get b
 like:∀h2,(∀b,Rw fs n' tc' b->h2.get b=h.get b)->∃h2',(∀K,Sym.run t (.mk h2 n fs tc w) K=K a (.mk h2' n' fs tc' w'))/\
  (∀b,Rw fs n' tc' b->h2'.get b=h'.get b)/\∀b,¬QE fs n' w' b->h2'.get b=h2.get b
theorem loc(t:Tr):∀(h:T ABlk) (n fs:Nat) (tc:T Unit) (w:List Nat),0<fs->fs<=n->n<=1000000001->(∀b∈w,tc.get b=some ())->(∀b,tc.get b=some ()->b<fs)->
  (∀K,run t (.mk h n fs tc w) K=false)∨∃a h' n' tc' w',LocAt t h n fs tc w a h' n' tc' w':=by
 induction t with
 |fail=>intro h n fs tc w _ _ _ _ _;exact .inl fun K=>rfl
 |ret a=>
  intro h n fs tc w h0 h1 h2 h4 h5
  exact .inr ⟨a,h,n,tc,w,fun K=>rfl,aaa _,h2,fun _ x=>x,fun _ x=>x,h4,h5,fun _ _=>rfl,fun g hg=>⟨g,fun K=>rfl,hg,fun _ _=>rfl⟩⟩
 |rd b k ih=>
  intro h n fs tc w h0 h1 h2 h4 h5
  by_cases X6:b<n
  case neg=>exact .inl fun K=>by rw[gA,if_neg X6]
  cases hb:h.get b with
  |none=>exact .inl fun K=>by rw[gA,if_pos X6,hb]
  |some x=>
   have Yl:b+1<2 ^ 64:=by omega
   rcases ih x h n fs (note fs b tc) w h0 h1 h2 (fun y hy=>dp Yl (h4 y hy)) (fun y hy=>by
    by_cases e:fs<=b
    ·rw[note,if_pos e] at hy;exact h5 y hy
    ·by_cases ey:y=b
     ·omega
     ·rw[note,if_neg e,T.get_set_ne _ ey] at hy;exact h5 y hy) with hf|⟨a,h',n',tc',w',L⟩
   ·exact .inl fun K=>by rw[gA,if_pos X6,hb];exact hf K
   ·refine .inr ⟨a,h',n',tc',w',fun K=>?_,L.le,L.lid,fun y hy=>L.tch y (dp Yl hy),L.wrt,L.sub,L.low,L.same,fun g hg=>?_⟩
    ·rw[gA,if_pos X6,hb];exact L.run K
    ·obtain⟨g',r1,r2,r3⟩:=L.like g hg
     refine⟨g',fun K=>?_,r2,r3⟩
     have hgb:g.get b=some x:=by
      rw[hg b ?_,hb]
      by_cases e:b<fs
      ·exact .inl (L.tch b (jg Yl e))
      ·exact .inr ⟨by omega,by have:=L.le;omega⟩
     rw[gA,if_pos X6,hgb];exact r1 K
 |wr b x k ih=>
  intro h n fs tc w h0 h1 h2 h4 h5
  by_cases X6:b<n
  case neg=>exact .inl fun K=>by rw[jf,if_neg X6]
  cases hb:h.get b with
  |none=>exact .inl fun K=>by rw[jf,if_pos X6,hb]
  |some x0=>
   have Yl:b+1<2 ^ 64:=by omega
   rcases ih (h.set b x) n fs (note fs b tc) (gd fs b w) h0 h1 h2 (fun y hy=>by
     rcases nd hy with hy|⟨e,hy⟩
     ·exact dp Yl (h4 y hy)
     ·subst e;exact jg Yl hy) (fun y hy=>by
    by_cases e:fs<=b
    ·rw[note,if_pos e] at hy;exact h5 y hy
    ·by_cases ey:y=b
     ·omega
     ·rw[note,if_neg e,T.get_set_ne _ ey] at hy;exact h5 y hy) with hf|⟨a,h',n',tc',w',L⟩
   ·exact .inl fun K=>by rw[jf,if_pos X6,hb];exact hf K
   ·have hwb:QE fs n' w' b:=by
     by_cases e:b<fs
     ·exact .inl (L.wrt b (sJ e))
     ·exact .inr ⟨by omega,by have:=L.le;omega⟩
    have htb:Rw fs n' tc' b:=by
     by_cases e:b<fs
     ·exact .inl (L.tch b (jg Yl e))
     ·exact .inr ⟨by omega,by have:=L.le;omega⟩
    refine .inr ⟨a,h',n',tc',w',fun K=>?_,L.le,L.lid,fun y hy=>L.tch y (dp Yl hy),fun y hy=>L.wrt y (ow hy),L.sub,L.low,fun y hy=>?_,fun g hg=>?_⟩
    ·rw[jf,if_pos X6,hb];exact L.run K
    ·rw[L.same y hy,T.get_set_ne]
     intro e;subst e;exact hy hwb
    ·have hgb:g.get b=some x0:=by rw[hg b htb,hb]
     obtain⟨g',r1,r2,r3⟩:=L.like (g.set b x) (fun y hy=>by
      by_cases e:y=b
      ·subst e;rw[T.get_set_same _ _ _ Yl,T.get_set_same _ _ _ Yl]
      ·rw[T.get_set_ne _ e,T.get_set_ne _ e];exact hg y hy)
     refine⟨g',fun K=>?_,r2,fun y hy=>?_⟩
     ·rw[jf,if_pos X6,hgb];exact r1 K
     ·rw[r3 y hy,T.get_set_ne]
      intro e;subst e;exact hy hwb
 |new x k ih=>
  intro h n fs tc w h0 h1 h2 h4 h5
  by_cases hn:n<=1000000000
  case neg=>exact .inl fun K=>by rw[ge,if_neg hn]
  cases G':h.get n with
  |some x0=>exact .inl fun K=>by rw[ge,if_pos hn,G']
  |none=>
  have ac8:n+1<2 ^ 64:=by omega
  rcases ih n (h.set n x) (n+1) fs tc w h0 (by omega) (by omega) h4 h5 with hf|⟨a,h',n',tc',w',L⟩
  ·exact .inl fun K=>by rw[ge,if_pos hn,G'];exact hf K
  ·have hle:=L.le
   have hwn:QE fs n' w' n:=.inr ⟨h1,by omega⟩
   refine .inr ⟨a,h',n',tc',w',fun K=>?_,by omega,L.lid,L.tch,L.wrt,L.sub,L.low,fun y hy=>?_,fun g hg=>?_⟩
   ·rw[ge,if_pos hn,G'];exact L.run K
   ·rw[L.same y hy,T.get_set_ne]
    intro e;subst e;exact hy hwn
   ·have hgn:g.get n=none:=by rw[hg n (.inr ⟨h1,by omega⟩),G']
    obtain⟨g',r1,r2,r3⟩:=L.like (g.set n x) (fun y hy=>by
     by_cases e:y=n
     ·subst e;rw[T.get_set_same _ _ _ ac8,T.get_set_same _ _ _ ac8]
     ·rw[T.get_set_ne _ e,T.get_set_ne _ e];exact hg y hy)
    refine⟨g',fun K=>?_,r2,fun y hy=>?_⟩
    ·rw[ge,if_pos hn,hgn];exact r1 K
    ·rw[r3 y hy,T.get_set_ne]
     intro e;subst e;exact hy hwn
 |pick m k ih=>
  intro h n fs tc w h0 h1 h2 h4 h5
  by_cases hm:m<=1
  ·have e:∀g K,run (.pick m k) (.mk g n fs tc w) K=run (k 0) (.mk g n fs tc w) K:=fun g K=>by
    show ac (Nat.ble m 1) (run (k 0) (.mk g n fs tc w) K) _=_
    rw[ax,if_pos (Nat.ble_eq.mpr hm)]
   rcases ih 0 h n fs tc w h0 h1 h2 h4 h5 with hf|⟨a,h',n',tc',w',L⟩
   ·exact .inl fun K=>by rw[e];exact hf K
   ·refine .inr ⟨a,h',n',tc',w',fun K=>by rw[e];exact L.run K,L.le,L.lid,L.tch,L.wrt,L.sub,L.low,L.same,fun g hg=>?_⟩
    obtain⟨g',r1,r2,r3⟩:=L.like g hg
    exact⟨g',fun K=>by rw[e];exact r1 K,r2,r3⟩
  ·refine .inl fun K=>?_
   show ac (Nat.ble m 1) (run (k 0) (.mk h n fs tc w) K) (ac (Nat.beq fs 0) (gM _ m) false)=_
   have e1:Nat.ble m 1=false:=by
    cases hb:Nat.ble m 1 with
    |false=>rfl
    |true=>exact absurd (Nat.ble_eq.mp hb) hm
   have e2:Nat.beq fs 0=false:=by
    cases hb:Nat.beq fs 0 with
    |false=>rfl
    |true=>have:=aad hb;omega
   rw[e1,e2];rfl
 |sub t k iht ihk=>
  intro h n fs tc w h0 h1 h2 h4 h5
  have Zh:fs≠0:=by omega
  rcases iht h n n .leaf [] (by omega) (aaa _) h2 (by simp) (fun b hb=>by simp [T.get] at hb) with hf|⟨a1,h1',n1,t1,w1,L1⟩
  ·exact .inl fun K=>by rw[gf];exact hf _
  ·have hk1:∀b∈T.keys t1 id [],b+1<2 ^ 64/\b<n:=fun b hb=>by
    rcases sK t1 id [] b hb with hb|⟨x,u,e,hx⟩
    ·cases hb
    ·have:=L1.low x hx
     have e':b=x:=e
     subst e'
     omega
   have Y1:∀b∈T.keys t1 id [],b+1<2 ^ 64:=fun b hb=>(hk1 b hb).1
   rcases ihk a1 n n1 t1 w1 h1' n1 fs (fg fs (T.keys t1 id []) tc) (eM fs w1 w) h0 (by have:=L1.le;omega) L1.lid (fun b hb=>by
     rcases lV _ _ _ hb with hb|⟨hb,f7⟩
     ·exact eE _ _ _ Y1 (h4 b hb)
     ·exact jh _ _ _ Y1 (by have:=T.mem_keys t1 id [] b () (L1.sub b hb);simpa using this) f7) (fun b hb=>by
     have key:∀(l:List Nat) (t:T Unit),(∀b,t.get b=some ()->b<fs)->∀b,(fg fs l t).get b=some ()->b<fs:=by
      intro l
      induction l with
      |nil=>intro t ht b hb;exact ht b hb
      |cons x l ih=>
       intro t ht b hb
       refine ih _ (fun y hy=>?_) b hb
       by_cases e:fs<=x
       ·rw[note,if_pos e] at hy;exact ht y hy
       ·by_cases ey:y=x
        ·omega
        ·rw[note,if_neg e,T.get_set_ne _ ey] at hy;exact ht y hy
     exact key _ _ h5 b hb) with hf|⟨a,h',n',tc',w',L⟩
   ·refine .inl fun K=>?_
    rw[gf,L1.run]
    simp only [Zh,if_false]
    exact hf K
   ·have t9:=L1.le
    have hle:=L.le
    have ah4:∀b,Rw n n1 t1 b->Rw fs n' tc' b:=fun b hb=>by
     rcases hb with hb|hb
     ·by_cases e:b<fs
      ·exact .inl (L.tch b (jh _ _ _ Y1 (by have:=T.mem_keys t1 id [] b () hb;simpa using this) e))
      ·have:=L1.low b hb
       exact .inr ⟨by omega,by omega⟩
     ·exact .inr ⟨by omega,by omega⟩
    have ae8:∀b,QE n n1 w1 b->QE fs n' w' b:=fun b hb=>by
     rcases hb with hb|hb
     ·by_cases e:b<fs
      ·exact .inl (L.wrt b (um _ _ _ hb e))
      ·have:=L1.low b (L1.sub b hb)
       exact .inr ⟨by omega,by omega⟩
     ·exact .inr ⟨by omega,by omega⟩
    refine .inr ⟨a,h',n',tc',w',fun K=>?_,by omega,L.lid,fun b hb=>L.tch b (eE _ _ _ Y1 hb),fun b hb=>L.wrt b (ji _ _ _ hb),L.sub,L.low,fun b hb=>?_,fun g hg=>?_⟩
    ·rw[gf,L1.run]
     simp only [Zh,if_false]
     exact L.run K
    ·rw[L.same b hb,L1.same b (fun hw=>hb (ae8 b hw))]
    ·obtain⟨g1,r1,r2,r3⟩:=L1.like g (fun b hb=>hg b (ah4 b hb))
     obtain⟨g',q1,q2,q3⟩:=L.like g1 (fun b hb=>by
      by_cases e:Rw n n1 t1 b
      ·exact r2 b e
      ·have hnw:¬QE n n1 w1 b:=fun hw=>e (by
        rcases hw with hw|hw
        ·exact .inl (L1.sub b hw)
        ·exact .inr hw)
       rw[r3 b hnw,L1.same b hnw];exact hg b hb)
     refine⟨g',fun K=>?_,q2,fun b hb=>?_⟩
     ·rw[gf,r1]
      simp only [Zh,if_false]
      exact q1 K
     ·rw[q3 b hb,r3 b (fun hw=>hb (ae8 b hw))]
 |ask p t e iht ihe=>
  intro h n fs tc w h0 h1 h2 h4 h5
  by_cases hp:p
  ·have e1:∀g K,run (.ask p t e) (.mk g n fs tc w) K=run t (.mk g n fs tc w) K:=fun g K=>eO _ _ _ _ hp
   rcases iht h n fs tc w h0 h1 h2 h4 h5 with hf|⟨a,h',n',tc',w',L⟩
   ·exact .inl fun K=>by rw[e1];exact hf K
   ·refine .inr ⟨a,h',n',tc',w',fun K=>by rw[e1];exact L.run K,L.le,L.lid,L.tch,L.wrt,L.sub,L.low,L.same,fun g hg=>?_⟩
    obtain⟨g',r1,r2,r3⟩:=L.like g hg
    exact⟨g',fun K=>by rw[e1];exact r1 K,r2,r3⟩
  ·have e1:∀g K,run (.ask p t e) (.mk g n fs tc w) K=run e (.mk g n fs tc w) K:=fun g K=>eP _ _ _ _ hp
   rcases ihe h n fs tc w h0 h1 h2 h4 h5 with hf|⟨a,h',n',tc',w',L⟩
   ·exact .inl fun K=>by rw[e1];exact hf K
   ·refine .inr ⟨a,h',n',tc',w',fun K=>by rw[e1];exact L.run K,L.le,L.lid,L.tch,L.wrt,L.sub,L.low,L.same,fun g hg=>?_⟩
    obtain⟨g',r1,r2,r3⟩:=L.like g hg
    exact⟨g',fun K=>by rw[e1];exact r1 K,r2,r3⟩
 |req p t ih=>
  intro h n fs tc w h0 h1 h2 h4 h5
  by_cases hp:p
  ·have e1:∀g K,run (.req p t) (.mk g n fs tc w) K=run t (.mk g n fs tc w) K:=fun g K=>eQ _ _ _ hp
   rcases ih h n fs tc w h0 h1 h2 h4 h5 with hf|⟨a,h',n',tc',w',L⟩
   ·exact .inl fun K=>by rw[e1];exact hf K
   ·refine .inr ⟨a,h',n',tc',w',fun K=>by rw[e1];exact L.run K,L.le,L.lid,L.tch,L.wrt,L.sub,L.low,L.same,fun g hg=>?_⟩
    obtain⟨g',r1,r2,r3⟩:=L.like g hg
    exact⟨g',fun K=>by rw[e1];exact r1 K,r2,r3⟩
  ·exact .inl fun K=>ou _ _ _ hp
 |sk p z k ih=>
  intro h n fs tc w h0 h1 h2 h4 h5
  rcases ih z.1 h n fs tc w h0 h1 h2 h4 h5 with hf|⟨a,h',n',tc',w',L⟩
  ·exact .inl fun K=>hf K
  ·exact .inr ⟨a,h',n',tc',w',fun K=>L.run K,L.le,L.lid,L.tch,L.wrt,L.sub,L.low,L.same,L.like⟩
end Go.Sym
namespace Go.Sym
noncomputable section
def DA(v:AV)(k:Bool->Tr):Tr:=match v with | .bool b=>k b | .sB p=>.ask p (k true) (k false)|_=>.fail
def QF(v:AV)(t e:Tr):Tr:=match v with
 | .bool b=>ac b t e
 | .anyB=>.pick 2 fun i=>Nat.rec (motive:=fun _=>Tr) t (fun _ _=>e) i
 | .sB p=>.ask p t e
 |_=>.fail
def kU(v:AV)(k:IntKind->Int->Tr):Tr:=match v with | .int j n=>k j n|_=>.fail
def Ih(v:AV)(k:List AV->Tr):Tr:=match v with | .agg l=>k l|_=>.fail
def fC(v:AV)(k:List AV->Tr):Tr:=match v with | .agg l=>k l | .opq _=>.fail|v=>k [v]
def un(n:Int)(k:Nat->Tr):Tr:=match n with | .ofNat a=>k a | .negSucc _=>.fail
def lW(l:List Nat):List AV:=l.map fun n=>.int .u8 (Int.ofNat n)
def dY(env:T AV)(x:Operand)(k:AV->Tr):Tr:=match x with
 | .tmp t=>T.getK env t .fail k
 | .const v=>cE (Rt 8 v) .fail k
 | .global g=>ac (Nat.ble (Nat.succ g) 1048576) (.rd g fun x=>match x with | .cells _ _ _ _ _ _ ro _=>ac ro (k (.ptr g 0 0)) .fail | .tab _ l=>k (.cptr (lW l))|_=>.fail) .fail
 | .func f=>k (.func (.func f) [] [])
def lX(env:T AV)(l:List Operand)(k:List AV->Tr):Tr:=
 List.rec (motive:=fun _=>(List AV->Tr)->Tr) (fun k=>k []) (fun x _ ih k=>dY env x fun a=>ih fun l=>k (a::l)) l k
def FF(env:T AV)(o:Option Operand)(k:Option AV->Tr):Tr:=match o with|none=>k none|some x=>dY env x fun a=>k (some a)
def gg(k:IntKind)(n:Int)(f:Int->Tr):Tr:=match k,n with
 | .i64,.ofNat a=>ac (Nat.ble a 9223372036854775807) (fN a fun a=>f (.ofNat a)) (fI (IntKind.wrap .i64 n) f)
 | .u64,.ofNat a=>fN (Nat.mod a 18446744073709551616) fun a=>f (.ofNat a)
 | .u32,.ofNat a=>fN (Nat.mod a 4294967296) fun a=>f (.ofNat a)
 | .u8,.ofNat a=>fN (Nat.mod a 256) fun a=>f (.ofNat a)
 | .u64,.negSucc a=>fN (Nat.sub 18446744073709551615 (Nat.mod a 18446744073709551616)) fun a=>f (.ofNat a)
 | .u32,.negSucc a=>fN (Nat.sub 4294967295 (Nat.mod a 4294967296)) fun a=>f (.ofNat a)
 | .u8,.negSucc a=>fN (Nat.sub 255 (Nat.mod a 256)) fun a=>f (.ofNat a)
 | .i64,.negSucc a=>ac (Nat.ble a 9223372036854775807) (fN a fun a=>f (.negSucc a)) (fI (IntKind.wrap .i64 n) f)
 |_,_=>fI (k.wrap n) f
def aj(k:IntKind):Nat:=match k with
 | .i8 | .u8=>256
 | .i16 | .u16=>65536
 | .i32 | .u32=>4294967296
 | .i64 | .u64=>18446744073709551616
def aL(m:Nat)(n:Int):Nat:=match n with
 | .ofNat a=>Nat.mod a m
 | .negSucc a=>Nat.sub (Nat.sub m 1) (Nat.mod a m)
def aY(k:IntKind):Nat:=match k with | .i8 | .u8=>8 | .i16 | .u16=>16 | .i32 | .u32=>32 | .i64 | .u64=>64
def Rx(op:BinOp)(x y:Int)(k:Bool->Tr)(z:Tr):Tr:=match x,y with
 | .ofNat a,.ofNat b=>(match op with
  | .eql=>k (Nat.beq a b) | .neq=>k (ac (Nat.beq a b) false true) | .lss=>k (Nat.ble (Nat.succ a) b) | .leq=>k (Nat.ble a b) | .gtr=>k (Nat.ble (Nat.succ b) a) | .geq=>k (Nat.ble b a)|_=>z)
 |_,_=>(match op with
  | .eql=>k (x==y) | .neq=>k (x !=y) | .lss=>k (x<y) | .leq=>k (x<=y) | .gtr=>k (x > y) | .geq=>k (x≥y)|_=>z)
def fD(b:Bool)(k:AV->Tr):Tr:=ac b (k (.bool true)) (k (.bool false))
def Wp(n:Int):Bool:=match n with | .ofNat 0=>true|_=>false
def DB(op:BinOp)(j:IntKind)(x y:Int)(k:AV->Tr):Tr:=match op with
 | .add=>gg j (Int.add x y) fun n=>k (.int j n)
 | .sub=>gg j (Int.sub x y) fun n=>k (.int j n)
 | .mul=>gg j (Int.mul x y) fun n=>k (.int j n)
 | .quo=>ac (Wp y) .fail (gg j (x.tdiv y) fun n=>k (.int j n))
 | .rem=>ac (Wp y) .fail (fI (x.tmod y) fun n=>k (.int j n))
 | .and=>gg j (.ofNat (Nat.land (aL (aj j) x) (aL (aj j) y))) fun n=>k (.int j n)
 | .or=>gg j (.ofNat (Nat.lor (aL (aj j) x) (aL (aj j) y))) fun n=>k (.int j n)
 | .xor=>gg j (.ofNat (Nat.xor (aL (aj j) x) (aL (aj j) y))) fun n=>k (.int j n)
 | .andNot=>gg j (.ofNat (Nat.land (aL (aj j) x) (Nat.sub (Nat.sub (aj j) 1) (aL (aj j) y)))) fun n=>k (.int j n)
 |op=>Rx op x y (fun b=>fD b k) .fail
def ky(a b:Nat):Nat:=ac (Nat.ble a b) a b
def Ii(op:BinOp)(j:IntKind)(x:Int)(y:Int)(k:AV->Tr):Tr:=un y fun n=>match op with
 | .shl=>gg j (Int.mul x (.ofNat (Nat.pow 2 (ky n (aY j))))) fun n=>k (.int j n)
 | .shr=>(match x with
  | .ofNat a=>fN (Nat.div a (Nat.pow 2 (ky n (aY j)))) fun n=>k (.int j (.ofNat n))
  | .negSucc _=>fI (x.fdiv (.ofNat (Nat.pow 2 (ky n (aY j))))) fun n=>k (.int j n))
 |_=>.fail
def xG:List Nat->List Nat->Bool
 | [],[]=>true
 |a::x,b::y=>ac (Nat.beq a b) (xG x y) false
 |_,_=>false
def uo:List Nat->List Nat->Bool
 |_,[]=>false
 | [],_::_=>true
 |a::x,b::y=>ac (Nat.ble (Nat.succ a) b) true (ac (Nat.beq a b) (uo x y) false)
def ne(l:List Nat)(k:List Nat->Tr):Tr:=List.rec (motive:=fun _=>(List Nat->Tr)->Tr) (fun k=>k []) (fun a _ ih k=>fN a fun a=>ih fun l=>k (a::l)) l k
def DC(op:BinOp)(x y:List Nat)(k:AV->Tr):Tr:=match op with
 | .add=>ne (x++y) fun l=>ac (Nat.ble (List.length l) 1000000000) (k (.str l)) .fail
 | .eql=>fD (xG x y) k
 | .neq=>fD (ac (xG x y) false true) k
 | .lss=>fD (uo x y) k
 | .leq=>fD (ac (uo x y) true (xG x y)) k
 | .gtr=>fD (ac (ac (uo x y) true (xG x y)) false true) k
 | .geq=>fD (ac (uo x y) false true) k
 |_=>.fail
def fE(l:List AV)(k:List AV->Tr):Tr:=List.rec (motive:=fun _=>(List AV->Tr)->Tr) (fun k=>k []) (fun a _ ih k=>ih fun l=>k (a::l)) l k
def cz(v:AV):Option (IntKind×Int):=match v with | .int k n=>some (k,n) | .sI k n=>some (k,n)|_=>none
def fF(v:AV):Option (List Nat):=match v with | .str s=>some s | .sS s=>some s|_=>none
def dA(v:AV):Option Prop:=match v with | .bool b=>some (b=true) | .sB p=>some p|_=>none
def A8(v:AV):Bool:=match v with | .sI _ _=>true | .sB _=>true | .sS _=>true|_=>false
def kE(j:IntKind)(n:Int)(f:Int->Tr):Tr:=match j with
 | .u8=>f (n%256)
 | .u16=>f (n%65536)
 | .u32=>f (n%4294967296)
 | .u64=>f (n%18446744073709551616)
 | .i64=>.ask (-9223372036854775808<=n/\n<=9223372036854775807) (f n) (f (IntKind.wrap .i64 n))
 |j=>f (j.wrap n)
def Ij(op:BinOp)(j:IntKind)(x y:Int)(k:AV->Tr):Tr:=match op with
 | .add=>kE j (x+y) fun n=>k (.sI j n)
 | .sub=>kE j (x-y) fun n=>k (.sI j n)
 | .mul=>kE j (x * y) fun n=>k (.sI j n)
 | .quo=>.req (y≠0) (.ask (0<=x/\0<y) (kE j (x/y) fun n=>k (.sI j n)) (kE j (x.tdiv y) fun n=>k (.sI j n)))
 | .rem=>.req (y≠0) (.ask (0<=x/\0<y) (k (.sI j (x%y))) (k (.sI j (x.tmod y))))
 | .and=>k (.sI j (j.wrap (.ofNat (Nat.land (aL (aj j) x) (aL (aj j) y)))))
 | .or=>k (.sI j (j.wrap (.ofNat (Nat.lor (aL (aj j) x) (aL (aj j) y)))))
 | .xor=>k (.sI j (j.wrap (.ofNat (Nat.xor (aL (aj j) x) (aL (aj j) y)))))
 | .andNot=>k (.sI j (j.wrap (.ofNat (Nat.land (aL (aj j) x) (Nat.sub (Nat.sub (aj j) 1) (aL (aj j) y))))))
 | .eql=>k (.sB (x=y))
 | .neq=>k (.sB (x≠y))
 | .lss=>k (.sB (x<y))
 | .leq=>k (.sB (x<=y))
 | .gtr=>k (.sB (y<x))
 | .geq=>k (.sB (y<=x))
 |_=>.fail
def xH(op:BinOp)(j:IntKind)(x y:Int)(k:AV->Tr):Tr:=un y fun n=>fN (Nat.pow 2 (ky n (aY j))) fun m=>match op with
 | .shl=>kE j (x * (m:Int)) fun n=>k (.sI j n)
 | .shr=>k (.sI j (x/(m:Int)))
 |_=>.fail
def sL(op:BinOp)(j:IntKind)(x y:Int)(k:AV->Tr):Tr:=.req (0<=y) (match op with
 | .shl=>kE j (x * ((2 ^ min y.toNat (aY j):Nat):Int)) fun n=>k (.sI j n)
 | .shr=>k (.sI j (x/((2 ^ min y.toNat (aY j):Nat):Int)))
 |_=>.fail)
def Un(v:AV):Bool:=match v with | .sI _ _=>true|_=>false
def Ik(op:BinOp)(x y:List Nat)(k:AV->Tr):Tr:=match op with
 | .add=>.req ((x++y).length<=1000000000) (k (.sS (x++y)))
 | .eql=>k (.sB (x=y))
 | .neq=>k (.sB (x≠y))
 | .lss=>k (.sB (uo x y=true))
 | .leq=>k (.sB (uo y x=false))
 | .gtr=>k (.sB (uo y x=true))
 | .geq=>k (.sB (uo x y=false))
 |_=>.fail
def NN(op:BinOp):Bool:=match op with | .shl=>true | .shr=>true|_=>false
def up(op:BinOp)(x y:AV)(k:AV->Tr):Tr:=match cz x,cz y with
 |some (j,a),some (j',b)=>ac (NN op) (ac (Un y) (sL op j a b k) (xH op j a b k)) (ac (decide (j=j')) (Ij op j a b k) .fail)
 |_,_=>(match fF x,fF y with
  |some a,some b=>Ik op a b k
  |_,_=>.fail)
def A9(op:UnOp)(x:AV)(k:AV->Tr):Tr:=match op,x with
 | .neg,.sI j n=>kE j (0-n) fun n=>k (.sI j n)
 | .xor,.sI j n=>k (.sI j (j.wrap (.ofNat (Nat.xor (aL (aj j) (if j.signed then -1 else j.max)) (aL (aj j) n)))))
 | .not,.sB p=>k (.sB (¬p))
 |_,_=>.fail
def pI(p:Prop):Int:=@ite Int p (Classical.propDecidable p) 1 0
def kV(s:List Nat):List Nat:=s.map (· % 256)
def DD:Nat->List AV->Option (List G×List AV)
 |0,cs=>some ([],cs)
 |n+1,a::r=>match cz a with
  |some (.u8,v)=>(match DD n r with|some (l,q)=>some (.int v::l,q)|none=>none)
  |_=>none
 |_+1,[]=>none
def Il(x:Sc)(cs:List AV)(z:Option (List G×List AV))(k:G->List AV->Option (List G×List AV)):Option (List G×List AV):=match cs with
 | []=>z
 |a::r=>(match x with
  | .i j=>(match cz a with|some (j',n)=>ac (decide (j=j')) (k (.int n) r) z|none=>z)
  | .b=>(match dA a with|some p=>k (.int (pI p)) r|none=>z)
  | .s=>(match fF a with|some l=>k (.str l) r|none=>z)
  | .o=>ac (fB a) (k (.int 0) r) z
  | .sl m=>(match a with | .nils=>k (.node []) r | .cv (.rows m' l)=>ac (Nat.beq m m') (k (.node l) r) z|_=>z)
  | .bs=>(match a with | .nils=>k (.str []) r | .cv (.bytes l)=>k (.str l) r|_=>z)
  | .h n=>(match DD n (a::r) with|some (l,q)=>k (.node l) q|none=>z))
def fi:List Sc->List AV->Option (List G×List AV)
 | [],cs=>some ([],cs)
 |x::xs,cs=>Il x cs none fun g r=>match fi xs r with|some (gs,r)=>some (g::gs,r)|none=>none
def dF(xs:List Sc):Nat->List AV->Option (List G×List AV)
 |0,cs=>some ([],cs)
 |n+1,cs=>match fi xs cs with
  |some (g,r)=>(match dF xs n r with|some (gs,r)=>some (.node g::gs,r)|none=>none)
  |none=>none
def fG:List AV->Option (List Int)
 | []=>some []
 |a::r=>match cz a with
  |some (.u8,n)=>(match fG r with|some l=>some (n::l)|none=>none)
  |_=>none
def bj:List Int->Prop
 | []=>True
 |x::l=>0<=x/\bj l
def aO:List Int->List Nat
 | []=>[]
 |x::l=>x.toNat::aO l
def Ct.app(c:Ct)(new:List AV)(n:Nat):Option (Ct×Prop):=match c with
 | .rows m l=>(match dF (cK m) n new with|some (gs,[])=>some (.rows m (l++gs),True)|_=>none)
 | .bytes s=>(match fG new with|some ns=>ac (Nat.beq ns.length n) (some (.bytes (s++aO ns),bj ns)) none|none=>none)
def Ct.upd(c:Ct)(i o:Nat)(new:List AV):Option (Ct×Prop):=match c with
 | .rows m l=>(match fi (cK m) ((c.row i).take o++new++(c.row i).drop (o+new.length)) with|some (gs,[])=>some (.rows m (l.set i (.node gs)),True)|_=>none)
 | .bytes s=>(match new with
  | [a]=>(match o,cz a with|0,some (.u8,n)=>some (.bytes (s.set i n.toNat),0<=n)|_,_=>none)
  |_=>none)
variable(P:Program)
def bJ(t:TypeId)(k:TypeDesc->Tr):Tr:=cE (P.underlying t) .fail k
def Im(t:TypeId)(k:TypeInfo->Tr):Tr:=cE (P.info? t) .fail k
def bW(t:TypeId)(k:Nat->Tr):Tr:=cE (P.info? t) .fail fun i=>fN i.size k
def cj(d:TypeDesc):Bool:=match d with | .struct _ | .array _ _=>true|_=>false
def lY(t:TypeId)(k:AV->Tr):Tr:=cE (P.info? t) .fail fun i=>cE i.zero .fail fun v=>cE (Rt 8 v) .fail k
def e_:Nat->TypeDesc->AV->AV->Option Bool
 |0,_,_,_=>none
 |f+1,d,x,y=>match d,x,y with
  | .bool,.bool a,.bool b=>some (a==b)
  | .int _,.int j a,.int j' b=>if j=j' then some (a==b) else none
  | .string,.str a,.str b=>some (xG a b)
  | .pointer _,.nilp,.nilp=>some true
  | .pointer _,.nilp,.ptr _ _ _=>some false
  | .pointer _,.ptr _ _ _,.nilp=>some false
  | .pointer e,.ptr b g o,.ptr b' g' o'=>if b=b'/\g=g' then(match P.info? e with|some i=>if i.size=0 then none else some (o==o')|none=>none) else none
  | .interface _,.nili,.nili=>some true
  | .interface _,.nili,.iface _ _=>some false
  | .interface _,.iface _ _,.nili=>some false
  | .interface _,.iface t a,.iface u b=>if t=u then(match P.info? t,P.underlying t with
   |some i,some d'=>if i.comparable && !cj d' then e_ f d' a b else none
   |_,_=>none) else some false
  | .slice _,.nils,.nils=>some true
  | .slice _,.nils,.slc .. =>some false
  | .slice _,.slc ..,.nils=>some false
  | .map _ _,.nilm,.nilm=>some true
  | .map _ _,.nilm,.map _=>some false
  | .map _ _,.map _,.nilm=>some false
  | .func _ _ _,.nilf,.nilf=>some true
  | .func _ _ _,.nilf,.func _ _ _=>some false
  | .func _ _ _,.func _ _ _,.nilf=>some false
  | .array len e,.agg xs,.agg ys=>match P.info? e,P.underlying e with
   |some i,some d'=>if i.size=1 && !cj d' && xs.length==len && ys.length==len then eqArr (e_ f d') xs ys else none
   |_,_=>none
  | .struct fs,.agg xs,.agg ys=>eqFs (e_ f) fs.toList xs ys
  |_,_,_=>none
where
 eqArr (q:AV->AV->Option Bool):List AV->List AV->Option Bool
  | [],[]=>some true
  |a::xs,b::ys=>match q a b with
   |some true=>eqArr q xs ys
   |r=>r
  |_,_=>none
 eqFs (q:TypeDesc->AV->AV->Option Bool):List Field->List AV->List AV->Option Bool
  | [],_,_=>some true
  |fd::fs,xs,ys=>if fd.name= "_" then eqFs q fs xs ys else
   match P.info? fd.type,P.underlying fd.type with
   |some i,some d'=>
    (match(if cj d' then some (AV.agg ((xs.drop fd.offset).take i.size)) else xs[fd.offset]?),(if cj d' then some (AV.agg ((ys.drop fd.offset).take i.size)) else ys[fd.offset]?) with
    |some a,some b=>(match q d' a b with
     |some true=>eqFs q fs xs ys
     |r=>r)
    |_,_=>none)
   |_,_=>none
def oZ(i:Nat):List Field->Option (List IntKind)
 | []=>some []
 |fd::fs=>if fd.name= "_" then none else if fd.offset=i then(match P.info? fd.type,P.underlying fd.type with
  |some _,some (.int j)=>(match oZ (i+1) fs with|some l=>some (j::l)|none=>none)
  |_,_=>none) else none
def uq(d:TypeDesc):Option (List IntKind):=match d with
 | .array n e=>(match P.info? e,P.underlying e with
  |some i,some (.int j)=>ac (Nat.beq i.size 1) (some (List.replicate n j)) none
  |_,_=>none)
 | .struct fs=>oZ P 0 fs.toList
 |_=>none
def dh:List IntKind->List AV->Option (List Int)
 | [],[]=>some []
 |j::ks,a::as=>(match cz a with
  |some (j',n)=>ac (decide (j=j')) (match dh ks as with|some l=>some (n::l)|none=>none) none
  |none=>none)
 |_,_=>none
def Wq(d:TypeDesc)(xs ys:List AV):Option Prop:=match uq P d with
 |some ks=>(match dh ks xs,dh ks ys with|some l,some m=>some (l=m)|_,_=>none)
 |none=>none
def DE(d:TypeDesc)(a b:List AV)(k:Bool->Tr)(ks:Prop->Tr):Tr:=match e_ P 16 d (.agg a) (.agg b) with
 |some r=>k r
 |none=>cE (Wq P d a b) .fail ks
def fH:Nat->TypeId->Bool
 |0,_=>false
 |f+1,t=>match P.underlying t with
  |some (.interface _)=>false
  |some (.struct fs)=>!P.stoodInHeld t && fs.toList.all fun fd=>fH f fd.type
  |some (.array _ e)=>fH f e
  |some _=>true
  |none=>false
def ur(lit:Bool)(x y:AV):Bool:=match x,y with
 | .nili,.nili=>lit
 | .opq _,_=>false
 |_,.opq _=>false
 | .anyB,_=>false
 |_,.anyB=>false
 | .anyI _,_=>false
 |_,.anyI _=>false
 | .osl _,_=>false
 |_,.osl _=>false
 | .opc _,_=>false
 |_,.opc _=>false
 | .sI _ _,_=>false
 |_,.sI _ _=>false
 | .sB _,_=>false
 |_,.sB _=>false
 | .sS _,_=>false
 |_,.sS _=>false
 | .any1,_=>false
 |_,.any1=>false
 | .cptr _,_=>false
 |_,.cptr _=>false
 | .cv _,_=>false
 |_,.cv _=>false
 | .gsl ..,_=>false
 |_,.gsl .. =>false
 | .gptr ..,_=>false
 |_,.gptr .. =>false
 |_,_=>true
def DF(op:BinOp):Bool:=match op with | .lss | .leq | .gtr | .geq=>true|_=>false
def oz(x:Operand):Bool:=match x with | .const _=>true|_=>false
def o_(lit:Bool)(op:BinOp)(t:TypeId)(x y:AV)(k:AV->Tr):Tr:=match op,x,y with
 | .shl,.int j a,.int _ b | .shr,.int j a,.int _ b=>Ii op j a b k
 |_,.int j a,.int j' b=>ac (decide (j=j')) (DB op j a b k) .fail
 |_,.str a,.str b=>DC op a b k
 | .eql,.agg a,.agg b=>ac (ac (P.eqGuardType P.depth t) false (fH P 16 t)) (bJ P t fun d=>DE P d a b (fun r=>fD r k) fun p=>k (.sB p)) .fail
 | .neq,.agg a,.agg b=>ac (ac (P.eqGuardType P.depth t) false (fH P 16 t)) (bJ P t fun d=>DE P d a b (fun r=>fD (ac r false true) k) fun p=>k (.sB (¬p))) .fail
 | .eql,x,y=>ac (ur lit x y) (bJ P t fun d=>cE (e_ P 16 d x y) .fail fun r=>fD r k) .fail
 | .neq,x,y=>ac (ur lit x y) (bJ P t fun d=>cE (e_ P 16 d x y) .fail fun r=>fD (ac r false true) k) .fail
 | .and,.anyI .i64,.int .i64 n=>ac (decide (n=3)) (.pick 4 fun i=>k (.int .i64 (.ofNat i))) .fail
 |op,.anyI j,.int j' _=>ac (decide (j=j')) (ac (DF op) (k .anyB) .fail) .fail
 |_,_,_=>.fail
def DG(x:AV)(k:AV->Tr):Tr:=match x with | .sB p=>.ask p (k (.bool true)) (k (.bool false))|x=>k x
def Uo(x y:AV):Bool:=match dA x,dA y with|some _,some _=>true|_,_=>false
def NO(x y:AV):Bool:=match x,y with | .cv _,.nils=>true | .gsl ..,.nils=>true|_,_=>false
def pF(x:AV):Nat:=match x with | .cv c=>c.len | .gsl _ _ n _=>n|_=>0
def In(op:BinOp)(t:TypeId)(x:AV)(k:AV->Tr):Tr:=bJ P t fun d=>match d,op with | .slice _,.eql=>.ask (pF x=0) (k .anyB) (k (.bool false)) | .slice _,.neq=>.ask (pF x=0) (k .anyB) (k (.bool true))|_,_=>.fail
def Io(lit:Bool)(op:BinOp)(t:TypeId)(x y:AV)(k:AV->Tr):Tr:=ac (NO x y) (In P op t x k) (ac (ac (A8 x) true (A8 y)) (ac (Uo x y) (DG x fun x=>DG y fun y=>o_ P lit op t x y k) (up op x y k)) (o_ P lit op t x y k))
def A_(op:UnOp)(x:AV)(k:AV->Tr):Tr:=match op,x with
 | .neg,.int j n=>gg j (Int.sub 0 n) fun n=>k (.int j n)
 | .xor,.int j n=>gg j (.ofNat (Nat.xor (aL (aj j) (if j.signed then -1 else j.max)) (aL (aj j) n))) fun n=>k (.int j n)
 | .not,.bool b=>fD (ac b false true) k
 |_,_=>.fail
def QG(op:UnOp)(x:AV)(k:AV->Tr):Tr:=ac (A8 x) (A9 op x k) (A_ op x k)
def NP(l:List AV)(i:Nat)(t:T Cell)(k:T Cell->Tr):Tr:=
 List.rec (motive:=fun _=>Nat->T Cell->(T Cell->Tr)->Tr) (fun _ t k=>k t) (fun a _ ih i t k=>T.setK t i (.mk 0 a) fun t=>fN (Nat.succ i) fun i=>ih i t k) l i t k
def lZ(fl ty:Nat)(l:List AV)(k:Nat->Tr):Tr:=NP l 0 .leaf fun t=>fN (List.length l) fun n=>.new (.cells t 0 0 n fl 0 false ty) k
def l_(ty:Nat)(l:List AV)(k:Nat->Tr):Tr:=lZ 0 ty l k
def ma(ty:Nat)(v:AV)(k:AV->Tr):Tr:=fC v fun l=>l_ ty l fun b=>k (.ptr b 0 0)
def Ip(c:T Cell)(g:Nat)(n:Nat)(o:Nat)(k:List AV->Tr):Tr:=
 Nat.rec (motive:=fun _=>Nat->(List AV->Tr)->Tr) (fun _ k=>k []) (fun _ ih o k=>T.getK c o .fail fun x=>match x with
  | .mk tag v=>ac (Nat.ble tag g) (fN (Nat.succ o) fun o=>ih o fun l=>k (v::l)) .fail) n o k
def jk(b g o n:Nat)(k:List AV->Tr):Tr:=.rd b fun x=>match x with | .cells c gen _ _ _ _ _ _=>ac (Nat.ble g gen) (Ip c g n o k) .fail|_=>.fail
def Iq(b g o:Nat)(k:AV->Tr):Tr:=.rd b fun x=>match x with
 | .cells c gen _ _ _ _ _ _=>ac (Nat.ble g gen) (T.getK c o .fail fun x=>(match x with | .mk tag v=>ac (Nat.ble tag g) (k v) .fail)) .fail
 |_=>.fail
def xI(t:TypeId)(x:AV)(k:AV->Tr):Tr:=match x with
 | .ptr b g o=>bJ P t fun d=>ac (cj d) (bW P t fun n=>jk b g o n fun l=>k (.agg l)) (Iq b g o k)
 | .cptr l=>bJ P t fun d=>ac (cj d) (bW P t fun n=>fE (l.take n) fun r=>ac (Nat.beq r.length n) (k (.agg r)) .fail) (cE l[0]? .fail k)
 | .gptr b g i o es=>.rd b fun q=>(match q with
  | .grow c gen _=>ac (Nat.beq g gen) (ac (Nat.beq es c.es) (.req (i<c.len) (bJ P t fun d=>ac (cj d) (bW P t fun m=>fE (((c.row i).drop o).take m) fun r=>ac (Nat.beq r.length m) (k (.agg r)) .fail) (cE (c.row i)[o]? .fail k))) .fail) .fail
  |_=>.fail)
 |_=>.fail
def Ry(g fl fh:Nat)(l:List AV)(o:Nat)(c:T Cell)(k:T Cell->Tr):Tr:=
 List.rec (motive:=fun _=>Nat->T Cell->(T Cell->Tr)->Tr) (fun _ c k=>k c) (fun v _ ih o c k=>
  ac (fB v) (ac (ac (Nat.ble fl o) (Nat.ble (Nat.succ o) fh) false) .fail (T.getK c o .fail fun x=>match x with | .mk tag _=>ac (Nat.ble tag g) (T.setK c o (.mk g v) fun c=>fN (Nat.succ o) fun o=>ih o c k) .fail)) .fail) l o c k
def jZ(b g o:Nat)(l:List AV)(k:Tr):Tr:=.rd b fun x=>match x with
 | .cells c gen lo hi fl fh ro ty=>ac ro .fail (ac (Nat.beq g gen) (Ry g fl fh l o c fun c=>.wr b (.cells c gen lo hi fl fh false ty) k) .fail)
 |_=>.fail
def Ir(t:TypeId)(x v:AV)(k:Tr):Tr:=match x with
 | .ptr b g o=>bW P t fun n=>fC v fun l=>ac (Nat.beq (List.length l) n) (jZ b g o l k) .fail
 | .gptr b g i o es=>bW P t fun n=>fC v fun l=>ac (Nat.beq (List.length l) n) (ac (Nat.ble 1 n) (.rd b fun q=>(match q with
  | .grow c gen ty=>ac (Nat.beq g gen) (ac (Nat.beq es c.es) (ac (Nat.ble (o+n) es) (ac (l.all fB) (match c.upd i o l with
   |some (c',p)=>.req (i<c.len/\p) (.wr b (.grow c' gen ty) k)
   |none=>.fail) .fail) .fail) .fail) .fail
  |_=>.fail)) .fail) .fail
 |_=>.fail
def dG(cells:List AV)(off:Nat)(cs:List AV):List AV:=cells.take off++cs++cells.drop (off+cs.length)
def xJ(place:Nat->Option (Nat×Nat))(cells:List AV)(parts:List (Nat×AV))(k:List AV->Tr):Tr:=
 List.rec (motive:=fun _=>List AV->(List AV->Tr)->Tr) (fun cells k=>k cells) (fun p _ ih cells k=>
  cE (place p.1) .fail fun q=>fC p.2 fun cs=>ac (Nat.beq cs.length q.2) (ac (Nat.ble (q.1+q.2) cells.length) (fE (dG cells q.1 cs) fun cells=>ih cells k) .fail) .fail) parts cells k
def gN(env:T AV)(l:List (Nat×Operand))(k:List (Nat×AV)->Tr):Tr:=
 List.rec (motive:=fun _=>(List (Nat×AV)->Tr)->Tr) (fun k=>k []) (fun x _ ih k=>dY env x.2 fun a=>ih fun l=>k ((x.1,a)::l)) l k
def ut(fs:Array Field)(i:Nat):Option (Nat×Nat):=match fs[i]? with
 |some f=>(match P.info? f.type with|some i=>some (f.offset,i.size)|none=>none)
 |none=>none
def pc(fs:Array Field):Bool:=fs.toList.all fun f=>(P.info? f.type).isSome
def Is(t:TypeId)(parts:List (Nat×AV))(k:AV->Tr):Tr:=lY P t fun z=>bJ P t fun d=>match d with
 | .struct fs=>ac (pc P fs) (fC z fun z=>xJ (ut P fs) z parts fun l=>k (.agg l)) .fail
 | .array _ e=>bW P e fun n=>fC z fun z=>xJ (fun i=>some (i * n,n)) z parts fun l=>k (.agg l)
 |_=>.fail
def dl(z:List AV):Nat->List AV
 |0=>[]
 |n+1=>z++dl z n
def oA(t:TypeId)(len:Nat)(parts:List (Nat×AV))(k:AV->Tr):Tr:=bJ P t fun d=>match d with
 | .slice e=>bW P e fun n=>ac (Nat.ble (len * n) 1000000) (ac (Nat.ble 1 n) (lY P e fun z=>fC z fun z=>ac (Nat.beq z.length n)
   (xJ (fun i=>some (i * n,n)) (dl z len) parts fun l=>l_ e l fun b=>k (.slc b 0 0 len (some len) n)) .fail) .fail) .fail
 |_=>.fail
def cC(l:List Nat):List AV:=l.map fun b=>.int .u8 (.ofNat b)
def It(b g o:Nat)(u:TypeId)(n:Nat)(k:Tr):Tr:=.rd b fun q=>match q with
 | .cells c gen lo hi _ _ _ ty=>ac (Nat.ble g gen) (ac (Nat.beq lo 0) (T.getK c 0 .fail fun x=>match x with
  | .mk t0 _=>ac (Nat.ble t0 g) (fN (Nat.sub hi 1) fun h1=>T.getK c h1 .fail fun x=>match x with
   | .mk t1 _=>ac (Nat.ble t1 g) (ac (liesAt P P.depth ty (hi/P.cellsOf ty) o u n) k .fail) .fail) .fail) .fail) .fail
 |_=>.fail
def xK(src dst:TypeId)(x:AV)(k:AV->Tr):Tr:=bJ P src fun s=>bJ P dst fun d=>match s,d,x with
 |_,.int j,.sI _ n=>kE j n fun n=>k (.sI j n)
 |_,.string,.sS s=>k (.sS s)
 | .string,.slice e,.sS s=>bJ P e fun de=>(match de with
  | .int .u8=>.ask (0<s.length) (.new (.grow (.bytes s) 0 e) fun b=>k (.gsl b 0 s.length 1)) (lZ 1 e [] fun b=>k (.slc b 0 0 0 none 1))
  |_=>.fail)
 | .slice e,.string,.cv (.bytes s)=>bJ P e fun de=>(match de with | .int .u8=>k (.sS (kV s))|_=>.fail)
 | .slice e,.string,.gsl b g n es=>bJ P e fun de=>(match de with
  | .int .u8=>.rd b fun q=>(match q with
   | .grow (.bytes s) gen _=>ac (Nat.beq g gen) (ac (Nat.beq es 1) (.req (s.length=n) (k (.sS (kV s)))) .fail) .fail
   |_=>.fail)
  |_=>.fail)
 |_,_,_=>.fail
def DH:List AV->Option (List Nat)
 | []=>some []
 | .int .u8 (.ofNat n)::r=>if n<256 then(match DH r with|some l=>some (n::l)|none=>none) else none
 |_=>none
def Wr:List Int->Prop
 | []=>True
 |x::l=>(0<=x/\x<256)/\Wr l
def mb(l:List AV)(k:AV->Tr):Tr:=match DH l with
 |some l=>k (.str l)
 |none=>cE (fG l) .fail fun ns=>.req (Wr ns) (k (.sS (aO ns)))
def Iu(src dst:TypeId)(x:AV)(k:AV->Tr):Tr:=bJ P src fun s=>bJ P dst fun d=>match s,d,x with
 |_,.int j,.int _ n=>gg j n fun n=>k (.int j n)
 |_,.string,.str s=>k (.str s)
 | .string,.slice e,.str s=>bJ P e fun de=>(match de with
  | .int .u8=>fN (List.length s) fun n=>ac (Nat.ble n 1000000) (lZ 1 e (cC s) fun b=>k (.slc b 0 0 n none 1)) .fail
  |_=>.fail)
 | .slice _,.slice e,.slc b g o len cap es=>ac (Nat.beq src dst) (bJ P e fun de=>(match de with
  | .int .u8=>ac (Nat.ble 1 len) (.rd b fun q=>(match q with
   | .cells c gen lo hi fl fh ro ty=>ac ro .fail (ac (Nat.beq fh 0) (ac (Nat.ble g gen) (.wr b (.cells c gen lo hi 1 0 false ty) (k (.slc b g o len cap es))) .fail) .fail)
   |_=>.fail)) .fail
  |_=>.fail)) .fail
 | .pointer _,.unsafePointer,.nilp=>k .nilp
 | .pointer t0,.unsafePointer,.ptr b g o=>bW P t0 fun n=>ac (Nat.beq n 0) .fail (.rd b fun q=>(match q with
  | .cells c gen _ _ _ _ _ _=>ac (Nat.ble g gen) (T.getK c o .fail fun x=>(match x with | .mk tag _=>ac (Nat.ble tag g) (k (.ptr b g o)) .fail)) .fail
  |_=>.fail))
 | .unsafePointer,.pointer _,.nilp=>k .nilp
 | .unsafePointer,.pointer u,.ptr b g o=>bW P u fun _=>It P b g o u 1 (k (.ptr b g o))
 | .slice e,.string,x=>bJ P e fun de=>(match de,x with
  | .int .u8,.nils=>k (.str [])
  | .int .u8,.slc b g o len _ es=>ac (Nat.beq len 0) (k (.str [])) (jk b g o len fun l=>mb l k)
  |_,_=>.fail)
 |_,_,_=>.fail
def Ws(v:AV):Bool:=match v with | .sI _ _=>true | .sB _=>true | .sS _=>true | .cv _=>true | .gsl .. =>true|_=>false
def QH(src dst:TypeId)(x:AV)(k:AV->Tr):Tr:=ac (Ws x) (xK P src dst x k) (Iu P src dst x k)
def Iv(t:TypeId)(cs:List AV)(off:Nat)(k:AV->Tr):Tr:=bJ P t fun d=>
 ac (cj d) (bW P t fun n=>fE ((cs.drop off).take n) fun l=>k (.agg l)) (cE cs[off]? .fail k)
def Iw(t:TypeId)(x:AV)(i:Nat)(k:AV->Tr):Tr:=bJ P t fun d=>match d with
 | .struct fs=>cE fs[i]? .fail fun f=>Ih x fun cs=>Iv P f.type cs f.offset k
 |_=>.fail
def pG(t:TypeId)(x:AV)(i:Nat)(k:AV->Tr):Tr:=bJ P t fun d=>match d,x with
 | .struct fs,.ptr b g o=>cE fs[i]? .fail fun f=>bW P f.type fun n=>ac (Nat.beq n 0) .fail (fN (o+f.offset) fun o=>k (.ptr b g o))
 | .struct fs,.gptr b g m o es=>cE fs[i]? .fail fun f=>bW P f.type fun n=>ac (Nat.beq n 0) .fail (k (.gptr b g m (o+f.offset) es))
 | .struct fs,.cptr l=>cE fs[i]? .fail fun f=>bW P f.type fun n=>ac (Nat.beq n 0) .fail (ac (Nat.ble f.offset l.length) (fE (l.drop f.offset) fun l=>k (.cptr l)) .fail)
 |_,_=>.fail
def DI(t:TypeId)(c:Ct)(ix:AV)(k:AV->Tr):Tr:=bJ P t fun d=>match d,cz ix with
 | .slice e,some (_,i)=>bW P e fun s=>ac (Nat.beq s c.es) (.req (0<=i/\i<(c.len:Int)) (fE (c.row i.toNat) fun l=>k (.cptr l))) .fail
 |_,_=>.fail
def jl(t:TypeId)(x ix:AV)(k:AV->Tr):Tr:=kU ix fun _ i=>un i fun i=>bJ P t fun d=>match d,x with
 | .array len e,.ptr b g o=>ac (Nat.ble (Nat.succ i) len) (bW P e fun n=>fN (o+i * n) fun o=>k (.ptr b g o)) .fail
 | .slice e,.slc b g o len _ _=>ac (Nat.ble (Nat.succ i) len) (bW P e fun n=>fN (o+i * n) fun o=>k (.ptr b g o)) .fail
 |_,_=>.fail
def DJ(t:TypeId)(b g n es:Nat)(ix:AV)(k:AV->Tr):Tr:=bJ P t fun d=>match d,cz ix with
 | .slice e,some (_,i)=>bW P e fun s=>ac (Nat.beq s es) (.req (0<=i/\i<(n:Int)) (k (.gptr b g i.toNat 0 es))) .fail
 |_,_=>.fail
def jm(b:Nat)(l:List (Nat×Nat×Nat)):Bool:=List.rec (motive:=fun _=>Bool) true (fun x _ ih=>ac (Nat.beq x.2.1 b) false ih) l
def bz{α β:Type}(o:Option α)(k:α->Option β):Option β:=Option.rec (motive:=fun _=>Option β) none k o
def NH(c:T Cell)(g:Nat)(n o:Nat):Option (List AV):=
 Nat.rec (motive:=fun _=>Nat->Option (List AV)) (fun _=>some []) (fun _ ih o=>T.getK c o none fun x=>match x with
  | .mk tag v=>ac (Nat.ble tag g) (fN (Nat.succ o) fun o=>bz (ih o) fun l=>some (v::l)) none) n o
def kF(cap:Option Nat)(len:Nat):Nat:=match cap with|some k=>k|none=>len
def NQ(loc:List (Nat×Nat×Nat))(b g o len:Nat)(cap:Option Nat)(es:Nat)(rows:Nat->List AV->(Ct->Nat->Tr)->Tr)(k:Ct->Nat->Tr):Tr:=.rd b fun q=>match q with
 | .cells c gen lo hi fl fh ro ty=>ac ro .fail (ac (Nat.beq gen g) (ac (Nat.beq lo 0) (ac (Nat.beq fl 0) (ac (Nat.beq fh 0) (ac (Nat.beq g g) (ac (Nat.beq o 0) (ac (Nat.ble 1 len) (ac (ac (jm b loc) (ac (Nat.ble 1 es) (Nat.ble len (kF cap len)) false) false)
   (cE (NH c g (kF cap len * es) 0) .fail fun as=>rows ty (as.take (len * es)) fun ct XI=>ac (Nat.beq ty XI) (ac (Nat.beq ct.es es) (.req (ct.len=len) (k ct ty)) .fail) .fail)
   .fail) .fail) .fail) .fail) .fail) .fail) .fail) .fail)
 |_=>.fail
def ng(loc:List (Nat×Nat×Nat))(b g o len:Nat)(cap:Option Nat)(es:Nat)(rows:Nat->List AV->(Ct->Nat->Tr)->Tr)(k:AV->Tr):Tr:=NQ loc b g o len cap es rows fun ct ty=>.wr b (.grow ct g ty) (k (.gsl b g len es))
def pH(m len:Nat)(ty:Nat)(as:List AV)(k:Ct->Nat->Tr):Tr:=cE (dF (cK m) len as) .fail fun q=>match q with|(gs,[])=>k (.rows m gs) ty|_=>.fail
def pJ(ty:Nat)(as:List AV)(k:Ct->Nat->Tr):Tr:=cE (fG as) .fail fun ns=>.req (bj ns) (k (.bytes (aO ns)) ty)
def pd(e:TypeId)(len:Nat):Option (Nat->List AV->(Ct->Nat->Tr)->Tr):=match P.underlying e with
 |some (.int .u8)=>some pJ
 |some (.int .u32)=>some (pH 9 len)
 |some (.int .i64)=>some (pH 8 len)
 |some (.int .u64)=>some (pH 10 len)
 |_=>none
def Ix(t:TypeId)(b g o:Nat)(ix:AV)(k:AV->Tr):Tr:=bJ P t fun d=>match d,cz ix with
 | .array len e,some (_,i)=>bW P e fun s=>ac (Nat.beq o 0) (ac (Nat.beq s 1) (.req (0<=i/\i<(len:Int)) (.rd b fun q=>(match q with
  | .grow c gen _=>ac (Nat.beq g gen) (ac (Nat.beq c.es 1) (.req (0<c.len) (k (.gptr b g i.toNat 0 1))) .fail) .fail
  |_=>ac (Nat.beq g 0) (cE (pd P e len) .fail fun rows=>ng [] b g 0 len (some len) 1 rows fun _=>k (.gptr b 0 i.toNat 0 1)) .fail))) .fail) .fail
 |_,_=>.fail
def Iy(t:TypeId)(l:List AV)(ix:AV)(k:AV->Tr):Tr:=bJ P t fun d=>match d,cz ix with
 | .array len e,some (_,i)=>bW P e fun s=>ac (Nat.beq s 1) (cE (DH l) .fail fun bs=>ac (Nat.ble len bs.length) (.req (0<=i/\i<(len:Int)) (k (.cptr [.sI .u8 ((bs.getD i.toNat 0:Nat):Int)]))) .fail) .fail
 |_,_=>.fail
def kW(t:TypeId)(x ix:AV)(k:AV->Tr):Tr:=match x with
 | .cptr l=>Iy P t l ix k
 | .cv c=>DI P t c ix k
 | .gsl b g n es=>DJ P t b g n es ix k
 | .ptr b g o=>ac (Un ix) (Ix P t b g o ix k) (jl P t (.ptr b g o) ix k)
 |x=>jl P t x ix k
def Iz(t:TypeId)(s:List Nat)(i:Int)(k:AV->Tr):Tr:=bJ P t fun d=>match d with
 | .string=>.req (0<=i/\i<(s.length:Int)) (k (.sI .u8 ((dn s i.toNat:Nat):Int)))
 |_=>.fail
def DK(t:TypeId)(x ix:AV)(k:AV->Tr):Tr:=kU ix fun _ i=>un i fun i=>bJ P t fun d=>match d,x with
 | .array len e,.agg cs=>ac (Nat.ble (Nat.succ i) len) (bW P e fun n=>Iv P e cs (i * n) k) .fail
 | .string,.str s=>cE s[i]? .fail fun b=>fN b fun b=>k (.int .u8 (.ofNat b))
 |_,_=>.fail
def IA(t:TypeId)(x ix:AV)(k:AV->Tr):Tr:=ac (ac (A8 x) true (A8 ix)) (match fF x,cz ix with|some s,some (_,i)=>Iz P t s i k|_,_=>.fail) (DK P t x ix k)
def jn(o:Option AV)(dflt top:Nat)(k:Nat->Tr):Tr:=match o with
 |none=>k dflt
 |some v=>kU v fun _ i=>un i fun i=>ac (Nat.ble i top) (k i) .fail
def IB(len:Nat)(lo hi mx:Option AV)(k:Nat->Nat->Nat->Tr)(m:Nat):Tr:=match hi,mx with
 |none,some _=>.fail
 |_,_=>jn hi len m fun h=>jn lo 0 h fun l=>k l h m
def im(len cap:Nat)(lo hi mx:Option AV)(k:Nat->Nat->Nat->Tr):Tr:=jn mx cap cap (IB len lo hi mx k)
def xL(b g o s l h m:Nat)(k:AV->Tr):Tr:=fN (h-l) fun len=>fN (m-l) fun cap=>
 ac (Nat.beq m l) (k (.slc b g o len (some cap) s)) (fN (o+l * s) fun o=>k (.slc b g o len (some cap) s))
def IC(b g o s l h:Nat)(k:AV->Tr):Tr:=fN (h-l) fun len=>ac (Nat.beq l 0) (k (.slc b g o len none s)) (fN (o+l * s) fun o=>k (.slc b g o len none s))
def DL(b g o len s:Nat)(lo hi mx:Option AV)(k:AV->Tr):Tr:=match mx with
 |none=>jn hi len len fun h=>jn lo 0 h fun l=>IC b g o s l h k
 |some _=>ac (Nat.beq len 0) .fail (im len len lo hi mx fun l h m=>xL b g o s l h m k)
def Ba(s:List Nat)(lo hi mx:Option AV)(k:AV->Tr):Tr:=match mx with
 |some _=>.fail
 |none=>fN s.length fun n=>im n n lo hi none fun l h _=>ne ((s.take h).drop l) fun r=>k (.str r)
def cD(o:Option AV)(dflt:Int)(k:Int->Tr):Tr:=match o with
 |none=>k dflt
 |some v=>(match cz v with|some (_,i)=>k i|none=>.fail)
def QI(o:Option AV):Bool:=match o with|some v=>A8 v|none=>false
def sM(t:TypeId)(x:AV)(lo hi mx:Option AV)(k:AV->Tr):Tr:=bJ P t fun d=>match mx,d,x with
 |none,.slice e,.cv c=>bW P e fun s=>ac (Nat.beq s c.es) (cD hi (c.len:Int) fun h=>cD lo 0 fun l=>.req (0<=l/\l<=h/\h<=(c.len:Int)) (k (.cv (c.cut l.toNat h.toNat)))) .fail
 |none,.string,x=>(match fF x with
  |some s=>cD hi (s.length:Int) fun h=>cD lo 0 fun l=>.req (0<=l/\l<=h/\h<=(s.length:Int)) (k (.sS ((s.take h.toNat).drop l.toNat)))
  |none=>.fail)
 |_,_,_=>.fail
def Rz(v:AV):Bool:=match v with | .cv _=>true|_=>false
def DM(t:TypeId)(x:AV)(lo hi mx:Option AV)(k:AV->Tr):Tr:=bJ P t fun d=>match d,x with
 | .array n e,.ptr b g o=>im n n lo hi mx fun l h m=>bW P e fun s=>xL b g o s l h m k
 | .string,.str s=>Ba s lo hi mx k
 | .slice e,.nils=>bW P e fun _=>im 0 0 lo hi mx fun _ _ _=>k .nils
 | .slice e,.slc b g o len (some c) s=>bW P e fun s'=>ac (Nat.beq s s') (im len c lo hi mx fun l h m=>xL b g o s l h m k) .fail
 | .slice e,.slc b g o len none s=>bW P e fun s'=>ac (Nat.beq s s') (DL b g o len s lo hi mx k) .fail
 |_,_=>.fail
def uv(t:TypeId)(x:AV)(lo hi mx:Option AV)(k:AV->Tr):Tr:=ac (ac (A8 x) true (ac (Rz x) true (ac (QI lo) true (QI hi)))) (sM P t x lo hi mx k) (DM P t x lo hi mx k)
def isNone(o:Option AV):Bool:=match o with|none=>true|_=>false
def uw(n:Nat)(c:Ct)(lo hi:Option AV)(k:AV->Tr):Tr:=cD hi (n:Int) fun h=>cD lo 0 fun l=>.req (0<=l/\l<=h/\h<=(n:Int)) (k (.cv (c.cut l.toNat h.toNat)))
def ID(t:TypeId)(b g o:Nat)(q:ABlk)(lo hi mx:Option AV)(k:AV->Tr):Tr:=bJ P t fun d=>match mx,d with
 |none,.array n e=>bW P e fun s=>ac (Nat.beq o 0) (match q with
  | .grow c gen _=>ac (Nat.beq g gen) (ac (Nat.beq c.es s) (ac (Nat.ble 1 n) (.req (c.len=n) (ac (ac (isNone lo) (isNone hi) false) (k (.gsl b g n s))
    (ac (Nat.ble (base+64) b) (.wr b (.froz c gen) (uw n c lo hi k)) .fail))) .fail) .fail) .fail
  | .froz c gen=>ac (Nat.beq g gen) (ac (Nat.beq c.es s) (ac (Nat.ble 1 n) (.req (c.len=n) (uw n c lo hi k)) .fail) .fail) .fail
  |_=>.fail) .fail
 |_,_=>.fail
def Wt(q:ABlk):Bool:=match q with | .grow _ _ _=>true | .froz _ _=>true|_=>false
def QJ(t:TypeId)(b g n es:Nat)(lo hi mx:Option AV)(k:AV->Tr):Tr:=bJ P t fun d=>match mx,d with
 |none,.slice e=>bW P e fun s=>ac (Nat.beq s es) (cD hi (n:Int) fun h=>cD lo 0 fun l=>.ask (n=0) (.req (l=0/\h=0) (k (.gsl b g 0 es))) (.req (0<=l/\l<=h/\h<=(n:Int)) (k (.slc b g (l.toNat * es) (h-l).toNat none es)))) .fail
 |_,_=>.fail
def Bb(t:TypeId)(x:AV)(lo hi mx:Option AV)(k:AV->Tr):Tr:=match x with
 | .gsl b g n es=>QJ P t b g n es lo hi mx k
 | .ptr b g o=>.rd b fun q=>ac (Wt q) (ID P t b g o q lo hi mx k) (uv P t (.ptr b g o) lo hi mx k)
 |x=>uv P t x lo hi mx k
def xM(x:AV)(i:Nat)(k:AV->Tr):Tr:=match x with | .tup l=>cE l[i]? .fail k|_=>.fail
def pK(t:TypeId)(l c:AV)(k:AV->Tr):Tr:=kU l fun _ l=>kU c fun _ c=>un l fun l=>un c fun c=>bJ P t fun d=>match d with
 | .slice e=>ac (Nat.ble l c) (ac (Nat.ble c 1000000) (Im P e fun i=>ac (Nat.ble i.bytes 1000) (fN i.size fun n=>ac (Nat.ble 1 n) (lY P e fun z=>fC z fun z=>ac (Nat.beq z.length n)
   (fE (dl z c) fun r=>l_ e r fun b=>k (.slc b 0 0 l (some c) n)) .fail) .fail) .fail) .fail) .fail
 |_=>.fail
def Bc(x:AV)(k:Nat->Tr):Tr:=match x with
 | .nils=>k 0
 | .slc _ _ _ len _ _=>k len
 | .str s=>fN s.length k
 |_=>.fail
def jo(size n:Nat)(x:AV)(k:List AV->Tr):Tr:=match x with
 | .nils=>k []
 | .slc b g o _ _ _=>ac (Nat.beq (n * size) 0) (k []) (fN (n * size) fun m=>jk b g o m k)
 | .str s=>ac (Nat.beq size 1) (ne (s.take n) fun s=>fE (cC s) k) .fail
 |_=>.fail
def IE(g:Nat)(l:List AV)(i:Nat)(t:T Cell)(k:T Cell->Tr):Tr:=
 List.rec (motive:=fun _=>Nat->T Cell->(T Cell->Tr)->Tr) (fun _ t k=>k t) (fun a _ ih i t k=>ac (fB a) (T.setK t i (.mk g a) fun t=>fN (Nat.succ i) fun i=>ih i t k) .fail) l i t k
def kX(e:TypeId)(size:Nat)(old new:List AV)(lJ:Nat)(k:AV->Tr):Tr:=
 fE (old++new) fun l=>l_ e l fun b=>k (.slc b 0 0 lJ none size)
def Up(e:Nat)(b g o len size n lJ:Nat)(new:List AV)(k:AV->Tr):Tr:=.rd b fun q=>match q with
 | .cells c gen lo hi fl fh ro ty=>ac ro .fail (ac (Nat.beq g gen) (ac (Nat.beq o lo) (ac (Nat.beq (o+len * size) hi) (ac (Nat.ble fh hi) (ac (Nat.beq ty e)
   (fN (Nat.succ gen) fun g'=>IE g' new hi c fun c=>fN (hi+n * size) fun hi'=>.wr b (.cells c g' lo hi' fl fh false e) (k (.slc b g' o lJ none size))) .fail) .fail) .fail) .fail) .fail)
 |_=>.fail
def IF(e:TypeId)(b g len size n:Nat)(new:List AV)(k:AV->Tr):Tr:=.rd b fun q=>match q with
 | .grow c gen ty=>ac (Nat.beq g gen) (ac (Nat.beq c.es size) (ac (Nat.beq ty e) (ac (Nat.beq new.length (n * size)) (ac (new.all fB) (match c.app new n with
   |some (c',p)=>.req (c.len=len/\len<=1000000000/\p) (.wr b (.grow c' (gen+1) ty) (k (.gsl b (gen+1) (len+n) size)))
   |none=>.fail) .fail) .fail) .fail) .fail) .fail
 |_=>.fail
def jq(e:TypeId)(size n:Nat)(new:List AV)(s:AV)(k:AV->Tr):Tr:=match s with
 | .gsl b g len es=>ac (Nat.beq es size) (ac (Nat.beq n 0) (k (.gsl b g len es)) (IF e b g len size n new k)) .fail
 | .nils=>ac (Nat.beq n 0) (k .nils) (kX e size [] new n k)
 | .slc b g o len cap es=>ac (Nat.beq es size) (ac (Nat.ble len 1000000) (ac (Nat.beq n 0) (k (.slc b g o len cap es))
   (fN (len+n) fun lJ=>match cap with
    |some c=>ac (Nat.ble lJ c) (fN (o+len * size) fun p=>jZ b g p new (k (.slc b g o lJ (some c) es)))
      (jo size len s fun old=>kX e size old new lJ k)
    |none=>Up e b g o len size n lJ new k)) .fail) .fail
 |_=>.fail
def Bd(x:AV):Option (List Nat):=match x with
 | .sS t=>some t
 | .cv (.bytes t)=>some t
 |_=>none
def QK(e:TypeId)(b g len:Nat)(t:List Nat)(k:AV->Tr):Tr:=.rd b fun q=>match q with
 | .grow (.bytes l0) gen ty=>ac (Nat.beq g gen) (ac (Nat.beq ty e) (.req (l0.length=len/\len<=1000000000/\t.length<=1000000) (.wr b (.grow (.bytes (l0++t)) (gen+1) ty) (k (.gsl b (gen+1) (len+t.length) 1)))) .fail) .fail
 |_=>.fail
def xN(e:TypeId)(t:List Nat)(k:AV->Tr)(a:AV):Tr:=match a with
 | .gsl b g len es=>ac (Nat.beq es 1) (QK e b g len t k) .fail
 |_=>.fail
def ux(cap:Option Nat):Bool:=match cap with|some 0=>true|_=>false
def pe(e:TypeId)(size:Nat)(t:List Nat)(s:AV)(k:AV->Tr):Tr:=ac (Nat.beq size 1) (match s with
 | .gsl b g len es=>xN e t k (.gsl b g len es)
 | .nils=>.new (.grow (.bytes []) 0 e) fun b=>xN e t k (.gsl b 0 0 1)
 | .slc b g o len cap es=>ac (Nat.beq es 1) (ac (Nat.beq len 0) (ac (ux cap) (.new (.grow (.bytes []) 0 e) fun b=>xN e t k (.gsl b 0 0 1)) .fail) (ng [] b g o len cap 1 pJ (xN e t k))) .fail
 |_=>.fail) .fail
def sN(e:TypeId)(size m:Nat)(l:List G)(k:AV->Tr)(a:AV):Tr:=match a with
 | .gsl b g len es=>ac (Nat.beq es size) (.rd b fun q=>match q with
  | .grow (.rows m0 l0) gen ty=>ac (Nat.beq g gen) (ac (Nat.beq ty e) (ac (Nat.beq m0 m) (ac (Nat.beq (bp (cK m)) size) (.req (l0.length=len/\len<=1000000000/\l.length<=1000000) (.wr b (.grow (.rows m (l0++l)) (gen+1) ty) (k (.gsl b (gen+1) (len+l.length) es)))) .fail) .fail) .fail) .fail
  |_=>.fail) .fail
 |_=>.fail
def j_(e:TypeId)(size m:Nat)(l:List G)(s:AV)(k:AV->Tr):Tr:=match s with
 | .gsl b g len es=>sN e size m l k (.gsl b g len es)
 | .nils=>.new (.grow (.rows m []) 0 e) fun b=>sN e size m l k (.gsl b 0 0 size)
 | .slc b g o len cap es=>ac (Nat.beq es size) (ac (Nat.beq len 0) (ac (ux cap) (.new (.grow (.rows m []) 0 e) fun b=>sN e size m l k (.gsl b 0 0 size)) .fail) (ng [] b g o len cap es (pH m len) (sN e size m l k))) .fail
 |_=>.fail
def DN(x:AV):Option (Nat×List G):=match x with | .cv (.rows m l)=>some (m,l)|_=>none
def DO(e:TypeId)(size:Nat)(s x:AV)(k:AV->Tr):Tr:=match x with
 | .gsl b g n es=>.rd b fun q=>match q with
  | .grow (.bytes t) gen _=>ac (Nat.beq g gen) (ac (Nat.beq es 1) (.req (t.length=n) (pe e size t s k)) .fail) .fail
  | .grow (.rows m l) gen _=>ac (Nat.beq g gen) (ac (Nat.beq es (bp (cK m))) (.ask (l.length=n) (j_ e size m l s k) (.req (n<=l.length) (j_ e size m (l.take n) s k))) .fail) .fail
  |_=>.fail
 | .slc b g o n none es=>.rd b fun q=>match q with
  | .grow (.rows m l) gen _=>ac (Nat.beq g gen) (ac (Nat.beq es (bp (cK m))) (.req (o=o/es * es/\o/es+n<=l.length) (j_ e size m ((l.drop (o/es)).take n) s k)) .fail) .fail
  |_=>Bc (.slc b g o n none es) fun n'=>ac (Nat.ble n' 1000000) (jo size n' (.slc b g o n none es) fun new=>jq e size n' new s k) .fail
 |x=>match DN x with
  |some (m,l)=>j_ e size m l s k
  |none=>match Bd x with
   |some t=>pe e size t s k
   |none=>Bc x fun n=>ac (Nat.ble n 1000000) (jo size n x fun new=>jq e size n new s k) .fail
def DP(e:TypeId)(s x:AV)(k:AV->Tr):Tr:=Im P e fun i=>ac (Nat.ble i.bytes 1000) (fN i.size fun size=>ac (Nat.ble 1 size)
 (lY P e fun z=>fC z fun z=>ac (Nat.beq z.length size) (DO e size s x k) .fail) .fail) .fail
def uy(tys:Array TypeId)(args:List AV)(k:AV->Tr):Tr:=match tys[0]?,tys[1]?,args with
 |some ts,some tx,[s,x]=>bJ P ts fun d=>bJ P tx fun dx=>(match d,dx with
  |_,.int _=>.fail
  | .slice e,_=>DP P e s x k
  |_,_=>.fail)
 |_,_,_=>.fail
def Be(tys:Array TypeId)(args:List AV)(k:AV->Tr):Tr:=match tys[0]?,args with
 |some t,[x]=>bJ P t fun d=>(match d,x with
  | .string,.str s=>fN s.length fun n=>k (.int .i64 (.ofNat n))
  | .array n _,_=>k (.int .i64 (.ofNat n))
  | .slice _,.nils=>k (.int .i64 0)
  | .slice _,.slc _ _ _ len _ _=>k (.int .i64 (.ofNat len))
  | .slice _,.osl _=>k (.anyI .i64)
  | .slice _,.cv c=>k (.sI .i64 (c.len:Int))
  | .slice _,.gsl _ _ n _=>k (.sI .i64 (n:Int))
  | .string,.sS s=>k (.sI .i64 (s.length:Int))
  | .map _ _,.nilm=>k (.int .i64 0)
  | .map _ _,.map b=>.rd b fun q=>(match q with | .mapo es _=>fN es.length fun n=>k (.int .i64 (.ofNat n)) | .smap _ l=>k (.sI .i64 (l.length:Int))|_=>.fail)
  |_,_=>.fail)
 |_,_=>.fail
def pL(args:List AV)(k:AV->Tr):Tr:=match args with
 | [.nils]=>k .nilp
 | [.slc b g o len cap _]=>ac (match cap with|some c=>Nat.ble 1 c|none=>Nat.ble 1 len) (k (.ptr b g o)) .fail
 |_=>.fail
def IG(tys:Array TypeId)(args:List AV)(k:AV->Tr):Tr:=match tys[0]?,args with
 |some pt,[x,.int _ n]=>un n fun n=>bJ P pt fun d=>(match d,x with
  | .pointer e,.nilp=>ac (Nat.beq n 0) (k (.str [])) .fail
  | .pointer e,.ptr b g o=>ac (Nat.beq n 0) (k (.str [])) (ac (Nat.ble n 1000000) (bJ P e fun de=>(match de with
   | .int .u8=>It P b g o e n (.rd b fun q=>(match q with
    | .cells c gen lo hi fl fh ro ty=>ac ro .fail (ac (Nat.ble fl fh) (Ip c g n o fun l=>cE (DH l) .fail fun bs=>
     ac (Nat.beq fl fh) (fN (o+n) fun e2=>.wr b (.cells c gen lo hi o e2 false ty) (k (.str bs)))
      (fN (ac (Nat.ble fl o) fl o) fun l2=>fN (ac (Nat.ble fh (o+n)) (o+n) fh) fun e2=>.wr b (.cells c gen lo hi l2 e2 false ty) (k (.str bs)))) .fail)
    |_=>.fail))
   |_=>.fail)) .fail)
  |_,_=>.fail)
 |_,_=>.fail
def QL(b g len:Nat)(t:List Nat)(k:AV->Tr):Tr:=.rd b fun q=>match q with
 | .grow (.bytes l0) gen ty=>ac (Nat.beq g gen) (.req (l0.length=len) (.wr b (.grow (.bytes (t.take len++l0.drop t.length)) gen ty) (k (.sI .i64 ((min t.length len:Nat):Int))))) .fail
 |_=>.fail
def IH(t:List Nat)(k:AV->Tr)(a:AV):Tr:=match a with
 | .gsl b g len es=>ac (Nat.beq es 1) (QL b g len t k) .fail
 |_=>.fail
def Uq(t:List Nat)(d:AV)(k:AV->Tr):Tr:=match d with
 | .gsl b g len es=>IH t k (.gsl b g len es)
 | .slc b g o len cap es=>ac (Nat.beq es 1) (ng [] b g o len cap 1 pJ (IH t k)) .fail
 |_=>.fail
def Bf(tys:Array TypeId)(args:List AV)(k:AV->Tr):Tr:=match tys[0]?,args with
 |some t,[d,x]=>bJ P t fun dd=>(match dd,d with
  | .slice e,.nils=>bW P e fun size=>ac (Nat.ble 1 size) (Bc x fun n=>jo size 0 x fun _=>k (.int .i64 0)) .fail
  | .slice e,.slc b g o len _ _=>bW P e fun size=>ac (Nat.ble 1 size) (Bc x fun n=>fN (ky n len) fun m=>jo size m x fun l=>
    ac (Nat.beq m 0) (k (.int .i64 (.ofNat m))) (jZ b g o l (k (.int .i64 (.ofNat m))))) .fail
  |_,_=>.fail)
 |_,_=>.fail
def II(tys:Array TypeId)(args:List AV)(k:AV->Tr):Tr:=match args with
 | [d,x]=>(match Bd x with
  |some t=>(match tys[0]? with
   |some ty=>bJ P ty fun dd=>(match dd with
    | .slice e=>bW P e fun size=>ac (Nat.beq size 1) (Uq t d k) .fail
    |_=>.fail)
   |none=>.fail)
  |none=>Bf P tys [d,x] k)
 |_=>.fail
end
end Go.Sym
namespace Go.Sym
noncomputable section
variable(P:Program)
def cG:Nat->AV->AV->Bool
 |0,_,_=>false
 |f+1,x,y=>match x,y with
  | .bool a,.bool b=>a==b
  | .int j a,.int j' b=>ac (decide (j=j')) (a==b) false
  | .str a,.str b=>xG a b
  | .agg a,.agg b=>sameAll (cG f) a b
  |_,_=>false
where
 sameAll (q:AV->AV->Bool):List AV->List AV->Bool
  | [],[]=>true
  |a::x,b::y=>ac (q a b) (sameAll q x y) false
  |_,_=>false
def fJ(q:AV->AV->Option Bool)(key:AV):List ME->Nat->Option (Option (Nat×AV))
 | [],_=>some none
 | .mk k v _::es,i=>match q key k with
  |some true=>some (some (i,v))
  |some false=>fJ q key es (i+1)
  |none=>none
def xO:Nat->TypeId->Bool
 |0,_=>false
 |f+1,t=>match P.underlying t with
  |some .bool|some (.int _)|some .string=>true
  |some (.struct fs)=>!P.stoodInHeld t && fs.toList.all fun fd=>fd.name != "_" && xO f fd.type
  |some (.array _ e)=>xO f e
  |_=>false
def xP:Nat->TypeId->AV->Bool
 |0,_,_=>false
 |f+1,t,v=>match P.underlying t with
  |some .bool|some (.int _)|some .string=>true
  |some (.struct fs)=>(match v with
   | .agg l=>fs.toList.all fun fd=>match P.info? fd.type,P.underlying fd.type with
    |some i,some d=>(match(if cj d then some (AV.agg ((l.drop fd.offset).take i.size)) else l[fd.offset]?) with
     |some a=>xP f fd.type a
     |none=>false)
    |_,_=>false
   |_=>false)
  |some (.array n e)=>(match v,P.info? e,P.underlying e with
   | .agg l,some i,some d=>Nat.beq i.size 1 && !cj d && Nat.beq l.length n && l.all (xP f e)
   |_,_,_=>false)
  |_=>false
def IJ(x:AV)(k:Nat->List ME->Nat->Tr):Tr:=match x with
 | .map b=>.rd b fun q=>(match q with | .mapo es clock=>k b es clock|_=>.fail)
 |_=>.fail
def xQ(x:AV)(k:List ME->Tr):Tr:=match x with
 | .nilm=>k []
 | .map b=>.rd b fun q=>(match q with | .mapo es _=>k es|_=>.fail)
 |_=>.fail
def IK(kt:TypeId)(key:AV)(es:List ME)(k:Option (Nat×AV)->Tr):Tr:=
 ac (xO P 8 kt) (ac (xP P 8 kt key) (bJ P kt fun d=>cE (fJ (e_ P 16 d) key es 0) .fail k) .fail) .fail
def IL(x:AV)(k1:Nat->Nat->List G->Tr)(k0:Tr):Tr:=match x with
 | .map b=>.rd b fun q=>(match q with | .smap m l=>k1 b m l|_=>k0)
 |_=>k0
def FG(m:Nat)(d:TypeDesc):Bool:=match(bC m).ka with
 |true=>(match uq P d with|some ks=>decide (ks=(bC m).ks)|none=>false)
 |false=>(match d with | .int j=>decide ((bC m).ks= [j])|_=>false)
def RA(m:Nat)(ix:AV):Option (List Int):=match(bC m).ka,ix with
 |true,.agg xs=>dh (bC m).ks xs
 |true,_=>none
 |false,a=>dh (bC m).ks [a]
def IM(m:Nat)(kt:TypeId)(ix:AV)(k:List Int->Tr):Tr:=
 ac (xO P 8 kt) (ac (xP P 8 kt ix) (bJ P kt fun d=>ac (FG P m d) (cE (RA m ix) .fail k) .fail) .fail) .fail
def RB(m:Nat)(v:AV):Option (List G):=match(bC m).va,v with
 |true,.agg l=>(match fi (bC m).vs l with|some (gs,[])=>some gs|_=>none)
 |true,_=>none
 |false,a=>(match fi (bC m).vs [a] with|some ([g],[])=>some [g]|_=>none)
def RC(kt e:TypeId)(m:Nat)(l:List G)(ix:AV)(ok:Bool)(k:AV->Tr):Tr:=IM P m kt ix fun ns=>
 .ask (kT m l ns) (ac ok (k (.tup [iU m (dW m l ns),.bool true])) (k (iU m (dW m l ns)))) (lY P e fun z=>ac ok (k (.tup [z,.bool false])) (k z))
def xR(t:TypeId)(x ix:AV)(ok:Bool)(k:AV->Tr):Tr:=bJ P t fun d=>match d with
 | .map kt e=>xQ x fun es=>IK P kt ix es fun r=>(match r with
    |some (_,v)=>ac ok (k (.tup [v,.bool true])) (k v)
    |none=>lY P e fun z=>ac ok (k (.tup [z,.bool false])) (k z))
 |_=>.fail
def DQ(t:TypeId)(x ix:AV)(ok:Bool)(k:AV->Tr):Tr:=IL x (fun _ m l=>bJ P t fun d=>match d with
 | .map kt e=>RC P kt e m l ix ok k
 |_=>.fail) (xR P t x ix ok k)
def DS(es:List ME)(i:Nat)(key v:AV):List ME:=match es[i]? with
 |some (.mk _ _ n)=>es.set i (.mk key v n)
 |none=>es
def pM(l:List ME)(k:List ME->Tr):Tr:=List.rec (motive:=fun _=>(List ME->Tr)->Tr) (fun k=>k []) (fun a _ ih k=>ih fun l=>k (a::l)) l k
def oB(t:TypeId)(x key v:AV)(k:Tr):Tr:=bJ P t fun d=>match d with
 | .map kt e=>IJ x fun b es clock=>IK P kt key es fun r=>(match r with
   |some (i,_)=>(match es[i]? with
    |some (.mk old _ _)=>ac (cG 8 old key) (pM (DS es i key v) fun es=>.wr b (.mapo es clock) k) .fail
    |none=>.fail)
   |none=>pM (es++ [.mk key v clock]) fun es=>fN (Nat.succ clock) fun c=>.wr b (.mapo es c) k)
 |_=>.fail
def pN(t:TypeId)(x key v:AV)(k:Tr):Tr:=IL x (fun b m l=>bJ P t fun d=>match d with
 | .map kt e=>IM P m kt key fun ns=>cE (RB m v) .fail fun vs=>.wr b (.smap m (cL m l ns vs)) k
 |_=>.fail) (oB P t x key v k)
def IN(t:TypeId)(x:AV)(k:AV->Tr):Tr:=bJ P t fun d=>match d,x with
 | .string,.str s=>.new (.siter s 0) fun b=>k (.ptr b 0 0)
 | .map _ _,.nilm=>.new (.miter none 0 [] 0) fun b=>k (.ptr b 0 0)
 | .map _ _,.map m=>.rd m fun q=>(match q with | .mapo _ clock=>.new (.miter (some m) clock [] clock) fun b=>k (.ptr b 0 0)|_=>.fail)
 |_,_=>.fail
def uz(l:List Nat)(n:Nat):Bool:=List.rec (motive:=fun _=>Bool) false (fun a _ ih=>ac (Nat.beq a n) true ih) l
def xS(seen:List Nat)(since:Nat):List ME->Option (List ME)
 | []=>some []
 | .mk a v n::es=>if n<since then(match xS seen since es with|some l=>some (ac (uz seen n) l (.mk a v n::l))|none=>none) else none
def QM(it:AV)(isStr:Bool)(k:AV->Tr):Tr:=match it with
 | .ptr b 0 0=>.rd b fun q=>(match q,isStr with
  | .siter s pos,true=>ac (Nat.ble (Nat.succ pos) s.length)
    (match s[pos]? with
     |some c=>ac (Nat.ble c 127) (fN (Nat.succ pos) fun p=>.wr b (.siter s p) (k (.tup [.bool true,.int .i64 (.ofNat pos),.int .i32 (.ofNat c)]))) .fail
     |none=>.fail) (k (.tup [.bool false]))
  | .miter none _ _ _,false=>k (.tup [.bool false])
  | .miter (some m) since seen stepped,false=>.rd m fun q=>(match q with
   | .mapo es clock=>ac (Nat.ble since stepped) (cE (xS seen since es) .fail fun left=>(match left with
    | []=>k (.tup [.bool false])
    |_=>.pick left.length fun i=>cE left[i]? .fail fun e=>(match e with
     | .mk key v n=>.wr b (.miter (some m) since (seen++ [n]) clock) (k (.tup [.bool true,key,v]))))) .fail
   |_=>.fail)
  |_,_=>.fail)
 |_=>.fail
def DT:List Nat->Option Nat
 | []=>none
 | [a]=>some a
 |_::l=>DT l
def jr(n:Nat):List ME->Option (AV×AV)
 | []=>none
 | .mk a v m::es=>if m=n then some (a,v) else jr n es
def J0b(it:AV)(k:AV->Tr):Tr:=match it with
 | .ptr b 0 0=>.rd b fun q=>(match q with
  | .miter (some m) _ seen stepped=>cE (DT seen) .fail fun n=>.rd m fun q=>(match q with
   | .mapo es clock=>ac (Nat.beq clock stepped) (cE (jr n es) .fail fun p=>k (.tup [p.1,p.2])) .fail
   |_=>.fail)
  |_=>.fail)
 |_=>.fail
def sO(x:AV)(k:AV->Tr):Tr:=match x with
 | .ptr b g o=>k (.ptr b g o)
 | .cptr l=>k (.cptr l)
 | .func (.func f) l m=>k (.func (.func f) l m)
 | .func (.yield f) l m=>k (.func (.yield f) l m)
 |_=>.fail
def V1(a b:Int):Bool:=match a,b with
 | .ofNat a,.ofNat b=>Nat.ble (Nat.succ a) b
 |a,b=>decide (a<b)
def fK(mx:Bool):List AV->AV->(AV->Tr)->Tr
 | [],x,k=>k x
 |y::rest,x,k=>(match x,y with
  | .int j a,.int j' b=>ac (decide (j=j')) (ac (ac mx (V1 a b) (V1 b a)) (fK mx rest (.int j b) k) (fK mx rest (.int j a) k)) .fail
  |x,y=>(match cz x,cz y with
   |some (j,a),some (j',b)=>ac (decide (j=j')) (fK mx rest (.sI j (match mx with|true=>max a b|false=>min a b)) k) .fail
   |_,_=>.fail))
def pf(mx:Bool)(l:List AV)(k:AV->Tr):Tr:=match l with
 | []=>.fail
 |x::rest=>fK mx rest x k
def pO(x:AV)(k:AV->Tr):Tr:=match x with
 | .gsl b g n es=>.rd b fun q=>(match q with
  | .froz c gen=>ac (Nat.beq g gen) (ac (Nat.beq c.es es) (.req (c.len=n) (k (.cv c))) .fail) .fail
  |_=>k (.gsl b g n es))
 |x=>k x
def NR(x:AV)(k:AV->Tr):Tr:=match x with
 | .ptr b g o=>.rd b fun q=>(match q with
  | .grow c gen _=>ac (Nat.beq g gen) (ac (Nat.beq c.es 1) (.req (0<c.len) (k (.gptr b g o 0 1))) .fail) .fail
  |_=>k (.ptr b g o))
 |x=>k x
def nh(l:List AV)(k:List AV->Tr):Tr:=List.rec (motive:=fun _=>(List AV->Tr)->Tr) (fun k=>k []) (fun x _ ih k=>pO x fun x=>ih fun l=>k (x::l)) l k
def frz0(x:AV)(k:AV->Tr):Tr:=match x with
 | .gsl b g n es=>.rd b fun q=>(match q with
  | .grow c gen _=>ac (ac (ac (Nat.beq g gen) (Nat.beq c.es es) false) (Nat.ble (base+64) b) false) (.req (c.len=n) (.wr b (.froz c gen) (k (.cv c)))) (k (.gsl b g n es))
  | .froz c gen=>ac (Nat.beq g gen) (ac (Nat.beq c.es es) (.req (c.len=n) (k (.cv c))) .fail) .fail
  |_=>k (.gsl b g n es))
 |x=>k x
def IP(x:AV)(k:AV->Tr):Tr:=match x with
 | .slc b g o len cap es=>ac (ac (Nat.beq es 6) (Nat.ble 1 len) false) (ng [] b g o len cap es (pH 2 len) fun a=>frz0 a k) (k (.slc b g o len cap es))
 |x=>frz0 x k
def IQ(l:List AV)(k:List AV->Tr):Tr:=List.rec (motive:=fun _=>(List AV->Tr)->Tr) (fun k=>k []) (fun x _ ih k=>IP x fun x=>ih fun l=>k (x::l)) l k
def xT(x:AV)(k:AV->Tr):Tr:=match x with
 | .agg l=>IQ l fun l=>k (.agg l)
 |x=>IP x k
def IR(l:List (Nat×AV))(k:List (Nat×AV)->Tr):Tr:=List.rec (motive:=fun _=>(List (Nat×AV)->Tr)->Tr) (fun k=>k []) (fun x _ ih k=>xT x.2 fun a=>ih fun l=>k ((x.1,a)::l)) l k
def IS(a v:AV)(k:AV->Tr):Tr:=match a with
 | .gptr _ _ _ _ _=>xT v k
 |_=>k v
abbrev cH:=Nat->List AV->(AV->Tr)->Tr
def mc(b:Builtin)(tys:Array TypeId)(args:List AV)(k:AV->Tr):Tr:=match b with
 | .append=>uy P tys args k
 | .len=>Be P tys args k
 | .unsafeString=>IG P tys args k
 | .unsafeSliceData=>pL args k
 | .copy=>II P tys args k
 | .max=>pf true args k
 | .min=>pf false args k
 |_=>.fail
def DU(f:Nat):Bool:=match P.funcs[f]? with
 |some fn=>(match fn.body with
  |none=>decide (fn.origin= "")
  |some _=>false)
 |none=>false
def NS(i:Nat)(args:List AV)(k:AV->Tr):Tr:=match P.funcs[i]? with
 |some fn=>ac (decide (fn.name= "internal/abi.NoEscape")) (match args with | [x]=>k x|_=>.fail)
  .fail
 |none=>.fail
def DV(en:cH)(rn:cH)(f:AV)(args:List AV)(k:AV->Tr):Tr:=match f with
 | .func (.func i) first cap=>ac (DU P i) (NS P i (first++args++cap) k) (en i (first++args++cap) k)
 | .func (.yield l) first cap=>rn l (first++args) k
 |_=>.fail
def IT(k:AV->Tr):Tr:=k (.tup [])
def NT(en rn:cH)(env:T AV)(op:Op)(k:AV->Tr):Tr:=match op with
 | .move x=>dY env x k
 | .assign x=>dY env x k
 | .pick c a b=>dY env c fun c=>DA c fun c=>ac c (dY env a k) (dY env b k)
 | .alloc t=>lY P t fun z=>ma t z k
 | .box t x=>dY env x fun v=>ma t v k
 | .build t ps=>gN env ps.toList fun l=>Is P t l k
 | .buildSlice t n ps=>gN env ps.toList fun l=>IR l fun l=>oA P t n l k
 | .load t a=>dY env a fun a=>NR a fun a=>xI P t a k
 | .store t a v=>dY env a fun a=>dY env v fun v=>NR a fun a=>IS a v fun v=>Ir P t a v (IT k)
 | .nilCheck x=>dY env x fun x=>sO x k
 | .binOp op t x y _=>dY env x fun a=>dY env y fun b=>Io P (ac (oz x) true (oz y)) op t a b k
 | .unOp op _ x=>dY env x fun x=>QG op x k
 | .convert s d x=>dY env x fun x=>pO x fun x=>QH P s d x k
 | .makeFunc fn first cap=>ac (xE fn) (lX env first.toList fun a=>lX env cap.toList fun b=>k (.func fn a b)) .fail
 | .makeMap t r=>(match r with
  |none=>.new (.mapo [] 0) fun b=>k (.map b)
  |some x=>bJ P t fun d=>(match d with | .map _ _=>dY env x fun v=>kU v fun _ _=>.new (.mapo [] 0) fun b=>k (.map b)|_=>.fail))
 | .makeSlice t l c=>dY env l fun l=>dY env c fun c=>pK P t l c k
 | .slice t x lo hi mx=>dY env x fun x=>FF env lo fun lo=>FF env hi fun hi=>FF env mx fun mx=>pO x fun x=>Bb P t x lo hi mx k
 | .fieldAddr t x f=>dY env x fun x=>pG P t x f k
 | .field t x f=>dY env x fun x=>Iw P t x f k
 | .indexAddr t x i=>dY env x fun x=>dY env i fun i=>pO x fun x=>kW P t x i k
 | .index t x i=>dY env x fun x=>dY env i fun i=>IA P t x i k
 | .lookup t x i ok=>dY env x fun x=>dY env i fun i=>DQ P t x i ok k
 | .mapUpdate t m i v=>dY env m fun m=>dY env i fun i=>dY env v fun v=>pN P t m i v (IT k)
 | .range t x=>dY env x fun x=>IN P t x k
 | .next it s=>dY env it fun it=>QM it s k
 | .entry it=>dY env it fun it=>J0b it k
 | .extract t i=>dY env t fun t=>xM t i k
 | .call c=>(match c.callee with
  | .builtin b=>lX env c.args.toList fun l=>nh l fun l=>mc P b c.argTypes l k
  | .value f=>dY env f fun f=>lX env c.args.toList fun l=>DV P en rn f l k
  | .invoke _ _=>.fail)
 |_=>.fail
inductive AEx where
 |normal
 |exit (id:Nat)
 |goto (l:Nat)
 |ret
abbrev XK:=AEx->T AV->List Nat->Tr
abbrev X:=Code->T AV->Nat->Nat->Option Nat->List Nat->XK->Tr
def xU(nt:Nat)(dst:Option Nat)(v:AV)(env:T AV)(k:T AV->Tr):Tr:=match dst with
 |none=>k env
 |some d=>ac (Nat.ble (Nat.succ d) nt) (T.setK env d v k) .fail
def js(ops:Array Oper)(env:T AV)(o:Oper)(yes no:Tr):Tr:=match o.guard with
 |none=>yes
 |some (j,want)=>(match ops[j]? with
  |some oj=>(match oj.dst with
   |some d=>T.getK env d .fail fun v=>(match v with | .bool b=>ac (b==want) yes no | .sB p=>ac want (.ask p yes no) (.ask p no yes) | .tup _=>no|_=>.fail)
   |none=>.fail)
  |none=>.fail)
def pg(ops:Array Oper)(env:T AV)(o:Oper)(yes no:T AV->Tr):Tr:=match o.guard with
 |none=>yes env
 |some (j,want)=>(match ops[j]? with
  |some oj=>(match oj.dst with
   |some d=>T.getK env d .fail fun v=>(match v with
    | .bool b=>ac (b==want) (yes env) (no env)
    | .sB p=>.ask p (T.setK env d (.bool true) fun env=>ac want (yes env) (no env)) (T.setK env d (.bool false) fun env=>ac want (no env) (yes env))
    | .tup _=>no env
    |_=>.fail)
   |none=>.fail)
  |none=>.fail)
def NU(en rn:cH)(nt:Nat)(ops:Array Oper)(l:List Oper)(env:T AV)(k:T AV->Tr):Tr:=
 List.rec (motive:=fun _=>T AV->(T AV->Tr)->Tr) (fun env k=>k env) (fun o _ ih env k=>
  pg ops env o (fun env=>NT P en rn env o.op fun v=>xU nt o.dst v env fun env=>ih env k) (fun env=>xU nt o.dst (.tup []) env fun env=>ih env k)) l env k
inductive Note where
 |mk (c c':Nat) (t:T Unit) (w:List Nat)
def ni(t:T Unit)(l:List Nat):Bool:=List.rec (motive:=fun _=>Bool) true (fun b _ ih=>T.getK t b ih fun _=>false) l
def cM(c c':Nat)(l:List Nat):Bool:=List.rec (motive:=fun _=>Bool) true (fun b _ ih=>ac (Nat.ble c b) (ac (Nat.ble (Nat.succ b) c') false ih) ih) l
def Bg(a b:Note):Bool:=match a,b with
 | .mk c c' t w,.mk d d' u v=>ac (ni u w) (ac (ni t v) (ac (cM c c' (T.keys u id [])) (ac (cM c c' v) true false) false) false) false
def io:List Oper->List Nat->List Nat
 | [],acc=>acc
 |o::l,acc=>io l (acc++ [o.after.toList.foldl (fun s e=>if Region.binds .any e then s ||| 2 ^ e.on ||| acc.getD e.on 0 else s) 0])
def looks(ops:Array Oper)(o:Oper):List Nat:=
 o.op.operands.toList.filterMap (fun | .tmp t=>some t|_=>none)++(match o.guard with|some (j,_)=>(match ops[j]? with|some oj=>oj.dst.toList|none=>[])|none=>[])
def uA(ops:Array Oper)(a b:Oper):Bool:=
 (match a.dst with|some d=>!(looks ops b).contains d|none=>true) && (match b.dst with|some d=>!(looks ops a).contains d|none=>true) && (match a.dst,b.dst with|some d,some e=>d !=e|_,_=>true)
def nj(ops:Array Oper):Bool:=
 let bs:=io ops.toList []
 ops.toList.zipIdx.all fun(o,j)=>o.after.toList.all (fun e=>!Region.binds .any e || decide (e.on<j)) && (ops.toList.zipIdx.all fun(p,i)=>!(decide (i<j)) || (bs.getD j 0).testBit i || uA ops p o)
def nk(bs:List Nat):List (Nat×Note)->Bool
 | []=>true
 |(j,b)::l=>ac (l.all fun(i,a)=>ac ((bs.getD j 0).testBit i) true (Bg a b)) (nk bs l) false
def DW(en rn:cH)(nt:Nat)(ops:Array Oper)(l:List Oper)(i:Nat)(env:T AV)(ns:List (Nat×Note))(k:T AV->Tr):Tr:=
 List.rec (motive:=fun _=>Nat->T AV->List (Nat×Note)->(T AV->Tr)->Tr) (fun _ env ns k=>ac (nk (io ops.toList []) ns) (k env) .fail) (fun o _ ih i env ns k=>
  .sub (js ops env o (NT P en rn env o.op .ret) (.ret (.tup []))) fun v c c' t w=>xU nt o.dst v env fun env=>fN (Nat.succ i) fun i'=>ih i' env ((i,.mk c c' t w)::ns) k) l i env ns k
def IU(l:List AV)(i:Nat)(t:T AV)(k:T AV->Tr):Tr:=
 List.rec (motive:=fun _=>Nat->T AV->(T AV->Tr)->Tr) (fun _ t k=>k t) (fun a _ ih i t k=>T.setK t i a fun t=>fN (Nat.succ i) fun i=>ih i t k) l i t k
def IV(env:T AV)(l:List ResultVar)(k:List AV->Tr):Tr:=
 List.rec (motive:=fun _=>(List AV->Tr)->Tr) (fun k=>k []) (fun r _ ih k=>(match r with
  | .tmp t=>T.getK env t .fail fun v=>ih fun l=>k (v::l)
  | .cell a t=>T.getK env a .fail fun p=>xI P t p fun v=>ih fun l=>k (v::l))) l k
def uB(df:List Nat)(k:Tr):Tr:=
 List.rec (motive:=fun _=>Tr->Tr) (fun k=>k) (fun b _ ih k=>.rd b fun q=>(match q with | .dfr true=>.wr b (.dfr false) (ih k)|_=>.fail)) df k
def pP(x:X):cH:=fun f args k=>cE P.funcs[f]? .fail fun fn=>cE fn.body .fail fun c=>
 ac (decide (fn.name= "runtime.NumGoroutine")) .fail (ac (Nat.ble args.length fn.ntmps) (IU args 0 .leaf fun env=>x c env fn.ntmps f none [] fun ex env df=>
  (match ex with
  | .normal | .ret=>uB df (IV P env fn.results.toList fun l=>(match l with | [v]=>k v|l=>k (.tup l)))
  |_=>.fail)) .fail)
def DX(l:List Nat)(vs:List AV)(nt:Nat)(t:T AV)(k:T AV->Tr):Tr:=match l,vs with
 | [],[]=>k t
 |p::l,v::vs=>ac (Nat.ble (Nat.succ p) nt) (T.setK t p v fun t=>DX l vs nt t k) .fail
 |_,_=>.fail
def gO(l:Nat)(jump:Option Code)(k:AV->Tr):Tr:=.rd l fun q=>match q with
 | .loop _ _ fn nt tmps ps as bd d=>.wr l (.loop (match jump with|none=>.ready|some _=>.done) jump fn nt tmps ps as bd d) (k (.bool (match jump with|none=>true|some _=>false)))
 |_=>.fail
def Bh(x:X):cH:=fun l args k=>.rd l fun q=>match q with
 | .loop _ _ fn nt tmps ps as bd d=>DX ps args nt tmps fun env=>x as env nt fn (some l) [] fun ex env df=>(match ex,df with
  | .normal,[]=>.rd l fun q=>(match q with
   | .loop .ready jump fn nt' tmps ps o7 bd' d=>.wr l (.loop .busy jump fn nt' tmps ps o7 bd' d) (x bd env nt fn (some l) [] fun ex env df=>(match df with
    | []=>(match ex with
     | .normal=>gO l none k
     | .ret=>gO l (some .ret) k
     | .exit id=>gO l (some (.exit id)) k
     | .goto t=>gO l (some (.goto t)) k)
    |_=>.fail))
   |_=>.fail)
  |_,_=>.fail)
 |_=>.fail
def Bi(fn nt:Nat)(tmps:T AV)(ps:List Nat)(as bd:Code)(dS:Option Nat)(df:List Nat)(k:Nat->List Nat->Tr):Tr:=match dS with
 |none=>.new (.dfr true) fun d=>.new (.loop .ready none fn nt tmps ps as bd d) fun l=>k l (d::df)
 |some _=>.fail
def Bj(x:X)(g:AV)(l:Nat)(k:Tr->Tr)(go:Code->Tr)(z:Tr):Tr:=
 match g with
 | .func (.func i) first cap=>pP P x i (first++ [.func (.yield l) [] []]++cap) fun _=>.rd l fun q=>(match q with
  | .loop st jump fn nt tmps ps as bd d=>(match st with
   | .busy=>.fail
   |_=>.wr l (.loop .exhausted jump fn nt tmps ps as bd d) (match jump with|none=>z|some c=>go c))
  |_=>.fail)
 |_=>.fail
inductive Memo where
 |mk (f:Nat) (ty:Option Nat) (arg:List Nat) (res:AV)
def Wu(f:Nat)(l:List Memo):Bool:=List.rec (motive:=fun _=>Bool) false (fun m _ ih=>match m with | .mk g _ _ _=>ac (Nat.beq f g) true ih) l
def Bk(a b:Option Nat):Bool:=match a,b with
 |none,none=>true
 |some a,some b=>Nat.beq a b
 |_,_=>false
def dH(f:Nat)(ty:Option Nat)(arg:List Nat)(l:List Memo):Option AV:=List.rec (motive:=fun _=>Option AV) none (fun m _ ih=>match m with
 | .mk g u a r=>ac (Nat.beq f g) (ac (Bk ty u) (ac (xG arg a) (some r) ih) ih) ih) l
def kG(f:Nat):Bool:=match P.funcs[f]? with
 |some fn=>(match fn.body with|some _=>!decide (fn.name= "runtime.NumGoroutine")|none=>false)
 |none=>false
def Ur(M:List Memo)(f:Nat)(a:AV)(k:AV->Tr)(z:Tr):Tr:=match a with
 | .slc b g o n none es=>ac (Nat.beq o 0) (ac (Nat.beq es 1) (.rd b fun q=>(match q with
  | .cells c gen lo _ _ _ _ ty=>ac (Nat.beq lo 0) (ac (Nat.ble g gen) (ac (Nat.ble 1 n) (Ip c g n 0 fun l=>cE (DH l) .fail fun bs=>cE (dH f (some ty) bs M) z fun r=>ac (kG P f) (k r) .fail) .fail) .fail) .fail
  |_=>.fail)) z) z
 | .str s=>cE (dH f none s M) z fun r=>ac (kG P f) (k r) .fail
 |_=>z
def IW(M:List Memo)(en:cH):cH:=fun f args k=>ac (Wu f M) (match args with | [a]=>Ur P M f a k (en f args k) | []=>cE (dH f (some 0) [] M) (en f args k) fun r=>ac (kG P f) (k r) .fail|_=>en f args k) (en f args k)
structure Tab where
 memos:List Memo
 con:Nat->List AV->Option ((AV->Tr)->Tr)
 blk:Nat->Nat->Option (Nat->T AV->(AEx->T AV->Tr)->Tr)
def Tab.of(l:List Memo):Tab:=⟨l,fun _ _=>none,fun _ _=>none⟩
def IX(M:Tab)(en:cH):cH:=fun f args k=>cE (M.con f args) (IW P M.memos en f args k) fun t=>t k
def xV(c:Code):Bool:=match c with | .ret=>true | .exit _=>true | .goto _=>true|_=>false
variable(M:Tab)
def FX(x:X):X:=fun c env nt fn dS df k=>match c with
 | .skip=>k .normal env df
 | .label _=>k .normal env df
 | .ret=>k .ret env df
 | .exit id=>k (.exit id) env df
 | .goto l=>k (.goto l) env df
 | .region _ ops draw=>ac draw (ac (P.follows .mixedOrders) (ac (Nat.ble nt 1000000000) (ac (nj ops) (DW P (IX P M (pP P x)) (Bh x) nt ops ops.toList 0 env [] fun env=>k .normal env df) .fail) .fail) .fail)
   (NU P (IX P M (pP P x)) (Bh x) nt ops ops.toList env fun env=>k .normal env df)
 | .seq a b=>x a env nt fn dS df fun ex env df=>(match ex with
  | .normal=>x b env nt fn dS df k
  |ex=>k ex env df)
 | .cond c a b=>dY env c fun v=>QF v (x a env nt fn dS df k) (x b env nt fn dS df k)
 | .block id c=>cE (match dS,df with|none,[]=>M.blk fn id|_,_=>none) (x c env nt fn dS df fun ex env df=>(match ex with
  | .exit YR=>ac (Nat.beq YR id) (k .normal env df) (k (.exit YR) env df)
  |ex=>k ex env df)) fun t=>t nt env fun ex env=>k ex env df
 | .loop c=>x c env nt fn dS df fun ex env df=>(match ex with
  | .normal=>x (.loop c) env nt fn dS df k
  |ex=>k ex env df)
 | .rangeFunc g ps as bd=>Bi fn nt env ps.toList as bd dS df fun l df=>dY env g fun g=>
   Bj P x g l id (fun c=>ac (xV c) (x c env nt fn dS df k) .fail) (k .normal env df)
 |_=>.fail
def Bl(n:Nat):X:=Nat.rec (motive:=fun _=>X) (fun _ _ _ _ _ _ _=>.fail) (fun _ x=>FX P M x) n
def start(H:T ABlk)(next:Nat):St:=.mk H next 0 .leaf []
end
end Go.Sym
namespace Go.Sym
open Go.RowKit (Below)
def SI:St->Prop
 | .mk h n fs tc w=>1<=n/\n<=1000000001/\fs<=n/\(∀b∈w,tc.get b=some ())/\∀b,tc.get b=some ()->b<fs
theorem cN{b:Nat}{k:ABlk->Tr}{σ:St}{K:Fin}(hS:SI σ)(h:run (.rd b k) σ K=true):b+1<2 ^ 64:=by
 cases σ with
 |mk H n fs tc w=>
  rw[gA] at h
  split at h
  case isFalse=>cases h
  obtain⟨h1,h2,_⟩:=hS
  omega
theorem bm{b:Nat}{k:ABlk->Tr}{σ:St}{K:Fin}(hS:SI σ)(h:run (.rd b k) σ K=true):
  ∃x c9,σ.h.get b=some x/\c9.h=σ.h/\SI c9/\run (k x) c9 K=true:=by
 cases σ with
 |mk H n fs tc w=>
  rw[gA] at h
  split at h
  case isFalse=>cases h
  rename_i X6
  split at h
  ·cases h
  ·rename_i x hb
   refine⟨x,_,hb, ?_, ?_,h⟩
   ·rfl
   ·obtain⟨h1,h2,h3,h5,h6⟩:=hS
    have d8:b+1<2 ^ 64:=by omega
    show 1<=n/\n<=1000000001/\fs<=n/\(∀y∈w,(note fs b tc).get y=some ())/\∀y,(note fs b tc).get y=some ()->y<fs
    refine⟨h1,h2,h3,fun y hy=>dp d8 (h5 y hy),fun y hy=>?_⟩
    by_cases e:fs<=b
    ·rw[note,if_pos e] at hy;exact h6 y hy
    ·by_cases ey:y=b
     ·omega
     ·rw[note,if_neg e,T.get_set_ne _ ey] at hy;exact h6 y hy
theorem cI{b:Nat}{x:ABlk}{k:Tr}{σ:St}{K:Fin}(hS:SI σ)(h:run (.wr b x k) σ K=true):
  ∃x0 c9,σ.h.get b=some x0/\c9.h=σ.h.set b x/\SI c9/\b+1<2 ^ 64/\run k c9 K=true:=by
 cases σ with
 |mk H n fs tc w=>
  rw[jf] at h
  split at h
  case isFalse=>cases h
  rename_i X6
  split at h
  ·cases h
  ·rename_i x0 hb
   obtain⟨h1,h2,h3,h5,h6⟩:=hS
   have d8:b+1<2 ^ 64:=by omega
   refine⟨x0,_,hb,rfl, ?_,d8,h⟩
   show 1<=n/\n<=1000000001/\fs<=n/\(∀y∈gd fs b w,(note fs b tc).get y=some ())/\∀y,(note fs b tc).get y=some ()->y<fs
   refine⟨h1,h2,h3,fun y hy=>?_,fun y hy=>?_⟩
   ·rcases nd hy with hy|⟨e,hy⟩
    ·exact dp d8 (h5 y hy)
    ·subst e;exact jg d8 hy
   ·by_cases e:fs<=b
    ·rw[note,if_pos e] at hy;exact h6 y hy
    ·by_cases ey:y=b
     ·omega
     ·rw[note,if_neg e,T.get_set_ne _ ey] at hy;exact h6 y hy
theorem dI{x:ABlk}{k:Nat->Tr}{σ:St}{K:Fin}(hS:SI σ)(h:run (.new x k) σ K=true):
  ∃n c9,σ.h.get n=none/\n+1<2 ^ 64/\c9.h=σ.h.set n x/\SI c9/\run (k n) c9 K=true:=by
 cases σ with
 |mk H n fs tc w=>
  rw[ge] at h
  split at h
  ·split at h
   ·cases h
   ·rename_i hn G'
    obtain⟨h1,h2,h3,h5,h6⟩:=hS
    refine⟨n,_,G',by omega,rfl, ?_,h⟩
    show 1<=n+1/\n+1<=1000000001/\fs<=n+1/\(∀y∈w,tc.get y=some ())/\∀y,tc.get y=some ()->y<fs
    exact⟨by omega,by omega,by omega,h5,h6⟩
  ·cases h
theorem uC{n:Nat}{k:Nat->Tr}{σ:St}{K:Fin}(h:run (.pick n k) σ K=true):∀i,(i=0∨i<n)->(n<=1->i=0)->run (k i) σ K=true:=by
 intro i hi h1
 by_cases hn:n<=1
 ·rw[h1 hn]
  have:run (.pick n k) σ K=run (k 0) σ K:=by
   show ac (Nat.ble n 1) (run (k 0) σ K) _=_
   rw[ax,if_pos (Nat.ble_eq.mpr hn)]
  rw[←this];exact h
 ·cases σ with
  |mk H m fs tc w=>
   have hb:Nat.ble n 1=false:=by
    cases hb:Nat.ble n 1 with
    |false=>rfl
    |true=>exact absurd (Nat.ble_eq.mp hb) hn
   have h':ac (Nat.ble n 1) (run (k 0) (.mk H m fs tc w) K) (ac (Nat.beq fs 0) (gM (fun i=>run (k i) (.mk H m fs tc w) K) n) false)=true:=h
   rw[hb] at h'
   have h2:=(aM (b:=Nat.beq fs 0) h').2
   exact lU.mp h2 i (by omega)
theorem cO{p:Prop}{t e:Tr}{σ:St}{K:Fin}(h:run (.ask p t e) σ K=true):(p/\run t σ K=true)∨(¬p/\run e σ K=true):=by
 by_cases hp:p
 ·exact .inl ⟨hp,by rw[←eO t e σ K hp];exact h⟩
 ·exact .inr ⟨hp,by rw[←eP t e σ K hp];exact h⟩
theorem aW{p:Prop}{t:Tr}{σ:St}{K:Fin}(h:run (.req p t) σ K=true):p/\run t σ K=true:=by
 by_cases hp:p
 ·exact⟨hp,by rw[←eQ t σ K hp];exact h⟩
 ·rw[ou t σ K hp] at h;cases h
def Ext(w w':World):Prop:=∀k,k<w.heap.size->w'.heap[k]? =w.heap[k]?
theorem Ext.refl(w:World):Ext w w:=fun _ _=>rfl
theorem ER.mono{ρ ρ':Rho}(hle:ρ.le ρ'){nt:Nat}{env:T AV}{tmps:Array Value}(h:ER ρ nt env tmps):ER ρ' nt env tmps:=
 ⟨h.size,fun t a ha=>let⟨v,hv,r⟩:=h.val t a ha;⟨v,hv,r.mono hle⟩⟩
theorem BR.keep{ρ ρ':Rho}{B:Nat}{w w':World}{b:Nat}{x:ABlk}(hle:ρ.le ρ')(hg:∀g h,ρ.at_ b g=some h->w'.heap[h.blk]? =w.heap[h.blk]?)
  (h:BR ρ B w b x):BR ρ' B w' b x:=by
 cases x with
 |cells c gen lo hi fl fh ro ty=>
  refine⟨h.1,fun g YF=>?_⟩
  obtain⟨hm,h1,h2,h2',arr,fr,h3,h4,h5,h6⟩:=h.2 g YF
  refine⟨hm,hle.at_ _ _ _ h1,fun hr=>(h2 hr).mono hle,h2',arr,fr,by rw[hg g hm h1];exact h3,h4,h5,fun o tag a ho ht=>?_⟩
  obtain⟨q1,v,q2,q3⟩:=h6 o tag a ho ht
  exact⟨q1,v,q2,q3.mono hle⟩
 |grow c gen ty=>
  rcases h with h1|⟨hm,h1,hs,h2,arr,fr,h3,h4,h5,h6,h7⟩
  ·exact .inl h1
  ·refine .inr ⟨hm,hle.at_ _ _ _ h1,hs,h2.mono hle,arr,fr,by rw[hg gen hm h1];exact h3,h4,h5,h6,fun i hi j a ha=>?_⟩
   obtain⟨u,q1,q2⟩:=h7 i hi j a ha
   exact⟨u,q1,q2.mono hle⟩
 |tab ty l=>exact⟨h.1,hle.frz _ _ h.2⟩
 |froz c gen=>
  rcases h with h1|⟨hm,arr,ty,h1,hs,h2,h3,h4⟩
  ·exact .inl h1
  ·refine .inr ⟨hm,arr,ty,hle.at_ _ _ _ h1,hs,hle.frz _ _ h2,h3,fun i hi j a ha=>?_⟩
   obtain⟨u,q1,q2⟩:=h4 i hi j a ha
   exact⟨u,q1,q2.mono hle⟩
 |mapo es clock=>
  obtain⟨hm,h1,h2,p6,h3,h4,h5⟩:=h
  refine⟨hm,hle.at_ _ _ _ h1,h2.mono hle,p6,by rw[hg 0 hm h1];exact h3,h4,fun i k v n e hi he=>?_⟩
  obtain⟨q1,q2,q3⟩:=h5 i k v n e hi he
  exact⟨q1.mono hle,q2.mono hle,q3⟩
 |smap m l=>
  obtain⟨hm,h1,h2,es,clock,h3,h4,h5⟩:=h
  refine⟨hm,hle.at_ _ _ _ h1,h2.mono hle,es,clock,by rw[hg 0 hm h1];exact h3,h4,fun i g e hi he=>?_⟩
  obtain⟨q1,q2⟩:=h5 i g e hi he
  exact⟨q1.mono hle,q2.mono hle⟩
 |obj k I l=>
  obtain⟨hl,hm,fp,h1,h2,h3,h4⟩:=h
  refine⟨hl,hm,fp,hle.at_ _ _ _ h1,h2,fun x hx=>?_,hl _ _ _ _ (fun x hx=>?_) h4⟩
  ·obtain⟨q1,g,hh,q2,q3⟩:=h3 x hx
   exact⟨q1.mono hle,g,hh,hle.at_ _ _ _ q2,q3⟩
  ·obtain⟨_,g,hh,q2,q3⟩:=h3 x hx
   rw[←q3];exact hg g hh q2
 |siter s pos=>
  obtain⟨hm,h1,h2,s',h3,h4⟩:=h
  exact⟨hm,hle.at_ _ _ _ h1,h2.mono hle,s',h3,by rw[hg 0 hm h1];exact h4⟩
 |miter m since seen stepped=>
  obtain⟨hm,h1,h2,m',A',h3,h4,h5⟩:=h
  refine⟨hm,hle.at_ _ _ _ h1,h2.mono hle,m',A',by rw[hg 0 hm h1];exact h3,h4, ?_⟩
  cases m with
  |none=>exact h5
  |some x=>obtain⟨hx,q1,q2⟩:=h5;exact⟨hx,hle.at_ _ _ _ q1,q2⟩
 |dfr live=>
  obtain⟨hm,h1,h2,h3⟩:=h
  exact⟨hm,hle.at_ _ _ _ h1,h2.mono hle,by rw[hg 0 hm h1];exact h3⟩
 |loop state jump fn nt tmps params assign body defers=>
  obtain⟨hm,h1,h2,XV,hd,ZQ,h3,h4,h5⟩:=h
  exact⟨hm,hle.at_ _ _ _ h1,h2.mono hle,XV,hd,ZQ,h3.mono hle,hle.at_ _ _ _ h4,by rw[hg 0 hm h1];exact h5⟩
def Rho.put(ρ:Rho)(b g:Nat)(h:Home):Rho:={at_:=fun x y=>if x=b/\y=g then some h else ρ.at_ x y,val:=ρ.val,own:=ρ.own,frz:=ρ.frz,frz0:=ρ.frz0}
theorem Rho.put_at(ρ:Rho)(b g:Nat)(h:Home):(ρ.put b g h).at_ b g=some h:=by simp [Rho.put]
theorem Rho.le_put{ρ:Rho}{b g:Nat}{h:Home}(G':ρ.at_ b g=none):ρ.le (ρ.put b g h):=
 ⟨fun x y z hz=>by
  show(if x=b/\y=g then some h else ρ.at_ x y)=some z
  by_cases e:x=b/\y=g
  ·rw[e.1,e.2,G'] at hz;cases hz
  ·rw[if_neg e];exact hz,rfl,rfl,fun _ _ h=>h,rfl⟩
theorem Good.none_at{w0:World}{ρ:Rho}{H:T ABlk}{w:World}(hG:Good w0 ρ H w){n:Nat}(hn:H.get n=none)(g:Nat):ρ.at_ n g=none:=by
 cases h:ρ.at_ n g with
 |none=>rfl
 |some x=>obtain⟨_,y,hy⟩:=hG.dom _ _ _ h;rw[hn] at hy;cases hy
theorem Good.alloc{w0:World}{ρ:Rho}{H:T ABlk}{w:World}(hG:Good w0 ρ H w){n:Nat}(hn:H.get n=none)(d8:n+1<2 ^ 64)(x:ABlk)(o:Obj)(shift size:Nat)
  (hB:∀ρ':Rho,ρ.le ρ'->ρ'.at_ n 0=some ⟨w.heap.size,shift,size⟩->ρ'=ρ.put n 0 ⟨w.heap.size,shift,size⟩->BR ρ' w0.heap.size {w with heap:=w.heap.push o} n x):
  ρ.le (ρ.put n 0 ⟨w.heap.size,shift,size⟩)/\Good w0 (ρ.put n 0 ⟨w.heap.size,shift,size⟩) (H.set n x) {w with heap:=w.heap.push o}:=by
 have G':=hG.none_at hn 0
 have hle:ρ.le (ρ.put n 0 ⟨w.heap.size,shift,size⟩):=Rho.le_put G'
 refine⟨hle,⟨⟨?_,fun b y hy=>?_,fun b g h hh=>?_,fun b g h b' g' h' hh i4 e=>?_,fun b g h y hh hy=>?_,fun b arr ty hf=>?_,hG.frzB,fun b k I l hb g h hh=>?_⟩,fun x hx=>by obtain⟨b,g,h,q1,q2,q3⟩:=hG.ownB x hx;exact⟨b,g,h,q1,hle.at_ _ _ _ q2,q3⟩⟩⟩
 ·exact hG.below.alloc hG.below.size o
 ·by_cases e:b=n
  ·subst e
   rw[T.get_set_same _ _ _ d8] at hy
   injection hy with hy;subst hy
   exact hB _ hle (Rho.put_at _ _ _ _) rfl
  ·rw[T.get_set_ne _ e] at hy
   refine(hG.blk b y hy).keep hle fun g h hh=>?_
   have:=(hG.dom _ _ _ hh).1
   show(w.heap.push o)[h.blk]? =_
   rw[Array.getElem?_push,if_neg (by omega)]
 ·simp only [Rho.put] at hh
  split at hh
  ·rename_i e
   injection hh with hh;subst hh
   obtain⟨e1,e2⟩:=e;subst e1
   exact⟨by simp,x,T.get_set_same _ _ _ d8⟩
  ·obtain⟨q1,y,q2⟩:=hG.dom _ _ _ hh
   refine⟨by show h.blk<(w.heap.push o).size;simp;omega,y, ?_⟩
   rw[T.get_set_ne]
   ·exact q2
   ·intro e;subst e;rw[hn] at q2;cases q2
 ·simp only [Rho.put] at hh i4
  split at hh
  ·rename_i c
   split at i4
   ·rename_i c'
    injection hh with hh;injection i4 with i4
    exact⟨c.1.trans c'.1.symm,hh.symm.trans i4⟩
   ·injection hh with hh;subst hh
    have:=(hG.dom _ _ _ i4).1
    simp only at e;omega
  ·split at i4
   ·injection i4 with i4;subst i4
    have:=(hG.dom _ _ _ hh).1
    simp only at e;omega
   ·exact hG.inj _ _ _ _ _ _ hh i4 e
 ·simp only [Rho.put] at hh
  split at hh
  ·rename_i c
   rw[c.2]
   cases y <;> first|exact aal _|trivial
  ·have X6:b≠n:=fun e=>by subst e;rw[hG.none_at hn g] at hh;cases hh
   rw[T.get_set_ne _ X6] at hy
   exact hG.gens b g h y hh hy
 ·have hf:ρ.frz b=some (arr,ty):=hf
  obtain⟨⟨fr,q1⟩,q2⟩:=hG.frz b arr ty hf
  have f7:b<w.heap.size:=by
   rcases aaf b w.heap.size with h'|h'
   ·exact h'
   ·rw[aaN h'] at q1;cases q1
  refine⟨⟨fr, ?_⟩,fun b' g h hh e=>?_⟩
  ·show(w.heap.push o)[b]? =_
   rw[Array.getElem?_push,if_neg (by omega)];exact q1
  ·simp only [Rho.put] at hh
   split at hh
   ·injection hh with hh;subst hh
    have e:w.heap.size=b:=e
    omega
   ·obtain⟨y,r1,r2⟩:=q2 _ _ _ hh e
    exact⟨y,by rw[T.get_set_ne _ (fun e=>by subst e;rw[hn] at r1;cases r1)];exact r1,r2⟩
 ·simp only [Rho.put] at hh
  split at hh
  ·injection hh with hh;subst hh
   exact .new hG.below.size
  ·have X6:b≠n:=fun e=>by subst e;rw[hG.none_at hn g] at hh;cases hh
   rw[T.get_set_ne _ X6] at hb
   exact hG.objO b k I l hb g h hh
theorem Good.drawn{w0:World}{ρ:Rho}{H:T ABlk}{w:World}(hG:Good w0 ρ H w)(n:Nat):Good w0 ρ H {w with drawn:=n}:=
 ⟨⟨⟨hG.below.os,hG.below.tape,hG.below.output,hG.below.size,hG.below.block⟩,fun b x hx=>BR.keep (w:=w) (w':={w with drawn:=n}) (Rho.le.refl ρ) (fun _ _ _=>rfl) (hG.blk b x hx),hG.dom,hG.inj,hG.gens,hG.frz,hG.frzB,hG.objO⟩,hG.ownB⟩
theorem Good.turn{w0:World}{ρ:Rho}{H:T ABlk}{w w':World}(hG:Good w0 ρ H w){b:Nat}{x0 x:ABlk}(hb:H.get b=some x0)(d8:b+1<2 ^ 64)(r:Nat)(hr:Own ρ w0.heap.size r)
  (hbe:Kept ρ.own w0.heap.size w w') (u0:w.heap.size<=w'.heap.size) (XN:∀k,k≠r->k<w.heap.size->w'.heap[k]? =w.heap[k]?)
  (x7:∀b' g h,ρ.at_ b' g=some h->h.blk=r->b'=b) (hB:BR ρ w0.heap.size w' b x) (XO:∀g,Ig g x0->Ig g x:=by intro g h;exact h) (hrs:∃b' g h,ρ.at_ b' g=some h/\h.blk=r) (hnf:¬xx x0:=by exact fun h=>h) (hxo:∀k I l,x≠ .obj k I l:=by intro _ _ _ h;cases h):Good w0 ρ (H.set b x) w':=by
 refine⟨⟨hG.below.trans hbe,fun b' y hy=>?_,fun b' g h hh=>?_,hG.inj,fun b' g h y hh hy=>?_,fun b' arr ty hf=>?_,hG.frzB,fun b' k I l O' g h hh=>?_⟩,hG.ownB⟩
 ·by_cases e:b'=b
  ·subst e
   rw[T.get_set_same _ _ _ d8] at hy
   injection hy with hy;subst hy
   exact hB
  ·rw[T.get_set_ne _ e] at hy
   refine(hG.blk b' y hy).keep (Rho.le.refl ρ) fun g h hh=>?_
   exact XN _ (fun er=>e (x7 _ _ _ hh er)) (hG.dom _ _ _ hh).1
 ·obtain⟨q1,y,q2⟩:=hG.dom _ _ _ hh
  refine⟨by omega, ?_⟩
  by_cases e:b'=b
  ·subst e;exact⟨x,T.get_set_same _ _ _ d8⟩
  ·exact⟨y,by rw[T.get_set_ne _ e];exact q2⟩
 ·by_cases e:b'=b
  ·subst e
   rw[T.get_set_same _ _ _ d8] at hy
   injection hy with hy;subst hy
   exact XO g (hG.gens b' g h x0 hh hb)
  ·rw[T.get_set_ne _ e] at hy
   exact hG.gens b' g h y hh hy
 ·obtain⟨⟨fr,q1⟩,q2⟩:=hG.frz b' arr ty hf
  have f7:b'<w.heap.size:=by
   rcases aaf b' w.heap.size with h'|h'
   ·exact h'
   ·rw[aaN h'] at q1;cases q1
  refine⟨⟨fr, ?_⟩,fun b1 g h hh e=>?_⟩
  ·obtain⟨x1,x2,x3,x4,x5⟩:=hrs
   have:=x7 _ _ _ x4 x5
   subst this
   rw[XN b' (fun e=>hG.frzE hf x4 hb hnf (x5.trans e.symm)) f7];exact q1
  ·obtain⟨y,r1,r2⟩:=q2 _ _ _ hh e
   exact⟨y,by rw[T.get_set_ne _ (fun e=>by subst e;rw[hb] at r1;injection r1 with r1;subst r1;exact hnf r2)];exact r1,r2⟩
 ·by_cases e:b'=b
  ·subst e
   rw[T.get_set_same _ _ _ d8] at O'
   injection O' with O'
   exact absurd O' (hxo _ _ _)
  ·rw[T.get_set_ne _ e] at O'
   exact hG.objO b' k I l O' g h hh
theorem nf{H H':T ABlk}{b:Nat}{x x0:ABlk}(e:H'=H)(h:H.get b=some x)(hx:H'.get b=some x0)(hn:¬xx x):¬xx x0:=by
 subst e
 rw[h] at hx;injection hx with hx;subst hx;exact hn
end Go.Sym
namespace Go.Sym
open Go.RowKit (Below)
theorem ak{σ:St}{K:Fin}(h:run .fail σ K=true):False:=by cases h
theorem bO{α:Type}{o:Option α}{k:α->Tr}{σ:St}{K:Fin}(h:run (cE o .fail k) σ K=true):∃a,o=some a/\run (k a) σ K=true:=by
 cases o with
 |none=>exact(ak h).elim
 |some a=>exact⟨a,rfl,h⟩
theorem ar{b:Bool}{t:Tr}{σ:St}{K:Fin}(h:run (ac b t .fail) σ K=true):b=true/\run t σ K=true:=by
 cases b with
 |true=>exact⟨rfl,h⟩
 |false=>exact(ak h).elim
theorem md{b:Bool}{t:Tr}{σ:St}{K:Fin}(h:run (ac b .fail t) σ K=true):b=false/\run t σ K=true:=by
 cases b with
 |false=>exact⟨rfl,h⟩
 |true=>exact(ak h).elim
theorem bG{b:Bool}{t e:Tr}{σ:St}{K:Fin}(h:run (ac b t e) σ K=true):(b=true/\run t σ K=true)∨(b=false/\run e σ K=true):=by
 cases b with
 |false=>exact .inr ⟨rfl,h⟩
 |true=>exact .inl ⟨rfl,h⟩
theorem nl{α:Type}{t:T α}{n:Nat}{k:α->Tr}{σ:St}{K:Fin}(h:run (T.getK t n .fail k) σ K=true):∃a,t.get n=some a/\run (k a) σ K=true:=by
 rw[T.getK_eq] at h
 split at h
 ·exact(ak h).elim
 ·exact⟨_,by assumption,h⟩
theorem f_{n:Nat}{k:Nat->Tr}{σ:St}{K:Fin}(h:run (fN n k) σ K=true):run (k n) σ K=true:=by rw[je] at h;exact h
theorem Us{n:Int}{k:Int->Tr}{σ:St}{K:Fin}(h:run (fI n k) σ K=true):run (k n) σ K=true:=by rw[Uk] at h;exact h
theorem bu{a b:Nat}(h:Nat.ble a b=true):a<=b:=Nat.ble_eq.mp h
theorem RD{a b:Nat}(h:Nat.ble a b=false):b<a:=by
 rcases aaf b a with e|e
 ·exact e
 ·rw[Nat.ble_eq.mpr e] at h;cases h
theorem aR{a b:Nat}(h:Nat.beq a b=true):a=b:=aad h
theorem NV{ρ:Rho}{v:AV}{u:Value}{k:Bool->Tr}{σ:St}{K:Fin}(hv:VR ρ v u)(h:run (DA v k) σ K=true):∃b,u= .bool b/\run (k b) σ K=true:=by
 cases hv with
 |bool b=>exact⟨b,rfl,h⟩
 |sB p b hb=>
  rcases cO h with⟨hp,h⟩|⟨hp,h⟩
  ·exact⟨b,rfl,by rw[hb.2 hp];exact h⟩
  ·refine⟨b,rfl, ?_⟩
   cases b with
   |true=>exact absurd (hb.1 rfl) hp
   |false=>exact h
 |_=>exact(ak h).elim
theorem nm{v:AV}{k:IntKind->Int->Tr}{σ:St}{K:Fin}(h:run (kU v k) σ K=true):∃j n,v= .int j n/\run (k j n) σ K=true:=by
 cases v <;> first|exact⟨_,_,rfl,h⟩|exact(ak h).elim
theorem RE{v:AV}{k:List AV->Tr}{σ:St}{K:Fin}(h:run (Ih v k) σ K=true):∃l,v= .agg l/\run (k l) σ K=true:=by
 cases v <;> first|exact⟨_,rfl,h⟩|exact(ak h).elim
theorem xW{n:Int}{k:Nat->Tr}{σ:St}{K:Fin}(h:run (un n k) σ K=true):∃a:Nat,n=(a:Int)/\run (k a) σ K=true:=by
 cases n with
 |ofNat a=>exact⟨a,rfl,h⟩
 |negSucc a=>exact(ak h).elim
theorem fL{ρ:Rho}{a:AV}{v:Value}{k:List AV->Tr}{σ:St}{K:Fin}(hv:VR ρ a v)(h:run (fC a k) σ K=true):∃l,LR ρ l v.cells.toList/\run (k l) σ K=true:=by
 cases hv with
 |agg l cs h1 h2=>exact⟨l,LR.of_arr h1 h2,h⟩
 |opq n=>exact(ak h).elim
 |opc n ho=>
  refine⟨_, ?_,h⟩
  have e:(ρ.val n).cells.toList= [ρ.val n]:=by
   cases hv:ρ.val n <;> first|rfl|(rw[hv] at ho;cases ho)
  rw[e]
  exact LR.cons (.opc n ho) (LR.nil ρ)
 |any1 _ ho=>
  refine⟨_, ?_,h⟩
  have e:v.cells.toList= [v]:=by
   cases v <;> first|rfl|cases ho
  rw[e]
  exact LR.cons (.any1 v ho) (LR.nil ρ)
 |sB p b hb=>exact⟨_,LR.cons (.sB p b hb) (LR.nil ρ),h⟩
 |_=>exact⟨_,LR.cons (by constructor <;> assumption) (LR.nil ρ),h⟩
def Res(P:Program)(w0:World)(ρ:Rho)(w:World)(k:AV->Tr)(K:Fin)(s:Sem Value):Prop:=
 ∃av c9 ρ' v w',run (k av) c9 K=true/\SI c9/\Good w0 ρ' c9.h w'/\ρ.le ρ'/\VR ρ' av v/\s.run P w= .ok v w'
def FH(P:Program)(w0:World)(ρ:Rho)(w:World)(k:Tr)(K:Fin)(s:Sem Unit):Prop:=
 ∃c9 w',run k c9 K=true/\SI c9/\Good w0 ρ c9.h w'/\s.run P w= .ok () w'
theorem Res.plain{P:Program}{w0:World}{ρ:Rho}{w:World}{k:AV->Tr}{K:Fin}{s:Sem Value}{av:AV}{σ:St}{v:Value}
  (hr:run (k av) σ K=true) (hS:SI σ) (hG:Good w0 ρ σ.h w) (hv:VR ρ av v) (hs:s.run P w= .ok v w):Res P w0 ρ w k K s:=
 ⟨av,σ,ρ,v,w,hr,hS,hG,Rho.le.refl ρ,hv,hs⟩
theorem Res.of_eq{P:Program}{w0:World}{ρ:Rho}{w:World}{k:AV->Tr}{K:Fin}{s s':Sem Value}(h:Res P w0 ρ w k K s)(e:s'.run P w=s.run P w):Res P w0 ρ w k K s':=by
 obtain⟨av,c9,ρ',v,w',h1,h2,h3,h4,h5,h6⟩:=h
 exact⟨av,c9,ρ',v,w',h1,h2,h3,h4,h5,e.trans h6⟩
section
variable{w0:World}{ρ:Rho}{w:World}{σ:St}{K:Fin}{nt:Nat}{env:T AV}{a:Act}
theorem sP{x:Operand}{k:AV->Tr}(hS:SI σ)(hG:Good w0 ρ σ.h w)(hE:ER ρ nt env a.tmps)(h:run (dY env x k) σ K=true):
  ∃av c9,c9.h=σ.h/\SI c9/\run (k av) c9 K=true/\VR ρ av (a.eval x):=by
 cases x with
 |tmp t=>
  obtain⟨av,h1,h2⟩:=nl (k:=k) h
  obtain⟨v,hv,hr⟩:=hE.val t av h1
  refine⟨av,σ,rfl,hS,h2, ?_⟩
  show VR ρ av (a.tmps.getD t undef)
  rw[aaS,hv];exact hr
 |const v=>
  obtain⟨av,h1,h2⟩:=bO (k:=k) h
  exact⟨av,σ,rfl,hS,h2,If ρ _ _ _ h1⟩
 |func f=>exact⟨_,σ,rfl,hS,h,.func _ _ _ _ _ rfl rfl (by simp) (by simp) rfl⟩
 |global g=>
  obtain⟨f7,h⟩:=ar h
  have f7:=bu f7
  obtain⟨x,c9,h1,h2,h3,h4⟩:=bm hS h
  cases x with
  |cells c gen lo hi fl fh ro ty=>
   obtain⟨h5,h6⟩:=ar h4
   subst h5
   obtain⟨hm,q1,_,q2,_⟩:=(hG.blk _ _ h1).2 0 (aal _)
   obtain⟨e1,e2⟩:=q2 rfl f7
   refine⟨_,c9,h2,h3,h6, ?_⟩
   have:=VR.ptr (ρ:=ρ) g 0 0 hm q1 (by omega)
   rw[e1] at this
   show VR ρ _ (.pointer (some ⟨g,0,none⟩))
   simpa using this
  |tab ty l=>
   refine⟨_,c9,h2,h3,h4, ?_⟩
   obtain⟨_,hf⟩:=hG.blk _ _ h1
   show VR ρ _ (.pointer (some ⟨g,0,none⟩))
   refine .cptr (lW l) g 0 _ _ hf (by simp [lW]) fun j a v ha hv=>?_
   unfold lW at ha
   rw[aaE] at ha
   cases e:l[j]? with
   |none=>rw[e] at ha;cases ha
   |some n=>
    rw[e] at ha
    injection ha with ha
    subst ha
    simp [e] at hv
    subst hv
    exact .int _ _
  |_=>exact(ak h4).elim
theorem uD:∀{l:List Operand} {k:List AV->Tr} {σ:St},SI σ->Good w0 ρ σ.h w->ER ρ nt env a.tmps->run (lX env l k) σ K=true->
  ∃av c9,c9.h=σ.h/\SI c9/\run (k av) c9 K=true/\LR ρ av (l.map a.eval):=by
 intro l
 induction l with
 |nil=>intro k σ hS hG hE h;exact⟨[],σ,rfl,hS,h,LR.nil ρ⟩
 |cons x l ih=>
  intro k σ hS hG hE h
  obtain⟨v,d6,e1,d5,h1,r1⟩:=sP (k:=fun a=>lX env l fun l=>k (a::l)) hS hG hE h
  obtain⟨vs,f9,e2,i5,h2,r2⟩:=ih d5 (by rw[e1];exact hG) hE h1
  exact⟨v::vs,f9,e2.trans e1,i5,h2,LR.cons r1 r2⟩
def OR(ρ:Rho):Option AV->Option Value->Prop
 |none,none=>True
 |some a,some v=>VR ρ a v
 |_,_=>False
theorem Bm{x:Option Operand}{k:Option AV->Tr}(hS:SI σ)(hG:Good w0 ρ σ.h w)(hE:ER ρ nt env a.tmps)(h:run (FF env x k) σ K=true):
  ∃av c9,c9.h=σ.h/\SI c9/\run (k av) c9 K=true/\OR ρ av (x.map a.eval):=by
 cases x with
 |none=>exact⟨none,σ,rfl,hS,h,trivial⟩
 |some x=>
  obtain⟨v,d6,e1,d5,h1,r1⟩:=sP (k:=fun a=>k (some a)) hS hG hE h
  exact⟨some v,d6,e1,d5,h1,r1⟩
theorem pQ:∀{l:List (Nat×Operand)} {k:List (Nat×AV)->Tr} {σ:St},SI σ->Good w0 ρ σ.h w->ER ρ nt env a.tmps->run (gN env l k) σ K=true->
  ∃av c9,c9.h=σ.h/\SI c9/\run (k av) c9 K=true/\av.map (·.1)=l.map (·.1)/\LR ρ (av.map (·.2)) (l.map fun x=>a.eval x.2):=by
 intro l
 induction l with
 |nil=>intro k σ hS hG hE h;exact⟨[],σ,rfl,hS,h,rfl,LR.nil ρ⟩
 |cons x l ih=>
  intro k σ hS hG hE h
  obtain⟨v,d6,e1,d5,h1,r1⟩:=sP (k:=fun a=>gN env l fun l=>k ((x.1,a)::l)) hS hG hE h
  obtain⟨vs,f9,e2,i5,h2,r2,r3⟩:=ih d5 (by rw[e1];exact hG) hE h1
  exact⟨(x.1,v)::vs,f9,e2.trans e1,i5,h2,by simp [r2],LR.cons r1 r3⟩
end
end Go.Sym
namespace Go.Sym
theorem nq(n:Int):IntKind.wrap .u64 n=n%18446744073709551616:=by
 unfold IntKind.wrap
 simp only [IntKind.signed,Bool.false_and,Bool.false_eq_true,if_false,IntKind.bits]
 rfl
theorem iV{j:IntKind}{n:Int}{f:Int->Tr}{σ:St}{K:Fin}(h:run (gg j n f) σ K=true):run (f (j.wrap n)) σ K=true:=by
 unfold gg at h
 split at h
 ·rename_i a
  rcases bG h with⟨hb,h⟩|⟨_,h⟩
  ·have hb:=bu hb
   have h:=f_ h
   have e:IntKind.wrap .i64 (Int.ofNat a)=Int.ofNat a:=IntWalk.i64_in _ (by rw[aaV];omega)
   rw[e];exact h
  ·exact Us h
 ·rename_i a
  have h:=f_ h
  have e:IntKind.wrap .u64 (Int.ofNat a)=Int.ofNat (a%18446744073709551616):=by
   rw[nq,aaV,aaV];omega
  rw[e];exact h
 ·rename_i a
  have h:=f_ h
  have e:IntKind.wrap .u32 (Int.ofNat a)=Int.ofNat (a%4294967296):=by
   rw[IntKind.wrap_u32,aaV,aaV];omega
  rw[e];exact h
 ·rename_i a
  have h:=f_ h
  have e:IntKind.wrap .u8 (Int.ofNat a)=Int.ofNat (a%256):=by
   rw[IntKind.wrap_u8,aaV,aaV];omega
  rw[e];exact h
 ·rename_i a
  have h:=f_ h
  have e:IntKind.wrap .u64 (Int.negSucc a)=Int.ofNat (18446744073709551615-a%18446744073709551616):=by
   rw[nq,Int.negSucc_eq,aaV];omega
  rw[e];exact h
 ·rename_i a
  have h:=f_ h
  have e:IntKind.wrap .u32 (Int.negSucc a)=Int.ofNat (4294967295-a%4294967296):=by
   rw[IntKind.wrap_u32,Int.negSucc_eq,aaV];omega
  rw[e];exact h
 ·rename_i a
  have h:=f_ h
  have e:IntKind.wrap .u8 (Int.negSucc a)=Int.ofNat (255-a%256):=by
   rw[IntKind.wrap_u8,Int.negSucc_eq,aaV];omega
  rw[e];exact h
 ·rename_i a
  rcases bG h with⟨hb,h⟩|⟨_,h⟩
  ·have hb:=bu hb
   have h:=f_ h
   have e:IntKind.wrap .i64 (Int.negSucc a)=Int.negSucc a:=IntWalk.i64_in _ (by rw[Int.negSucc_eq];omega)
   rw[e];exact h
  ·exact Us h
 ·exact Us h
theorem FI(n:Int):IntKind.wrap .u16 n=n%65536:=by
 unfold IntKind.wrap
 simp only [IntKind.signed,Bool.false_and,Bool.false_eq_true,if_false,IntKind.bits]
 rfl
theorem iq{j:IntKind}{n:Int}{f:Int->Tr}{σ:St}{K:Fin}(h:run (kE j n f) σ K=true):run (f (j.wrap n)) σ K=true:=by
 cases j with
 |u8=>rw[IntKind.wrap_u8];exact h
 |u16=>rw[FI];exact h
 |u32=>rw[IntKind.wrap_u32];exact h
 |u64=>rw[nq];exact h
 |i64=>
  rcases cO h with⟨hp,h⟩|⟨hp,h⟩
  ·rw[IntWalk.i64_in _ hp];exact h
  ·exact h
 |_=>exact h
theorem pR(k:IntKind):aj k=2 ^ k.bits:=by cases k <;> rfl
theorem nr(k:IntKind):aY k=k.bits:=by cases k <;> rfl
theorem pS(k:IntKind)(n:Int):aL (aj k) n=(BitVec.ofInt k.bits n).toNat:=by
 rw[BitVec.toNat_ofInt,pR]
 cases n with
 |ofNat a=>
  show a%2 ^ k.bits=((a:Int)%((2 ^ k.bits:Nat):Int)).toNat
  rw[←Int.natCast_emod];rfl
 |negSucc a=>
  show 2 ^ k.bits-1-a%2 ^ k.bits=_
  have hp:0<2 ^ k.bits:=aaF _
  rw[Int.negSucc_emod _ (by exact_mod_cast hp), ←Int.natCast_emod]
  have:a%2 ^ k.bits<2 ^ k.bits:=Nat.mod_lt _ hp
  generalize a%2 ^ k.bits=r at *
  generalize 2 ^ k.bits=m at *
  omega
theorem eR(P:Program)(w:World)(j:IntKind)(x y:Int):
  ((Op.intBits .and j x y).run P w= .ok (.int j (j.wrap (Int.ofNat (Nat.land (aL (aj j) x) (aL (aj j) y))))) w)/\
  ((Op.intBits .or j x y).run P w= .ok (.int j (j.wrap (Int.ofNat (Nat.lor (aL (aj j) x) (aL (aj j) y))))) w)/\
  ((Op.intBits .xor j x y).run P w= .ok (.int j (j.wrap (Int.ofNat (Nat.xor (aL (aj j) x) (aL (aj j) y))))) w)/\
  ((Op.intBits .andNot j x y).run P w= .ok (.int j (j.wrap (Int.ofNat (Nat.land (aL (aj j) x) (Nat.sub (Nat.sub (aj j) 1) (aL (aj j) y)))))) w):=by
 refine⟨?_, ?_, ?_, ?_⟩
 ·simp only [Op.intBits,aac,pS,BitVec.toNat_and];rfl
 ·simp only [Op.intBits,aac,pS,BitVec.toNat_or];rfl
 ·simp only [Op.intBits,aac,pS,BitVec.toNat_xor];rfl
 ·have e:Nat.sub (Nat.sub (aj j) 1) (aL (aj j) y)=(~~~ (BitVec.ofInt j.bits y)).toNat:=by
   rw[BitVec.toNat_not,pS,pR];rfl
  rw[e]
  simp only [Op.intBits,aac,pS,BitVec.toNat_and];rfl
section
variable{P:Program}{w0:World}{ρ:Rho}{w:World}{σ:St}{K:Fin}{k:AV->Tr}
theorem iW{b:Bool}(h:run (fD b k) σ K=true):run (k (.bool b)) σ K=true:=by
 rcases bG h with⟨e,h⟩|⟨e,h⟩ <;> subst e <;> exact h
theorem nu{op:BinOp}{j:IntKind}{x y:Int}(hS:SI σ)(hG:Good w0 ρ σ.h w)(h:run (Rx op x y (fun b=>fD b k) .fail) σ K=true):
  Res P w0 ρ w k K (Op.intCmp op x y):=by
 have key:∀b,(Op.intCmp op x y).run P w= .ok (.bool b) w->run (fD b k) σ K=true->Res P w0 ρ w k K (Op.intCmp op x y):=
  fun b hb hr=>.plain (iW hr) hS hG (.bool b) hb
 unfold Rx at h
 split at h
 ·rename_i a b
  cases op <;> first
   |exact(ak h).elim
   |exact key _ (by simp only [Op.intCmp,aac];congr 2;rw[Bool.eq_iff_iff];simp [ax];omega) h
   |exact key _ (by simp only [Op.intCmp,aac];congr 2;rw[Bool.eq_iff_iff];simp) h
   |exact key _ (by simp only [Op.intCmp,aac];congr 2;rw[Bool.eq_iff_iff];simp [ax]) h
 ·cases op <;> first
   |exact(ak h).elim
   |exact key _ (by simp only [Op.intCmp,aac]) h
theorem sQ{n:Int}(h:Wp n=false):n≠0:=by
 intro e;subst e;cases h
def kY(op:BinOp)(j:IntKind)(x y:Int):Sem Value:=match op with | .add | .sub | .mul=>Op.intArith op j x y | .quo | .rem=>Op.intDiv op j x y | .and | .or | .xor | .andNot=>Op.intBits op j x y|_=>Op.intCmp op x y
theorem FJ{op:BinOp}{j:IntKind}{x y:Int}(hS:SI σ)(hG:Good w0 ρ σ.h w)(X4:op≠ .shl/\op≠ .shr)(h:run (DB op j x y k) σ K=true):
  Res P w0 ρ w k K (kY op j x y):=by
 obtain⟨b1,b2,b3,b4⟩:=eR P w j x y
 cases op
 case add=>exact .plain (iV h) hS hG (.int _ _) rfl
 case sub=>exact .plain (iV h) hS hG (.int _ _) rfl
 case mul=>exact .plain (iV h) hS hG (.int _ _) rfl
 case quo=>
  obtain⟨h1,h2⟩:=md h
  exact .plain (iV h2) hS hG (.int _ _) (by show(Op.intDiv .quo j x y).run P w=_;simp only [Op.intDiv,if_neg (sQ h1)];rfl)
 case rem=>
  obtain⟨h1,h2⟩:=md h
  exact .plain (Us h2) hS hG (.int _ _) (by show(Op.intDiv .rem j x y).run P w=_;simp only [Op.intDiv,if_neg (sQ h1)];rfl)
 case and=>exact .plain (iV h) hS hG (.int _ _) b1
 case or=>exact .plain (iV h) hS hG (.int _ _) b2
 case xor=>exact .plain (iV h) hS hG (.int _ _) b3
 case andNot=>exact .plain (iV h) hS hG (.int _ _) b4
 case shl=>exact absurd rfl X4.1
 case shr=>exact absurd rfl X4.2
 case eql=>exact nu (op:=.eql) (j:=j) hS hG h
 case neq=>exact nu (op:=.neq) (j:=j) hS hG h
 case lss=>exact nu (op:=.lss) (j:=j) hS hG h
 case leq=>exact nu (op:=.leq) (j:=j) hS hG h
 case gtr=>exact nu (op:=.gtr) (j:=j) hS hG h
 case geq=>exact nu (op:=.geq) (j:=j) hS hG h
theorem uE(a b:Nat):ky a b=min a b:=by
 unfold ky
 rw[ax]
 by_cases h:a<=b
 ·rw[if_pos (Nat.ble_eq.mpr h)];omega
 ·rw[if_neg (fun e=>h (bu e))];omega
theorem xX{op:BinOp}{j jj:IntKind}{x y:Int}(hS:SI σ)(hG:Good w0 ρ σ.h w)(h:run (Ii op j x y k) σ K=true):
  Res P w0 ρ w k K (Op.shift op j x jj y):=by
 obtain⟨n,rfl,h⟩:=xW h
 have e:min ((n:Int).toNat) j.bits=ky n (aY j):=by rw[uE,nr];rfl
 cases op
 case shl=>
  refine .plain (iV h) hS hG (.int _ _) ?_
  simp only [Op.shift,if_neg (show ¬(n:Int)<0 by omega),e,aac]
  congr 2
 case shr=>
  have e2:(Op.shift .shr j x jj (n:Int)).run P w= .ok (.int j (x.fdiv (((2 ^ ky n (aY j):Nat):Int)))) w:=by
   simp only [Op.shift,if_neg (show ¬(n:Int)<0 by omega),e,aac]
   rw[Int.natCast_pow]
   rfl
  cases x with
  |ofNat a=>
   have h:run (fN (Nat.div a (Nat.pow 2 (ky n (aY j)))) fun n=>k (.int j (.ofNat n))) σ K=true:=h
   refine .plain (f_ h) hS hG (.int _ _) ?_
   rw[e2]
   congr 2
   show(Int.ofNat a).fdiv (Int.ofNat (2 ^ ky n (aY j)))=Int.ofNat (a/2 ^ ky n (aY j))
   cases a with
   |zero=>rw[Nat.zero_div];rfl
   |succ a=>rfl
  |negSucc a=>
   have h:run (fI ((Int.negSucc a).fdiv (.ofNat (Nat.pow 2 (ky n (aY j))))) fun n=>k (.int j n)) σ K=true:=h
   exact .plain (Us h) hS hG (.int _ _) e2
 all_goals exact(ak h).elim
theorem uF:∀(x y:List Nat),xG x y=true↔x=y:=by
 intro x
 induction x with
 |nil=>intro y;cases y <;> simp [xG]
 |cons a x ih=>
  intro y
  cases y with
  |nil=>simp [xG]
  |cons b y=>simp only [xG,ax];by_cases e:a=b <;> simp [e,ih]
theorem xY{s t:ByteArray}(h:bytesOf s=bytesOf t):s=t:=by
 have:s.data.toList=t.data.toList:=List.map_inj_right (fun a b e=>UInt8.toNat_inj.mp e) |>.mp h
 cases s;cases t;simp at this;simp [this]
theorem gP(s t:ByteArray):xG (bytesOf s) (bytesOf t)=(s.toList==t.toList):=by
 rw[Bool.eq_iff_iff,uF]
 constructor
 ·intro h;rw[xY h];simp
 ·intro h
  have h:s.toList=t.toList:=by simpa using h
  rw[ByteArray.toList_eq,ByteArray.toList_eq] at h
  unfold bytesOf;rw[h]
theorem Bn{l:List Nat}{k:List Nat->Tr}(h:run (ne l k) σ K=true):run (k l) σ K=true:=by
 induction l generalizing k with
 |nil=>exact h
 |cons a l ih=>
  have h:run (fN a fun a=>ne l fun l=>k (a::l)) σ K=true:=h
  exact ih (f_ h)
theorem fj{l:List AV}{k:List AV->Tr}(h:run (fE l k) σ K=true):run (k l) σ K=true:=by
 induction l generalizing k with
 |nil=>exact h
 |cons a l ih=>exact ih h
end
end Go.Sym
namespace Go.Sym
theorem LR.drop{ρ:Rho}{l:List AV}{vs:List Value}(h:LR ρ l vs)(n:Nat):LR ρ (l.drop n) (vs.drop n):=
 ⟨by simp [h.1],fun i a v ha hv=>h.2 (n+i) a v (by simpa using ha) (by simpa using hv)⟩
theorem LR.take{ρ:Rho}{l:List AV}{vs:List Value}(h:LR ρ l vs)(n:Nat):LR ρ (l.take n) (vs.take n):=by
 refine⟨by simp [h.1],fun i a v ha hv=>?_⟩
 rw[aaW] at ha hv
 split at ha
 ·rename_i hi;rw[if_pos hi] at hv;exact h.2 i a v ha hv
 ·cases ha
section
variable{P:Program}{w0:World}{ρ:Rho}{w:World}{σ:St}{K:Fin}{k:AV->Tr}
theorem bQ{t:TypeId}{k:TypeDesc->Tr}(h:run (bJ P t k) σ K=true):∃d,P.underlying t=some d/\run (k d) σ K=true:=bO h
theorem QN{t:TypeId}{k:TypeInfo->Tr}(h:run (Im P t k) σ K=true):∃i,P.info? t=some i/\run (k i) σ K=true:=bO h
theorem cd{t:TypeId}{k:Nat->Tr}(h:run (bW P t k) σ K=true):∃i,P.info? t=some i/\run (k i.size) σ K=true:=by
 obtain⟨i,h1,h2⟩:=bO (k:=fun i:TypeInfo=>fN i.size k) h
 exact⟨i,h1,f_ h2⟩
theorem cq{t:TypeId}{d:TypeDesc}(h:P.underlying t=some d):(isAgg t).run P w= .ok (cj d) w:=by
 simp only [isAgg,aab,run_underlying h,aae]
 cases d <;> rfl
theorem ay{t:TypeId}{i:TypeInfo}(h:P.info? t=some i):(sizeOf t).run P w= .ok i.size w:=by
 simp [sizeOf,typeInfo,aab,run_program,h]
theorem jt{t:TypeId}{d:TypeDesc}{i:TypeInfo}(hu:P.underlying t=some d)(hi:P.info? t=some i){l:List AV}{cs:Array Value}{off:Nat}{a:AV}(hl:LR ρ l cs.toList)
  (ha:(if cj d then some (AV.agg ((l.drop off).take i.size)) else l[off]?)=some a):∃v,(part t cs off).run P w= .ok v w/\VR ρ a v:=by
 cases hd:cj d with
 |true=>
  rw[hd,if_pos rfl] at ha
  injection ha with ha;subst ha
  refine⟨.agg (cs.extract off (off+i.size)), ?_, ?_⟩
  ·simp only [part,aab,cq hu,hd,aae,if_true,ay hi,aac]
  ·have:(cs.extract off (off+i.size)).toList=(cs.toList.drop off).take i.size:=by
    rw[Array.toList_extract];simp [List.extract]
   obtain⟨h1,h2⟩:=LR.arr (ρ:=ρ) (l:=(l.drop off).take i.size) (cs:=cs.extract off (off+i.size)) (by rw[this];exact(hl.drop off).take i.size)
   exact .agg _ _ h1 h2
 |false=>
  rw[hd,if_neg (by simp)] at ha
  obtain⟨v,hv,hr⟩:=hl.get ha
  refine⟨v, ?_,hr⟩
  have Zi:cs[off]? =some v:=by simpa using hv
  simp only [part,aab,cq hu,hd,aae,Bool.false_eq_true,if_false,Zi,aac]
set_option maxHeartbeats 2000000 in
theorem me:∀(f:Nat) (g:Nat) (t:TypeId) (d:TypeDesc) (x y:AV) (v u:Value) (r:Bool) (D:Nat),P.underlying t=some d->(cj d=true->fH P g t=true)->
  VR ρ x v->VR ρ y u->e_ P f d x y=some r->f<=D->(Op.equalIn D t v u).run P w= .ok r w:=by
 intro f
 induction f with
 |zero=>intro g t d x y v u r D _ _ _ _ h;simp [e_] at h
 |succ f ih=>
  intro g t d x y v u r D hu hc hx hy h hD
  obtain⟨D,rfl⟩:∃D',D=D'+1:=⟨D-1,by omega⟩
  unfold e_ at h
  split at h
  ·cases hx;cases hy;injection h with h;subst h;simp [Op.equalIn,run_underlying hu]
  ·cases hx;cases hy
   split at h
   ·rename_i e;subst e;injection h with h;subst h;simp [Op.equalIn,run_underlying hu]
   ·cases h
  ·cases hx;cases hy;injection h with h;subst h
   rw[gP, ←beq_toListBytes];simp [Op.equalIn,run_underlying hu]
  all_goals first
   |(cases hx <;> cases hy <;> (injection h with h;subst h;simp [Op.equalIn,run_underlying hu];done))
   |skip
  ·
   rename_i e b g' o b' g2 o'
   split at h
   ·rename_i Y2
    obtain⟨e1,e2⟩:=Y2
    subst e1;subst e2
    split at h
    ·rename_i i hi
     split at h
     ·cases h
     ·rename_i u0
      injection h with h;subst h
      cases hx with
      |ptr _ _ _ hm hh ho=>
       cases hy with
       |ptr _ _ _ X7 Zj ho2=>
        rw[hh] at Zj;injection Zj with Zj;subst Zj
        have e3:((⟨hm.blk,o-hm.shift,none⟩:Addr)==⟨hm.blk,o'-hm.shift,none⟩)=(o==o'):=by
         by_cases e4:o=o'
         ·subst e4;simp
         ·have h1:(o==o')=false:=by simpa using e4
          rw[h1]
          cases hb:((⟨hm.blk,o-hm.shift,none⟩:Addr)==⟨hm.blk,o'-hm.shift,none⟩) with
          |false=>rfl
          |true=>
           have:=eq_of_beq hb
           injection this with _ h2 _
           omega
        simp [Op.equalIn,run_underlying hu,ay hi,u0,sameAddr,e3]
    ·cases h
   ·cases h
  ·
   rename_i ms t1 a t2 b
   cases hx with
   |iface _ _ va hva=>
    cases hy with
    |iface _ _ vb hvb=>
     split at h
     ·rename_i e
      subst e
      split at h
      ·rename_i i d' hi XC
       split at h
       ·rename_i hc'
        simp only [Bool.and_eq_true,Bool.not_eq_true'] at hc'
        have:=ih g t1 d' a b va vb r D XC (fun hq=>by rw[hc'.2] at hq;cases hq) hva hvb h (by omega)
        simp [Op.equalIn,run_underlying hu,typeInfo,run_program,hi,hc'.1,this]
       ·cases h
      ·cases h
     ·rename_i e
      injection h with h;subst h
      simp [Op.equalIn,run_underlying hu,e]
  ·
   rename_i len e xs ys
   split at h
   ·rename_i i d' hi he
    split at h
    ·rename_i hc'
     simp only [Bool.and_eq_true,beq_iff_eq,Bool.not_eq_true',decide_eq_true_eq] at hc'
     obtain⟨⟨⟨P',Z'⟩,hlx⟩,hly⟩:=hc'
     cases hx with
     |agg _ cs h1 h2=>
      cases hy with
      |agg _ ds k1 k2=>
       rw[run_equalIn_array w D cs ds hu hi]
       have u0:P.cellsOf e=1:=by simp [Program.cellsOf,hi,P']
       rw[u0]
       have lx:=LR.of_arr h1 h2
       have ly:=LR.of_arr k1 k2
       have key:∀(n i0:Nat) (xs' ys':List AV) (r:Bool),LR ρ xs' (cs.toList.drop i0)->LR ρ ys' (ds.toList.drop i0)->xs'.length=n->ys'.length=n->e_.eqArr (e_ P f d') xs' ys'=some r->
         (Op.eqItems D e 1 cs ds (List.range' i0 n)).run P w= .ok r w:=by
        intro n
        induction n with
        |zero=>
         intro i0 xs' ys' r lx ly l1 l2 h
         rw[List.length_eq_zero_iff] at l1 l2;subst l1;subst l2
         simp only [e_.eqArr] at h;injection h with h;subst h
         simp [Op.eqItems]
        |succ n ihn=>
         intro i0 xs' ys' r lx ly l1 l2 h
         cases xs' with
         |nil=>simp at l1
         |cons a xs'=>
          cases ys' with
          |nil=>simp at l2
          |cons b ys'=>
           obtain⟨v1,vs1,e1,r1,lx'⟩:=lx.cons_inv
           obtain⟨u1,us1,e2,r2,ly'⟩:=ly.cons_inv
           have hv1:cs[i0]? =some v1:=by
            have:=congrArg (·[0]?) e1;simpa using this
           have hu1:ds[i0]? =some u1:=by
            have:=congrArg (·[0]?) e2;simpa using this
           have lx2:LR ρ xs' (cs.toList.drop (i0+1)):=by
            have:cs.toList.drop (i0+1)=vs1:=by rw[←aaX,Nat.add_comm] at *;have:=congrArg (List.drop 1) e1;simpa [aaX,Nat.add_comm] using this
            rw[this];exact lx'
           have ly2:LR ρ ys' (ds.toList.drop (i0+1)):=by
            have:ds.toList.drop (i0+1)=us1:=by have:=congrArg (List.drop 1) e2;simpa [aaX,Nat.add_comm] using this
            rw[this];exact ly'
           have p1:(part e cs (i0 * 1)).run P w= .ok v1 w:=by
            simp only [aaD,part,aab,cq he,Z',aae,Bool.false_eq_true,if_false,hv1,aac]
           have p2:(part e ds (i0 * 1)).run P w= .ok u1 w:=by
            simp only [aaD,part,aab,cq he,Z',aae,Bool.false_eq_true,if_false,hu1,aac]
           simp only [e_.eqArr] at h
           simp only [List.range'_succ,Op.eqItems,aab,p1,p2,aae]
           split at h
           ·rename_i hq
            rw[ih g e d' a b v1 u1 true D he (by rw[Z'];intro c;cases c) r1 r2 hq (by omega)]
            simp only [aae,Bool.not_true,Bool.false_eq_true,if_false]
            exact ihn (i0+1) xs' ys' r lx2 ly2 (by simpa using l1) (by simpa using l2) h
           ·rename_i hq
            cases r with
            |true=>exact absurd h hq
            |false=>
             rw[ih g e d' a b v1 u1 false D he (by rw[Z'];intro c;cases c) r1 r2 h (by omega)]
             simp
       rw[List.range_eq_range']
       exact key len 0 xs ys r (by simpa using lx) (by simpa using ly) hlx hly h
    ·cases h
   ·cases h
  ·
   rename_i fs xs ys
   cases hx with
   |agg _ cs h1 h2=>
    cases hy with
    |agg _ ds k1 k2=>
     have Zk:=hc rfl
     obtain⟨g,rfl⟩:∃g',g=g'+1:=by
      cases g with
      |zero=>simp [fH] at Zk
      |succ g=>exact⟨g,rfl⟩
     simp only [fH,hu,Bool.and_eq_true,Bool.not_eq_true',abd] at Zk
     have Zh:P.fieldsOf t=fs:=by simp [Program.fieldsOf,hu]
     rw[run_equalIn_struct w D t cs ds (by rw[Zh];exact hu) Zk.1,Zh]
     have lx:=LR.of_arr h1 h2
     have ly:=LR.of_arr k1 k2
     have key:∀(l:List Field) (r:Bool),(∀fd∈l,fH P g fd.type=true)->e_.eqFs P (e_ P f) l xs ys=some r->(Op.eqFields D cs ds l).run P w= .ok r w:=by
      intro l
      induction l with
      |nil=>intro r _ h;simp only [e_.eqFs] at h;injection h with h;subst h;simp [Op.eqFields]
      |cons fd l ihl=>
       intro r hl h
       simp only [e_.eqFs] at h
       simp only [Op.eqFields]
       by_cases hn:fd.name= "_"
       ·rw[if_pos hn] at h
        rw[if_neg (by simp [hn])]
        exact ihl r (fun x hx=>hl x (by simp [hx])) h
       ·rw[if_neg hn] at h
        rw[if_pos hn]
        split at h
        ·rename_i i d' hi he
         split at h
         ·rename_i a b ha hb
          obtain⟨v1,p1,r1⟩:=jt (w:=w) he hi lx ha
          obtain⟨u1,p2,r2⟩:=jt (w:=w) he hi ly hb
          simp only [aab,p1,p2,aae]
          split at h
          ·rename_i hq
           rw[ih g fd.type d' a b v1 u1 true D he (fun _=>hl fd (by simp)) r1 r2 hq (by omega)]
           simp only [aae,Bool.not_true,Bool.false_eq_true,if_false]
           exact ihl r (fun x hx=>hl x (by simp [hx])) h
          ·rename_i hq
           cases r with
           |true=>exact absurd h hq
           |false=>
            rw[ih g fd.type d' a b v1 u1 false D he (fun _=>hl fd (by simp)) r1 r2 h (by omega)]
            simp
         ·cases h
        ·cases h
     exact key fs.toList r (fun fd hfd=>Zk.2 fd hfd) h
  ·cases h
end
end Go.Sym
namespace Go.Sym
section
variable{P:Program}{w0:World}{ρ:Rho}{w:World}{σ:St}{K:Fin}{k:AV->Tr}
def nv:Value->Value->Bool
 | .int _ _,.int _ _ | .float _ _,.float _ _ | .complex _ _ _,.complex _ _ _ | .string _,.string _=>false
 |_,_=>true
theorem gQ{t:TypeId}{v u:Value}(h:nv v u=true):binOp .eql t v u=(do pure (.bool (←Op.equal t v u))):=by
 cases v <;> cases u <;> first|rfl|cases h
theorem gR{t:TypeId}{v u:Value}(h:nv v u=true):binOp .neq t v u=(do pure (.bool (!(←Op.equal t v u)))):=by
 cases v <;> cases u <;> first|rfl|cases h
def bn:AV->Nat
 | .int _ _=>1 | .str _=>2 | .opq _=>3 | .anyB=>3 | .anyI _=>3 | .osl _=>3 | .opc _=>3 | .sI _ _=>3 | .sB _=>3 | .sS _=>3 | .any1=>3 | .cptr _=>3 | .cv _=>3 | .gsl .. =>3 | .gptr .. =>3 | .agg _=>4 | .nili=>5|_=>0
theorem mf{x y:AV}{v u:Value}(hx:VR ρ x v)(hy:VR ρ y u)(h1:bn x≠3)(h2:bn y≠3)(hi:¬(bn x=1/\bn y=1))(hs:¬(bn x=2/\bn y=2)):nv v u=true:=by
 cases hx <;> simp [bn] at h1 <;> cases hy <;> simp [bn] at h2 hi hs <;> rfl
def RF:Value->Value->Bool
 | .nilIface,.nilIface | .agg _,.agg _=>false
 |_,_=>true
theorem bD{op:BinOp}{t:TypeId}{ox oy:Operand}{v u:Value}(h:RF v u=true):(eqGuard op t ox oy v u).run P w= .ok () w:=by
 cases op <;> first|rfl|(cases v <;> cases u <;> first|rfl|cases h)
theorem kH{op:BinOp}{t:TypeId}{ox oy:Operand}{x y:AV}{v u:Value}(hx:VR ρ x v)(hy:VR ρ y u)(h1:bn x≠3)(h2:bn y≠3)(hn:¬(bn x=5/\bn y=5)∨oz ox=true∨oz oy=true)(ha:¬(bn x=4/\bn y=4)):
  (eqGuard op t ox oy v u).run P w= .ok () w:=by
 rcases hn with hn|hn
 ·refine bD ?_
  cases hx <;> simp [bn] at h1 <;> cases hy <;> simp [bn] at h2 hn ha <;> rfl
 ·by_cases h5:bn x=5/\bn y=5
  ·have e1:x= .nili:=by cases x <;> first|rfl|(simp [bn] at h5)
   have e2:y= .nili:=by cases y <;> first|rfl|(simp [bn] at h5)
   subst e1;subst e2
   cases hx;cases hy
   rcases hn with hn|hn
   ·cases ox <;> first|(cases hn;done)|skip
    cases op <;> first|rfl|(simp [eqGuard];done)
   ·cases oy <;> first|(cases hn;done)|skip
    cases op <;> first|rfl|(simp [eqGuard];done)
  ·refine bD ?_
   cases hx <;> simp [bn] at h1 <;> cases hy <;> simp [bn] at h2 h5 ha <;> rfl
theorem gh{op:BinOp}{t:TypeId}{ox oy:Operand}{xs ys:Array Value}(h:P.eqGuardType P.depth t=false):(eqGuard op t ox oy (.agg xs) (.agg ys)).run P w= .ok () w:=
 run_eqGuard_agg w op t ox oy xs ys h
theorem nw:∀(x y:List UInt8),uo (x.map UInt8.toNat) (y.map UInt8.toNat)=Op.bytesLess x y:=by
 intro x
 induction x with
 |nil=>intro y;cases y <;> simp [uo,Op.bytesLess]
 |cons a x ih=>
  intro y
  cases y with
  |nil=>simp [uo,Op.bytesLess]
  |cons b y=>
   simp only [aaB,uo,Op.bytesLess,ax,ih]
   rw[Bool.eq_iff_iff]
   by_cases h1:a.toNat<b.toNat
   ·have:a<b:=UInt8.lt_iff_toNat_lt.mpr h1
    simp [aa7,this]
    left;omega
   ·have h1':¬a<b:=fun h=>h1 (UInt8.lt_iff_toNat_lt.mp h)
    by_cases h2:a=b
    ·subst h2
     simp
     intro h;omega
    ·have:a.toNat≠b.toNat:=fun h=>h2 (UInt8.toNat_inj.mp h)
     have hb:Nat.beq a.toNat b.toNat=false:=by
      cases hb:Nat.beq a.toNat b.toNat with
      |false=>rfl
      |true=>exact absurd (aR hb) this
     have hc:Nat.ble (Nat.succ a.toNat) b.toNat=false:=by
      cases hb:Nat.ble (Nat.succ a.toNat) b.toNat with
      |false=>rfl
      |true=>exact absurd (bu hb) (by omega)
     simp [hb,hc,h1',h2]
theorem ju(s t:ByteArray):bytesOf (s++t)=bytesOf s++bytesOf t:=by
 simp [bytesOf,ByteArray.data_append]
theorem bK(s:ByteArray):(bytesOf s).length=s.size:=by simp [bytesOf]
theorem FK{op:BinOp}{s t:ByteArray}(hS:SI σ)(hG:Good w0 ρ σ.h w)(h:run (DC op (bytesOf s) (bytesOf t) k) σ K=true):
  Res P w0 ρ w k K (Op.stringOp op s t):=by
 have f7:uo (bytesOf s) (bytesOf t)=Op.bytesLess s.toList t.toList:=by
  rw[ByteArray.toList_eq,ByteArray.toList_eq];exact nw _ _
 have heq:=gP s t
 cases op
 case add=>
  have h:run (ne (bytesOf s++bytesOf t) fun l=>ac (Nat.ble (List.length l) 1000000000) (k (.str l)) .fail) σ K=true:=h
  obtain⟨h1,h2⟩:=ar (Bn h)
  have h1:=bu h1
  rw[aai,bK,bK] at h1
  rw[←ju] at h2
  refine .plain h2 hS hG (.str _) ?_
  have:¬(((s.size+t.size:Nat):Int) > IntKind.i64.max):=by
   have:IntKind.i64.max=9223372036854775807:=by decide
   omega
  simp only [Op.stringOp]
  rw[if_neg this];rfl
 case eql=>
  refine .plain (iW h) hS hG (.bool _) ?_
  rw[heq];rfl
 case neq=>
  refine .plain (iW h) hS hG (.bool _) ?_
  rw[ax,heq]
  simp only [Op.stringOp,aac]
  congr 2
  cases(s.toList==t.toList) <;> rfl
 case lss=>
  refine .plain (iW h) hS hG (.bool _) ?_
  rw[f7];rfl
 case leq=>
  refine .plain (iW h) hS hG (.bool _) ?_
  rw[ax,f7,heq]
  simp only [Op.stringOp,aac]
  congr 2
  cases Op.bytesLess s.toList t.toList <;> rfl
 case gtr=>
  refine .plain (iW h) hS hG (.bool _) ?_
  rw[ax,ax,f7,heq]
  simp only [Op.stringOp,aac]
  congr 2
  cases Op.bytesLess s.toList t.toList <;> cases(s.toList==t.toList) <;> rfl
 case geq=>
  refine .plain (iW h) hS hG (.bool _) ?_
  rw[ax,f7]
  simp only [Op.stringOp,aac]
  congr 2
  cases Op.bytesLess s.toList t.toList <;> rfl
 all_goals exact(ak h).elim
theorem fk{op:BinOp}{j:IntKind}{a b:Int}(X4:op≠ .shl/\op≠ .shr){t:TypeId}:
  binOp op t (.int j a) (.int j b)=kY op j a b:=by
 cases op <;> first|exact absurd rfl X4.1|exact absurd rfl X4.2|(simp only [binOp];rw[if_neg (by simp)];rfl)
theorem ph{x:AV}(h:bn x=4):∃l,x= .agg l:=by cases x <;> first|exact⟨_,rfl⟩|(simp [bn] at h)
theorem pj{x:AV}(h:bn x=1):∃j n,x= .int j n:=by cases x <;> first|exact⟨_,_,rfl⟩|(simp [bn] at h)
theorem pk{x:AV}(h:bn x=2):∃l,x= .str l:=by cases x <;> first|exact⟨_,rfl⟩|(simp [bn] at h)
theorem kI{lit:Bool}{x y:AV}(h:ur lit x y=true):bn x≠3/\bn y≠3/\(¬(bn x=5/\bn y=5)∨lit=true):=by
 cases x <;> cases y <;> first|(cases h;done)|(refine⟨?_, ?_,.inl ?_⟩ <;> simp [bn] <;> done)|exact⟨by simp [bn],by simp [bn],.inr h⟩
theorem DY{f:Nat}{d:TypeDesc}{x y:AV}{r:Bool}(hd:cj d=true)(h:e_ P f d x y=some r):∃a b,x= .agg a/\y= .agg b:=by
 cases f with
 |zero=>simp [e_] at h
 |succ f=>unfold e_ at h;split at h <;> first|(cases hd;done)|exact⟨_,_,rfl,rfl⟩|(cases h;done)
theorem RG{op:BinOp}{t:TypeId}{ox oy:Operand}{j j':IntKind}{n m:Int}(hS:SI σ)(hG:Good w0 ρ σ.h w)(h:run (ac (decide (j=j')) (ac (DF op) (k .anyB) .fail) .fail) σ K=true):
  Res P w0 ρ w k K (do eqGuard op t ox oy (.int j n) (.int j' m);binOp op t (.int j n) (.int j' m)):=by
 obtain⟨hj,h2⟩:=ar h
 obtain⟨XP,h3⟩:=ar h2
 have hj2:=of_decide_eq_true hj
 clear h h2 hj
 subst hj2
 have X4:op≠ .shl/\op≠ .shr:=by cases op <;> first|(simp [DF] at XP;done)|exact⟨by simp,by simp⟩
 obtain⟨b,hb⟩:∃b:Bool,(kY op j n m).run P w= .ok (.bool b) w:=by
  cases op <;> first|(simp [DF] at XP;done)|exact⟨_,rfl⟩
 refine(Res.plain h3 hS hG (.anyB b) hb).of_eq ?_
 rw[aab,bD rfl,fk X4];rfl
theorem bo{x:AV}{v:Value}{j:IntKind}{n:Int}(hx:VR ρ x v)(h:cz x=some (j,n)):v= .int j n:=by
 cases hx <;> simp [cz] at h
 ·obtain⟨e1,e2⟩:=h;subst e1;subst e2;rfl
 ·obtain⟨e1,e2⟩:=h;subst e1;subst e2;rfl
theorem di{x:AV}{v:Value}{l:List Nat}(hx:VR ρ x v)(h:fF x=some l):∃s,v= .string s/\l=bytesOf s:=by
 cases hx <;> simp [fF] at h
 ·exact⟨_,rfl,h.symm⟩
 ·exact⟨_,rfl,h.symm⟩
theorem dZ{x:AV}{v:Value}{p:Prop}(hx:VR ρ x v)(h:dA x=some p):∃b,v= .bool b/\(b=true↔p):=by
 cases hx <;> simp [dA] at h
 ·exact⟨_,rfl,by rw[←h]⟩
 ·rename_i hb;exact⟨_,rfl,by rw[←h];exact hb⟩
theorem FL{op:BinOp}{j:IntKind}{x y:Int}(hS:SI σ)(hG:Good w0 ρ σ.h w)(X4:op≠ .shl/\op≠ .shr)(h:run (Ij op j x y k) σ K=true):
  Res P w0 ρ w k K (kY op j x y):=by
 obtain⟨b1,b2,b3,b4⟩:=eR P w j x y
 have cmp:∀(b:Bool) (p:Prop),(b=true↔p)->(kY op j x y).run P w= .ok (.bool b) w->run (k (.sB p)) σ K=true->Res P w0 ρ w k K (kY op j x y):=fun b p hb h1 h2=>.plain h2 hS hG (.sB p b hb) h1
 cases op
 case add=>exact .plain (iq (f:=fun n=>k (.sI j n)) h) hS hG (.sI _ _) rfl
 case sub=>exact .plain (iq (f:=fun n=>k (.sI j n)) h) hS hG (.sI _ _) rfl
 case mul=>exact .plain (iq (f:=fun n=>k (.sI j n)) h) hS hG (.sI _ _) rfl
 case quo=>
  obtain⟨h1,h2⟩:=aW h
  have e:(Op.intDiv .quo j x y).run P w= .ok (.int j (j.wrap (x.tdiv y))) w:=by simp only [Op.intDiv,if_neg h1];rfl
  rcases cO h2 with⟨hp,h⟩|⟨_,h⟩
  ·refine .plain (iq (f:=fun n=>k (.sI j n)) h) hS hG (.sI _ _) ?_
   show(Op.intDiv .quo j x y).run P w=_
   rw[e,Int.tdiv_eq_ediv_of_nonneg hp.1]
  ·exact .plain (iq (f:=fun n=>k (.sI j n)) h) hS hG (.sI _ _) e
 case rem=>
  obtain⟨h1,h2⟩:=aW h
  have e:(Op.intDiv .rem j x y).run P w= .ok (.int j (x.tmod y)) w:=by simp only [Op.intDiv,if_neg h1];rfl
  rcases cO h2 with⟨hp,h⟩|⟨_,h⟩
  ·refine .plain h hS hG (.sI _ _) ?_
   show(Op.intDiv .rem j x y).run P w=_
   rw[e,Int.tmod_eq_emod_of_nonneg hp.1]
  ·exact .plain h hS hG (.sI _ _) e
 case and=>exact .plain h hS hG (.sI _ _) b1
 case or=>exact .plain h hS hG (.sI _ _) b2
 case xor=>exact .plain h hS hG (.sI _ _) b3
 case andNot=>exact .plain h hS hG (.sI _ _) b4
 case shl=>exact absurd rfl X4.1
 case shr=>exact absurd rfl X4.2
 case eql=>exact cmp (x==y) _ (by simp) rfl h
 case neq=>exact cmp (x !=y) _ (by simp) rfl h
 case lss=>exact cmp (decide (x<y)) _ (by simp) rfl h
 case leq=>exact cmp (decide (x<=y)) _ (by simp) rfl h
 case gtr=>exact cmp (decide (x > y)) _ (by simp) rfl h
 case geq=>exact cmp (decide (x≥y)) _ (by simp) rfl h
theorem xZ{op:BinOp}{j jj:IntKind}{x y:Int}(hS:SI σ)(hG:Good w0 ρ σ.h w)(h:run (xH op j x y k) σ K=true):
  Res P w0 ρ w k K (Op.shift op j x jj y):=by
 obtain⟨n,rfl,h2⟩:=xW h
 clear h
 have h:=f_ h2
 clear h2
 have e:min ((n:Int).toNat) j.bits=ky n (aY j):=by rw[uE,nr];rfl
 cases op
 case shl=>
  refine .plain (iq (f:=fun n=>k (.sI j n)) h) hS hG (.sI _ _) ?_
  simp only [Op.shift,if_neg (show ¬(n:Int)<0 by omega),e,aac]
  congr 3
 case shr=>
  refine .plain h hS hG (.sI _ _) ?_
  simp only [Op.shift,if_neg (show ¬(n:Int)<0 by omega),e,aac]
  congr 2
  show x.fdiv ((2:Int) ^ ky n (aY j))=x/((2 ^ ky n (aY j):Nat):Int)
  rw[Int.natCast_pow]
  exact Int.fdiv_eq_ediv_of_nonneg x (by apply Int.pow_nonneg;decide)
 all_goals exact(ak h).elim
theorem uG{op:BinOp}{j jj:IntKind}{x y:Int}(hS:SI σ)(hG:Good w0 ρ σ.h w)(h:run (sL op j x y k) σ K=true):
  Res P w0 ρ w k K (Op.shift op j x jj y):=by
 obtain⟨hy,h⟩:=aW h
 have e:j.bits=aY j:=by rw[nr]
 cases op
 case shl=>
  refine .plain (iq (f:=fun n=>k (.sI j n)) h) hS hG (.sI _ _) ?_
  simp only [Op.shift,if_neg (show ¬y<0 by omega),e,aac]
  rw[Int.natCast_pow];rfl
 case shr=>
  refine .plain h hS hG (.sI _ _) ?_
  simp only [Op.shift,if_neg (show ¬y<0 by omega),e,aac]
  congr 2
  show x.fdiv ((2:Int) ^ min y.toNat (aY j))=x/((2 ^ min y.toNat (aY j):Nat):Int)
  rw[Int.natCast_pow]
  exact Int.fdiv_eq_ediv_of_nonneg x (by apply Int.pow_nonneg;decide)
 all_goals exact(ak h).elim
theorem x_:∀(x y:List UInt8),(!(Op.bytesLess x y || x==y))=Op.bytesLess y x:=by
 intro x
 induction x with
 |nil=>intro y;cases y <;> simp [Op.bytesLess]
 |cons a x ih=>
  intro y
  cases y with
  |nil=>simp [Op.bytesLess]
  |cons b y=>
   have:=ih y
   rw[Bool.eq_iff_iff] at this⊢
   simp only [Op.bytesLess,Bool.not_eq_true',Bool.or_eq_false_iff,decide_eq_false_iff_not,Bool.and_eq_false_iff,Bool.or_eq_true,decide_eq_true_eq,Bool.and_eq_true,beq_iff_eq,List.cons_beq_cons,beq_eq_false_iff_ne] at this⊢
   rcases Nat.lt_trichotomy a.toNat b.toNat with h|h|h
   ·have h1:a<b:=UInt8.lt_iff_toNat_lt.mpr h
    have h2:¬b<a:=fun q=>by have:=UInt8.lt_iff_toNat_lt.mp q;omega
    have h3:b≠a:=fun q=>by subst q;omega
    simp [h1,h2,h3]
   ·have h1:a=b:=UInt8.toNat_inj.mp h
    subst h1
    simpa using this
   ·have h1:b<a:=UInt8.lt_iff_toNat_lt.mpr h
    have h2:¬a<b:=fun q=>by have:=UInt8.lt_iff_toNat_lt.mp q;omega
    have h3:a≠b:=fun q=>by subst q;omega
    simp [h1,h2,h3]
theorem FM{op:BinOp}{s t:ByteArray}(hS:SI σ)(hG:Good w0 ρ σ.h w)(h:run (Ik op (bytesOf s) (bytesOf t) k) σ K=true):
  Res P w0 ρ w k K (Op.stringOp op s t):=by
 have f7:uo (bytesOf s) (bytesOf t)=Op.bytesLess s.toList t.toList:=by
  rw[ByteArray.toList_eq,ByteArray.toList_eq];exact nw _ _
 have hgt:uo (bytesOf t) (bytesOf s)=Op.bytesLess t.toList s.toList:=by
  rw[ByteArray.toList_eq,ByteArray.toList_eq];exact nw _ _
 have heq:=gP s t
 have ae9:(s.toList==t.toList)=true↔bytesOf s=bytesOf t:=by rw[←heq,uF]
 cases op
 case add=>
  obtain⟨h1,h2⟩:=aW h
  rw[aai,bK,bK] at h1
  rw[←ju] at h2
  refine .plain h2 hS hG (.sS _) ?_
  have:¬(((s.size+t.size:Nat):Int) > IntKind.i64.max):=by
   have:IntKind.i64.max=9223372036854775807:=by decide
   omega
  simp only [Op.stringOp]
  rw[if_neg this];rfl
 case eql=>exact .plain h hS hG (.sB _ (s.toList==t.toList) ae9) rfl
 case neq=>exact .plain h hS hG (.sB _ (!(s.toList==t.toList)) (by rw[Bool.not_eq_true', ←Bool.not_eq_true,ae9])) rfl
 case lss=>exact .plain h hS hG (.sB _ (Op.bytesLess s.toList t.toList) (by rw[f7])) rfl
 case gtr=>exact .plain h hS hG (.sB _ (Op.bytesLess t.toList s.toList) (by rw[hgt])) (by simp only [Op.stringOp,aac];rw[x_])
 case leq=>exact .plain h hS hG (.sB _ (!Op.bytesLess t.toList s.toList) (by rw[hgt];simp)) (by simp only [Op.stringOp,aac];rw[←x_ s.toList t.toList,Bool.not_not])
 case geq=>exact .plain h hS hG (.sB _ (!Op.bytesLess s.toList t.toList) (by rw[f7];simp)) rfl
 all_goals exact(ak h).elim
theorem FN{op:BinOp}{t:TypeId}{ox oy:Operand}{x y:AV}{v u:Value}(hS:SI σ)(hG:Good w0 ρ σ.h w)(hx:VR ρ x v)(hy:VR ρ y u)(h:run (up op x y k) σ K=true):
  Res P w0 ρ w k K (do eqGuard op t ox oy v u;binOp op t v u):=by
 have lift:∀(s:Sem Value),(eqGuard op t ox oy v u).run P w= .ok () w->binOp op t v u=s->Res P w0 ρ w k K s->Res P w0 ρ w k K (do eqGuard op t ox oy v u;binOp op t v u):=fun s h1 h2 h3=>
  h3.of_eq (by rw[aab,h1,h2];rfl)
 unfold up at h
 split at h
 ·rename_i j n j' m ea eb
  have e1:=bo hx ea
  have e2:=bo hy eb
  subst e1;subst e2
  rcases bG h with⟨hs,h⟩|⟨hs,h⟩
  ·have e0:binOp op t (.int j n) (.int j' m)=Op.shift op j n j' m:=by cases op <;> first|rfl|(cases hs;done)
   rcases bG h with⟨_,h⟩|⟨_,h⟩
   ·exact lift (Op.shift op j n j' m) (bD rfl) e0 (uG (jj:=j') hS hG h)
   ·exact lift (Op.shift op j n j' m) (bD rfl) e0 (xZ (jj:=j') hS hG h)
  ·obtain⟨hj,h9⟩:=ar h
   have hj:j=j':=of_decide_eq_true hj
   subst hj
   have X4:op≠ .shl/\op≠ .shr:=by cases op <;> first|(cases hs;done)|exact⟨by simp,by simp⟩
   exact lift _ (bD rfl) (fk X4) (FL hS hG X4 h9)
 ·split at h
  ·rename_i a b ea eb
   obtain⟨s,e1,e1'⟩:=di hx ea
   obtain⟨s',e2,e2'⟩:=di hy eb
   subst e1;subst e2;subst e1';subst e2'
   exact lift _ (bD rfl) (by cases op <;> rfl) (FM hS hG h)
  ·exact(ak h).elim
def sR(a:AV):AV:=match a with | .sI k n=>.int k n|a=>a
theorem Bo{a:AV}{v:Value}(h:VR ρ a v):VR ρ (sR a) v:=by cases h <;> first|exact .int _ _|(constructor;done)|(constructor <;> assumption)
theorem uH:∀{l:List AV} {vs:List Value},LR ρ l vs->LR ρ (l.map sR) vs
 | [],vs,h=>h
 |a::l,vs,h=>by
  obtain⟨v,C',rfl,hv,h'⟩:=h.cons_inv
  exact LR.cons (Bo hv) (uH h')
theorem NW{a:AV}{j:IntKind}{n:Int}(h:cz a=some (j,n)):sR a= .int j n:=by
 unfold cz at h
 split at h
 ·injection h with h;injection h with h1 h2;subst h1;subst h2;rfl
 ·injection h with h;injection h with h1 h2;subst h1;subst h2;rfl
 ·cases h
theorem d_{j:IntKind}{ks:List IntKind}{xs:List AV}{l:List Int}(h:dh (j::ks) xs=some l):∃a as n m,xs=a::as/\l=n::m/\sR a= .int j n/\dh ks as=some m:=by
 cases xs with
 |nil=>simp [dh] at h
 |cons a as=>
  unfold dh at h
  split at h
  ·rename_i j' n hn
   rw[ax] at h
   split at h
   ·rename_i hj
    have hj:=of_decide_eq_true hj
    subst hj
    split at h
    ·rename_i m hm
     injection h with h
     exact⟨a,as,n,m,rfl,h.symm,NW hn,hm⟩
    ·cases h
   ·cases h
  ·cases h
theorem fw{xs:List AV}{l:List Int}(h:dh [] xs=some l):xs= []/\l= []:=by
 cases xs with
 |nil=>injection h with h;exact⟨rfl,h.symm⟩
 |cons a as=>simp [dh] at h
theorem nx:∀{ks:List IntKind} {xs:List AV} {l:List Int},dh ks xs=some l->xs.length=ks.length
 | [],xs,l,h=>by rw[(fw h).1];rfl
 |j::ks,xs,l,h=>by
  obtain⟨a,as,n,m,rfl,_,_,h'⟩:=d_ h
  simp [nx h']
theorem pT{f:Nat}{j:IntKind}:∀(n:Nat) {xs ys:List AV} {l m:List Int},dh (List.replicate n j) xs=some l->dh (List.replicate n j) ys=some m->
  e_.eqArr (e_ P (f+1) (.int j)) (xs.map sR) (ys.map sR)=some (decide (l=m))
 |0,xs,ys,l,m,h1,h2=>by
  obtain⟨rfl,rfl⟩:=fw h1
  obtain⟨rfl,rfl⟩:=fw h2
  simp [e_.eqArr]
 |n+1,xs,ys,l,m,h1,h2=>by
  obtain⟨a,as,x,l',rfl,rfl,ha,h1⟩:=d_ h1
  obtain⟨b,bs,y,m',rfl,rfl,hb,h2⟩:=d_ h2
  have ih:=pT (f:=f) n h1 h2
  have e:e_ P (f+1) (.int j) (.int j x) (.int j y)=some (x==y):=by simp [e_]
  simp only [aaB,e_.eqArr,ha,hb,e,ih]
  by_cases hxy:x=y
  ·subst hxy;simp
  ·have:(x==y)=false:=by simp [hxy]
   rw[this];simp [hxy]
theorem sT{f:Nat}{xs ys:List AV}:∀(fs:List Field) (i:Nat) {ks:List IntKind} {l m:List Int},oZ P i fs=some ks->dh ks (xs.drop i)=some l->dh ks (ys.drop i)=some m->
  e_.eqFs P (e_ P (f+1)) fs (xs.map sR) (ys.map sR)=some (decide (l=m))
 | [],i,ks,l,m,h,h1,h2=>by
  injection h with h;subst h
  obtain⟨_,rfl⟩:=fw h1
  obtain⟨_,rfl⟩:=fw h2
  simp [e_.eqFs]
 |fd::fs,i,ks,l,m,h,h1,h2=>by
  unfold oZ at h
  split at h
  ·cases h
  rename_i hn
  split at h
  ·rename_i ho
   split at h
   ·rename_i inf j hi hu
    split at h
    ·rename_i ks' hk
     injection h with h;subst h
     obtain⟨a,as,x,l',e1,rfl,ha,h1⟩:=d_ h1
     obtain⟨b,bs,y,m',e2,rfl,hb,h2⟩:=d_ h2
     have dx:xs.drop (i+1)=as:=by rw[←aaX,e1];rfl
     have dy:ys.drop (i+1)=bs:=by rw[←aaX,e2];rfl
     rw[←dx] at h1
     rw[←dy] at h2
     have ih:=sT (f:=f) fs (i+1) hk h1 h2
     have gx:(xs.map sR)[fd.offset]? =some (.int j x):=by
      rw[ho,aaE, ←List.head?_drop,e1];simp [ha]
     have gy:(ys.map sR)[fd.offset]? =some (.int j y):=by
      rw[ho,aaE, ←List.head?_drop,e2];simp [hb]
     have e:e_ P (f+1) (.int j) (.int j x) (.int j y)=some (x==y):=by simp [e_]
     rw[e_.eqFs,if_neg hn]
     simp only [hi,hu,cj,Bool.false_eq_true,if_false,gx,gy,e,ih]
     by_cases hxy:x=y
     ·subst hxy;simp
     ·have:(x==y)=false:=by simp [hxy]
      rw[this];simp [hxy]
    ·cases h
   ·cases h
  ·cases h
theorem ya{f:Nat}{d:TypeDesc}{ks:List IntKind}{xs ys:List AV}{l m:List Int}(h:uq P d=some ks)(h1:dh ks xs=some l)(h2:dh ks ys=some m):
  e_ P (f+2) d (.agg (xs.map sR)) (.agg (ys.map sR))=some (decide (l=m)):=by
 cases d with
 |array n e=>
  unfold uq at h
  simp only at h
  split at h
  ·rename_i i j hi hu
   rw[ax] at h
   split at h
   ·rename_i hs
    have hs:=aR hs
    injection h with h;subst h
    have lx:=nx h1
    have ly:=nx h2
    rw[List.length_replicate] at lx ly
    unfold e_
    simp [hi,hu,hs,cj,lx,ly]
    exact pT n h1 h2
   ·cases h
  ·cases h
 |struct fs=>
  unfold e_
  exact sT fs.toList 0 h (by rw[aaL];exact h1) (by rw[aaL];exact h2)
 |_=>cases h
theorem RH{d:TypeDesc}{xs ys:List AV}{p:Prop}(h:Wq P d xs ys=some p):∃r,e_ P 16 d (.agg (xs.map sR)) (.agg (ys.map sR))=some r/\(r=true↔p):=by
 unfold Wq at h
 split at h
 ·rename_i ks hk
  split at h
  ·rename_i l m h1 h2
   injection h with h;subst h
   exact⟨_,ya (f:=14) hk h1 h2,by simp⟩
  ·cases h
 ·cases h
theorem yb{t:TypeId}{d:TypeDesc}{a b:List AV}{v u:Value}{kb:Bool->Tr}{ks:Prop->Tr}(hu:P.underlying t=some d)(hc:fH P 16 t=true)(hx:VR ρ (.agg a) v)(hy:VR ρ (.agg b) u)(h:run (DE P d a b kb ks) σ K=true):
  ∃r,(Op.equal t v u).run P w= .ok r w/\(run (kb r) σ K=true∨∃p,(r=true↔p)/\run (ks p) σ K=true):=by
 unfold DE at h
 split at h
 ·rename_i r hr
  exact⟨r,me 16 16 t d _ _ v u r 10000 hu (fun _=>hc) hx hy hr (by omega),.inl h⟩
 ·obtain⟨p,hp,h⟩:=bO h
  obtain⟨r,hr,hrp⟩:=RH hp
  have deA:∀{l:List AV} {v:Value},VR ρ (.agg l) v->VR ρ (.agg (l.map sR)) v:=fun h=>by
   cases h with
   |agg _ cs h1 h2=>
    obtain⟨q1,q2⟩:=(uH (LR.of_arr h1 h2)).arr
    exact .agg _ _ q1 q2
  exact⟨r,me 16 16 t d _ _ v u r 10000 hu (fun _=>hc) (deA hx) (deA hy) hr (by omega),.inr ⟨p,hrp,h⟩⟩
set_option maxHeartbeats 1000000 in
theorem sU{op:BinOp}{t:TypeId}{ox oy:Operand}{x y:AV}{v u:Value}(hS:SI σ)(hG:Good w0 ρ σ.h w)(hx:VR ρ x v)(hy:VR ρ y u)(h:run (o_ P (ac (oz ox) true (oz oy)) op t x y k) σ K=true):
  Res P w0 ρ w k K (do eqGuard op t ox oy v u;binOp op t v u):=by
 have lift:∀(s:Sem Value),(eqGuard op t ox oy v u).run P w= .ok () w->binOp op t v u=s->Res P w0 ρ w k K s->Res P w0 ρ w k K (do eqGuard op t ox oy v u;binOp op t v u):=fun s h1 h2 h3=>
  h3.of_eq (by rw[aab,h1,h2];rfl)
 have eqR:∀(d:TypeDesc) (r:Bool),P.underlying t=some d->(cj d=true->fH P 16 t=true)->e_ P 16 d x y=some r->(Op.equal t v u).run P w= .ok r w:=fun d r hu hc he=>
  me 16 16 t d x y v u r 10000 hu hc hx hy he (by omega)
 unfold o_ at h
 split at h
 ·rename_i j a yk b
  cases hx;cases hy
  exact lift (Op.shift _ j a yk b) (bD rfl) rfl (xX (jj:=yk) hS hG h)
 ·rename_i j a yk b
  cases hx;cases hy
  exact lift (Op.shift _ j a yk b) (bD rfl) rfl (xX (jj:=yk) hS hG h)
 ·rename_i n1 n2
  cases hx;cases hy
  obtain⟨hj,h2⟩:=ar h
  have hj2:=of_decide_eq_true hj
  clear h hj
  subst hj2
  have X4:op≠ .shl/\op≠ .shr:=⟨fun e=>n1 e,fun e=>n2 e⟩
  exact lift _ (bD rfl) (fk X4) (FJ hS hG X4 h2)
 ·cases hx;cases hy
  exact lift _ (bD rfl) (by cases op <;> rfl) (FK hS hG h)
 ·obtain⟨hc,h⟩:=ar h
  obtain⟨d,hu,h⟩:=bQ h
  rw[ax] at hc
  have hg:P.eqGuardType P.depth t=false:=by
   cases hq:P.eqGuardType P.depth t with
   |false=>rfl
   |true=>rw[hq] at hc;cases hc
  rw[hg] at hc
  obtain⟨r,e,h⟩:=yb (w:=w) hu hc hx hy h
  cases hx;cases hy
  rcases h with h|⟨p,hp,h⟩
  ·exact lift _ (gh hg) (gQ rfl) (.plain (iW h) hS hG (.bool r) (by rw[aab,e];rfl))
  ·exact lift _ (gh hg) (gQ rfl) (.plain h hS hG (.sB p r hp) (by rw[aab,e];rfl))
 ·obtain⟨hc,h⟩:=ar h
  obtain⟨d,hu,h⟩:=bQ h
  rw[ax] at hc
  have hg:P.eqGuardType P.depth t=false:=by
   cases hq:P.eqGuardType P.depth t with
   |false=>rfl
   |true=>rw[hq] at hc;cases hc
  rw[hg] at hc
  obtain⟨r,e,h⟩:=yb (w:=w) hu hc hx hy h
  cases hx;cases hy
  rcases h with h|⟨p,hp,h⟩
  ·exact lift _ (gh hg) (gR rfl) (.plain (iW h) hS hG (.bool _) (by rw[aab,e];rw[ax];cases r <;> rfl))
  ·exact lift _ (gh hg) (gR rfl) (.plain h hS hG (.sB (¬p) (!r) (by rw[←hp];simp)) (by rw[aab,e];rfl))
 ·rename_i n1 n2 n3
  obtain⟨hp,h⟩:=ar h
  obtain⟨d,hu,h⟩:=bQ h
  obtain⟨r,hr,h⟩:=bO h
  obtain⟨h1,h2,h3⟩:=kI hp
  have h4:¬(bn x=4/\bn y=4):=fun⟨e1,e2⟩=>by
   obtain⟨a,e1⟩:=ph e1;obtain⟨b,e2⟩:=ph e2;exact n3 _ _ e1 e2
  have h5:¬(bn x=1/\bn y=1):=fun⟨e1,e2⟩=>by
   obtain⟨_,a,e1⟩:=pj e1;obtain⟨_,b,e2⟩:=pj e2;exact n1 _ _ _ _ e1 e2
  have h6:¬(bn x=2/\bn y=2):=fun⟨e1,e2⟩=>by
   obtain⟨a,e1⟩:=pk e1;obtain⟨b,e2⟩:=pk e2;exact n2 _ _ e1 e2
  have Z':cj d=true->fH P 16 t=true:=fun hd=>by
   obtain⟨a,b,e1,e2⟩:=DY hd hr
   exact(n3 _ _ e1 e2).elim
  exact lift _ (kH hx hy h1 h2 (h3.imp id fun hl=>by rw[ax] at hl;split at hl <;> first|exact .inl ‹_› | exact .inr hl) h4) (gQ (mf hx hy h1 h2 h5 h6)) (.plain (iW h) hS hG (.bool r) (by rw[aab,eqR d r hu Z' hr];rfl))
 ·rename_i n1 n2 n3
  obtain⟨hp,h⟩:=ar h
  obtain⟨d,hu,h⟩:=bQ h
  obtain⟨r,hr,h⟩:=bO h
  obtain⟨h1,h2,h3⟩:=kI hp
  have h4:¬(bn x=4/\bn y=4):=fun⟨e1,e2⟩=>by
   obtain⟨a,e1⟩:=ph e1;obtain⟨b,e2⟩:=ph e2;exact n3 _ _ e1 e2
  have h5:¬(bn x=1/\bn y=1):=fun⟨e1,e2⟩=>by
   obtain⟨_,a,e1⟩:=pj e1;obtain⟨_,b,e2⟩:=pj e2;exact n1 _ _ _ _ e1 e2
  have h6:¬(bn x=2/\bn y=2):=fun⟨e1,e2⟩=>by
   obtain⟨a,e1⟩:=pk e1;obtain⟨b,e2⟩:=pk e2;exact n2 _ _ e1 e2
  have Z':cj d=true->fH P 16 t=true:=fun hd=>by
   obtain⟨a,b,e1,e2⟩:=DY hd hr
   exact(n3 _ _ e1 e2).elim
  exact lift _ (kH hx hy h1 h2 (h3.imp id fun hl=>by rw[ax] at hl;split at hl <;> first|exact .inl ‹_› | exact .inr hl) h4) (gR (mf hx hy h1 h2 h5 h6)) (.plain (iW h) hS hG (.bool _) (by rw[aab,eqR d r hu Z' hr];rw[ax];cases r <;> rfl))
 ·rename_i n
  obtain⟨hn,h⟩:=ar h
  have hn:=of_decide_eq_true hn
  subst hn
  cases hx with
  |anyI _ a=>
   cases hy
   have hp:=uC (n:=4) h
   have f7:Nat.land (aL (aj .i64) a) (aL (aj .i64) 3)<4:=by
    show(aL (aj .i64) a) &&& 3<2 ^ 2
    exact Nat.and_lt_two_pow _ (by decide)
   have hw:IntKind.wrap .i64 (Int.ofNat (Nat.land (aL (aj .i64) a) (aL (aj .i64) 3)))=Int.ofNat (Nat.land (aL (aj .i64) a) (aL (aj .i64) 3)):=by
    generalize Nat.land (aL (aj .i64) a) (aL (aj .i64) 3)=m at f7
    have:m=0∨m=1∨m=2∨m=3:=by omega
    rcases this with rfl|rfl|rfl|rfl <;> rfl
   exact lift (kY .and .i64 a 3) (bD rfl) (fk (op:=.and) ⟨by simp,by simp⟩) (.plain (hp _ (.inr f7) (fun h=>absurd h (by omega))) hS hG (.int _ _) (by
    show(Op.intBits .and .i64 a 3).run P w=_
    rw[(eR P w .i64 a 3).1,hw]))
 ·cases hx;cases hy
  exact RG hS hG h
 ·exact(ak h).elim
theorem IY{op:UnOp}{x:AV}{v:Value}(hS:SI σ)(hG:Good w0 ρ σ.h w)(hx:VR ρ x v)(h:run (A_ op x k) σ K=true):Res P w0 ρ w k K (Op.unary op v):=by
 unfold A_ at h
 split at h
 ·cases hx;exact .plain (iV h) hS hG (.int _ _) rfl
 ·rename_i j n
  cases hx
  exact .plain (iV h) hS hG (.int _ _) (eR P w j (if j.signed then -1 else j.max) n).2.2.1
 ·cases hx
  refine .plain (iW h) hS hG (.bool _) ?_
  rename_i b
  rw[ax];cases b <;> rfl
 ·exact(ak h).elim
theorem yc{x:AV}{v:Value}{kk:AV->Tr}(hx:VR ρ x v)(h:run (DG x kk) σ K=true):∃x',VR ρ x' v/\run (kk x') σ K=true:=by
 unfold DG at h
 split at h
 ·rename_i p
  cases hx
  rename_i b hb
  rcases cO h with⟨hp,h⟩|⟨hp,h⟩
  ·have:b=true:=hb.2 hp
   subst this
   exact⟨_,.bool _,h⟩
  ·have:b=false:=by
    cases b with
    |false=>rfl
    |true=>exact absurd (hb.1 rfl) hp
   subst this
   exact⟨_,.bool _,h⟩
 ·exact⟨_,hx,h⟩
theorem NX{x y:AV}{v u:Value}(h:NO x y=true)(hx:VR ρ x v)(hy:VR ρ y u):(∃a n c,v= .slice a n c/\(¬pF x=0->∃b,a=some b))/\u= .slice none 0 0:=by
 unfold NO at h
 split at h
 ·cases hy
  refine⟨?_,rfl⟩
  cases hx with
  |cvnil c h0=>exact⟨_,_,_,rfl,fun h=>absurd h0 h⟩
  |cvempty c a h0=>exact⟨_,_,_,rfl,fun h=>absurd h0 h⟩
  |cv=>exact⟨_,_,_,rfl,fun _=>⟨_,rfl⟩⟩
 ·cases hy
  refine⟨?_,rfl⟩
  cases hx with
  |gnil=>exact⟨_,_,_,rfl,fun h=>absurd rfl h⟩
  |gempty=>exact⟨_,_,_,rfl,fun h=>absurd rfl h⟩
  |gsl=>exact⟨_,_,_,rfl,fun _=>⟨_,rfl⟩⟩
 ·cases h
theorem IZ{op:BinOp}{t:TypeId}{ox oy:Operand}{x y:AV}{v u:Value}(hS:SI σ)(hG:Good w0 ρ σ.h w)(hn:NO x y=true)(hx:VR ρ x v)(hy:VR ρ y u)(h:run (In P op t x k) σ K=true):
  Res P w0 ρ w k K (do eqGuard op t ox oy v u;binOp op t v u):=by
 obtain⟨⟨a,n,c,rfl,o8⟩,rfl⟩:=NX hn hx hy
 have lift:∀(s:Sem Value),binOp op t (.slice a n c) (.slice none 0 0)=s->Res P w0 ρ w k K s->Res P w0 ρ w k K (do eqGuard op t ox oy (.slice a n c) (.slice none 0 0);binOp op t (.slice a n c) (.slice none 0 0)):=fun s h2 h3=>
  h3.of_eq (by rw[aab,bD rfl,h2];rfl)
 obtain⟨d,hu,h⟩:=bQ h
 have key:∀e,d= .slice e->∃r,(Op.equal t (.slice a n c) (.slice none 0 0)).run P w= .ok r w/\(¬pF x=0->r=false):=fun e hd=>by
  subst hd
  have:∀D:Nat,∃r,(Op.equalIn (D+1) t (.slice a n c) (.slice none 0 0)).run P w= .ok r w/\(¬pF x=0->r=false):=fun D=>by
   cases a with
   |none=>exact⟨true,by simp [Op.equalIn,run_underlying hu],fun h=>by obtain⟨b,hb⟩:=o8 h;cases hb⟩
   |some b=>exact⟨false,by simp [Op.equalIn,run_underlying hu],fun _=>rfl⟩
  exact this 9999
 split at h
 ·obtain⟨r,e,hr⟩:=key _ rfl
  rcases cO h with⟨_,h⟩|⟨hl,h⟩
  ·exact lift _ (gQ rfl) (.plain h hS hG (.anyB r) (by rw[aab,e];rfl))
  ·have hr:=hr hl
   subst hr
   exact lift _ (gQ rfl) (.plain h hS hG (.bool false) (by rw[aab,e];rfl))
 ·obtain⟨r,e,hr⟩:=key _ rfl
  rcases cO h with⟨_,h⟩|⟨hl,h⟩
  ·exact lift _ (gR rfl) (.plain h hS hG (.anyB _) (by rw[aab,e];rfl))
  ·have hr:=hr hl
   subst hr
   exact lift _ (gR rfl) (.plain h hS hG (.bool true) (by rw[aab,e];rfl))
 ·exact(ak h).elim
theorem I1{op:BinOp}{t:TypeId}{ox oy:Operand}{x y:AV}{v u:Value}(hS:SI σ)(hG:Good w0 ρ σ.h w)(hx:VR ρ x v)(hy:VR ρ y u)(h:run (Io P (ac (oz ox) true (oz oy)) op t x y k) σ K=true):
  Res P w0 ρ w k K (do eqGuard op t ox oy v u;binOp op t v u):=by
 rcases bG h with⟨hn,h⟩|⟨_,h⟩
 ·exact IZ hS hG hn hx hy h
 rcases bG h with⟨_,h⟩|⟨_,h⟩
 ·rcases bG h with⟨_,h⟩|⟨_,h⟩
  ·obtain⟨x',Xz,h⟩:=yc hx h
   obtain⟨y',hy',h⟩:=yc hy h
   exact sU hS hG Xz hy' h
  ·exact FN hS hG hx hy h
 ·exact sU hS hG hx hy h
theorem I2{op:UnOp}{x:AV}{v:Value}(hS:SI σ)(hG:Good w0 ρ σ.h w)(hx:VR ρ x v)(h:run (A9 op x k) σ K=true):Res P w0 ρ w k K (Op.unary op v):=by
 unfold A9 at h
 split at h
 ·rename_i j n
  cases hx;exact .plain (iq (f:=fun n=>k (.sI j n)) h) hS hG (.sI _ _) rfl
 ·rename_i j n
  cases hx
  exact .plain h hS hG (.sI _ _) (eR P w j (if j.signed then -1 else j.max) n).2.2.1
 ·cases hx
  rename_i p b hb
  exact .plain h hS hG (.sB _ (!b) (by rw[←hb];simp)) rfl
 ·exact(ak h).elim
theorem NY{op:UnOp}{x:AV}{v:Value}(hS:SI σ)(hG:Good w0 ρ σ.h w)(hx:VR ρ x v)(h:run (QG op x k) σ K=true):Res P w0 ρ w k K (Op.unary op v):=by
 rcases bG h with⟨_,h⟩|⟨_,h⟩
 ·exact I2 hS hG hx h
 ·exact IY hS hG hx h
end
end Go.Sym
namespace Go.Sym
open Go.RowKit (Below)
theorem Good.ext{w0:World}{ρ:Rho}{H H':T ABlk}{w:World}(hG:Good w0 ρ H w)(h:∀b,H'.get b=H.get b):Good w0 ρ H' w:=
 ⟨⟨hG.below,fun b x hx=>hG.blk b x (by rw[←h];exact hx),fun b g y hy=>by
  obtain⟨q1,x,q2⟩:=hG.dom b g y hy
  exact⟨q1,x,by rw[h];exact q2⟩,hG.inj,fun b g y x hy hx=>hG.gens b g y x hy (by rw[←h];exact hx),fun b arr ty hf=>⟨(hG.frz b arr ty hf).1,fun b' g x hh e=>by rw[h];exact(hG.frz b arr ty hf).2 b' g x hh e⟩,hG.frzB,fun b k I l hb=>hG.objO b k I l (by rw[←h];exact hb)⟩,hG.ownB⟩
section
variable{P:Program}{w0:World}{ρ:Rho}{w:World}{σ:St}{K:Fin}{k:AV->Tr}
theorem pU{t:TypeId}{k:AV->Tr}(ρ:Rho)(w:World)(h:run (lY P t k) σ K=true):∃z zv i,P.info? t=some i/\(zeroValue t).run P w= .ok zv w/\VR ρ z zv/\run (k z) σ K=true:=by
 obtain⟨i,h1,h2⟩:=bO (k:=fun i:TypeInfo=>cE i.zero .fail fun v=>cE (Rt 8 v) .fail k) h
 obtain⟨v,h3,h4⟩:=bO h2
 obtain⟨a,h5,h6⟩:=bO h4
 refine⟨a,v,i,h1, ?_,If ρ _ _ _ h5,h6⟩
 simp [zeroValue,typeInfo,aab,run_program,h1,h3]
theorem I3{k:T Cell->Tr}:∀(l:List AV) (i:Nat) (t:T Cell),run (NP l i t k) σ K=true->
  ∃c,run (k c) σ K=true/\∀o x,c.get o=some x->(∃(j:Nat) (a:AV),o=i+j/\l[j]? =some a/\x= .mk 0 a)∨(t.get o=some x/\(o<i∨i+l.length<=o)):=by
 intro l
 induction l with
 |nil=>intro i t h;exact⟨t,h,fun o x hx=>.inr ⟨hx,by simp;omega⟩⟩
 |cons a l ih=>
  intro i t h
  have h:run (T.setK t i (.mk 0 a) fun t=>fN (Nat.succ i) fun i=>NP l i t k) σ K=true:=h
  rw[T.setK_eq] at h
  obtain⟨c,h1,h2⟩:=ih _ _ (f_ h)
  refine⟨c,h1,fun o x hx=>?_⟩
  rcases h2 o x hx with⟨j,b,e,hb,Xz⟩|⟨Xz,ho⟩
  ·exact .inl ⟨j+1,b,by omega,by simpa using hb,Xz⟩
  ·by_cases e:o=i
   ·subst e
    have:=T.get_set_some _ _ Xz
    exact .inl ⟨0,a,by omega,rfl,this⟩
   ·rw[T.get_set_ne _ e] at Xz
    exact .inr ⟨Xz,by simp at ho⊢;omega⟩
theorem kZ{l:List AV}{k:Nat->Tr}(fl:Nat)(arr:Array Value)(e:TypeId)(fr:Nat×Nat)(Yg:fr.1<=fr.2/\∀x,(x<arr.size∨fl<=0)->fr.1<=x->x<fr.2->False)(hS:SI σ)(hG:Good w0 ρ σ.h w)(u0:l.length<=arr.size)(hl:∀(i:Nat) (a:AV),l[i]? =some a->∃v,arr[i]? =some v/\VR ρ a v)
  (h:run (lZ fl e l k) σ K=true):
  ∃b c9,run (k b) c9 K=true/\SI c9/\ρ.le (ρ.put b 0 ⟨w.heap.size,0,arr.size⟩)/\Good w0 (ρ.put b 0 ⟨w.heap.size,0,arr.size⟩) c9.h {w with heap:=w.heap.push (.cells arr e fr)}:=by
 have h:run (NP l 0 .leaf fun t=>fN (List.length l) fun n=>.new (.cells t 0 0 n fl 0 false e) k) σ K=true:=h
 obtain⟨c,h1,h2⟩:=I3 _ _ _ h
 obtain⟨n,c9,hn,d8,hh,l8,h3⟩:=dI hS (f_ h1)
 obtain⟨hle,i6⟩:=hG.alloc hn d8 (.cells c 0 0 l.length fl 0 false e) (.cells arr e fr) 0 arr.size (fun ρ' hle q9 _=>by
  refine⟨fun o x hx=>?_,fun g hg=>?_⟩
  ·rcases h2 o x hx with⟨j,a,e1,ha,ex⟩|⟨Xz,_⟩
   ·have:x.tag=0:=by rw[ex];rfl
    have:j<l.length:=by
     rcases aaf j l.length with h'|h'
     ·exact h'
     ·rw[aaj h'] at ha;cases ha
    omega
   ·simp [T.get] at Xz
  ·have:g=0:=by omega
   subst this
   refine⟨_,q9,fun _=>.new hG.below.size,(fun h=>by cases h),arr,fr, ?_,rfl,fun _=>⟨Yg.1,fun x h1 h2 h3=>(Yg.2 x h1 h2 h3).elim⟩,fun o tag a ho ht=>?_⟩
   ·show(w.heap.push _)[w.heap.size]? =_
    simp
   ·rcases h2 o _ ho with⟨j,b,e1,hb,hx⟩|⟨Xz,_⟩
    ·injection hx with R' t7
     subst t7
     obtain⟨v,hv,hr⟩:=hl j a hb
     refine⟨aal _,v, ?_,hr.mono hle⟩
     show arr[o-0]? =some v
     rw[show o-0=j by omega];exact hv
    ·simp [T.get] at Xz)
 exact⟨n,c9,h3,l8,hle,by rw[hh];exact i6⟩
theorem ke{l:List AV}{k:Nat->Tr}(arr:Array Value)(e:TypeId)(hS:SI σ)(hG:Good w0 ρ σ.h w)(u0:l.length<=arr.size)(hl:∀(i:Nat) (a:AV),l[i]? =some a->∃v,arr[i]? =some v/\VR ρ a v)
  (h:run (l_ e l k) σ K=true):
  ∃b c9,run (k b) c9 K=true/\SI c9/\ρ.le (ρ.put b 0 ⟨w.heap.size,0,arr.size⟩)/\Good w0 (ρ.put b 0 ⟨w.heap.size,0,arr.size⟩) c9.h {w with heap:=w.heap.push (.cells arr e)}:=
 kZ 0 arr e (0,0) ⟨aaa _,fun x _ _ h=>absurd h (by simp)⟩ hS hG u0 hl h
theorem LR.to_arr{l:List AV}{cs:Array Value}(h:LR ρ l cs.toList):l.length<=cs.size/\∀(i:Nat) (a:AV),l[i]? =some a->∃v,cs[i]? =some v/\VR ρ a v:=
 ⟨by have:=h.1;simp at this;omega,fun i a ha=>by obtain⟨v,hv,hr⟩:=h.get ha;exact⟨v,by simpa using hv,hr⟩⟩
theorem sV{a:AV}{v:Value}{t:TypeId}(hS:SI σ)(hG:Good w0 ρ σ.h w)(hv:VR ρ a v)(h:run (ma t a k) σ K=true):
  Res P w0 ρ w k K (do pure (.pointer (some (←newVar t v)))):=by
 obtain⟨l,hl,h1⟩:=fL hv h
 obtain⟨q1,q2⟩:=LR.to_arr hl
 obtain⟨b,c9,h2,l8,hle,i6⟩:=ke v.cells t hS hG q1 q2 h1
 refine⟨_,c9,_,_,_,h2,l8,i6,hle,VR.ptr b 0 0 _ (Rho.put_at _ _ _ _) (aal _), ?_⟩
 simp [newVar,newRow]
theorem I4{t:TypeId}(hS:SI σ)(hG:Good w0 ρ σ.h w)(h:run (lY P t fun z=>ma t z k) σ K=true):Res P w0 ρ w k K (Instr.alloc t true (.tuple #[])):=by
 obtain⟨z,zv,i,_,hz,hr,h1⟩:=pU ρ w h
 refine(sV (P:=P) (t:=t) hS hG hr h1).of_eq ?_
 simp [Instr.alloc,aab,hz]
theorem RI{a:AV}{v:Value}{t:TypeId}(hS:SI σ)(hG:Good w0 ρ σ.h w)(hv:VR ρ a v)(h:run (ma t a k) σ K=true):Res P w0 ρ w k K (Instr.box t v):=
 sV hS hG hv h
theorem DZ{b g o tag:Nat}{a:AV}{c:T Cell}{gen lo hi fl fh ty:Nat}{ro:Bool}{h:Home}{H:T ABlk}(hG:Good w0 ρ H w)(hb:H.get b=some (.cells c gen lo hi fl fh ro ty))(hh:ρ.at_ b g=some h)(hg:g<=gen)
  (hc:c.get o=some (.mk tag a)) (ht:tag<=g):h.shift<=o/\∃v,w.cell? ⟨h.blk,o-h.shift,none⟩=some v/\VR ρ a v:=by
 obtain⟨hm,q1,_,_,arr,fr,q2,q3,_,q4⟩:=(hG.blk _ _ hb).2 g hg
 rw[hh] at q1;injection q1 with q1;subst q1
 obtain⟨r1,v,r2,r3⟩:=q4 o tag a hc ht
 refine⟨r1,v, ?_,r3⟩
 simp [World.cell?,q2,r2]
theorem RJ{c:T Cell}{g:Nat}:∀{n o:Nat} {k:List AV->Tr},run (Ip c g n o k) σ K=true->∃l,run (k l) σ K=true/\l.length=n/\∀(j:Nat) (a:AV),l[j]? =some a->∃tag,c.get (o+j)=some (.mk tag a)/\tag<=g:=by
 intro n
 induction n with
 |zero=>intro o k h;exact⟨[],h,rfl,by simp⟩
 |succ n ih=>
  intro o k h
  have h:run (T.getK c o .fail fun x=>match x with
   | .mk tag v=>ac (Nat.ble tag g) (fN (Nat.succ o) fun o=>Ip c g n o fun l=>k (v::l)) .fail) σ K=true:=h
  obtain⟨x,hx,h⟩:=nl h
  cases x with
  |mk tag v=>
   obtain⟨ht,h⟩:=ar h
   obtain⟨l,h1,h2,h3⟩:=ih (f_ h)
   refine⟨v::l,h1,by simp [h2],fun j a ha=>?_⟩
   cases j with
   |zero=>simp at ha;subst ha;exact⟨tag,hx,bu ht⟩
   |succ j=>
    obtain⟨Yz,q1,q2⟩:=h3 j a (by simpa using ha)
    exact⟨Yz,by rw[show o+(j+1)=Nat.succ o+j by omega];exact q1,q2⟩
theorem k_{b g o n:Nat}{h0:Home}{k:List AV->Tr}(hS:SI σ)(hG:Good w0 ρ σ.h w)(hh:ρ.at_ b g=some h0)(ho:h0.shift<=o)(h:run (jk b g o n k) σ K=true):
  ∃l cs c9,c9.h=σ.h/\SI c9/\run (k l) c9 K=true/\LR ρ l cs/\cs.length=n/\(∀(j:Nat) (v:Value),cs[j]? =some v->w.cell? ⟨h0.blk,o-h0.shift+j,none⟩=some v)/\(loadCells ⟨h0.blk,o-h0.shift,none⟩ n).run P w= .ok cs.toArray w:=by
 obtain⟨x,d6,hx,e1,d5,h⟩:=bm hS h
 cases x with
 |cells c gen lo hi fl fh ro ty=>
  obtain⟨hg,h⟩:=ar h
  have hg:=bu hg
  obtain⟨l,h1,h2,h3⟩:=RJ h
  have key:∀(j:Nat) (a:AV),l[j]? =some a->∃v,w.cell? ⟨h0.blk,o-h0.shift+j,none⟩=some v/\VR ρ a v:=fun j a ha=>by
   obtain⟨tag,q1,q2⟩:=h3 j a ha
   obtain⟨_,v,r2,r3⟩:=DZ hG hx hh hg q1 q2
   exact⟨v,by rw[show o-h0.shift+j=o+j-h0.shift by omega];exact r2,r3⟩
  let cs:List Value:=(List.range l.length).map fun j=>(w.cell? ⟨h0.blk,o-h0.shift+j,none⟩).getD undef
  have Y3:cs.length=n:=by simp [cs,h2]
  have i9:∀(j:Nat) (v:Value),cs[j]? =some v->w.cell? ⟨h0.blk,o-h0.shift+j,none⟩=some v:=fun j v hv=>by
   have hj:j<l.length:=by
    rcases aaf j l.length with h'|h'
    ·exact h'
    ·rw[aaj (by simp [cs];exact h')] at hv;cases hv
   obtain⟨v',Zi,_⟩:=key j l[j] (aah hj)
   simp [cs,hj,Zi] at hv
   rw[Zi,hv]
  refine⟨l,cs,d6,e1,d5,h1,⟨by simp [cs],fun j a v ha hv=>?_⟩,Y3,i9, ?_⟩
  ·obtain⟨v',Zi,hr⟩:=key j a ha
   have:=i9 j v hv
   rw[Zi] at this;injection this with this;subst this;exact hr
  ·have:=run_loadCells_list (P:=P) w ⟨h0.blk,o-h0.shift,none⟩ cs (fun j v hv=>by
    have:=i9 j v hv
    unfold Addr.add
    split
    ·rename_i e;subst e;simpa using this
    ·exact this)
   rw[Y3] at this;exact this
 |_=>exact(ak h).elim
theorem yd{t:TypeId}{x:AV}{v:Value}(hS:SI σ)(hG:Good w0 ρ σ.h w)(hx:VR ρ x v)(h:run (xI P t x k) σ K=true):∃av c9 u,run (k av) c9 K=true/\SI c9/\Good w0 ρ c9.h w/\VR ρ av u/\(Instr.loadAt t v).run P w= .ok u w:=by
 cases hx with
 |ptr b g o h0 hh ho=>
  obtain⟨d,hu,h⟩:=bQ h
  rcases bG h with⟨hd,h⟩|⟨hd,h⟩
  ·obtain⟨i,hi,h⟩:=cd h
   obtain⟨l,cs,c9,e,l8,h1,hl,hlen,_,i3⟩:=k_ (P:=P) hS hG hh ho h
   have p7:LR ρ l cs.toArray.toList:=by simpa using hl
   refine⟨_,_,_,h1,l8,by rw[e];exact hG,VR.agg l cs.toArray p7.arr.1 p7.arr.2, ?_⟩
   simp only [Instr.loadAt,Instr.sureAddr,loadVar,aab,aac,aae,cq hu,hd,if_true,ay hi,i3]
  ·obtain⟨y,d6,hy,e1,d5,h⟩:=bm hS h
   cases y with
   |cells c gen lo hi fl fh ro ty=>
    obtain⟨hg,h⟩:=ar h
    obtain⟨z,hz,h⟩:=nl h
    cases z with
    |mk tag a=>
     obtain⟨ht,h⟩:=ar h
     obtain⟨_,v,hv,hr⟩:=DZ hG hy hh (bu hg) hz (bu ht)
     refine⟨_,_,_,h,d5,by rw[e1];exact hG,hr, ?_⟩
     simp only [Instr.loadAt,Instr.sureAddr,loadVar,aab,aac,aae,cq hu,hd,Bool.false_eq_true,if_false,run_load,hv]
   |_=>exact(ak h).elim
 |cptr l blk off arr ty hf hb r=>
  obtain⟨⟨fr,hw⟩,_⟩:=hG.frz _ _ _ hf
  obtain⟨d,hu,h⟩:=bQ h
  rcases bG h with⟨hd,h⟩|⟨hd,h⟩
  ·obtain⟨i,hi,h⟩:=cd h
   have h:=fj h
   obtain⟨hn,h⟩:=ar h
   have hn:=aR hn
   have hle:i.size<=l.length:=by rw[aam] at hn;omega
   have Y3:((arr.toList.drop off).take i.size).length=i.size:=by simp;omega
   have j8:∀(j:Nat) (v:Value),((arr.toList.drop off).take i.size)[j]? =some v->j<i.size/\arr[off+j]? =some v:=fun j v hv=>by
    have hj:j<i.size:=by
     rcases aaf j i.size with h'|h'
     ·exact h'
     ·rw[aaj (by omega)] at hv;cases hv
    refine⟨hj, ?_⟩
    rw[aar hj,aax] at hv
    simpa using hv
   have hl:LR ρ (l.take i.size) ((arr.toList.drop off).take i.size):=by
    refine⟨by rw[Y3,hn],fun j a v ha hv=>?_⟩
    obtain⟨hj,hv⟩:=j8 j v hv
    rw[aar hj] at ha
    exact r j a v ha hv
   have i3:=run_loadCells_list (P:=P) w ⟨blk,off,none⟩ ((arr.toList.drop off).take i.size) (fun j v hv=>by
    obtain⟨_,hv⟩:=j8 j v hv
    unfold Addr.add
    split
    ·rename_i e;subst e;simp [World.cell?,hw];simpa using hv
    ·simp [World.cell?,hw];exact hv)
   rw[Y3] at i3
   have p7:LR ρ (l.take i.size) ((arr.toList.drop off).take i.size).toArray.toList:=by simpa using hl
   refine⟨_,_,_,h,hS,hG,VR.agg _ ((arr.toList.drop off).take i.size).toArray p7.arr.1 p7.arr.2, ?_⟩
   simp only [Instr.loadAt,Instr.sureAddr,loadVar,aab,aac,aae,cq hu,hd,if_true,ay hi,i3]
  ·obtain⟨a,ha,h⟩:=bO h
   have f7:0<l.length:=by
    rcases aaf 0 l.length with h'|h'
    ·exact h'
    ·rw[aaj h'] at ha;cases ha
   have hv:arr[off]? =some arr[off]:=aaJ (by omega)
   refine⟨_,_,_,h,hS,hG,r 0 a _ ha (show arr[off+0]? =some arr[off] by rw[aap];exact hv), ?_⟩
   simp only [Instr.loadAt,Instr.sureAddr,loadVar,aab,aac,aae,cq hu,hd,Bool.false_eq_true,if_false,run_load]
   simp [World.cell?,hw,hv]
 |gptr b g i o es hm hh hs=>
  obtain⟨q,d6,hq,e1,d5,h⟩:=bm hS h
  have d7:Good w0 ρ d6.h w:=by rw[e1];exact hG
  cases q with
  |grow c gen ty=>
   obtain⟨k1,z1⟩:=ar h
   obtain⟨k2,z2⟩:=ar z1
   obtain⟨f7,z3⟩:=aW z2
   clear h z1 z2
   have k1:=aR k1
   have k2:=aR k2
   subst k1;subst k2
   have h:=z3
   clear z3
   rcases hG.blk _ _ hq with h0|⟨x8,q1,q2,q3,arr,fr,q4,q5,q6,q7,q8⟩
   ·omega
   rw[hh] at q1;injection q1 with q1;subst q1
   have i9:=q8 i f7
   have j8:∀(j:Nat) (a:AV),(c.row i)[j]? =some a->∃u,w.cell? ⟨hm.blk,i * c.es+j,none⟩=some u/\VR ρ a u:=fun j a ha=>by
    obtain⟨u,u1,u2⟩:=i9 j a ha
    exact⟨u,by simp [World.cell?,q4,u1],u2⟩
   obtain⟨d,hu,h⟩:=bQ h
   rcases bG h with⟨hd,h⟩|⟨hd,h⟩
   ·obtain⟨ii,hi,h⟩:=cd h
    have h:=fj h
    obtain⟨hn,h⟩:=ar h
    have hn:=aR hn
    let cs:List Value:=(List.range ii.size).map fun j=>(w.cell? ⟨hm.blk,i * c.es+o+j,none⟩).getD undef
    have Y3:cs.length=ii.size:=by simp [cs]
    have q9:∀j,j<ii.size->∃a,(((c.row i).drop o).take ii.size)[j]? =some a/\(c.row i)[o+j]? =some a:=fun j hj=>by
     have hj':j<(((c.row i).drop o).take ii.size).length:=by omega
     refine⟨(((c.row i).drop o).take ii.size)[j],aah hj', ?_⟩
     have:=aah hj'
     rw[aar hj,aax] at this
     exact this
    have hl:LR ρ (((c.row i).drop o).take ii.size) cs:=by
     refine⟨by rw[Y3,hn],fun j a v ha hv=>?_⟩
     have hj:j<ii.size:=by
      rcases aaf j ii.size with h'|h'
      ·exact h'
      ·rw[aaj (by omega)] at hv;cases hv
     obtain⟨a',Zz,hf⟩:=q9 j hj
     rw[ha] at Zz;injection Zz with Zz;subst Zz
     obtain⟨u,u1,u2⟩:=j8 _ _ hf
     have e2:i * c.es+(o+j)=i * c.es+o+j:=by omega
     rw[e2] at u1
     simp [cs,hj,u1] at hv
     rw[←hv];exact u2
    have i3:=run_loadCells_list (P:=P) w ⟨hm.blk,i * c.es+o,none⟩ cs (fun j v hv=>by
     have hj:j<ii.size:=by
      rcases aaf j ii.size with h'|h'
      ·exact h'
      ·rw[aaj (by omega)] at hv;cases hv
     obtain⟨a',Zz,hf⟩:=q9 j hj
     obtain⟨u,u1,u2⟩:=j8 _ _ hf
     have e2:i * c.es+(o+j)=i * c.es+o+j:=by omega
     rw[e2] at u1
     simp [cs,hj,u1] at hv
     subst hv
     unfold Addr.add
     split
     ·rename_i e;subst e;simpa using u1
     ·exact u1)
    rw[Y3] at i3
    have p7:LR ρ (((c.row i).drop o).take ii.size) cs.toArray.toList:=by simpa using hl
    refine⟨_,_,_,h,d5,d7,VR.agg _ cs.toArray p7.arr.1 p7.arr.2, ?_⟩
    simp only [Instr.loadAt,Instr.sureAddr,loadVar,aab,aac,aae,cq hu,hd,if_true,ay hi,i3]
   ·obtain⟨a,ha,h⟩:=bO h
    obtain⟨u,u1,u2⟩:=j8 o a ha
    refine⟨_,_,_,h,d5,d7,u2, ?_⟩
    simp only [Instr.loadAt,Instr.sureAddr,loadVar,aab,aac,aae,cq hu,hd,Bool.false_eq_true,if_false,run_load,u1]
  |_=>exact(ak h).elim
 |_=>exact(ak h).elim
theorem NZ{t:TypeId}{x:AV}{v:Value}(hS:SI σ)(hG:Good w0 ρ σ.h w)(hx:VR ρ x v)(h:run (xI P t x k) σ K=true):Res P w0 ρ w k K (Instr.loadAt t v):=by
 obtain⟨av,c9,u,h1,h2,h3,h4,h5⟩:=yd (P:=P) hS hG hx h
 exact .plain h1 h2 h3 h4 h5
end
end Go.Sym
namespace Go.Sym
open Go.RowKit (Below)
def Wk(a r:AV):Prop:=∀(ρ:Rho) (v:Value),VR ρ a v->VR ρ r v
theorem Wk.refl(a:AV):Wk a a:=fun _ _ h=>h
theorem LR.one{ρ:Rho}{a b:AV}{vs:List Value}(h:LR ρ [a] vs)(hw:∀v,VR ρ a v->VR ρ b v):LR ρ [b] vs:=by
 obtain⟨v,C',rfl,hv,h'⟩:=h.cons_inv
 have:=h'.nil_inv
 subst this
 exact LR.cons (hw v hv) (LR.nil ρ)
theorem LR.split{ρ:Rho}{l m:List AV}{vs:List Value}(h:LR ρ (l++m) vs):∃v1 v2,vs=v1++v2/\LR ρ l v1/\LR ρ m v2:=by
 have hl:vs.length=l.length+m.length:=by simpa using h.1
 refine⟨vs.take l.length,vs.drop l.length,(abl _ _).symm,⟨by simp;omega,fun i a v ha hv=>?_⟩,⟨by simp;omega,fun i a v ha hv=>?_⟩⟩
 ·have hi:i<l.length:=by
   rcases aaf i l.length with h'|h'
   ·exact h'
   ·rw[aaj h'] at ha;cases ha
  rw[aar hi] at hv
  exact h.2 i a v (by rw[aaz hi];exact ha) hv
 ·rw[aax] at hv
  exact h.2 (l.length+i) a v (by rw[aaA (by omega)];simpa using ha) hv
theorem Ut{p:Prop}:pI p=1↔p:=by
 unfold pI
 by_cases h:p <;> simp [h]
theorem I5:∀(n:Nat) (cs:List AV) (l:List G) (r:List AV),DD n cs=some (l,r)->
  ∃c,cs=c++r/\c.length=n/\l.length=n/\∀(ρ:Rho) (vs:List Value) (g:G) (j:Nat),(∀i,i<n->aa g (j+i)=aq l i)->LR ρ c vs->LR ρ (kR g n j) vs:=by
 intro n
 induction n with
 |zero=>
  intro cs l r h
  injection h with h;injection h with h1 h2
  subst h1;subst h2
  exact⟨[],rfl,rfl,rfl,fun ρ vs g j _ hl=>hl⟩
 |succ n ih=>
  intro cs l r h
  cases cs with
  |nil=>cases h
  |cons a cs=>
   unfold DD at h
   split at h
   ·rename_i v hv
    split at h
    ·rename_i l' q hp
     injection h with h;injection h with h1 h2
     subst h1;subst h2
     obtain⟨c,rfl,e2,e3,e4⟩:=ih _ _ _ hp
     refine⟨a::c,rfl,by simp [e2],by simp [e3],fun ρ vs g j hg hl=>?_⟩
     obtain⟨x,C',rfl,hx,p7⟩:=hl.cons_inv
     refine LR.cons ?_ (e4 ρ C' g (j+1) (fun i hi=>?_) p7)
     ·have:=hg 0 (by omega)
      rw[aap] at this
      rw[this,bo hx hv]
      exact .sI _ _
     ·have:=hg (i+1) (by omega)
      rw[show j+1+i=j+(i+1) by omega,this];rfl
    ·cases h
   ·cases h
theorem I6{x:Sc}{cs:List AV}{k:G->List AV->Option (List G×List AV)}{q:List G×List AV}(h:Il x cs none k=some q):
  ∃g c r,cs=c++r/\c.length=VZ x/\k g r=some q/\∀(ρ:Rho) (vs:List Value),LR ρ c vs->LR ρ (fe x g) vs:=by
 cases cs with
 |nil=>cases h
 |cons a r=>
  unfold Il at h
  cases x with
  |i j=>
   simp only at h
   cases hn:cz a with
   |none=>rw[hn] at h;cases h
   |some y=>
    obtain⟨j',n⟩:=y
    rw[hn] at h
    simp only [ax] at h
    split at h
    ·rename_i e
     have e:=of_decide_eq_true e
     subst e
     exact⟨_,[a],r,rfl,rfl,h,fun ρ vs hl=>hl.one fun v hv=>by rw[bo hv hn];exact .sI _ _⟩
    ·cases h
  |b=>
   simp only at h
   cases hn:dA a with
   |none=>rw[hn] at h;cases h
   |some p=>
    rw[hn] at h
    exact⟨_,[a],r,rfl,rfl,h,fun ρ vs hl=>hl.one fun v hv=>by
     obtain⟨b,e,hb⟩:=dZ hv hn
     rw[e];exact .sB _ b (by rw[hb];exact Ut.symm)⟩
  |s=>
   simp only at h
   cases hn:fF a with
   |none=>rw[hn] at h;cases h
   |some p=>
    rw[hn] at h
    exact⟨_,[a],r,rfl,rfl,h,fun ρ vs hl=>hl.one fun v hv=>by
     obtain⟨b,e,hb⟩:=di hv hn
     rw[e,hb];exact .sS b⟩
  |o=>
   simp only [ax] at h
   split at h
   ·rename_i e
    exact⟨_,[a],r,rfl,rfl,h,fun ρ vs hl=>hl.one fun v hv=>.any1 v (il hv e)⟩
   ·cases h
  |sl m=>
   simp only at h
   split at h
   ·exact⟨_,[_],r,rfl,rfl,h,fun ρ vs hl=>hl.one fun v hv=>by cases hv;exact .cvnil _ rfl⟩
   ·rename_i m' l
    simp only [ax] at h
    split at h
    ·rename_i e
     have e:=aad e
     subst e
     exact⟨_,[_],r,rfl,rfl,h,fun ρ vs hl=>hl⟩
    ·cases h
   ·cases h
  |bs=>
   simp only at h
   split at h
   ·exact⟨_,[_],r,rfl,rfl,h,fun ρ vs hl=>hl.one fun v hv=>by cases hv;exact .cvnil _ rfl⟩
   ·exact⟨_,[_],r,rfl,rfl,h,fun ρ vs hl=>hl⟩
   ·cases h
  |h n=>
   simp only at h
   split at h
   ·rename_i l r' hp
    obtain⟨c,e1,e2,e3,e4⟩:=I5 _ _ _ _ hp
    exact⟨_,c,r',e1,e2,h,fun ρ vs hl=>e4 ρ vs (.node l) 0 (fun i hi=>by simp [aa,gL,aq]) hl⟩
   ·cases h
theorem ir:∀(xs:List Sc) (cs:List AV) (gs:List G) (r:List AV),fi xs cs=some (gs,r)->
  ∃c1,cs=c1++r/\c1.length=bp xs/\gs.length=xs.length/\∀(g:G) (j:Nat),(∀i,i<xs.length->aa g (j+i)=aq gs i)->∀(ρ:Rho) (vs:List Value),LR ρ c1 vs->LR ρ (bx xs g j) vs:=by
 intro xs
 induction xs with
 |nil=>
  intro cs gs r h
  injection h with h
  injection h with h1 h2
  subst h1;subst h2
  exact⟨[],rfl,rfl,rfl,fun g j _ ρ vs hl=>hl⟩
 |cons x xs ih=>
  intro cs gs r h
  unfold fi at h
  obtain⟨g0,ca,r0,rfl,hw,hk,hc⟩:=I6 h
  split at hk
  ·rename_i gs' r' hp
   injection hk with hk
   injection hk with h1 h2
   subst h1;subst h2
   obtain⟨c1,rfl,e2,e4,e3⟩:=ih _ _ _ hp
   refine⟨ca++c1,by simp,by simp [bp,hw,e2],by simp [e4],fun g j hg ρ vs hl=>?_⟩
   obtain⟨v,C',rfl,hv,p7⟩:=hl.split
   have h0:=hg 0 (by simp)
   have i9:=hc ρ v hv
   have:aa g j=g0:=h0
   show LR ρ (fe x (aa g j)++bx xs g (j+1)) (v++C')
   rw[this]
   refine i9.append (e3 g (j+1) (fun i hi=>?_) ρ C' p7)
   have:=hg (i+1) (by simp;omega)
   rw[show j+1+i=j+(i+1) by omega,this]
   rfl
  ·cases hk
theorem gi{xs:List Sc}:∀(n:Nat) (cs:List AV) (gs:List G) (r:List AV),dF xs n cs=some (gs,r)->
  ∃c1,cs=c1++r/\c1.length=n * bp xs/\gs.length=n/\∀i,i<n->∀(ρ:Rho) (vs:List Value),LR ρ ((c1.drop (i * bp xs)).take (bp xs)) vs->LR ρ (bx xs (aq gs i) 0) vs:=by
 intro n
 induction n with
 |zero=>
  intro cs gs r h
  injection h with h
  injection h with h1 h2
  subst h1;subst h2
  exact⟨[],rfl,by simp,rfl,fun i hi=>by omega⟩
 |succ n ih=>
  intro cs gs r h
  unfold dF at h
  split at h
  ·rename_i g1 r1 h1
   split at h
   ·rename_i gs2 r2 h2
    injection h with h
    injection h with q1 q2
    subst q1;subst q2
    obtain⟨c1,rfl,e1,e0,e2⟩:=ir _ _ _ _ h1
    obtain⟨c2,rfl,f1,f2,f3⟩:=ih _ _ _ h2
    refine⟨c1++c2,by simp,by simp [e1,f1,aaG];omega,by simp [f2],fun i hi ρ vs hl=>?_⟩
    cases i with
    |zero=>
     rw[aa8,aaL,abm (by omega),abn (by omega)] at hl
     exact e2 (.node g1) 0 (fun i hi=>by simp [aa,gL,aq]) ρ vs hl
    |succ i=>
     have:(c1++c2).drop ((i+1) * bp xs)=c2.drop (i * bp xs):=by
      rw[List.drop_append,List.drop_of_length_le (by rw[aaG];omega)]
      simp only [aa1]
      congr 1
      rw[e1,aaG];omega
     rw[this] at hl
     have:=f3 i (by omega) ρ vs hl
     simpa [aq] using this
   ·cases h
  ·cases h
theorem mg:∀(cs:List AV) (ns:List Int),fG cs=some ns->ns.length=cs.length/\∀(i:Nat) (a:AV),cs[i]? =some a->∃n,ns[i]? =some n/\cz a=some (.u8,n):=by
 intro cs
 induction cs with
 |nil=>intro ns h;injection h with h;subst h;exact⟨rfl,by simp⟩
 |cons a cs ih=>
  intro ns h
  unfold fG at h
  split at h
  ·rename_i n hn
   split at h
   ·rename_i l hl
    injection h with h
    subst h
    obtain⟨h1,h2⟩:=ih _ hl
    refine⟨by simp [h1],fun i b hb=>?_⟩
    cases i with
    |zero=>simp at hb;subst hb;exact⟨n,rfl,hn⟩
    |succ i=>simp at hb;obtain⟨m,q1,q2⟩:=h2 i b hb;exact⟨m,by simpa using q1,q2⟩
   ·cases h
  ·cases h
theorem iu:∀(ns:List Int) (i:Nat) (n:Int),bj ns->ns[i]? =some n->(aO ns)[i]? =some n.toNat/\0<=n:=by
 intro ns
 induction ns with
 |nil=>intro i n _ h;simp at h
 |cons x ns ih=>
  intro i n hn h
  cases i with
  |zero=>simp at h;subst h;exact⟨rfl,hn.1⟩
  |succ i=>simp at h;exact ih i n hn.2 h
theorem bP:∀(ns:List Int),(aO ns).length=ns.length:=by
 intro ns
 induction ns with
 |nil=>rfl
 |cons x ns ih=>simp [aO,ih]
theorem RK{c c':Ct}{new:List AV}{n:Nat}{p:Prop}(h:c.app new n=some (c',p))(hp:p)(hn:new.length=n * c.es):
  c'.len=c.len+n/\c'.es=c.es/\(∀i,i<c.len->c'.row i=c.row i)/\∀i,c.len<=i->i<c.len+n->∀(ρ:Rho) (vs:List Value),LR ρ ((new.drop ((i-c.len) * c.es)).take c.es) vs->LR ρ (c'.row i) vs:=by
 cases c with
 |rows m l=>
  unfold Ct.app at h
  simp only at h
  split at h
  ·rename_i gs hg
   injection h with h
   injection h with h1 h2
   subst h1
   obtain⟨c1,e1,e2,e3,e4⟩:=gi _ _ _ _ hg
   have e1:new=c1:=by simpa using e1
   subst e1
   refine⟨by simp [Ct.len,e3],rfl,fun i hi=>?_,fun i h1 h2 ρ vs hl=>?_⟩
   ·have hi:i<l.length:=hi
    simp only [Ct.row,aq,aag,aaz hi]
   ·have h1:l.length<=i:=h1
    have h2:i<l.length+n:=h2
    have:=e4 (i-l.length) (by omega) ρ vs hl
    have e5:aq (l++gs) i=aq gs (i-l.length):=by
     simp only [aq,aag,aaA h1]
    simp only [Ct.row,e5]
    exact this
  ·cases h
 |bytes s=>
  unfold Ct.app at h
  simp only at h
  split at h
  ·rename_i ns hg
   rw[ax] at h
   split at h
   ·rename_i Zl
    have Zl:=aad Zl
    injection h with h
    injection h with h1 h2
    subst h1;subst h2
    obtain⟨e1,e2⟩:=mg _ _ hg
    refine⟨by simp [Ct.len,bP,Zl],rfl,fun i hi=>?_,fun i h1 h2 ρ vs hl=>?_⟩
    ·have hi:i<s.length:=hi
     simp only [Ct.row,aag,aaz hi]
    ·have h1:s.length<=i:=h1
     have h2:i<s.length+n:=h2
     have f7:i-s.length<new.length:=by omega
     have hd:(new.drop ((i-s.length) * 1)).take 1= [new[i-s.length]]:=by
      rw[aaD,aaU f7];rfl
     have hl:LR ρ ((new.drop ((i-s.length) * 1)).take 1) vs:=hl
     rw[hd] at hl
     refine hl.one fun v hv=>?_
     obtain⟨n',q1,q2⟩:=e2 (i-s.length) new[i-s.length] (aah f7)
     obtain⟨q3,q4⟩:=iu _ _ _ hp q1
     rw[bo hv q2]
     have e5:(s++aO ns).getD i 0=n'.toNat:=by
      rw[aag,aaA h1,q3];rfl
     rw[e5,show((n'.toNat:Nat):Int)=n' by omega]
     exact .sI _ _
   ·cases h
  ·cases h
theorem RL{c c':Ct}{new:List AV}{i o:Nat}{p:Prop}(h:c.upd i o new=some (c',p))(hp:p)(hi:i<c.len)(ho:o+new.length<=c.es):
  c'.len=c.len/\c'.es=c.es/\(∀i',i'≠i->c'.row i'=c.row i')/\∀(ρ:Rho) (vs:List Value),LR ρ ((c.row i).take o++new++(c.row i).drop (o+new.length)) vs->LR ρ (c'.row i) vs:=by
 cases c with
 |rows m l=>
  unfold Ct.upd at h
  simp only at h
  split at h
  ·rename_i gs hg
   injection h with h
   injection h with h1 h2
   subst h1
   obtain⟨c1,e1,e2,e0,e3⟩:=ir _ _ _ _ hg
   have e1:((Ct.rows m l).row i).take o++new++((Ct.rows m l).row i).drop (o+new.length)=c1:=by simpa using e1
   have hi:i<l.length:=hi
   refine⟨by simp [Ct.len],rfl,fun i' o8=>?_,fun ρ vs hl=>?_⟩
   ·simp only [Ct.row,aq,aag,List.getElem?_set_ne (Ne.symm o8)]
   ·rw[e1] at hl
    have e4:aq (l.set i (.node gs)) i= .node gs:=by
     simp only [aq,aag,abB hi,Option.getD_some]
    simp only [Ct.row,e4]
    exact e3 (.node gs) 0 (fun i hi=>by simp [aa,gL,aq]) ρ vs hl
  ·cases h
 |bytes s=>
  unfold Ct.upd at h
  simp only at h
  split at h
  ·rename_i a
   split at h
   ·rename_i n hn
    injection h with h
    injection h with h1 h2
    subst h1;subst h2
    have hi:i<s.length:=hi
    refine⟨by simp [Ct.len],rfl,fun i' o8=>?_,fun ρ vs hl=>?_⟩
    ·simp only [Ct.row,aag,List.getElem?_set_ne (Ne.symm o8)]
    ·have hl:LR ρ [a] vs:=hl
     have e4:(s.set i n.toNat).getD i 0=n.toNat:=by
      rw[aag,abB hi];rfl
     refine hl.one fun v hv=>?_
     rw[e4,bo hv hn,show((n.toNat:Nat):Int)=n by omega]
     exact .sI _ _
   ·cases h
  ·cases h
theorem LR.ones{ρ:Rho}{l:List AV}{vs:List Value}(hl:LR ρ l vs)(h:∀a∈l,fB a=true):∀v∈vs,v.oneCell'=true:=by
 intro v hv
 obtain⟨j,hj,e⟩:=List.mem_iff_getElem.1 hv
 have hj':j<l.length:=by have:=hl.1;omega
 have:=hl.2 j l[j] v (aah hj') (by rw[aah hj,e])
 exact il this (h _ (abe _))
theorem mh{ρ:Rho}{l l':List AV}{A:Nat->Option Value}(h:∀j a,l[j]? =some a->∃u,A j=some u/\VR ρ a u)(hl:∀vs,LR ρ l vs->LR ρ l' vs):∀j a,l'[j]? =some a->∃u,A j=some u/\VR ρ a u:=by
 let vs:List Value:=(List.range l.length).map fun j=>(A j).getD undef
 have E':LR ρ l vs:=by
  refine⟨by simp [vs],fun i a v ha hv=>?_⟩
  obtain⟨u,h1,h2⟩:=h i a ha
  have hi:i<l.length:=by
   rcases aaf i l.length with h'|h'
   ·exact h'
   ·rw[aaj h'] at ha;cases ha
  simp [vs,hi,h1] at hv
  rw[←hv];exact h2
 have h':=hl vs E'
 intro j a ha
 obtain⟨v,hv,hr⟩:=h'.get ha
 have hj:j<l.length:=by
  have:=h'.1
  rcases aaf j vs.length with h''|h''
  ·simpa [vs] using h''
  ·rw[aaj h''] at hv;cases hv
 obtain⟨u,h1,h2⟩:=h j l[j] (aah hj)
 simp [vs,hj,h1] at hv
 exact⟨u,h1,by rw[hv];exact hr⟩
end Go.Sym
