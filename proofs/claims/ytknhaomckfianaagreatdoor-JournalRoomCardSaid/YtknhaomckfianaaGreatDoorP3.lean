/- Part 3. -/
import Derived.Laws.Append
import Derived.Laws.AppendOwn
import Derived.Laws.IdiomCopy
import Derived.Test.YtknhaomckfianaaGreatDoorP0
set_option linter.all false
namespace Go.Sym
open Go.RowKit (Below)
section
variable{P:Program}{w:World}
set_option maxHeartbeats 4000000 in
theorem dD{tys:Array TypeId}{ts tx e ty:TypeId}{dx:TypeDesc}{i:TypeInfo}{a:Addr}{sLen sCap n:Nat}{x:Value}{news:List Value}{w':World}(h0:tys[0]? =some ts)(h1:tys[1]? =some tx)
 (ht:P.underlying ts=some (.slice e)) (hx:P.underlying tx=some dx) (z':∀j,dx≠ .int j) (hi:P.info? e=some i)
 (hlen:(Builtin.lenOf x).run P w= .ok n w) (hg:sLen+n<=sCap) (j4:(Builtin.firstCells i.size n x).run P w= .ok news.toArray w) (l8:(storeCells (a.add (sLen * i.size)) news).run P w= .ok () w'):
 (Builtin.append_ tys ty #[.slice (some a) sLen sCap,x]).run P w= .ok (.slice (some a) (sLen+n) sCap) w':=by
 cases dx <;> first
  |exact absurd rfl (z' _)
  |(simp [Builtin.append_,h0,h1,run_underlying ht,run_underlying hx,sizeOf,typeInfo,hi,hlen,hg,j4,l8] <;> done)
def dJ(b:Nat):∀(vs:List Value) (o:Nat) (w:World) (arr:Array Value) (e:TypeId) (fr:Nat×Nat),w.heap[b]? =some (.cells arr e fr)->o+vs.length<=arr.size->
 ∃l7,(w.setCells b o vs).heap[b]? =some (.cells l7 e fr)/\l7.size=arr.size/\(∀j,j<vs.length->l7[o+j]? =vs[j]?)/\(∀x,x<o∨o+vs.length<=x->l7[x]? =arr[x]?)/\
  (∀k,k≠b->(w.setCells b o vs).heap[k]? =w.heap[k]?)/\(w.setCells b o vs).heap.size=w.heap.size/\∀B,B<=b->Below B w (w.setCells b o vs):=by
 intro vs
 induction vs with
 |nil=>intro o w arr e fr h hl;exact⟨arr,h,rfl,λj hj=>by simp at hj,λ_ _=>rfl,λ_ _=>rfl,rfl,λB _=>Below.refl _ _⟩
 |cons v vs ih=>
  intro o w arr e fr h hl
  have hl:o+(vs.length+1)<=arr.size:=hl
  have h1:(w.setCell ⟨b,o,none⟩ v).heap[b]? =some (.cells (arr.setIfInBounds o v) e fr):=by simp only [World.setCell,abb,h];simp
  obtain⟨l7,q1,q2,q3,q4,q5,q6,q7⟩:=ih (o+1) (w.setCell ⟨b,o,none⟩ v) (arr.setIfInBounds o v) e fr h1 (by simp;omega)
  refine⟨l7,q1,by simpa using q2,λj hj=>?_,λx hx=>?_,λk hk=>?_, ?_,λB hB=>?_⟩
  ·cases j with
   |zero=>have:=q4 o (.inl (by omega));rw[show o+0=o by omega,this];rw[aaD,if_pos rfl,if_pos (by omega)];rfl
   |succ j=>have:=q3 j (by simpa using hj);rw[show o+(j+1)=o+1+j by omega,this];rfl
  ·have w6:x<o∨o+(vs.length+1)<=x:=hx;rw[q4 x (by omega),aaD,if_neg (by omega)]
  ·have:=q5 k hk;show(World.setCells _ _ _ _).heap[k]? =_;rw[World.setCells,this];exact Below.heap_setCell _ _ _ _ hk
  ·rw[World.setCells,q6];simp [World.setCell]
  ·exact((Below.refl _ _).setCell (p:=⟨b,o,none⟩) hB v).trans (q7 B hB)
end
end Go.Sym
