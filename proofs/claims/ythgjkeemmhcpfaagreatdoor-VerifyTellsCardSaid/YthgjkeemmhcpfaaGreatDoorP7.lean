/- Part 7. -/
import Derived.Laws.RangeString
import Derived.CallsIn
import Derived.RangeFuncLeaves
import Derived.TacticsIn
import Derived.Test.YthgjkeemmhcpfaaGreatDoorP6
set_option linter.all false
namespace Go.Sym
open Go.RowKit (Below)
def MR(ρ:Rho)(es:List ME)(ess:List MapEntry):Prop:=
 ess.length=es.length/\∀(i:Nat) (k v:AV) (n:Nat) (e:MapEntry),es[i]? =some (.mk k v n)->ess[i]? =some e->VR ρ k e.key/\VR ρ v e.val/\e.born=n
def MR.nil(ρ:Rho):MR ρ [] []:=⟨rfl,by simp⟩
def MR.cons{ρ:Rho}{k v:AV}{n:Nat}{e:MapEntry}{es:List ME}{ess:List MapEntry}(h1:VR ρ k e.key)(h2:VR ρ v e.val)(h3:e.born=n)(h:MR ρ es ess):MR ρ (.mk k v n::es) (e::ess):=by
 refine⟨by simp [h.1],λi k' v' n' e' hi he=>?_⟩
 cases i with
 |zero=>simp at hi he;obtain⟨q1,q2,q3⟩:=hi;subst q1;subst q2;subst q3;subst he;exact⟨h1,h2,h3⟩
 |succ i=>exact h.2 i k' v' n' e' (by simpa using hi) (by simpa using he)
def MR.cons_inv{ρ:Rho}{k v:AV}{n:Nat}{es:List ME}{ess:List MapEntry}(h:MR ρ (.mk k v n::es) ess):∃e ac9,ess=e::ac9/\VR ρ k e.key/\VR ρ v e.val/\e.born=n/\MR ρ es ac9:=by
 cases ess with
 |nil=>exact absurd h.1 (by simp)
 |cons e ac9=>obtain⟨h1,h2,h3⟩:=h.2 0 k v n e rfl rfl;exact⟨e,ac9,rfl,h1,h2,h3,by simpa using h.1,λi k' v' n' e' hi he=>h.2 (i+1) k' v' n' e' (by simpa using hi) (by simpa using he)⟩
def MR.nil_inv{ρ:Rho}{ess:List MapEntry}(h:MR ρ [] ess):ess= []:=by
 cases ess with
 |nil=>rfl
 |cons _ _=>exact absurd h.1 (by simp)
def MR.append{ρ:Rho}{es fs:List ME}{ess fss:List MapEntry}(h:MR ρ es ess)(h':MR ρ fs fss):MR ρ (es++fs) (ess++fss):=by
 induction es generalizing ess with
 |nil=>rw[h.nil_inv];exact h'
 |cons x es ih=>
  cases x with
  |mk k v n=>obtain⟨e,ac9,rfl,h1,h2,h3,h4⟩:=h.cons_inv;exact MR.cons h1 h2 h3 (ih h4)
def MR.get{ρ:Rho}{es:List ME}{ess:List MapEntry}(h:MR ρ es ess){i:Nat}{k v:AV}{n:Nat}(hi:es[i]? =some (.mk k v n)):∃e,ess[i]? =some e/\VR ρ k e.key/\VR ρ v e.val/\e.born=n:=by
 have c8:i<ess.length:=by
  rcases aaf i es.length with h'|h'
  ·rw[h.1];exact h'
  ·rw[aak h'] at hi;cases hi
 exact⟨_,aai c8,h.2 i k v n _ hi (aai c8)⟩
def MR.set{ρ:Rho}{es:List ME}{ess:List MapEntry}(h:MR ρ es ess){i:Nat}{k v:AV}{n:Nat}{e:MapEntry}(h1:VR ρ k e.key)(h2:VR ρ v e.val)(h3:e.born=n):MR ρ (es.set i (.mk k v n)) (ess.set i e):=by
 refine⟨by simp [h.1],λj k' v' n' e' hj he=>?_⟩;rw[abC] at hj he;by_cases eij:i=j
 ·subst eij;rw[if_pos rfl] at hj he;split at hj
  ·injection hj with hj;injection hj with q1 q2 q3;subst q1;subst q2;subst q3;split at he
   ·injection he with he;subst he;exact⟨h1,h2,h3⟩
   ·cases he
  ·cases hj
 ·rw[if_neg eij] at hj he;exact h.2 j k' v' n' e' hj he
section
variable{P:Program}{w0:World}{ρ:Rho}{w:World}{σ:St}{K:Fin}{k:AV->Tr}
def BR.mapo_MR{B b:Nat}{es:List ME}{clock:Nat}(h:BR ρ B w b (.mapo es clock)):∃hm,ρ.at_ b 0=some hm/\Own ρ B hm.blk/\∃R',w.heap[hm.blk]? =some (.map R' clock)/\MR ρ es R'.toList:=by obtain⟨hm,h1,h2,R',h3,h4,h5⟩:=h;exact⟨hm,h1,h2,R',h3,by simpa using h4,λi k v n e hi he=>h5 i k v n e hi (by simpa using he)⟩
def IF:∀(f:Nat) (t:TypeId),C0 P f t=true->gm P f t=true:=by
 intro f
 induction f with
 |zero=>intro t h;simp [C0] at h
 |succ f ih=>
  intro t h;unfold C0 at h;unfold gm;split at h
  ·rename_i e;rw[e]
  ·rename_i e;rw[e]
  ·rename_i e;rw[e]
  ·rename_i fs e;rw[e];simp only [Bool.and_eq_true,abj] at h⊢;exact⟨h.1,λfd hfd=>ih _ (h.2 fd hfd).2⟩
  ·rename_i n e' e;rw[e];exact ih _ h
  ·cases h
def LJ(em:Bool):∀(f:Nat) (t:TypeId) (a:AV) (v:Value) (N:Nat),C1 P f t a=true->VR ρ a v->f<=N->(Instr.checkKey em N t v).run P w= .ok () w:=by
 intro f
 induction f with
 |zero=>intro t a v N h;simp [C1] at h
 |succ f ih=>
  intro t a v N h hv hN;obtain⟨N,rfl⟩:∃N',N=N'+1:=⟨N-1,by omega⟩
  unfold C1 at h;split at h
  ·rename_i e;simp [Instr.checkKey,run_underlying e]
  ·rename_i e;simp [Instr.checkKey,run_underlying e]
  ·rename_i e;simp [Instr.checkKey,run_underlying e]
  ·rename_i fs e;split at h
   ·rename_i l
    cases hv with
    |agg _ cs h1 h2=>
     have hl:=LR.of_arr h1 h2
     rw[Instr.checkKey]
     simp only [aab,run_underlying e,aae]
     rw[←Array.forIn_toList]
     have h:=List.all_eq_true.mp h
     generalize fs.toList=L at h
     induction L with
     |nil=>simp
     |cons fd L ihl=>
      have hfd:=h fd (by simp);split at hfd
      ·rename_i i d hi hd;split at hfd
       ·rename_i a ha;obtain⟨x,p1,r1⟩:=kK (w:=w) hd hi hl ha;have p2:=ih fd.type a x N hfd r1 (by omega);simp only [List.forIn_cons,aab];by_cases hn:fd.name= "_"
        ·simp only [hn,ne_eq,not_true_eq_false,if_false,aad,aae];exact ihl λy hy=>h y (by simp [hy])
        ·simp only [hn,ne_eq,not_false_eq_true,if_true,aab,p1,p2,aae,aad];exact ihl λy hy=>h y (by simp [hy])
       ·cases hfd
      ·cases hfd
   ·cases h
  ·rename_i n e' e;split at h
   ·rename_i l i d hi hd
    simp only [Bool.and_eq_true,Bool.not_eq_true',abj] at h
    obtain⟨⟨⟨hs1,hna⟩,hln⟩,ad6⟩:=h
    have hs1:=aL hs1
    have hln:=aL hln
    cases hv with
    |agg _ cs h1 h2=>
     have hl:=LR.of_arr h1 h2
     rw[Instr.checkKey]
     simp only [aab,run_underlying e,aae]
     simp only [Std.Legacy.Range.forIn_eq_forIn_range',Std.Legacy.Range.size,abl,Nat.add_one_sub_one,Nat.div_one]
     have each:∀j∈List.range' 0 n,∃x,(part e' cs (j * 1)).run P w= .ok x w/\(Instr.checkKey em N e' x).run P w= .ok () w:=λj hj=>by
      have hjn:j<l.length:=by have:=List.mem_range'.1 hj;obtain⟨i,hi,e⟩:=this;omega
      obtain⟨x,hx,hr⟩:=hl.get (aai hjn);have hx':cs[j]? =some x:=by simpa using hx
      refine⟨x, ?_,ih e' l[j] x N (ad6 _ (abe _)) hr (by omega)⟩;simp only [aaF,part,aab,cm hd,hna,aae,Bool.false_eq_true,if_false,hx',aad]
     generalize List.range' 0 n=is at each
     induction is with
     |nil=>simp
     |cons j is ihl=>obtain⟨x,p1,p2⟩:=each j (by simp);simp only [List.forIn_cons,aab,aA hi,hs1,aae,p1,p2,aad];exact ihl λy hy=>each y (by simp [hy])
   ·cases h
  ·cases h
def FR(ρ:Rho)(es:List ME)(ess:List MapEntry):Option (Nat×AV)->Option (Nat×Value)->Prop
 |none,none=>True
 |some (i,a),some (j,v)=>i=j/\VR ρ a v/\∃k n,es[i]? =some (.mk k a n)
 |_,_=>False
def sa{d:TypeDesc}{x y:AV}{v u:Value}{r:Bool}{f:Nat}(hd:d= .bool∨(∃j,d= .int j)∨d= .string)(hx:VR ρ x v)(hy:VR ρ y u)(h:fK P (f+1) d x y=some r):Instr.sameNow d v u=some r:=by
 rcases hd with rfl|⟨j,rfl⟩|rfl
 ·cases x <;> first|(simp [fK] at h;done)|skip
  cases y <;> first|(simp [fK] at h;done)|skip
  cases hx;cases hy;injection h with h;subst h;rfl
 ·cases x <;> first|(simp [fK] at h;done)|skip
  cases y <;> first|(simp [fK] at h;done)|skip
  cases hx;cases hy;rename_i k1 a k2 b;exact(show(if k1=k2 then some (a==b) else none)=some r from h)
 ·cases x <;> first|(simp [fK] at h;done)|skip
  cases y <;> first|(simp [fK] at h;done)|skip
  cases hx;cases hy;injection h with h;subst h;rw[iN, ←beq_toListBytes];rfl
def FR.cons{es:List ME}{ess:List MapEntry}{x:ME}{e:MapEntry}{r:Option (Nat×AV)}{r':Option (Nat×Value)}{i:Nat}(h:FR ρ es ess (r.map λp=>(p.1-(i+1),p.2)) (r'.map λp=>(p.1-(i+1),p.2)))(hr:∀p,r=some p->i+1<=p.1)(hr':∀p,r'=some p->i+1<=p.1):
 FR ρ (x::es) (e::ess) (r.map λp=>(p.1-i,p.2)) (r'.map λp=>(p.1-i,p.2)):=by
 cases r with
 |none=>cases r' with
  |none=>trivial
  |some p'=>exact h.elim
 |some p=>
  cases r' with
  |none=>exact h.elim
  |some p'=>
   obtain⟨h1,h2,k,n,h3⟩:=h
   have a:=hr p rfl
   have b:=hr' p' rfl
   refine⟨by show p.1-i=p'.1-i;omega,h2,k,n, ?_⟩
   show(x::es)[p.1-i]? =_
   rw[show p.1-i=(p.1-(i+1))+1 by omega]
   simpa using h3
def Av{q:AV->AV->Option Bool}{key:AV}:∀(es:List ME) (i:Nat) (r:Option (Nat×AV)),gX q key es i=some r->∀p,r=some p->i<=p.1:=by
 intro es
 induction es with
 |nil=>intro i r h p hp;simp only [gX] at h;injection h with h;subst h;cases hp
 |cons x es ih=>
  intro i r h p hp
  cases x with
  |mk k v n=>
   simp only [gX] at h;split at h
   ·injection h with h;subst h;injection hp with hp;subst hp;exact aaa _
   ·have:=ih _ _ h p hp;omega
   ·cases h
def Aw{d:TypeDesc}{f:Nat}(hd:d= .bool∨(∃j,d= .int j)∨d= .string){key:AV}{kv:Value}(hk:VR ρ key kv):∀(es:List ME) (ess:List MapEntry) (i:Nat) (r:Option (Nat×AV)),MR ρ es ess->gX (fK P (f+1) d) key es i=some r->
 ∃r',Instr.findNow d kv ess i=some r'/\(∀p,r'=some p->i<=p.1)/\FR ρ es ess (r.map λp=>(p.1-i,p.2)) (r'.map λp=>(p.1-i,p.2)):=by
 intro es
 induction es with
 |nil=>intro ess i r hm h;simp only [gX] at h;injection h with h;subst h;rw[hm.nil_inv];exact⟨none,rfl,λp hp=>(by cases hp),trivial⟩
 |cons x es ih=>
  intro ess i r hm h
  cases x with
  |mk k v n=>
   obtain⟨e,ac9,rfl,h1,h2,h3,h4⟩:=hm.cons_inv
   simp only [gX] at h
   split at h
   ·rename_i hq;injection h with h;subst h;refine⟨some (i,e.val),by simp [Instr.findNow,sa hd hk h1 hq],λp hp=>by injection hp with hp;subst hp;exact aaa _, ?_⟩;exact⟨rfl,h2,k,n,by simp⟩
   ·rename_i hq;obtain⟨r',q1,q2,q3⟩:=ih ac9 (i+1) r h4 h;refine⟨r',by simp [Instr.findNow,sa hd hk h1 hq,q1],λp hp=>by have:=q2 p hp;omega, ?_⟩;exact FR.cons q3 (λp hp=>Av _ _ _ h p hp) q2
   ·cases h
def sb{kt:TypeId}{d:TypeDesc}(hu:P.underlying kt=some d)(hc:cw d=true->gm P 8 kt=true){key:AV}{kv:Value}(hk:VR ρ key kv):∀(es:List ME) (ess:List MapEntry) (i:Nat) (r:Option (Nat×AV)),MR ρ es ess->gX (fK P 16 d) key es i=some r->
 ∃r',(Instr.findAsking kt kv ess i).run P w= .ok r' w/\(∀p,r'=some p->i<=p.1)/\FR ρ es ess (r.map λp=>(p.1-i,p.2)) (r'.map λp=>(p.1-i,p.2)):=by
 intro es
 induction es with
 |nil=>intro ess i r hm h;simp only [gX] at h;injection h with h;subst h;rw[hm.nil_inv];exact⟨none,rfl,λp hp=>(by cases hp),trivial⟩
 |cons x es ih=>
  intro ess i r hm h
  cases x with
  |mk k v n=>
   obtain⟨e,ac9,rfl,h1,h2,h3,h4⟩:=hm.cons_inv
   simp only [gX] at h
   split at h
   ·rename_i hq;injection h with h;subst h;have:=lF (P:=P) (w:=w) 16 8 kt d key k kv e.key true Op.maxDepth hu hc hk h1 hq (by decide);refine⟨some (i,e.val),by simp [Instr.findAsking,Op.equal,this],λp hp=>by injection hp with hp;subst hp;exact aaa _, ?_⟩;exact⟨rfl,h2,k,n,by simp⟩
   ·rename_i hq;have:=lF (P:=P) (w:=w) 16 8 kt d key k kv e.key false Op.maxDepth hu hc hk h1 hq (by decide);obtain⟨r',q1,q2,q3⟩:=ih ac9 (i+1) r h4 h;refine⟨r',by simp [Instr.findAsking,Op.equal,this,q1],λp hp=>by have:=q2 p hp;omega, ?_⟩;exact FR.cons q3 (λp hp=>Av _ _ _ h p hp) q2
   ·cases h
def LK{kt:TypeId}{d:TypeDesc}{ag9 key:AV}{kv:Value}{es:List ME}{ess:List MapEntry}{r:Option (Nat×AV)}(hkd:C0 P 8 kt=true)(hka:C1 P 8 kt ag9=true)(hu:P.underlying kt=some d)(hk0:VR ρ ag9 kv)(hk:VR ρ key kv)(hm:MR ρ es ess)(hr:gX (fK P 16 d) key es 0=some r):
 ∃r',FR ρ es ess r r'/\(Instr.findKey kt kv ess).run P w= .ok r' w/\∀em,(Instr.checkKey em 10000 kt kv).run P w= .ok () w:=by
 have id0:∀{α:Type} (r:Option (Nat×α)),(r.map λp=>(p.1-0,p.2))=r:=λr=>by cases r <;> rfl
 have ab5:=λem=>LJ (w:=w) em 8 kt ag9 kv 10000 hka hk0 (by decide)
 by_cases hd:d= .bool∨(∃j,d= .int j)∨d= .string
 ·obtain⟨r',q1,_,q3⟩:=Aw hd hk es ess 0 r hm hr;rw[id0,id0] at q3;refine⟨r',q3, ?_,ab5⟩;simp [Instr.findKey,run_underlying hu,q1]
 ·obtain⟨r',q1,_,q3⟩:=sb (w:=w) hu (λ_=>IF 8 kt hkd) hk es ess 0 r hm hr
  rw[id0,id0] at q3
  refine⟨r',q3, ?_,ab5⟩
  have aq7:∀e R',Instr.findNow d kv (e::R') 0=none:=λe R'=>by
   have:Instr.sameNow d kv e.key=none:=by
    unfold Instr.sameNow;split
    ·exact absurd (.inr (.inl ⟨_,rfl⟩)) hd
    ·exact absurd (.inr (.inr rfl)) hd
    ·exact absurd (.inl rfl) hd
    ·rfl
   simp [Instr.findNow,this]
  cases ess with
  |nil=>
   have:r'=none:=by have:Result.ok none w=Result.ok r' w:=q1;injection this with e;exact e.symm
   subst this;simp [Instr.findKey,run_underlying hu,Instr.findNow]
  |cons e R'=>simp [Instr.findKey,run_underlying hu,aq7,q1]
def cN:List IntKind->List Int->List AV
 |k::ks,n::ns=>.int k n::cN ks ns
 |_,_=>[]
def sd:∀{ks:List IntKind} {xs:List AV} {ns:List Int},cD ks xs=some ns->xs.map uS=cN ks ns/\ns.length=ks.length
 | [],xs,ns,h=>by obtain⟨rfl,rfl⟩:=gc h;exact⟨rfl,rfl⟩
 |j::ks,xs,ns,h=>by obtain⟨a,as,n,m,rfl,rfl,ha,h'⟩:=eQ h;obtain⟨q1,q2⟩:=sd h';exact⟨by simp [cN,ha,q1],by simp [q2]⟩
def se:∀{ks:List IntKind} {ns:List Int},ns.length=ks.length->cD ks (cN ks ns)=some ns/\(cN ks ns).map uS=cN ks ns
 | [],[],_=>⟨rfl,rfl⟩
 |j::ks,n::ns,h=>by obtain⟨q1,q2⟩:=se (ks:=ks) (ns:=ns) (by simpa using h);refine⟨?_,by simp [cN,uS,q2]⟩;simp [cN,cD,ce,q1,ar]
 | [],_::_,h=>by simp at h
 |_::_,[],h=>by simp at h
def IG:∀(n:Nat) (g:G) (j:Nat),(dA n g j).length=n:=by
 intro n
 induction n with
 |zero=>intro g j;rfl
 |succ n ih=>intro g j;simp [dA,ih]
def IH:∀(ks:List IntKind) (g:G) (j:Nat),(mq ks g j).map uS=cN ks (dA ks.length g j):=by
 intro ks
 induction ks with
 |nil=>intro g j;rfl
 |cons k ks ih=>intro g j;simp [mq,dA,cN,uS,ih]
def Rc{pre gs:List G}{j:Nat}:aa (.node (pre++gs)) (pre.length+j)=aa (.node gs) j:=by show(pre++gs).getD (pre.length+j) (.int 0)=gs.getD j (.int 0);simp only [aag];rw[aax (by omega)];congr 2;omega
def II:∀(ns pre vs:List Int) (gs:List G),dA ns.length (.node ((pre++ns).map G.int++gs)) pre.length=ns:=by
 intro ns
 induction ns with
 |nil=>intro pre vs gs;rfl
 |cons n ns ih=>intro pre vs gs;have h1:=ih (pre++ [n]) vs gs;simp only [aav,List.singleton_append,aah,aaL] at h1;simp only [aau,dA];rw[h1];congr 1;show gI (((pre++n::ns).map G.int++gs).getD pre.length (.int 0))=n;simp [aag,gI]
def pk{ks:Nat}{ns:List Int}{gs:List G}(h:ns.length=ks):dA ks (.node (ns.map G.int++gs)) 0=ns:=by subst h;exact II ns [] [] gs
def jx(m:Nat)(ns:List Int):AV:=V5 (bJ m).ka (cN (bJ m).ks ns)
def Rd{m:Nat}{ix:AV}{u:Value}{ns:List Int}(h:Wc m ix=some ns)(hx:VR ρ ix u):VR ρ (jx m ns) u/\ns.length=(bJ m).ks.length:=by
 unfold Wc at h;unfold jx;split at h
 ·rename_i xs hka
  rw[hka]
  obtain⟨q1,q2⟩:=sd h
  refine⟨?_,q2⟩
  cases hx with
  |agg _ cs h1 h2=>have:=xp (LR.of_arr h1 h2);rw[q1] at this;obtain⟨r1,r2⟩:=this.arr;exact .agg _ _ r1 r2
 ·cases h
 ·rename_i hka;rw[hka];obtain⟨q1,q2⟩:=sd h;refine⟨?_,q2⟩;rw[←q1];exact C8 hx
def Ax{m:Nat}{g:G}{u:Value}(hx:VR ρ (ne m g) u):VR ρ (jx m (dA (bJ m).ks.length g 0)) u:=by
 unfold ne at hx
 unfold jx
 have e:=IH (bJ m).ks g 0
 rw[←e]
 cases hka:(bJ m).ka with
 |true=>
  rw[hka] at hx
  cases hx with
  |agg _ cs h1 h2=>obtain⟨r1,r2⟩:=(xp (LR.of_arr h1 h2)).arr;exact .agg _ _ r1 r2
 |false=>
  rw[hka] at hx
  cases hl:mq (bJ m).ks g 0 with
  |nil=>rw[hl] at hx;exact hx
  |cons a l=>rw[hl] at hx;exact C8 hx
def Re{m:Nat}{d:TypeDesc}{a b:List Int}(hd:Ik P m d=true)(ha:a.length=(bJ m).ks.length)(hb:b.length=(bJ m).ks.length):fK P 16 d (jx m a) (jx m b)=some (decide (a=b)):=by
 unfold Ik at hd;unfold jx;obtain⟨a1,a2⟩:=se ha;obtain⟨b1,b2⟩:=se hb;split at hd
 ·rename_i hka;rw[hka];split at hd
  ·rename_i ks hk;have hd:=of_decide_eq_true hd;subst hd;have:=Ad (f:=14) hk a1 b1;rw[a2,b2] at this;exact this
  ·cases hd
 ·rename_i hka;rw[hka];split at hd
  ·rename_i j
   have hd:=of_decide_eq_true hd
   rw[hd] at ha hb⊢
   match a,b,ha,hb with
   | [x],[y],_,_=>show fK P 16 (.int j) (.int j x) (.int j y)=_;simp [fK];by_cases h:x=y <;> simp [h]
  ·cases hd
def IJ{m:Nat}{ns:List Int}:dt 8 (V5 true (cN (bJ m).ks ns)) (V5 true (cN (bJ m).ks ns))=true:=by
 have:∀(ks:List IntKind) (ns:List Int),dt.sameAll (dt 7) (cN ks ns) (cN ks ns)=true:=by
  intro ks
  induction ks with
  |nil=>intro ns;cases ns <;> rfl
  |cons k ks ih=>
   intro ns
   cases ns with
   |nil=>rfl
   |cons n ns=>show ac (dt 7 (.int k n) (.int k n)) (dt.sameAll (dt 7) (cN ks ns) (cN ks ns)) false=true;rw[ih];simp [dt,ar]
 exact this _ _
def IK{m:Nat}{d:TypeDesc}{ns:List Int}(hd:Ik P m d=true)(ha:ns.length=(bJ m).ks.length):dt 8 (jx m ns) (jx m ns)=true:=by
 unfold Ik at hd;unfold jx;split at hd
 ·rename_i hka;rw[hka];exact IJ
 ·rename_i hka;rw[hka];split at hd
  ·rename_i j
   have hd:=of_decide_eq_true hd
   rw[hd] at ha⊢
   match ns,ha with
   | [x],_=>show dt 8 (.int j x) (.int j x)=true;simp [dt,ar]
  ·cases hd
def YW(m:Nat):List G->List MapEntry->List ME
 |g::l,e::es=>.mk (jx m (dA (bJ m).ks.length g 0)) (jU m g) e.born::YW m l es
 |_,_=>[]
def LL{m:Nat}:∀(l:List G) (ess:List MapEntry),ess.length=l.length->(∀(i:Nat) (g:G) (e:MapEntry),l[i]? =some g->ess[i]? =some e->VR ρ (ne m g) e.key/\VR ρ (jU m g) e.val)->MR ρ (YW m l ess) ess
 | [],[],_,_=>MR.nil ρ
 |g::l,e::es,h,hr=>by obtain⟨q1,q2⟩:=hr 0 g e rfl rfl;exact MR.cons (Ax q1) q2 rfl (LL l es (by simpa using h) λi g' e' h1 h2=>hr (i+1) g' e' (by simpa using h1) (by simpa using h2))
 | [],_::_,h,_=>by simp at h
 |_::_,[],h,_=>by simp at h
def Ay{m:Nat}{d:TypeDesc}{ns:List Int}(hd:Ik P m d=true)(hn:ns.length=(bJ m).ks.length):∀(l:List G) (ess:List MapEntry) (i:Nat),ess.length=l.length->
 gX (fK P 16 d) (jx m ns) (YW m l ess) i=some (if cG m l ns<l.length then some (i+cG m l ns,jU m (eM m l ns)) else none)
 | [],[],i,_=>by simp [YW,gX]
 |g::l,e::es,i,h=>by
  have ih:=Ay hd hn l es (i+1) (by simpa using h);have he:=Re hd hn (IG (bJ m).ks.length g 0);simp only [YW,gX,he];by_cases hg:dA (bJ m).ks.length g 0=ns
  ·have hk:cG m (g::l) ns=0:=by simp [cG,List.findIdx_cons,hg]
   have hk2:eM m (g::l) ns=g:=by simp [eM,hk,aq]
   simp [hk,hk2,hg]
  ·have hk:cG m (g::l) ns=cG m l ns+1:=by simp [cG,List.findIdx_cons,hg]
   have hk2:eM m (g::l) ns=eM m l ns:=by simp [eM,hk,aq]
   rw[show decide (ns=dA (bJ m).ks.length g 0)=false by simp [Ne.symm hg]];simp only [ih,hk,hk2,aau,Nat.add_lt_add_iff_right];split
   ·congr 3;omega
   ·rfl
 | [],_::_,i,h=>by simp at h
 |_::_,[],i,h=>by simp at h
def Az{x:AV}{v:Value}{k1:Nat->Nat->List G->Tr}{k0:Tr}(hS:SI σ)(hG:Good w0 ρ σ.h w)(hx:VR ρ x v)(h:run (KX x k1 k0) σ K=true):
 (∃a9,run k0 a9 K=true/\SI a9/\a9.h=σ.h)∨∃(b m:Nat) (l:List G) (hm:Home) (ess:List MapEntry) (clock:Nat) (a9:St),run (k1 b m l) a9 K=true/\SI a9/\a9.h=σ.h/\v= .map (some hm.blk)/\ρ.at_ b 0=some hm/\Own ρ w0.heap.size hm.blk/\w.heap[hm.blk]? =some (.map ess.toArray clock)/\ess.length=l.length/\
  (∀(i:Nat) (g:G) (e:MapEntry),l[i]? =some g->ess[i]? =some e->VR ρ (ne m g) e.key/\VR ρ (jU m g) e.val)/\a9.h.get b=some (.smap m l):=by
 cases hx with
 |map b hm hh=>
  obtain⟨q,b7,hq,e1,b6,h⟩:=bG hS h
  cases q with
  |smap m l=>
   obtain⟨hm',j9,hB,R',clock,j5,T',ab8⟩:=hG.blk _ _ hq
   rw[hh] at j9;injection j9 with j9;subst j9
   exact .inr ⟨b,m,l,hm,R'.toList,clock,b7,h,b6,e1,rfl,hh,hB,by simpa using j5,by simpa using T',λi g e h1 h2=>ab8 i g e h1 (by simpa using h2),by rw[e1];exact hq⟩
  |_=>exact .inl ⟨b7,h,b6,e1⟩
 |_=>exact .inl ⟨σ,h,hS,rfl⟩
def AA{m:Nat}{kt:TypeId}{ix:AV}{u:Value}{kk:List Int->Tr}{l:List G}{ess:List MapEntry}(hix:VR ρ ix u)(hlen:ess.length=l.length)(ab8:∀(i:Nat) (g:G) (e:MapEntry),l[i]? =some g->ess[i]? =some e->VR ρ (ne m g) e.key/\VR ρ (jU m g) e.val)(h:run (KY P m kt ix kk) σ K=true):
 ∃ns r',run (kk ns) σ K=true/\ns.length=(bJ m).ks.length/\VR ρ (jx m ns) u/\dt 8 (jx m ns) (jx m ns)=true/\FR ρ (YW m l ess) ess (if cG m l ns<l.length then some (cG m l ns,jU m (eM m l ns)) else none) r'/\
  (Instr.findKey kt u ess).run P w= .ok r' w/\∀em,(Instr.checkKey em 10000 kt u).run P w= .ok () w:=by
 obtain⟨hkd,z1⟩:=ay h
 obtain⟨hka,z2⟩:=ay z1
 obtain⟨d,hu,z3⟩:=cB z2
 obtain⟨hd,z4⟩:=ay z3
 obtain⟨ns,hns,z5⟩:=bT z4
 obtain⟨q1,q2⟩:=Rd hns hix
 have hf:=Ay hd q2 l ess 0 hlen
 obtain⟨r',f1,f2,f3⟩:=LK (w:=w) hkd hka hu hix q1 (LL l ess hlen ab8) hf
 exact⟨ns,r',z5,q2,q1,IK hd q2,by simpa using f1,f2,f3⟩
def AB{t:TypeId}{x ix:AV}{v u:Value}{ok:Bool}(hS:SI σ)(hG:Good w0 ρ σ.h w)(hx:VR ρ x v)(hy:VR ρ ix u)(h:run (zU P t x ix ok k) σ K=true):Res P w0 ρ w k K (Instr.lookup t v u ok):=(ah h).elim
def Dk{t:TypeId}{x ix:AV}{v u:Value}{ok:Bool}(hS:SI σ)(hG:Good w0 ρ σ.h w)(hx:VR ρ x v)(hy:VR ρ ix u)(h:run (E8 P t x ix ok k) σ K=true):Res P w0 ρ w k K (Instr.lookup t v u ok):=by
 rcases Az hS hG hx h with⟨b7,z,b6,e1⟩|⟨b,m,l,hm,ess,clock,b7,z,b6,e1,rfl,hh,hB,j5,hlen,ab8,hq⟩
 ·exact AB b6 (by rw[e1];exact hG) hx hy z
 ·have b9:Good w0 ρ b7.h w:=by rw[e1];exact hG
  obtain⟨d,hu,z1⟩:=cB z
  cases d with
  |map kt e=>
   obtain⟨ns,r',z2,hn,hk,_,hfr,ae0,ab5⟩:=AA (w:=w) hy hlen ab8 z1;have tup:∀{a:AV} {c:Value} (b:Bool),VR ρ a c->VR ρ (.tup [a,.bool b]) (.tuple #[c,.bool b]):=λb hr=>
    .tup _ _ rfl λi a' v' ha hv=>by
     rcases i with _|_|i
     ·simp at ha hv;subst ha;subst hv;exact hr
     ·simp at ha hv;subst ha;subst hv;exact .bool _
     ·simp at ha
   have hlk:(Instr.lookup t (.map (some hm.blk)) u ok).run P w=(do
    let(c,o) ←match r' with
     |some (_,c)=>pure (c,true)
     |none=>pure (←zeroValue e,false)
    pure (if ok then Value.tuple #[c,.bool o] else c):Sem Value).run P w:=by
    simp [Instr.lookup,run_underlying hu,ab5,ae0,bx j5 (by simp)]
    rfl
   refine Res.of_eq ?_ hlk;rcases cX z2 with⟨P',z3⟩|⟨P',z3⟩
   ·have P':cG m l ns<l.length:=P'
    rw[if_pos P'] at hfr
    cases r' with
    |none=>exact hfr.elim
    |some p'=>
     obtain⟨j,c⟩:=p';obtain⟨_,hr,_⟩:=hfr;rcases bU z3 with⟨hb,z4⟩|⟨hb,z4⟩
     ·exact .plain z4 b6 b9 (tup true hr) (by simp [hb])
     ·exact .plain z4 b6 b9 hr (by simp [hb])
   ·have P':¬cG m l ns<l.length:=P'
    rw[if_neg P'] at hfr
    cases r' with
    |some p=>exact hfr.elim
    |none=>
     obtain⟨z,zv,i,_,hz,hzr,z4⟩:=Ag ρ w z3;rcases bU z4 with⟨hb,z5⟩|⟨hb,z5⟩
     ·exact .plain z5 b6 b9 (tup false hzr) (by simp [hz,hb])
     ·exact .plain z5 b6 b9 hzr (by simp [hz,hb])
  |_=>exact(ah z1).elim
def AC:∀(f:Nat) (x y:AV) (v u:Value) (N:Nat),dt f x y=true->VR ρ x v->VR ρ y u->f<=N->Instr.sameBits N v u=true:=by
 intro f
 induction f with
 |zero=>intro x y v u N h;simp [dt] at h
 |succ f ih=>
  intro x y v u N h hx hy hN;obtain⟨N,rfl⟩:∃N',N=N'+1:=⟨N-1,by omega⟩
  unfold dt at h;split at h
  ·cases hx;cases hy;simpa [Instr.sameBits] using h
  ·rename_i j a j' b;cases hx;cases hy;obtain⟨h1,h2⟩:=aD h;simp at h1 h2;simp [Instr.sameBits,h1,h2]
  ·cases hx;cases hy;rw[iN, ←beq_toListBytes] at h;simpa [Instr.sameBits] using h
  ·rename_i a b
   cases hx with
   |agg _ cs h1 h2=>
    cases hy with
    |agg _ ds k1 k2=>
     have lx:=LR.of_arr h1 h2;have ly:=LR.of_arr k1 k2;have key:∀(a b:List AV) (vs us:List Value),LR ρ a vs->LR ρ b us->dt.sameAll (dt f) a b=true->vs.length=us.length/\((vs.zip us).all λ(x,y)=>Instr.sameBits N x y)=true:=by
      intro a
      induction a with
      |nil=>
       intro b vs us la lb h
       cases b with
       |nil=>rw[la.nil_inv,lb.nil_inv];exact⟨rfl,rfl⟩
       |cons _ _=>simp [dt.sameAll] at h
      |cons x a iha=>
       intro b vs us la lb h
       cases b with
       |nil=>simp [dt.sameAll] at h
       |cons y b=>obtain⟨v1,K',rfl,r1,la'⟩:=la.cons_inv;obtain⟨u1,us',rfl,r2,lb'⟩:=lb.cons_inv;have h:ac (dt f x y) (dt.sameAll (dt f) a b) false=true:=h;obtain⟨g1,g2⟩:=aD h;obtain⟨q1,q2⟩:=iha b K' us' la' lb' g2;refine⟨by simp [q1], ?_⟩;rw[List.zip_cons_cons,List.all_cons,Bool.and_eq_true];exact⟨ih x y v1 u1 N g1 r1 r2 (by omega),q2⟩
     obtain⟨q1,q2⟩:=key a b cs.toList ds.toList lx ly h;simp only [Instr.sameBits,Bool.and_eq_true];exact⟨by simpa using q1,q2⟩
  ·cases h
def Good.setObjM{H:T ABlk}{b:Nat}{x0 x:ABlk}{h:Home}{o o':Obj}(hG:Good w0 ρ H w)(hb:H.get b=some x0)(f9:b+1<2 ^ 64)(hh:ρ.at_ b 0=some h)(hB:Own ρ w0.heap.size h.blk)(hw:w.heap[h.blk]? =some o)(hx:BR ρ w0.heap.size {w with heap:=w.heap.setIfInBounds h.blk o'} b x)(hgx:∀g,Kw g x:=by intro g;trivial)(hnf:¬zK x0)(hxo:∀k I l,x≠ .obj k I l:=by intro _ _ _ h;cases h):Good w0 ρ (H.set b x) {w with heap:=w.heap.setIfInBounds h.blk o'}:=by
 refine hG.turn (hnf:=hnf) (hxo:=hxo) (hrs:=⟨b,0,h,hh,rfl⟩) hb f9 h.blk hB ⟨rfl,rfl,rfl,by simp,λk hk ho=>?_⟩ (by simp) (λk hk _=>?_) (λb' g h' j9 e=>(hG.inj _ _ _ _ _ _ j9 hh e).1) hx (λg _=>hgx g)
 ·show(w.heap.setIfInBounds h.blk o')[k]? =_;rw[aaG,if_neg (λe=>by rcases hB with hB|hB;omega;exact ho (e▸hB))]
 ·show(w.heap.setIfInBounds h.blk o')[k]? =_;rw[aaG,if_neg (λe=>hk e.symm)]
def sg{t:TypeId}{x ix y:AV}{v u z:Value}{kk:Tr}(hS:SI σ)(hG:Good w0 ρ σ.h w)(hx:VR ρ x v)(hix:VR ρ ix u)(hy:VR ρ y z)(h:run (pY P t x ix y kk) σ K=true):Il P w0 ρ w kk K (Instr.mapUpdate t v u z):=(ah h).elim
def LM{m:Nat}{ns:List Int}{vs:List G}{u:Value}(hn:ns.length=(bJ m).ks.length)(hk:VR ρ (jx m ns) u):VR ρ (ne m (.node (ns.map G.int++vs))) u:=by
 have reI:∀(ks:List IntKind) (g:G) (j:Nat) (us:List Value),LR ρ (cN ks (dA ks.length g j)) us->LR ρ (mq ks g j) us:=by
  intro ks
  induction ks with
  |nil=>intro g j us h;exact h
  |cons k ks ih=>intro g j us h;obtain⟨v,us',rfl,hv,h'⟩:=h.cons_inv;refine LR.cons ?_ (ih _ _ _ h');cases hv;exact .sI _ _
 have e:=pk (gs:=vs) hn
 unfold ne
 unfold jx at hk
 rw[←e] at hk
 cases hka:(bJ m).ka with
 |true=>
  rw[hka] at hk
  cases hk with
  |agg _ cs h1 h2=>obtain⟨r1,r2⟩:=(reI _ _ _ _ (LR.of_arr h1 h2)).arr;exact .agg _ _ r1 r2
 |false=>
  rw[hka] at hk
  cases hks:(bJ m).ks with
  |nil=>rw[hks] at hk;exact hk
  |cons k ks=>rw[hks] at hk;have hk:VR ρ (.int k _) u:=hk;cases hk;exact .sI _ _
def LN{m:Nat}{ns:List Int}{vs:List G}{y:AV}{z:Value}(hn:ns.length=(bJ m).ks.length)(h:Wd m y=some vs)(hy:VR ρ y z):VR ρ (jU m (.node (ns.map G.int++vs))) z:=by
 unfold jU
 have hk:∀(gs:List G) (i:Nat),aa (.node (ns.map G.int++gs)) ((bJ m).ks.length+i)=aq gs i:=λgs i=>by have:=Rc (pre:=ns.map G.int) (gs:=gs) (j:=i);rw[aaK,hn] at this;exact this
 unfold Wd at h
 cases hva:(bJ m).va with
 |true=>
  rw[hva] at h
  cases y with
  |agg l=>
   have h:(match fT (bJ m).vs l with|some (gs,[])=>some gs|_=>none)=some vs:=h;split at h
   ·rename_i gs hp
    injection h with h;subst h
    obtain⟨c1,f1,f2,f3⟩:=jt _ _ _ _ hp
    have f1:l=c1:=by simpa using f1
    subst f1
    cases hy with
    |agg _ cs h1 h2=>obtain⟨r1,r2⟩:=(f3.2 _ _ (λi _=>hk gs i) ρ _ (LR.of_arr h1 h2)).arr;exact .agg _ _ r1 r2
   ·cases h
  |_=>cases h
 |false=>
  rw[hva] at h;have h:(match fT (bJ m).vs [y] with|some ([g],[])=>some [g]|_=>none)=some vs:=h;split at h
  ·rename_i g hp;injection h with h;subst h;obtain⟨c1,f1,f2,f3⟩:=jt _ _ _ _ hp;have f1: [y]=c1:=by simpa using f1
   subst f1;have:=f3.2 _ _ (λi _=>hk [g] i) ρ [z] (LR.cons hy (LR.nil ρ));obtain⟨a,ha⟩:∃a,bB (bJ m).vs (.node (ns.map G.int++ [g])) (bJ m).ks.length= [a]:=by
    have hl:(bB (bJ m).vs (.node (ns.map G.int++ [g])) (bJ m).ks.length).length=1:=by rw[←this.1];rfl
    match hd:bB (bJ m).vs (.node (ns.map G.int++ [g])) (bJ m).ks.length,hl with
    | [a],_=>exact⟨a,rfl⟩
   rw[ha] at this⊢;obtain⟨v,K',e1,q,_⟩:=this.cons_inv;injection e1 with e1 _;subst e1;exact q
  ·cases h
def uo{t:TypeId}{x ix y:AV}{v u z:Value}{kk:Tr}(hS:SI σ)(hG:Good w0 ρ σ.h w)(hx:VR ρ x v)(hix:VR ρ ix u)(hy:VR ρ y z)(h:run (rK P t x ix y kk) σ K=true):Il P w0 ρ w kk K (Instr.mapUpdate t v u z):=by
 rcases Az hS hG hx h with⟨b7,z0,b6,e1⟩|⟨b,m,l,hm,ess,clock,b7,z0,b6,e1,rfl,hh,hB,j5,hlen,ab8,hq⟩
 ·exact sg b6 (by rw[e1];exact hG) hx hix hy z0
 have b9:Good w0 ρ b7.h w:=by rw[e1];exact hG
 obtain⟨d,hu,z1⟩:=cB z0
 cases d with
 |map kt e=>
  obtain⟨ns,r',z2,hn,hk,an6,hfr,ae0,ab5⟩:=AA (w:=w) hix hlen ab8 z1;obtain⟨vs,I',z3⟩:=bT z2;obtain⟨x0,i3,hx0,e2,i9,f9,z4⟩:=ft b6 z3;have c8:hm.blk<w.heap.size:=(hG.dom _ _ _ hh).1;have k1:=LM (vs:=vs) hn hk;have k2:=LN hn I' hy;have put:∀(ag_:List MapEntry) (c2:Nat),ag_.length=(dk m l ns vs).length->(∀(i:Nat) (g:G) (e:MapEntry),(dk m l ns vs)[i]? =some g->ag_[i]? =some e->VR ρ (ne m g) e.key/\VR ρ (jU m g) e.val)->
   (Instr.mapUpdate t (.map (some hm.blk)) u z).run P w=(setObj hm.blk (.map ag_.toArray c2)).run P w->Il P w0 ρ w kk K (Instr.mapUpdate t (.map (some hm.blk)) u z):=by
   intro ag_ c2 h1 h2 h3
   refine⟨i3,{w with heap:=w.heap.setIfInBounds hm.blk (.map ag_.toArray c2)},z4,i9, ?_, ?_⟩
   ·rw[e2];refine b9.setObjM (hnf:=nf rfl hq hx0 (λh=>h)) hx0 f9 hh hB j5 ⟨hm,hh,hB,ag_.toArray,c2, ?_,by simpa using h1,λi g e g1 g2=>h2 i g e g1 (by simpa using g2)⟩;show(w.heap.setIfInBounds hm.blk _)[hm.blk]? =_;rw[aaG,if_pos rfl,if_pos c8]
   ·rw[h3];simp [setObj,Sem.run,j5]
  by_cases P':cG m l ns<l.length
  ·rw[if_pos P'] at hfr
   have ep:dk m l ns vs=l.set (cG m l ns) (.node (ns.map G.int++vs)):=by unfold dk;rw[if_pos P']
   cases r' with
   |none=>exact hfr.elim
   |some p'=>
    obtain⟨j,cv⟩:=p';obtain⟨eij,_,ok,on,J'⟩:=hfr;have eij:cG m l ns=j:=eij;have hge:ess[j]? =some ess[j]:=aai (by omega);have hgl:l[j]? =some l[j]:=aai (by omega);obtain⟨o1,o2⟩:=ab8 j _ _ hgl hge;have hints:dA (bJ m).ks.length l[j] 0=ns:=by have:=List.findIdx_getElem (p:=λg=>decide (dA (bJ m).ks.length g 0=ns)) (xs:=l) (w:=P');have:=of_decide_eq_true this;subst eij;exact this
    have okey:=Ax o1;rw[hints] at okey;have hsb:=AC 8 (jx m ns) (jx m ns) (ess[j]).key u 10000 an6 okey hk (by decide);refine put (ess.set j {ess[j] with key:=u,val:=z}) clock (by rw[ep];simp [hlen]) (λi g e g1 g2=>?_) ?_
    ·rw[ep,abC] at g1;rw[abC] at g2;rw[eij] at g1;by_cases hji:j=i
     ·rw[if_pos hji] at g1 g2;split at g1
      ·injection g1 with g1;subst g1;split at g2
       ·injection g2 with g2;subst g2;exact⟨k1,k2⟩
       ·cases g2
      ·cases g1
     ·rw[if_neg hji] at g1 g2;exact ab8 i g e g1 g2
    ·have l6:ess.toArray[j]? =some ess[j]:=by simpa using hge
     have ea:(ess.toArray.modify j λe=>{e with key:=u,val:=z})=(ess.set j {ess[j] with key:=u,val:=z}).toArray:=by
      apply Array.ext';apply List.ext_getElem?;intro n;rw[aaW,Array.getElem?_modify,abD,abC];by_cases en:j=n
      ·subst en;obtain⟨hl1,hl2⟩:=List.getElem?_eq_some_iff.1 hge;simp [hl1]
      ·simp [en]
     simp only [Instr.mapUpdate,aab,run_underlying hu,bx j5 (by simp),aae,ab5,abD,ae0,Instr.keyThatStays,l6,aaV,Option.getD_some,hsb,if_true,aad,ea]
  ·rw[if_neg P'] at hfr
   have ep:dk m l ns vs=l++ [.node (ns.map G.int++vs)]:=by unfold dk;rw[if_neg P']
   cases r' with
   |some p=>exact hfr.elim
   |none=>
    refine put (ess++ [⟨u,z,clock⟩]) (clock+1) (by rw[ep];simp [hlen]) (λi g e g1 g2=>?_) ?_
    ·rw[ep] at g1;by_cases hi:i<l.length
     ·rw[aaA hi] at g1;rw[aaA (by omega)] at g2;exact ab8 i g e g1 g2
     ·rw[aax (by omega)] at g1
      rw[aax (by omega),hlen] at g2
      match i-l.length,g1,g2 with
      |0,g1,g2=>injection g1 with g1;injection g2 with g2;subst g1;subst g2;exact⟨k1,k2⟩
      |_+1,g1,g2=>simp at g1
    ·have ea:ess.toArray.push (⟨u,z,clock⟩:MapEntry)=(ess++ [(⟨u,z,clock⟩:MapEntry)]).toArray:=by apply Array.ext';simp
     simp only [Instr.mapUpdate,aab,run_underlying hu,bx j5 (by simp),aae,ab5,abD,ae0,ea]
 |_=>exact(ah z1).elim
def IL{t:TypeId}{x:AV}{v:Value}(hS:SI σ)(hG:Good w0 ρ σ.h w)(hx:VR ρ x v)(h:run (KZ P t x k) σ K=true):Res P w0 ρ w k K (Instr.range t v):=by
 obtain⟨d,hu,h⟩:=cB h
 cases d with
 |map kt et=>
  cases hx with
  |map m hm hh=>
   obtain⟨q,b7,hq,e1,b6,h⟩:=bG hS h
   have b9:Good w0 ρ b7.h w:=by rw[e1];exact hG
   cases q with
   |mapo es clock=>obtain⟨hm',j9,hB,R',j5,T',_⟩:=hG.blk _ _ hq;rw[hh] at j9;injection j9 with j9;subst j9;obtain⟨n,a9,hn,f9,j9,C',h⟩:=gt b6 h;obtain⟨hle,j7⟩:=b9.alloc hn f9 (.miter (some m) clock [] clock) (.mapIter (some hm.blk) clock #[] clock) 0 0 (λρ' hle q9 _=>⟨_,q9,.new hG.below.size,some hm.blk, #[],by simp,rfl,hm,hle.at_ _ _ _ hh,rfl⟩);refine⟨_,a9,_,_,_,h,C',by rw[j9];exact j7,hle,VR.ptr n 0 0 _ (Rho.put_at _ _ _ _) (aap _), ?_⟩;simp [Instr.range,run_underlying hu,bx j5 (by simp)]
   |_=>exact(ah h).elim
  |_=>exact(ah h).elim
 |_=>exact(ah h).elim
def IM:∀(l:List Nat) (n:Nat),xg l n=l.contains n:=by
 intro l
 induction l with
 |nil=>intro n;rfl
 |cons a l ih=>
  intro n;show ac (Nat.beq a n) true (xg l n)=_;rw[ar,ih,List.contains_cons];by_cases e:a=n
  ·subst e;simp
  ·have h1:Nat.beq a n=false:=by
    cases hb:Nat.beq a n with
    |false=>rfl
    |true=>exact absurd (aac hb) e
   have h2:(n==a)=false:=by simpa using λh:n=a=>e h.symm
   rw[h1,h2];simp
def LO{seen:List Nat}{since:Nat}:∀(es:List ME) (ess:List MapEntry) (left:List ME),MR ρ es ess->zV seen since es=some left->
 MR ρ left (ess.filter λe=>!seen.contains e.born)/\∀e∈ess,e.born<since:=by
 intro es
 induction es with
 |nil=>intro ess left hm h;simp only [zV] at h;injection h with h;subst h;rw[hm.nil_inv];exact⟨MR.nil ρ,by simp⟩
 |cons x es ih=>
  intro ess left hm h
  cases x with
  |mk a v n=>
   obtain⟨e,ac9,rfl,h1,h2,h3,h4⟩:=hm.cons_inv
   simp only [zV] at h
   split at h
   ·rename_i c8;split at h
    ·rename_i l hl;injection h with h;obtain⟨q1,q2⟩:=ih ac9 l h4 hl;refine⟨?_,λx hx=>?_⟩
     ·rw[List.filter_cons,h3, ←IM]
      rw[ar] at h
      cases hb:xg seen n with
      |true=>rw[hb,if_pos rfl] at h;subst h;simpa using q1
      |false=>rw[hb,if_neg (by simp)] at h;subst h;exact MR.cons h1 h2 h3 q1
     ·rcases List.mem_cons.1 hx with e'|hx
      ·subst e';omega
      ·exact q2 x hx
    ·cases h
   ·cases h
def LP{x:AV}{v:Value}{isS:Bool}{ty:TypeId}(hS:SI σ)(hG:Good w0 ρ σ.h w)(hx:VR ρ x v)(h:run (Uy x isS k) σ K=true):Res P w0 ρ w k K (Instr.next v isS ty):=by
 have ff:∀(ρ':Rho),VR ρ' (.tup [.bool false]) (.tuple #[.bool false]):=λρ'=>.tup _ _ rfl λi a v ha hv=>by
  cases i with
  |zero=>simp at ha hv;subst ha;subst hv;exact .bool _
  |succ i=>simp at ha
 cases hx with
 |ptr b g o hm hh ho=>
  cases g with
  |succ g=>exact(ah h).elim
  |zero=>
   cases o with
   |succ o=>exact(ah h).elim
   |zero=>
    obtain⟨q,b7,hq,e1,b6,h⟩:=bG hS h
    have b9:Good w0 ρ b7.h w:=by rw[e1];exact hG
    cases q with
    |siter s pos=>cases isS <;> exact(ah h).elim
    |miter m since seen stepped=>
     cases isS with
     |true=>cases m <;> exact(ah h).elim
     |false=>
      obtain⟨hm',j9,hB,m',ad8,j5,an7,hm2⟩:=hG.blk _ _ hq
      rw[hh] at j9;injection j9 with j9;subst j9
      cases m with
      |none=>subst hm2;exact .plain h b6 b9 (ff _) (by simp [Instr.next,bx j5 (by simp)])
      |some m=>
       obtain⟨hx,hhx,em⟩:=hm2
       subst em
       obtain⟨q2,i3,hq2,e2,i9,h⟩:=bG b6 h
       have l8:Good w0 ρ i3.h w:=by rw[e2];exact b9
       cases q2 with
       |mapo es clock=>
        obtain⟨hm3,hh3,hB3,R',ac_,hmr⟩:=(b9.blk _ _ hq2).mapo_MR
        rw[hhx] at hh3;injection hh3 with hh3;subst hh3
        obtain⟨hss,h⟩:=ay h
        have hss:=bY hss
        obtain⟨left,an8,h⟩:=bT h
        obtain⟨hlr,ah3⟩:=LO es R'.toList left hmr an8
        rw[←an7] at hlr
        have hF:R'.filter (λe=>!ad8.contains e.born)=(R'.toList.filter λe=>!ad8.toList.contains e.born).toArray:=by apply Array.ext';simp
        generalize hL:(R'.toList.filter λe=>!ad8.toList.contains e.born)=L at hlr hF
        have aj6:∀e∈L,e.born<since:=λe he=>by rw[←hL] at he;exact ah3 e (List.mem_filter.1 he).1
        have hold:L.toArray.filter (λe=>decide (e.born<since))=L.toArray:=by apply Array.ext';rw[Array.toList_filter];exact List.filter_eq_self.2 λe he=>by simpa using aj6 e he
        have m7:L.toArray.filter (λe=>decide (e.born≥since))= #[]:=by apply Array.ext';rw[Array.toList_filter];exact List.filter_eq_nil_iff.2 λe he=>by have:=aj6 e he;simp;omega
        have hun:(!ad8.isEmpty && !R'.isEmpty && R'.all λe=>decide (e.born≥stepped))=false:=by
         cases he:R'.isEmpty with
         |true=>simp
         |false=>
          have m8:0<R'.size:=by
           rcases aaS R'.size with e0|e0
           ·rw[Array.isEmpty_iff_size_eq_zero.2 e0] at he;cases he
           ·exact e0
          have:(R'.all λe=>decide (e.born≥stepped))=false:=by rw[Array.all_eq_false];refine⟨0,m8, ?_⟩;have:=ah3 R'[0] (by simp);simp;omega
          rw[this];simp
        have model:(Instr.next (.pointer (some ⟨hm.blk,0-hm.shift,none⟩)) false ty).run P w=
         ((do
          let i ←choose (.mapNext ((if L.toArray.isEmpty then #[none] else #[])++L.toArray.map some).size)
          match((if L.toArray.isEmpty then #[none] else #[])++L.toArray.map some)[i]? with
          |some (some e)=>
           setObj hm.blk (.mapIter (some hx.blk) since (ad8.push e.born) clock)
           pure (.tuple #[.bool true,e.key,e.val])
          |some none=>pure (.tuple #[.bool false])
          |none=>stuck "Next: no such candidate" :Sem Value)).run P w:=by
         simp only [Instr.next,Nat.zero_sub,aab,bx j5 (by simp),aae,bx ac_ (by simp),hun,Bool.false_eq_true,if_false,hF,hold,m7,Array.append_empty,aad]
         rfl
        refine Res.of_eq ?_ model
        cases left with
        |nil=>
         have:L= []:=hlr.nil_inv;subst this;by_cases hf:(Question.mapNext 1).forced=true
         ·refine⟨_,i3,ρ,.tuple #[.bool false],w,h,i9,l8,Rho.le.refl ρ,ff _, ?_⟩;simp [hf]
         ·exact absurd (by decide) hf
        |cons l0 lr=>exact(ah h).elim
       |_=>exact(ah h).elim
    |_=>exact(ah h).elim
 |_=>exact(ah h).elim
end
end Go.Sym
namespace Go.Sym
open Go.RowKit (Below)
def xx(a b:Int):ltI a b=decide (a<b):=by
 unfold ltI;split
 ·rename_i x y
  cases h:Nat.ble (Nat.succ x) y with
  |true=>have:=Nat.ble_eq.mp h;simp;omega
  |false=>have:=Zt h;simp;omega
 ·rfl
section
variable{P:Program}{w0:World}{ρ:Rho}{w:World}{σ:St}{K:Fin}{k:AV->Tr}
def AD{mx:Bool}:∀(l:List AV) (x:AV) (vs:List Value) (v:Value),LR ρ l vs->VR ρ x v->run (gq mx l x k) σ K=true->
 ∃r u,run (k r) σ K=true/\VR ρ r u/\(vs.foldlM (if mx then Builtin.max2 else Builtin.min2) v).run P w= .ok u w:=by
 intro l
 induction l with
 |nil=>intro x vs v hl hx h;rw[hl.nil_inv];exact⟨x,v,h,hx,by simp⟩
 |cons y l ih=>
  intro x vs v hl hx h
  obtain⟨u,K',rfl,hu,E'⟩:=hl.cons_inv
  have step:∀(j:IntKind) (a b c:Int) (r0:AV),VR ρ r0 (.int j c)->run (gq mx l r0 k) σ K=true->((if mx then Builtin.max2 else Builtin.min2) (.int j a) (.int j b)).run P w= .ok (.int j c) w->
   ∃r u,run (k r) σ K=true/\VR ρ r u/\((Value.int j b::K').foldlM (if mx then Builtin.max2 else Builtin.min2) (.int j a)).run P w= .ok u w:=λj a b c r0 hr0 h e=>by
   obtain⟨r,u,q1,q2,q3⟩:=ih r0 K' (.int j c) E' hr0 h
   exact⟨r,u,q1,q2,by rw[List.foldlM_cons,aab,e];exact q3⟩
  unfold gq at h
  split at h
  ·rename_i j a j' b;cases hx;cases hu;obtain⟨hj0,z1⟩:=ay h;clear h;have hj:=of_decide_eq_true hj0;clear hj0;subst hj;rcases bU z1 with⟨e,h⟩|⟨e,h⟩
   ·refine step j a b b _ (.int _ _) h ?_
    rw[ar] at e
    cases mx with
    |true=>simp [xx] at e;simp [Builtin.max2,e]
    |false=>simp [xx] at e;simp [Builtin.min2,e]
   ·refine step j a b a _ (.int _ _) h ?_
    rw[ar] at e
    cases mx with
    |true=>simp [xx] at e;simp [Builtin.max2];omega
    |false=>simp [xx] at e;simp [Builtin.min2];omega
  ·split at h
   ·rename_i j a j' b ea eb
    have e1:=bc hx ea
    have e2:=bc hu eb
    subst e1;subst e2
    obtain⟨hj0,z1⟩:=ay h
    clear h
    have hj:=of_decide_eq_true hj0
    clear hj0
    subst hj
    refine step j a b _ _ (.sI _ _) z1 ?_
    cases mx with
    |true=>
     simp only [if_true,Builtin.max2];by_cases hab:a<b
     ·have:max a b=b:=by omega
      simp [hab,this]
     ·have:max a b=a:=by omega
      simp [hab,this]
    |false=>
     simp only [Bool.false_eq_true,if_false,Builtin.min2];by_cases hab:b<a
     ·have:min a b=b:=by omega
      simp [hab,this]
     ·have:min a b=a:=by omega
      simp [hab,this]
   ·exact(ah h).elim
def Wn{tys:Array TypeId}{ty:TypeId}{args:List AV}{vs:List Value}(hS:SI σ)(hG:Good w0 ρ σ.h w)(hl:LR ρ args vs)(h:run (E9 true args k) σ K=true):Res P w0 ρ w k K (Builtin.max_ tys ty vs.toArray):=by
 cases args with
 |nil=>exact(ah h).elim
 |cons x rest=>obtain⟨v,K',rfl,hv,E'⟩:=hl.cons_inv;obtain⟨r,u,q1,q2,q3⟩:=AD (P:=P) (w:=w) rest x K' v E' hv h;exact .plain q1 hS hG q2 (by simpa [Builtin.max_] using q3)
def IN{tys:Array TypeId}{ty:TypeId}{args:List AV}{vs:List Value}(hS:SI σ)(hG:Good w0 ρ σ.h w)(hl:LR ρ args vs)(h:run (KV P tys args k) σ K=true):Res P w0 ρ w k K (Builtin.copy_ tys ty vs.toArray):=(ah h).elim
def LQ{tys:Array TypeId}{ty t0 e:TypeId}{i:TypeInfo}{b g len:Nat}{t:List Nat}{y:AV}{v u:Value}(hS:SI σ)(hG:Good w0 ρ σ.h w)(hx:VR ρ (.gsl b g len 1) v)(hy:VR ρ y u)(hsb:CY y=some t)(h0:tys[0]? =some t0)(hd:P.underlying t0=some (.slice e))(hi:P.info? e=some i)(hs1:i.size=1)(h:run (Ux b g len t k) σ K=true):Res P w0 ρ w k K (Builtin.copy_ tys ty #[v,u]):=by
 obtain⟨hlen,cs,hL,hcl,o6⟩:=Ar (P:=P) (w:=w) hG hy hsb
 have f9:=cW hS h
 obtain⟨q,b7,hq,e1,b6,z0⟩:=bG hS h
 clear h
 have b9:Good w0 ρ b7.h w:=by rw[e1];exact hG
 cases q with
 |grow c gen ty2=>
  cases c with
  |rows m l=>exact(ah z0).elim
  |bytes l0=>
  obtain⟨k1,z1⟩:=ay z0
  obtain⟨k2,z2⟩:=aN z1
  obtain⟨x0,i3,hx0,e2,i9,_,z3⟩:=ft b6 z2
  clear z0 z1 z2
  have k1:=aac k1
  subst k1
  have M':b7.h.get b=some (.grow (.bytes l0) g ty2):=by rw[e1];exact hq
  have hml:min t.length len<=t.length:=Nat.min_le_left _ _
  have hmr:min t.length len<=len:=Nat.min_le_right _ _
  have hf:=o6 _ hml w rfl
  have ai7:∀n:Nat,goInt n=Value.int .i64 (n:Int):=λn=>rfl
  cases hx with
  |gsl _ _ _ _ hm cp hn hh hsh hcc hz=>
   rcases b9.blk _ _ M' with h0'|⟨hm',q1,q2,q3,arr,fr,q4,q5,q6,q7,q8⟩
   ·have h0':l0.length=0:=h0';omega
   rw[hh] at q1;injection q1 with q1;subst q1
   have q6:l0.length * 1<=hm.size:=q6
   have ak9:(cs.take (min t.length len)).length=min t.length len:=by rw[aal,hcl];omega
   have hLt:LR ρ ((cE t).take (min t.length len)) (cs.take (min t.length len)):=⟨by rw[aal,aal,hL.1],λj a v ha hv=>by
    rw[aa0] at ha hv;split at ha
    ·rename_i hj;rw[if_pos hj] at hv;exact hL.2 j a v ha hv
    ·cases ha⟩
   obtain⟨u0,s1,s2,s3,s4,s5,s6,s7⟩:=fe hm.blk (cs.take (min t.length len)) 0 w arr ty2 fr q4 (by rw[ak9];omega)
   have A':=run_storeCells_cells (P:=P) hm.blk 0 (cs.take (min t.length len)) 0 w (λj hj=>by
    simp only [World.cell?,q4]
    simp only [aa3,Bool.false_eq_true,if_false,aas]
    rw[aaM (by omega)];rfl) (λj hj=>by
    simp only [World.frozen?,q4,aas]
    cases hx:(decide (fr.1<=0+j) && decide (0+j<fr.2)) with
    |false=>rfl
    |true=>simp only [Bool.and_eq_true,decide_eq_true_eq] at hx;exact(q7 _ (by omega) hx.1 hx.2).elim) (hLt.ones (λa ha=>by have:=List.mem_of_mem_take ha;unfold cE at this;obtain⟨n,_,e⟩:=List.mem_map.1 this;rw[←e];rfl))
   rw[aas] at A'
   have hnl:(t.take len++l0.drop t.length).length=len:=by rw[aah,aal,aao];omega
   have hG3:Good w0 ρ (b7.h.set b (.grow (.bytes (t.take len++l0.drop t.length)) g ty2)) (w.setCells hm.blk 0 (cs.take (min t.length len))):=by
    refine b9.turn (hrs:=⟨b,g,hm,hh,rfl⟩) M' f9 hm.blk q3 (Kept.of_set (s7 0 (aap _)) s5 q3) (by omega) (λx hx _=>s5 x hx) (λb' g' h' j9 e'=>(hG.inj _ _ _ _ _ _ j9 hh e').1) ?_;refine .inr ⟨hm,hh,q2,q3,u0,fr,s1,by omega, ?_,q7,λi' hi' j a ha=>?_⟩
    ·show(t.take len++l0.drop t.length).length * 1<=hm.size;omega
    ·have hi':i'<(t.take len++l0.drop t.length).length:=hi'
     have ha: [AV.sI .u8 (((t.take len++l0.drop t.length).getD i' 0:Nat):Int)][j]? =some a:=ha
     cases j with
     |succ j=>simp at ha
     |zero=>
     simp only [abE] at ha
     injection ha with ha
     subst ha
     show ∃u,u0[i' * 1+0]? =some u/\_
     rw[aaF,aas]
     by_cases hit:i'<min t.length len
     ·have hin:(cE t)[i']? =some (.sI .u8 (Int.ofNat (t[i']'(by omega)))):=by unfold cE;rw[aaI,aai (by omega)];rfl
      obtain⟨u,u1,u2⟩:=hL.get hin;refine⟨u, ?_, ?_⟩
      ·have:=s3 i' (by rw[ak9];exact hit);rw[aam] at this;rw[this,aar hit];exact u1
      ·have:(t.take len++l0.drop t.length).getD i' 0=t[i']'(by omega):=by rw[aag,aaA (by rw[aal];omega),aar (by omega),aai (by omega)];rfl
       rw[this];exact u2
     ·have hi2:t.length<=i':=by omega
      obtain⟨u,u1,u2⟩:=q8 i' (show i'<l0.length by omega) 0 _ rfl;have u1:arr[i' * 1+0]? =some u:=u1;rw[aaF,aas] at u1;refine⟨u,by rw[s4 i' (.inr (by rw[ak9];omega))];exact u1, ?_⟩;have:(t.take len++l0.drop t.length).getD i' 0=l0.getD i' 0:=by rw[aag,aax (by rw[aal];omega),aat,aag];congr 2;rw[aal];omega
      rw[this];exact u2
   refine⟨_,i3,ρ,_,_,z3,i9,by rw[e2];exact hG3,.refl _,.sI _ _, ?_⟩
   have U':Nat.min t.length len=min t.length len:=rfl
   simp only [Builtin.copy_,h0,aab,run_underlying hd,aae,hlen,U',aA hi,hs1,hf,A',aad,ai7,aa6,abE,aby,abD]
  |gnil _ _ _=>
   have hb0:l0= []:=List.length_eq_zero_iff.1 k2
   refine⟨_,i3,ρ,_,w,z3,i9, ?_,.refl _,.sI _ _, ?_⟩
   ·rw[e2];exact b9.none_turn M' f9 (by subst hb0;simp [Ct.len]) (λ_ h=>h) (λh=>h)
   ·have U':Nat.min t.length 0=min t.length 0:=rfl;have hf0:(Builtin.firstCells 1 0 u).run P w= .ok #[] w:=by simpa using hf
    simp [Builtin.copy_,h0,run_underlying hd,hlen,aA hi,hs1,hf0,goInt]
  |gempty _ _ _ a=>
   have hb0:l0= []:=List.length_eq_zero_iff.1 k2
   refine⟨_,i3,ρ,_,w,z3,i9, ?_,.refl _,.sI _ _, ?_⟩
   ·rw[e2];exact b9.none_turn M' f9 (by subst hb0;simp [Ct.len]) (λ_ h=>h) (λh=>h)
   ·have U':Nat.min t.length 0=min t.length 0:=rfl;have hf0:(Builtin.firstCells 1 0 u).run P w= .ok #[] w:=by simpa using hf
    simp [Builtin.copy_,h0,run_underlying hd,hlen,aA hi,hs1,hf0,goInt,storeCells]
 |_=>exact(ah z0).elim
def LT{tys:Array TypeId}{ty:TypeId}{args:List AV}{vs:List Value}(hS:SI σ)(hG:Good w0 ρ σ.h w)(hl:LR ρ args vs)(h:run (KW P tys args k) σ K=true):Res P w0 ρ w k K (Builtin.copy_ tys ty vs.toArray):=by
 unfold KW at h;split at h
 ·rename_i d x;split at h
  ·rename_i t hsb;split at h
   ·rename_i t0 h0
    obtain⟨v,vs1,rfl,hv,hl1⟩:=hl.cons_inv
    obtain⟨u,vs2,rfl,hu,hl2⟩:=hl1.cons_inv
    have:=hl2.nil_inv
    subst this
    obtain⟨dd,hd,h⟩:=cB h
    cases dd with
    |slice e=>
     obtain⟨i,hi,h⟩:=cC h
     obtain⟨hs1,h⟩:=ay h
     have hs1:=aac hs1
     have grown:∀(a:AV) (a9:St),SI a9->Good w0 ρ a9.h w->VR ρ a v->run (KU t k a) a9 K=true->Res P w0 ρ w k K (Builtin.copy_ tys ty #[v,u]):=by
      intro a a9 C' j7 ha z
      cases a with
      |gsl b g len es=>obtain⟨J',z1⟩:=ay z;have J':=aac J';subst J';exact LQ C' j7 ha hu hsb h0 hd hi hs1 z1
      |_=>exact(ah z).elim
     cases d with
     |gsl b g len es=>exact grown _ _ hS hG hv h
     |slc b g o len cap es=>obtain⟨J',z1⟩:=ay h;have J':=aac J';obtain⟨a9,z3,C',j7,_,hv'⟩:=ef hS hG kN z1;rw[J'] at hv;exact grown _ _ C' j7 (hv' ρ (.refl _) _ hv) z3
     |_=>exact(ah h).elim
    |_=>exact(ah h).elim
   ·exact(ah h).elim
  ·exact IN hS hG hl h
 ·exact(ah h).elim
end
end Go.Sym
namespace Go.Sym
open Go.RowKit (Below)
section
variable{P:Program}{w0:World}{ρ:Rho}{w:World}{σ:St}{K:Fin}{k:AV->Tr}
def IP{c:T Cell}{g o0:Nat}{hm:Home}{arr:Array Value}{l:List AV}{bs:List Nat}(h:KI l=some bs)(l6:∀(j:Nat) (a:AV),l[j]? =some a->∃tag,c.get (o0+j)=some (.mk tag a)/\tag<=g)(i6:∀o tag a,c.get o=some (.mk tag a)->tag<=g->hm.shift<=o/\∃v,arr[o-hm.shift]? =some v/\VR ρ a v)(hs:hm.shift=0):bs.length=l.length/\∀(i m:Nat),bs[i]? =some m->arr[o0+i]? =some (Value.int .u8 (m:Nat)):=by
 have key:∀(l:List AV) (bs:List Nat),KI l=some bs->bs.length=l.length/\∀(i m:Nat),bs[i]? =some m->l[i]? =some (AV.int .u8 (m:Nat)):=by
  intro l
  induction l with
  |nil=>intro bs h;injection h with h;subst h;exact⟨rfl,λi m hi=>by simp at hi⟩
  |cons a l ih=>
   intro bs h;unfold KI at h;split at h
   ·rename_i e;cases e
   ·rename_i n r' e;injection e with e1 e2;subst e1;subst e2;split at h
    ·split at h
     ·rename_i l' hl2
      injection h with h
      subst h
      obtain⟨q1,q2⟩:=ih _ hl2
      refine⟨by simp [q1],λi m hi=>?_⟩
      cases i with
      |zero=>simp at hi;subst hi;rfl
      |succ i=>simpa using q2 i m (by simpa using hi)
     ·cases h
    ·cases h
   ·cases h
 obtain⟨h1,h2⟩:=key l bs h
 refine⟨h1,λi m hi=>?_⟩
 obtain⟨tag,t1,t2⟩:=l6 i _ (h2 i m hi)
 obtain⟨_,v,r1,r2⟩:=i6 _ tag _ t1 t2
 rw[hs,show o0+i-0=o0+i by omega] at r1
 cases r2
 exact r1
def LU{i:Nat}{fn:Func}{row:Array Value->Sem Value}(hf:P.funcs[i]? =some fn)(hb:fn.body=none)(hn:¬fn.name= "runtime.NumGoroutine")(h1:Extern.findNext fn=none)(h2:Extern.find fn=some row)(args:Array Value):
 (callFunc i args).run P w=(do pure (Next.value (←row args))).run P w:=by
 simp [callFunc,hf,hn,hb,h1,h2]
def Rf{i:Nat}{args:List AV}{vs:List Value}(h:E_ P i=true)(hl:LR ρ args vs)(hr:run (Q1 P i args k) σ K=true):∃av v,run (k av) σ K=true/\VR ρ av v/\(callFunc i vs.toArray).run P w= .ok (.value v) w:=by
 unfold E_ at h;unfold Q1 at hr;split at h
 ·rename_i fn hf;rw[hf] at hr;split at h
  ·rename_i hb;have ho:=of_decide_eq_true h;rcases bU hr with⟨m8,hr⟩|⟨_,hr⟩
   ·have ad0:=of_decide_eq_true m8;have h1:Extern.findNext fn=none:=by unfold Extern.findNext;rw[ad0,ho];kernel_rfl
    have h2:Extern.find fn=some Extern.AbiNoEscape.same:=by unfold Extern.find;rw[ad0];kernel_rfl
    split at hr
    ·rename_i x;obtain⟨xv,K',rfl,hxv,aq8⟩:=hl.cons_inv;have:=aq8.nil_inv;subst this;refine⟨_,_,hr,hxv, ?_⟩;rw[LU hf hb (by rw[ad0];decide) h1 h2];rfl
    ·exact(ah hr).elim
   ·exact(ah hr).elim
  ·cases h
 ·cases h
end
end Go.Sym
namespace Go.Sym
open Go.RowKit (Below)
def fR(rd:Option Nat):Fence:={Fence.wide with round:=rd}
def Rg(P:Program)(w0:World)(rn:cQ):Prop:=
 ∀(l:Nat) (as:List AV) (vs:List Value) (k:AV->Tr) (σ:St) (K:Fin) (ρ:Rho) (w:World) (R:Ending->World->Prop),SI σ->Good w0 ρ σ.h w->LR ρ as vs->run (rn l as k) σ K=true->
  (∀av v a9 ρ' w',run (k av) a9 K=true->SI a9->Good w0 ρ' a9.h w'->ρ.le ρ'->VR ρ' av v->R (.returned v) w')->
  ∃h,ρ.at_ l 0=some h/\∃f tmps as bd,(Instr.yield h.blk vs.toArray).run P w= .ok (.round h.blk f tmps as bd) w/\RoundIn Fence.wide 0 P h.blk f tmps as bd w R
def AE(P:Program)(w0:World)(en:cQ):Prop:=
 ∀(f:Nat) (l:List AV) (vs:List Value) (k:AV->Tr) (σ:St) (K:Fin) (ρ:Rho) (w:World) (R:Ending->World->Prop),SI σ->Good w0 ρ σ.h w->LR ρ l vs->run (en f l k) σ K=true->
  (∀av v a9 ρ' w',run (k av) a9 K=true->SI a9->Good w0 ρ' a9.h w'->ρ.le ρ'->VR ρ' av v->R (.returned v) w')->
  (∀args:Array Value,(callFunc f args).run P w= .ok (.enter f args) w)/\CallsIn Fence.wide 0 P f vs.toArray w R
section
variable{P:Program}{w0:World}{ρ:Rho}{w:World}{σ:St}{K:Fin}{k:AV->Tr}{nt:Nat}{env:T AV}{a:Act}{o:Oper}{next:Act->World->Prop}{Q:Exit->Act->World->Prop}{rd:Option Nat}
def Nxt(w0:World)(ρ:Rho)(K:Fin)(k:AV->Tr)(o:Oper)(a:Act)(next:Act->World->Prop):Prop:=
 ∀av v a9 ρ' w',run (k av) a9 K=true->SI a9->Good w0 ρ' a9.h w'->ρ.le ρ'->VR ρ' av v->next (a.put o.dst v) w'
def Nxt.mono{ρ':Rho}(h:Nxt w0 ρ K k o a next)(hle:ρ.le ρ'):Nxt w0 ρ' K k o a next:=λav v a9 ρ2 w' h1 h2 h3 h4 h5=>h av v a9 ρ2 w' h1 h2 h3 (hle.trans h4) h5
def ci{s:Sem Value}(he:execOp a.eval o=(do pure (.value (←s))))(hn:Nxt w0 ρ K k o a next)(hr:Res P w0 ρ w k K s)(hd:∀c,o.op≠ .defer c:=by assumption):o.wpIn (fR rd) 0 P a w next Q:=by
 obtain⟨av,a9,ρ',v,w',h1,h2,h3,h4,h5,h6⟩:=hr;refine⟨λ_ _=>trivial, ?_⟩;show o.uponIn (fR rd) 0 P a next Q ((o.semAt rd a.eval).run P w)
 rw[Oper.semAt_eq _ _ _ hd,he];simp only [aab,h6,aae,aad,Oper.uponIn_value];exact hn av v a9 ρ' w' h1 h2 h3 h4 h5
def jy{av:AV}{v:Value}(he:(execOp a.eval o).run P w= .ok (.value v) w)(hn:Nxt w0 ρ K k o a next)(hr:run (k av) σ K=true)(hS:SI σ)(hG:Good w0 ρ σ.h w)(hv:VR ρ av v)(hd:∀c,o.op≠ .defer c:=by assumption):o.wpIn (fR rd) 0 P a w next Q:=by
 refine⟨λ_ _=>trivial, ?_⟩;show o.uponIn (fR rd) 0 P a next Q ((o.semAt rd a.eval).run P w)
 rw[Oper.semAt_eq _ _ _ hd,he];exact hn av v σ ρ w hr hS hG (Rho.le.refl ρ) hv
def Fr{s:Sem Unit}(he:execOp a.eval o=(do s;pure .skip))(hn:Nxt w0 ρ K k o a next)(hr:Il P w0 ρ w (K4 k) K s)(hd:∀c,o.op≠ .defer c:=by assumption):o.wpIn (fR rd) 0 P a w next Q:=by
 obtain⟨a9,w',h1,h2,h3,h4⟩:=hr;refine⟨λ_ _=>trivial, ?_⟩;show o.uponIn (fR rd) 0 P a next Q ((o.semAt rd a.eval).run P w)
 rw[Oper.semAt_eq _ _ _ hd,he];simp only [aab,h4,aae,aad,Oper.uponIn_skip];exact hn _ _ a9 ρ w' h1 h2 h3 (Rho.le.refl ρ) (.tup [] #[] rfl (by simp))
def LV{en rn:cQ}(hen:AE P w0 en)(hrn:Rg P w0 rn)(hS:SI σ)(hG:Good w0 ρ σ.h w)(hE:ER ρ nt env a.tmps)(h:run (Q2 P en rn env o.op k) σ K=true)(hn:Nxt w0 ρ K k o a next):o.wpIn (fR rd) 0 P a w next Q:=by
 have ev:∀{σ:St} {x:Operand} {f:AV->Tr},SI σ->Good w0 ρ σ.h w->run (fF env x f) σ K=true->∃av a9,SI a9/\Good w0 ρ a9.h w/\run (f av) a9 K=true/\VR ρ av (a.eval x):=by intro σ x f hS hG h;obtain⟨av,a9,e,h1,h2,h3⟩:=uP hS hG hE h;exact⟨av,a9,h1,by rw[e];exact hG,h2,h3⟩
 have hd:∀c,o.op≠ .defer c:=λc hc=>by rw[hc] at h;exact ah h
 cases ho:o.op with
 |move x=>rw[ho] at h;obtain⟨av,b7,b6,b9,h,hv⟩:=ev hS hG h;exact jy (by simp only [execOp,ho];rfl) hn h b6 b9 hv
 |assign x=>rw[ho] at h;obtain⟨av,b7,b6,b9,h,hv⟩:=ev hS hG h;exact jy (by simp only [execOp,ho];rfl) hn h b6 b9 hv
 |pick c x y=>
  rw[ho] at h;obtain⟨av,b7,b6,b9,h,hv⟩:=ev hS hG h;obtain⟨b,hc,h⟩:=Q4 hv h;rcases bU h with⟨e,h⟩|⟨e,h⟩
  ·subst e;obtain⟨av,i3,i9,l8,h,hv⟩:=ev b6 b9 h;exact jy (v:=a.eval x) (by simp only [execOp,ho,hc];rfl) hn h i9 l8 hv
  ·subst e;obtain⟨av,i3,i9,l8,h,hv⟩:=ev b6 b9 h;exact jy (v:=a.eval y) (by simp only [execOp,ho,hc];rfl) hn h i9 l8 hv
 |alloc t=>rw[ho] at h;exact ci (by simp only [execOp,ho]) hn (Lh hS hG h)
 |box t x=>rw[ho] at h;obtain⟨av,b7,b6,b9,h,hv⟩:=ev hS hG h;exact ci (by simp only [execOp,ho]) hn (Wi (t:=t) b6 b9 hv h)
 |build t ps=>
  rw[ho] at h;obtain⟨av,b7,e,b6,h,h1,h2⟩:=rM hS hG hE h;have b9:Good w0 ρ b7.h w:=by rw[e];exact hG
  exact ci (s:=Instr.build t (ps.map λx=>(x.1,a.eval x.2))) (by simp only [execOp,ho]) hn (Lp b6 b9 (by rw[h1];simp [Function.comp_def]) (by simpa [Function.comp_def] using h2) h)
 |buildSlice t n ps=>
  rw[ho] at h;obtain⟨av,b7,e,b6,h,h1,h2⟩:=rM hS hG hE h;have b9:Good w0 ρ b7.h w:=by rw[e];exact hG
  obtain⟨av2,i3,ρ2,h,i9,l8,j0,h2,e2⟩:=Al b6 b9 h2 h;exact ci (s:=Instr.buildSlice t n (ps.map λx=>(x.1,a.eval x.2))) (by simp only [execOp,ho]) (hn.mono j0) (un i9 l8 (by rw[e2,h1];simp [Function.comp_def]) (by simpa [Function.comp_def] using h2) h)
 |load t x=>rw[ho] at h;obtain⟨av,b7,b6,b9,h,hv⟩:=ev hS hG h;obtain⟨ap,i3,h,i9,e2,hp⟩:=Fi b6 b9 hv h;exact ci (by simp only [execOp,ho]) hn (Q8 i9 (by rw[e2];exact b9) hp h)
 |store t x y=>rw[ho] at h;obtain⟨av,b7,b6,b9,h,hv⟩:=ev hS hG h;obtain⟨au,i3,i9,l8,h,hu⟩:=ev b6 b9 h;obtain⟨ap,σ3,h,hS3,e3,hp⟩:=Fi i9 l8 hv h;obtain⟨au2,σ4,ρ4,h,hS4,hG4,an9,hu⟩:=Lq hS3 (by rw[e3];exact l8) hu h;exact Fr (by simp only [execOp,ho]) (hn.mono an9) (Ln hS4 hG4 (hp.mono an9) hu h)
 |nilCheck x=>rw[ho] at h;obtain⟨av,b7,b6,b9,h,hv⟩:=ev hS hG h;obtain⟨h,hc⟩:=xw hv h;refine jy (v:=a.eval x) ?_ hn h b6 b9 hv;rcases hc with⟨p,e⟩|⟨f,l,m,e⟩|⟨f,l,m,e⟩ <;> (simp only [execOp,ho,e];rfl)
 |binOp op t x y z=>rw[ho] at h;obtain⟨av,b7,b6,b9,h,hv⟩:=ev hS hG h;obtain⟨au,i3,i9,l8,h,hu⟩:=ev b6 b9 h;exact ci (by simp only [execOp,ho]) hn (Lc (ox:=x) (oy:=y) i9 l8 hv hu h)
 |unOp op t x=>rw[ho] at h;obtain⟨av,b7,b6,b9,h,hv⟩:=ev hS hG h;exact ci (by simp only [execOp,ho]) hn (Q7 b6 b9 hv h)
 |convert s d x=>rw[ho] at h;obtain⟨av,b7,b6,b9,h,hv⟩:=ev hS hG h;obtain⟨au,i3,h,i9,e2,hu⟩:=nB b6 b9 hv h;exact ci (by simp only [execOp,ho]) hn (Lz i9 (by rw[e2];exact b9) hu h)
 |makeFunc fn first cap=>
  rw[ho] at h;obtain⟨hf,h⟩:=ay h;obtain⟨l1,b7,e,b6,h,hl1⟩:=xl hS hG hE h;have b9:Good w0 ρ b7.h w:=by rw[e];exact hG
  obtain⟨l2,i3,e2,i9,h,hl2⟩:=xl b6 b9 hE h;have l8:Good w0 ρ i3.h w:=by rw[e2];exact b9
  have q1:LR ρ l1 (first.map a.eval).toList:=by simpa using hl1
  have q2:LR ρ l2 (cap.map a.eval).toList:=by simpa using hl2
  exact jy (v:=.func fn (first.map a.eval) (cap.map a.eval)) (by simp only [execOp,ho];rfl) hn h i9 l8 (.func fn l1 l2 _ _ q1.arr.1 q2.arr.1 q1.arr.2 q2.arr.2 hf)
 |makeMap t r=>
  rw[ho] at h
  cases r with
  |none=>exact ci (s:=Instr.makeMap t none) (by simp only [execOp,ho];rfl) hn (r_ (λv hv=>by cases hv) hS hG h)
  |some x=>
   obtain⟨d,hu,h⟩:=cB h
   cases d with
   |map kt e=>obtain⟨av,b7,b6,b9,h,hv⟩:=ev hS hG h;obtain⟨j,n,rfl,h⟩:=xk h;generalize hc:a.eval x=cv at hv;cases hv;exact ci (s:=Instr.makeMap t (some (a.eval x))) (by simp only [execOp,ho];rfl) hn (r_ (λv hv=>by injection hv with hv;exact⟨⟨kt,e,hu⟩,j,n,by rw[←hv,hc]⟩) b6 b9 h)
   |_=>exact(ah h).elim
 |slice t x lo hi mx=>
  rw[ho] at h;obtain⟨av,b7,b6,b9,h,hv⟩:=ev hS hG h;obtain⟨o1,i3,e2,i9,h,h1⟩:=C7 b6 b9 hE h;have l8:Good w0 ρ i3.h w:=by rw[e2];exact b9
  obtain⟨o2,σ3,e3,hS3,h,h2⟩:=C7 i9 l8 hE h;have hG3:Good w0 ρ σ3.h w:=by rw[e3];exact l8
  obtain⟨o3,σ4,e4,hS4,h,h3⟩:=C7 hS3 hG3 hE h;have hG4:Good w0 ρ σ4.h w:=by rw[e4];exact hG3
  obtain⟨au,σ5,h,hS5,e5,hu⟩:=nB hS4 hG4 hv h;exact ci (by simp only [execOp,ho]) hn (Ix hS5 (by rw[e5];exact hG4) hu h1 h2 h3 h)
 |fieldAddr t x f=>rw[ho] at h;obtain⟨av,b7,b6,b9,h,hv⟩:=ev hS hG h;exact ci (by simp only [execOp,ho]) hn (xr b6 b9 hv h)
 |indexAddr t x i=>rw[ho] at h;obtain⟨av,b7,b6,b9,h,hv⟩:=ev hS hG h;obtain⟨au,i3,i9,l8,h,hu⟩:=ev b6 b9 h;obtain⟨at_,σ3,h,hS3,e3,ht⟩:=nB i9 l8 hv h;exact ci (by simp only [execOp,ho]) hn (xt hS3 (by rw[e3];exact l8) ht hu h)
 |index t x i=>rw[ho] at h;obtain⟨av,b7,b6,b9,h,hv⟩:=ev hS hG h;obtain⟨au,i3,i9,l8,h,hu⟩:=ev b6 b9 h;exact ci (by simp only [execOp,ho]) hn (Lv i9 l8 hv hu h)
 |range t x=>rw[ho] at h;obtain⟨av,b7,b6,b9,h,hv⟩:=ev hS hG h;exact ci (by simp only [execOp,ho]) hn (IL b6 b9 hv h)
 |next it s=>rw[ho] at h;obtain⟨av,b7,b6,b9,h,hv⟩:=ev hS hG h;exact ci (by simp only [execOp,ho]) hn (LP (ty:=o.type) b6 b9 hv h)
 |lookup t x i ok=>rw[ho] at h;obtain⟨av,b7,b6,b9,h,hv⟩:=ev hS hG h;obtain⟨au,i3,i9,l8,h,hu⟩:=ev b6 b9 h;exact ci (by simp only [execOp,ho]) hn (Dk i9 l8 hv hu h)
 |mapUpdate t m i v=>rw[ho] at h;obtain⟨av,b7,b6,b9,h,hv⟩:=ev hS hG h;obtain⟨au,i3,i9,l8,h,hu⟩:=ev b6 b9 h;obtain⟨aw,σ3,hS3,hG3,h,hw⟩:=ev i9 l8 h;exact Fr (by simp only [execOp,ho]) hn (uo hS3 hG3 hv hu hw h)
 |extract t i=>rw[ho] at h;obtain⟨av,b7,b6,b9,h,hv⟩:=ev hS hG h;exact ci (by simp only [execOp,ho]) hn (Dd b6 b9 hv h)
 |call c=>
  rw[ho] at h
  have m6:c.args.map a.eval=(c.args.toList.map a.eval).toArray:=by apply Array.ext';simp
  have h:run (match c.callee with
   | .builtin b=>nk env c.args.toList λl=>oX l λl=>nr P b c.argTypes l k
   | .value f=>fF env f λf=>nk env c.args.toList λl=>Fa P en rn f l k
   | .invoke _ _=>.fail) σ K=true:=h
  cases hc:c.callee with
  |builtin b=>
   rw[hc] at h
   obtain⟨l0,σ0,e0,hS0,h,hl0⟩:=xl hS hG hE h
   have hG0:Good w0 ρ σ0.h w:=by rw[e0];exact hG
   obtain⟨l,b7,h,b6,e,hl⟩:=uW hS0 hG0 hl0 h
   have b9:Good w0 ρ b7.h w:=by rw[e];exact hG0
   cases b with
   |append=>exact ci (s:=Builtin.append_ c.argTypes o.type (c.args.toList.map a.eval).toArray) (by simp only [execOp,ho,resolve,hc,m6,invoke,builtin];rfl) hn (Dj b6 b9 hl h)
   |len=>exact ci (s:=Builtin.len_ c.argTypes o.type (c.args.toList.map a.eval).toArray) (by simp only [execOp,ho,resolve,hc,m6,invoke,builtin];rfl) hn (IE b6 b9 hl h)
   |copy=>exact ci (s:=Builtin.copy_ c.argTypes o.type (c.args.toList.map a.eval).toArray) (by simp only [execOp,ho,resolve,hc,m6,invoke,builtin];rfl) hn (LT b6 b9 hl h)
   |max=>exact ci (s:=Builtin.max_ c.argTypes o.type (c.args.toList.map a.eval).toArray) (by simp only [execOp,ho,resolve,hc,m6,invoke,builtin];rfl) hn (Wn b6 b9 hl h)
   |_=>exact(ah h).elim
  |value f=>
   rw[hc] at h
   obtain⟨av,b7,b6,b9,h,hv⟩:=ev hS hG h
   obtain⟨l,i3,e,i9,h,hl⟩:=xl b6 b9 hE h
   have l8:Good w0 ρ i3.h w:=by rw[e];exact b9
   generalize hfv:a.eval f=fv at hv
   cases hv with
   |func fn l1 m1 first captured h1 h2 r1 r2 hf=>
    cases fn with
    |func i=>
     have q1:LR ρ l1 first.toList:=LR.of_arr h1 r1
     have q2:LR ρ m1 captured.toList:=LR.of_arr h2 r2;have ea:(first++(c.args.toList.map a.eval).toArray++captured)=(first.toList++c.args.toList.map a.eval++captured.toList).toArray:=by apply Array.ext';simp
     have he0:(execOp a.eval o).run P w=(callFunc i (first++(c.args.toList.map a.eval).toArray++captured)).run P w:=by simp only [execOp,ho,resolve,hc,hfv,Deferred.ofValue,m6,aab,aad,aae,invoke]
     have h:run (ac (E_ P i) (Q1 P i (l1++l++m1) k) (en i (l1++l++m1) k)) i3 K=true:=h;rcases bU h with⟨m8,h⟩|⟨_,h⟩
     ·obtain⟨av,v,q3,q4,q5⟩:=Rf (w:=w) m8 ((q1.append hl).append q2) h;refine jy ?_ hn q3 i9 l8 q4;rw[he0,ea];exact q5
     obtain⟨hcf,hci⟩:=hen i (l1++l++m1) _ k i3 K ρ w (λe w'=>match e with
      | .returned v=>next (a.put o.dst v) w'
      | .panicked chain=>Q (.panic chain) a w'
      | .outgrown=>LetsOut Q) i9 l8 ((q1.append hl).append q2) h (λav v a9 ρ' w' g1 g2 g3 g4 g5=>hn av v a9 ρ' w' g1 g2 g3 g4 g5)
     refine⟨λ_ _=>trivial, ?_⟩;show o.uponIn (fR rd) 0 P a next Q ((o.semAt rd a.eval).run P w)
     have he:(execOp a.eval o).run P w= .ok (.enter i (first++(c.args.toList.map a.eval).toArray++captured)) w:=by rw[he0];exact hcf _
     rw[Oper.semAt_eq _ _ _ hd,he,Oper.uponIn_enter];refine⟨λh=>absurd h (by simp [fR,Fence.wide]), ?_⟩;rw[ea];exact hci.mono λe w' hr=>by cases e <;> exact hr
    |yield _=>exact absurd (show false=true from hf) (by decide)
    |_=>exact(ah h).elim
   |yld b hb hh=>
    have h:run (rn b l k) i3 K=true:=h;obtain⟨hb',j9,f,tmps,as,bd,q1,q2⟩:=hrn b l _ k i3 K ρ w (λe w'=>match e with
     | .returned v=>next (a.put o.dst v) w'
     | .panicked chain=>Q (.panic chain) a w'
     | .outgrown=>LetsOut Q) i9 l8 hl h (λav v a9 ρ' w' g1 g2 g3 g4 g5=>hn av v a9 ρ' w' g1 g2 g3 g4 g5)
    rw[hh] at j9;injection j9 with j9;subst j9;refine⟨λ_ _=>trivial, ?_⟩;show o.uponIn (fR rd) 0 P a next Q ((o.semAt rd a.eval).run P w)
    have he:(execOp a.eval o).run P w= .ok (.round hb.blk f tmps as bd) w:=by
     have:(execOp a.eval o).run P w=(Instr.yield hb.blk (#[]++(c.args.toList.map a.eval).toArray)).run P w:=by simp only [execOp,ho,resolve,hc,hfv,Deferred.ofValue,m6,aab,aad,aae,invoke]
     rw[this,Array.empty_append];exact q1
    rw[Oper.semAt_eq _ _ _ hd,he,Oper.uponIn_round];refine⟨λh=>absurd h (by simp [fR,Fence.wide]), ?_⟩;exact RoundIn.mono (show RoundIn (fR rd) (0-1) P hb.blk f tmps as bd w _ from q2) λe w' hr=>by cases e <;> exact hr
   |_=>exact(ah h).elim
  |invoke r m=>rw[hc] at h;exact(ah h).elim
 |_=>rw[ho] at h;exact(ah h).elim
end
end Go.Sym
namespace Go.Sym
open Go.RowKit (Below)
section
variable{P:Program}{w0:World}{ρ:Rho}{w:World}{σ:St}{K:Fin}{nt:Nat}{env:T AV}{a:Act}
def Zx{dst:Option Nat}{av:AV}{v:Value}{k:T AV->Tr}(hv:VR ρ av v)(hE:ER ρ nt env a.tmps)(h:run (zX nt dst av env k) σ K=true):
 ∃env',run (k env') σ K=true/\ER ρ nt env' (a.put dst v).tmps/\(a.put dst v).defers=a.defers:=by
 cases dst with
 |none=>exact⟨env,h,hE,rfl⟩
 |some d=>
  obtain⟨hd,h⟩:=ay h
  have hd:=bY hd
  rw[T.setK_eq] at h
  refine⟨_,h,⟨?_,λt b hb=>?_⟩,rfl⟩
  ·show(a.tmps.setIfInBounds d v).size=nt;rw[abM];exact hE.size
  ·show ∃u,(a.tmps.setIfInBounds d v)[t]? =some u/\VR ρ b u;by_cases e:t=d
   ·subst e;have:=T.get_set_some _ _ hb;subst this;refine⟨v, ?_,hv⟩;rw[aaG,if_pos rfl,if_pos (by rw[hE.size];omega)]
   ·rw[T.get_set_ne _ e] at hb;obtain⟨u,hu,hr⟩:=hE.val t b hb;exact⟨u,by rw[aaG,if_neg (λe'=>e e'.symm)];exact hu,hr⟩
def LW{ops:Array Oper}{o:Oper}{yes no:Tr}(hE:ER ρ nt env a.tmps)(h:run (kJ ops env o yes no) σ K=true):
 (Region.wanted o (yielded ops a.tmps)=true/\run yes σ K=true)∨(Region.wanted o (yielded ops a.tmps)=false/\run no σ K=true):=by
 unfold kJ at h
 unfold Region.wanted
 split at h
 ·rename_i hg;rw[hg];exact .inl ⟨rfl,h⟩
 ·rename_i j want hg;rw[hg];split at h
  ·rename_i oj hj;split at h
   ·rename_i d hd
    obtain⟨v,hv,h⟩:=ul h
    obtain⟨u,hu,hr⟩:=hE.val _ _ hv
    have hy:∀b,u= .bool b->yielded ops a.tmps j=some b:=λb e=>by subst e;simp [yielded,hj,hd,hu]
    have hn:(∀b,u≠ .bool b)->yielded ops a.tmps j=none:=λhn=>by simp only [yielded,hj,hd,hu,Option.bind_some];cases u <;> first|rfl|exact absurd rfl (hn _)
    cases hr with
    |bool b=>
     rcases bU h with⟨e,h⟩|⟨e,h⟩
     ·refine .inl ⟨?_,h⟩;have:b=want:=by simpa using e
      subst this;simp [hy b rfl]
     ·refine .inr ⟨?_,h⟩;have:¬b=want:=by simpa using e
      simp [hy b rfl,this]
    |tup l cs h1 h2=>exact .inr ⟨by simp [hn (λb e=>by cases e)],h⟩
    |sB p b hb=>
     cases want with
     |true=>
      rcases cX h with⟨hp,h⟩|⟨hp,h⟩
      ·exact .inl ⟨by simp [hy b rfl,hb.2 hp],h⟩
      ·exact .inr ⟨by simp [hy b rfl];cases b with|true=>exact absurd (hb.1 rfl) hp|false=>rfl,h⟩
     |false=>
      rcases cX h with⟨hp,h⟩|⟨hp,h⟩
      ·exact .inr ⟨by simp [hy b rfl,hb.2 hp],h⟩
      ·exact .inl ⟨by simp [hy b rfl];cases b with|true=>exact absurd (hb.1 rfl) hp|false=>rfl,h⟩
    |_=>exact(ah h).elim
   ·exact(ah h).elim
  ·exact(ah h).elim
def ER.known{p:Prop}{b:Bool}{d:Nat}(hE:ER ρ nt env a.tmps)(hd:env.get d=some (.sB p))(hu:a.tmps[d]? =some (.bool b)):ER ρ nt (env.set d (.bool b)) a.tmps:=by
 refine⟨hE.size,λt x hx=>?_⟩;by_cases e:t=d
 ·subst e;have:=T.get_set_some _ _ hx;subst this;exact⟨_,hu,.bool b⟩
 ·rw[T.get_set_ne _ e] at hx;exact hE.val t x hx
def Rh{ops:Array Oper}{o:Oper}{yes no:T AV->Tr}(hE:ER ρ nt env a.tmps)(h:run (qM ops env o yes no) σ K=true):
 ∃env',ER ρ nt env' a.tmps/\((Region.wanted o (yielded ops a.tmps)=true/\run (yes env') σ K=true)∨(Region.wanted o (yielded ops a.tmps)=false/\run (no env') σ K=true)):=by
 unfold qM at h
 unfold Region.wanted
 split at h
 ·rename_i hg;rw[hg];exact⟨env,hE,.inl ⟨rfl,h⟩⟩
 ·rename_i j want hg;rw[hg];split at h
  ·rename_i oj hj;split at h
   ·rename_i d hd
    obtain⟨v,hv,h⟩:=ul h
    obtain⟨u,hu,hr⟩:=hE.val _ _ hv
    have hy:∀b,u= .bool b->yielded ops a.tmps j=some b:=λb e=>by subst e;simp [yielded,hj,hd,hu]
    have hn:(∀b,u≠ .bool b)->yielded ops a.tmps j=none:=λhn=>by simp only [yielded,hj,hd,hu,Option.bind_some];cases u <;> first|rfl|exact absurd rfl (hn _)
    cases hr with
    |bool b=>
     refine⟨env,hE, ?_⟩;rcases bU h with⟨e,h⟩|⟨e,h⟩
     ·refine .inl ⟨?_,h⟩;have:b=want:=by simpa using e
      subst this;simp [hy b rfl]
     ·refine .inr ⟨?_,h⟩;have:¬b=want:=by simpa using e
      simp [hy b rfl,this]
    |tup l cs h1 h2=>exact⟨env,hE,.inr ⟨by simp [hn (λb e=>by cases e)],h⟩⟩
    |sB p b hb=>
     rcases cX h with⟨hp,h⟩|⟨hp,h⟩
     ·have V':b=true:=hb.2 hp
      subst V'
      rw[T.setK_eq] at h
      refine⟨_,hE.known hv hu, ?_⟩
      cases want with
      |true=>exact .inl ⟨by simp [hy true rfl],h⟩
      |false=>exact .inr ⟨by simp [hy true rfl],h⟩
     ·have hbf:b=false:=by cases b with|true=>exact absurd (hb.1 rfl) hp|false=>rfl
      subst hbf
      rw[T.setK_eq] at h
      refine⟨_,hE.known hv hu, ?_⟩
      cases want with
      |true=>exact .inr ⟨by simp [hy false rfl],h⟩
      |false=>exact .inl ⟨by simp [hy false rfl],h⟩
    |_=>exact(ah h).elim
   ·exact(ah h).elim
  ·exact(ah h).elim
def Ri{rd:Option Nat}{ops:Array Oper}{en rn:cQ}(hen:AE P w0 en)(hrn:Rg P w0 rn){k:T AV->Tr}{Q:Exit->Act->World->Prop}(ρ0:Rho)(ds:List Deferred)(hk:∀env' a9 ρ' a' w',run (k env') a9 K=true->SI a9->Good w0 ρ' a9.h w'->ρ0.le ρ'->ER ρ' nt env' a'.tmps->a'.defers=ds->Q .normal a' w'):
 ∀(l:List Oper) (env:T AV) (σ:St) (ρ:Rho) (a:Act) (w:World),run (Q3 P en rn nt ops l env k) σ K=true->SI σ->Good w0 ρ σ.h w->ρ0.le ρ->ER ρ nt env a.tmps->a.defers=ds->wpListIn (fR rd) 0 P ops Q l a w:=by
 intro l
 induction l with
 |nil=>intro env σ ρ a w h hS hG hle hE hd;exact hk _ _ _ _ _ h hS hG hle hE hd
 |cons o l ih=>
  intro env σ ρ a w h hS hG hle hE hd
  have h:run (qM ops env o (λenv=>Q2 P en rn env o.op λv=>zX nt o.dst v env λenv=>Q3 P en rn nt ops l env k) (λenv=>zX nt o.dst (.tup []) env λenv=>Q3 P en rn nt ops l env k)) σ K=true:=h
  obtain⟨at9,hE0,h⟩:=Rh hE h
  clear hE
  have hE:=hE0
  rcases h with⟨hw,h⟩|⟨hw,h⟩
  ·simp only [wpListIn,hw,if_true];refine LV hen hrn hS hG hE h λav v a9 ρ' w' h1 h2 h3 h4 h5=>?_;obtain⟨env',h6,h7,h8⟩:=Zx h5 (hE.mono h4) h1;exact ih env' a9 ρ' _ w' h6 h2 h3 (hle.trans h4) h7 (h8.trans hd)
  ·simp only [wpListIn,hw,Bool.false_eq_true,if_false];obtain⟨env',h6,h7,h8⟩:=Zx (v:=undef) (.tup [] #[] rfl (by simp)) hE h;exact⟨λ_ _=>trivial,ih env' σ ρ _ w h6 hS hG hle h7 (h8.trans hd)⟩
def DR(ρ:Rho):List Nat->List Deferred->Prop
 | [],[]=>True
 |b::df,d::ds=>(∃h,ρ.at_ b 0=some h/\d.target= .collected h.blk)/\DR ρ df ds
 |_,_=>False
def DR.mono{ρ ρ':Rho}(hle:ρ.le ρ'):∀{df:List Nat} {ds:List Deferred},DR ρ df ds->DR ρ' df ds
 | [],[],_=>trivial
 |_::_,_::_,⟨⟨h,h1,h2⟩,h3⟩=>⟨⟨h,hle.at_ _ _ _ h1,h2⟩,DR.mono hle h3⟩
 | [],_::_,h=>h.elim
 |_::_,[],h=>h.elim
def h_{r:Nat}{o o':Obj}(h:w.heap[r]? =some o)(ho:∀c t f,o≠ .cells c t f):(setObj r o').run P w= .ok () {w with heap:=w.heap.setIfInBounds r o'}:=by cases o <;> first|(exact absurd rfl (ho _ _ _))|(simp [setObj,Sem.run,h])
def Good.setObj{H:T ABlk}{b:Nat}{x0 x:ABlk}{h:Home}{o o':Obj}(hG:Good w0 ρ H w)(hb:H.get b=some x0)(f9:b+1<2 ^ 64)(hh:ρ.at_ b 0=some h)(hB:Own ρ w0.heap.size h.blk)(hw:w.heap[h.blk]? =some o)(hx:BR ρ w0.heap.size {w with heap:=w.heap.setIfInBounds h.blk o'} b x)(hgx:∀g,Kw g x:=by intro g;trivial)(hnf:¬zK x0)(hxo:∀k I l,x≠ .obj k I l:=by intro _ _ _ h;cases h):Good w0 ρ (H.set b x) {w with heap:=w.heap.setIfInBounds h.blk o'}:=by
 refine hG.turn (hnf:=hnf) (hxo:=hxo) (hrs:=⟨b,0,h,hh,rfl⟩) hb f9 h.blk hB ⟨rfl,rfl,rfl,by simp,λk hk ho=>?_⟩ (by simp) (λk hk _=>?_) (λb' g h' j9 e=>(hG.inj _ _ _ _ _ _ j9 hh e).1) hx (λg _=>hgx g)
 ·show(w.heap.setIfInBounds h.blk o')[k]? =_;rw[aaG,if_neg (λe=>by rcases hB with hB|hB;omega;exact ho (e▸hB))]
 ·show(w.heap.setIfInBounds h.blk o')[k]? =_;rw[aaG,if_neg (λe=>hk e.symm)]
def nD{r:Nat}{o o':Obj}(h:w.heap[r]? =some o):(w.heap.setIfInBounds r o')[r]? =some o':=by
 have:r<w.heap.size:=by
  rcases aaf r w.heap.size with h'|h'
  ·exact h'
  ·rw[aaT h'] at h;cases h
 rw[aaG,if_pos rfl,if_pos this]
def Wo{fn:Func}{tmps:Array Value}{R:Ending->World->Prop}{k:Tr}(hk:∀a9 w',run k a9 K=true->SI a9->Good w0 ρ a9.h w'->LeavesInM Fence.wide 0 P fn tmps R [] .returning w'):
 ∀(df:List Nat) (ds:List Deferred) (σ:St) (w:World),run (xi df k) σ K=true->SI σ->Good w0 ρ σ.h w->DR ρ df ds->LeavesInM Fence.wide 0 P fn tmps R ds .returning w:=by
 intro df
 induction df with
 |nil=>
  intro ds σ w h hS hG hd
  cases ds with
  |nil=>exact hk _ _ h hS hG
  |cons _ _=>exact hd.elim
 |cons b df ih=>
  intro ds σ w h hS hG hd
  cases ds with
  |nil=>exact hd.elim
  |cons d ds=>
   obtain⟨⟨hm,hh,ht⟩,hd⟩:=hd
   have h:run (.rd b λq=>(match q with | .dfr true=>.wr b (.dfr false) (xi df k)|_=>.fail)) σ K=true:=h
   obtain⟨q,b7,hq,e1,b6,h⟩:=bG hS h
   cases q with
   |dfr live=>
    cases live with
    |false=>exact(ah h).elim
    |true=>
     obtain⟨hm',j9,hB,j5⟩:=hG.blk _ _ hq
     rw[hh] at j9;injection j9 with j9;subst j9
     have j5:w.heap[hm.blk]? =some (.deferred (some [])):=j5
     obtain⟨x0,i3,hx0,e2,i9,f9,h⟩:=ft b6 h
     have b9:Good w0 ρ b7.h w:=by rw[e1];exact hG
     have l8:=b9.setObj (hnf:=nf e1 hq hx0 (λh=>h)) (x:=.dfr false) (o':=.deferred none) hx0 f9 hh hB j5 ⟨hm,hh,hB,nD j5⟩
     refine⟨by simp,.inl ⟨hm.blk,_,ht, ?_,ih ds i3 _ h i9 (by rw[e2];exact l8) hd⟩⟩
     simp only [Instr.takeDeferred,aab,bx j5 (by simp),aae,h_ j5 (by simp),aad]
   |_=>exact(ah h).elim
def IQ(tmps:Array Value):ResultVar->Sem Value
 | .tmp t=>pure (tmps.getD t undef)
 | .cell a t=>do loadVar t (←asAddr (tmps.getD a undef))
def Dl(fn:Func)(tmps:Array Value):results fn tmps=(do
 let vs ←fn.results.mapM (IQ tmps)
 pure (if h:vs.size=1 then vs[0] else .tuple vs)):=by
 unfold results
 congr 1
def Fs{tmps:Array Value}{t:Nat}{v:Value}(h:tmps[t]? =some v):tmps.getD t undef=v:=by rw[aaU,h];rfl
def resT{tmps:Array Value}(hE:ER ρ nt env tmps):∀(l:List ResultVar) (σ:St) (k:List AV->Tr),run (K6 P env l k) σ K=true->SI σ->Good w0 ρ σ.h w->
 ∃avs vs a9,run (k avs) a9 K=true/\SI a9/\Good w0 ρ a9.h w/\LR ρ avs vs/\(l.mapM (IQ tmps)).run P w= .ok vs w:=by
 intro l
 induction l with
 |nil=>intro σ k h hS hG;exact⟨[],[],σ,h,hS,hG,LR.nil ρ,by simp⟩
 |cons r l ih=>
  intro σ k h hS hG
  cases r with
  |tmp t=>
   have h:run (T.getK env t .fail λv=>K6 P env l λl=>k (v::l)) σ K=true:=h
   obtain⟨av,hv,h⟩:=ul h
   obtain⟨v,hu,hr⟩:=hE.val _ _ hv
   obtain⟨avs,vs,a9,h1,h2,h3,h5,h6⟩:=ih σ _ h hS hG
   refine⟨av::avs,v::vs,a9,h1,h2,h3,LR.cons hr h5, ?_⟩
   simp [List.mapM_cons,IQ,Fs hu,h6]
  |cell c t=>
   have h:run (T.getK env c .fail λp=>zN P t p λv=>K6 P env l λl=>k (v::l)) σ K=true:=h
   obtain⟨ap,hap,h⟩:=ul h
   obtain⟨p,hp,hr⟩:=hE.val _ _ hap
   obtain⟨av,b7,v,hb,b6,b9,hv,c9⟩:=Ah (P:=P) hS hG hr h
   obtain⟨avs,vs,a9,h1,h2,h3,h5,h6⟩:=ih b7 _ hb b6 b9
   refine⟨av::avs,v::vs,a9,h1,h2,h3,LR.cons hv h5, ?_⟩
   have an_:(do loadVar t (←asAddr p):Sem Value).run P w= .ok v w:=by
    cases hr with
    |ptr b g o hm hh ho=>simp only [Instr.loadAt,Instr.sureAddr,aab,aad,aae] at c9;simp only [asAddr,aab,aad,aae];exact c9
    |gptr b2 g2 i2 o2 es2 hm2 hh2 hs2=>simp only [Instr.loadAt,Instr.sureAddr,aab,aad,aae] at c9;simp only [asAddr,aab,aad,aae];exact c9
    |aptr b2 g2 o2 n2 i2 hm2 hh2 ho2 hi0 hi1=>simp only [Instr.loadAt,Instr.sureAddr,aab,aad,aae] at c9;simp only [asAddr,aab,aad,aae];exact c9
    |cptr l2 blk off arr ty2 hf hb r2=>simp only [Instr.loadAt,Instr.sureAddr,aab,aad,aae] at c9;simp only [asAddr,aab,aad,aae];exact c9
    |_=>exact(ah h).elim
   have:(IQ tmps (.cell c t)).run P w= .ok v w:=by simp only [IQ,Fs hp];exact an_
   simp [List.mapM_cons,this,h6]
def IR:List Value->Value
 | [v]=>v
 |l=>.tuple l.toArray
def AF{fn:Func}{tmps:Array Value}{vs:List Value}{w':World}(h:(fn.results.toList.mapM (IQ tmps)).run P w= .ok vs w'):(results fn tmps).run P w= .ok (IR vs) w':=by
 rw[Dl,aab,Array.mapM_eq_mapM_toList,Sem.run_map,h]
 cases vs with
 |nil=>simp [IR]
 |cons v vs=>
  cases vs with
  |nil=>simp [IR]
  |cons u vs=>simp [IR]
end
end Go.Sym
