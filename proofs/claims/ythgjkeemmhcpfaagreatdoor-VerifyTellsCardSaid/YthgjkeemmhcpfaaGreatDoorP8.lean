/- Part 8. -/
import Derived.OrdersIn
import Derived.Test.YthgjkeemmhcpfaaGreatDoorP7
set_option linter.all false
namespace Go.Sym
open Go.RowKit (Below)
section
variable{env env':T AV}
def aE{x:Operand}{k k':AV->Tr}(h:∀t,x= .tmp t->env.get t=env'.get t)(hk:∀a,k a=k' a):fF env x k=fF env' x k':=by
 have e:k=k':=funext hk
 subst e
 cases x with
 |tmp t=>show T.getK env t .fail k=T.getK env' t .fail k;rw[T.getK_eq,T.getK_eq,h t rfl]
 |_=>rfl
def jz:∀{l:List Operand} {k k':List AV->Tr},(∀x∈l,∀t,x= .tmp t->env.get t=env'.get t)->(∀a,k a=k' a)->nk env l k=nk env' l k':=by
 intro l
 induction l with
 |nil=>intro k k' _ hk;exact hk []
 |cons x l ih=>intro k k' h hk;exact aE (h x (by simp)) λa=>ih (λy hy=>h y (by simp [hy])) λl=>hk (a::l)
def mB{o:Option Operand}{k k':Option AV->Tr}(h:∀x,o=some x->∀t,x= .tmp t->env.get t=env'.get t)(hk:∀a,k a=k' a):Ij env o k=Ij env' o k':=by
 cases o with
 |none=>exact hk none
 |some x=>exact aE (h x rfl) λa=>hk (some a)
def kO:∀{l:List (Nat×Operand)} {k k':List (Nat×AV)->Tr},(∀x∈l,∀t,x.2= .tmp t->env.get t=env'.get t)->(∀a,k a=k' a)->iL env l k=iL env' l k':=by
 intro l
 induction l with
 |nil=>intro k k' _ hk;exact hk []
 |cons x l ih=>intro k k' h hk;exact aE (h x (by simp)) λa=>ih (λy hy=>h y (by simp [hy])) λl=>hk ((x.1,a)::l)
def Dm{P:Program}{t:TypeId}{k k':TypeDesc->Tr}(hk:∀a,k a=k' a):co P t k=co P t k':=by rw[show k=k' from funext hk]
def vg{b:Bool}{x x' y y':Tr}(h:x=x')(h':y=y'):ac b x y=ac b x' y':=by rw[h,h']
def IS{P:Program}{en rn:cQ}{op:Op}{k:AV->Tr}(h:∀t,Operand.tmp t∈op.operands->env.get t=env'.get t):Q2 P en rn env op k=Q2 P en rn env' op k:=by
 have one:∀x,x∈op.operands->∀t,x= .tmp t->env.get t=env'.get t:=λx hx t e=>h t (by subst e;exact hx)
 cases op with
 |move x=>exact aE (one x (by simp [Op.operands])) λ_=>rfl
 |assign x=>exact aE (one x (by simp [Op.operands])) λ_=>rfl
 |pick c a b=>
  exact aE (one c (by simp [Op.operands])) λv=>by
   cases v with
   |bool v=>exact vg (aE (one a (by simp [Op.operands])) λ_=>rfl) (aE (one b (by simp [Op.operands])) λ_=>rfl)
   |sB p=>show Tr.ask p (ac true (fF env a k) (fF env b k)) (ac false (fF env a k) (fF env b k))=Tr.ask p (ac true (fF env' a k) (fF env' b k)) (ac false (fF env' a k) (fF env' b k));rw[aE (one a (by simp [Op.operands])) (λ_=>rfl:∀x,k x=k x),aE (one b (by simp [Op.operands])) (λ_=>rfl:∀x,k x=k x)]
   |_=>rfl
 |box t x=>exact aE (one x (by simp [Op.operands])) λ_=>rfl
 |build t ps=>exact kO (λx hx=>one x.2 (by simp only [Op.operands,List.mem_toArray];exact List.mem_map.2 ⟨x,hx,rfl⟩)) λ_=>rfl
 |buildSlice t n ps=>exact kO (λx hx=>one x.2 (by simp only [Op.operands,List.mem_toArray];exact List.mem_map.2 ⟨x,hx,rfl⟩)) λ_=>rfl
 |load t x=>exact aE (one x (by simp [Op.operands])) λ_=>rfl
 |store t x y=>exact aE (one x (by simp [Op.operands])) λ_=>aE (one y (by simp [Op.operands])) λ_=>rfl
 |nilCheck x=>exact aE (one x (by simp [Op.operands])) λ_=>rfl
 |binOp op t x y z=>exact aE (one x (by simp [Op.operands])) λ_=>aE (one y (by simp [Op.operands])) λ_=>rfl
 |unOp op t x=>exact aE (one x (by simp [Op.operands])) λ_=>rfl
 |convert s d x=>exact aE (one x (by simp [Op.operands])) λ_=>rfl
 |makeFunc fn first cap=>
  exact vg (jz (λx hx=>one x (by simp only [Op.operands,Array.mem_append];exact .inl (by simpa using hx))) λ_=>
   jz (λx hx=>one x (by simp only [Op.operands,Array.mem_append];exact .inr (by simpa using hx))) λ_=>rfl) rfl
 |makeMap t r=>
  cases r with
  |none=>rfl
  |some x=>
   exact Dm λd=>by
    cases d with
    |map _ _=>exact aE (one x (by simp [Op.operands])) λ_=>rfl
    |_=>rfl
 |slice t x lo hi mx=>
  exact aE (one x (by simp [Op.operands])) λ_=>mB (λy hy=>one y (by subst hy;simp [Op.operands])) λ_=>
   mB (λy hy=>one y (by subst hy;simp [Op.operands])) λ_=>mB (λy hy=>one y (by subst hy;simp [Op.operands])) λ_=>rfl
 |fieldAddr t x f=>exact aE (one x (by simp [Op.operands])) λ_=>rfl
 |indexAddr t x i=>exact aE (one x (by simp [Op.operands])) λ_=>aE (one i (by simp [Op.operands])) λ_=>rfl
 |index t x i=>exact aE (one x (by simp [Op.operands])) λ_=>aE (one i (by simp [Op.operands])) λ_=>rfl
 |lookup t x i ok=>exact aE (one x (by simp [Op.operands])) λ_=>aE (one i (by simp [Op.operands])) λ_=>rfl
 |mapUpdate t x y z=>exact aE (one x (by simp [Op.operands])) λ_=>aE (one y (by simp [Op.operands])) λ_=>aE (one z (by simp [Op.operands])) λ_=>rfl
 |range t x=>exact aE (one x (by simp [Op.operands])) λ_=>rfl
 |next x s=>exact aE (one x (by simp [Op.operands])) λ_=>rfl
 |extract x i=>exact aE (one x (by simp [Op.operands])) λ_=>rfl
 |call c=>
  have m6:∀x∈c.args.toList,x∈(Op.call c).operands:=λx hx=>by simp only [Op.operands,Call.operands,Array.mem_append];exact .inr (by simpa using hx)
  show(match c.callee with
   | .builtin b=>nk env c.args.toList λl=>oX l λl=>nr P b c.argTypes l k
   | .value f=>fF env f λf=>nk env c.args.toList λl=>Fa P en rn f l k
   | .invoke _ _=>Tr.fail)=(match c.callee with
   | .builtin b=>nk env' c.args.toList λl=>oX l λl=>nr P b c.argTypes l k
   | .value f=>fF env' f λf=>nk env' c.args.toList λl=>Fa P en rn f l k
   | .invoke _ _=>Tr.fail)
  cases hc:c.callee with
  |builtin b=>exact jz (λx hx=>one x (m6 x hx)) λ_=>rfl
  |value f=>exact aE (one f (by simp [Op.operands,Call.operands,hc])) λ_=>jz (λx hx=>one x (m6 x hx)) λ_=>rfl
  |invoke _ _=>rfl
 |_=>rfl
noncomputable def tk(P:Program)(en rn:cQ)(ops:Array Oper)(env:T AV)(o:Oper):Tr:=kJ ops env o (Q2 P en rn env o.op .ret) (.ret (.tup []))
def LX{P:Program}{en rn:cQ}{ops:Array Oper}{o:Oper}(h:∀t∈looks ops o,env.get t=env'.get t):tk P en rn ops env o=tk P en rn ops env' o:=by
 have h1:Q2 P en rn env o.op .ret=Q2 P en rn env' o.op .ret:=IS λt ht=>h t (by unfold looks;refine abn _ (List.mem_filterMap.2 ⟨.tmp t,by simpa using ht,rfl⟩));unfold tk kJ;rw[h1];split
 ·rfl
 ·rename_i j want hg;split
  ·rename_i oj hj;split
   ·rename_i d hd;rw[T.getK_eq,T.getK_eq,h d];unfold looks;refine abo _ ?_;rw[hg];simp [hj,hd]
   ·rfl
  ·rfl
end
section
variable{X A:Type}
open Classical in
noncomputable def sh(H:Nat->X->A)(W:Nat->X->Prop)(S:Nat->Prop)(x:X):Nat->A
 |0=>H 0 x
 |m+1=>if S m/\W m x then H (m+1) x else sh H W S x m
variable{H:Nat->X->A}{W:Nat->X->Prop}{S S':Nat->Prop}{x:X}{n:Nat}
def xy(same:∀m,m<n->¬W m x->H (m+1) x=H m x):∀m,m<=n->(∀j,j<m->S j)->sh H W S x m=H m x:=by
 intro m
 induction m with
 |zero=>intro _ _;rfl
 |succ m ih=>
  intro hm hS;unfold sh;split
  ·rfl
  ·rename_i h;rw[ih (by omega) (λj hj=>hS j (by omega)),same m (by omega) (λhw=>h ⟨hS m (by omega),hw⟩)]
def vh:∀m,(∀j,j<m->W j x->(S j↔S' j))->sh H W S x m=sh H W S' x m:=by
 intro m
 induction m with
 |zero=>intro _;rfl
 |succ m ih=>
  intro h;unfold sh;rw[ih λj hj=>h j (by omega)];by_cases hw:W m x
  ·by_cases hs:S m
   ·rw[if_pos ⟨hs,hw⟩,if_pos ⟨(h m (by omega) hw).1 hs,hw⟩]
   ·rw[if_neg (λc=>hs c.1),if_neg (λc=>hs ((h m (by omega) hw).2 c.1))]
  ·rw[if_neg (λc=>hw c.2),if_neg (λc=>hw c.2)]
def nE {a : Nat} : ∀ m, a <= m -> (∀ j, a <= j -> j < m -> S j -> ¬ W j x) -> sh H W S x m = sh H W S x a := by
  intro m
  induction m with
  | zero => intro ha _; have : a = 0 := by omega
            subst this; rfl
  | succ m ih =>
    intro ha h
    by_cases e : a = m + 1
    · subst e; rfl
    · conv => lhs; unfold sh
      rw [if_neg (λc => h m (by omega) (by omega) c.1 c.2)]
      exact ih (by omega) λj h1 h2 => h j h1 (by omega)
variable{i:Nat}
def AG(same:∀m,m<n->¬W m x->H (m+1) x=H m x)(hi:i<n)(hS:¬S i)(h1:∀j,j<i->¬S j->¬W j x)(h2:∀j,i<j->j<n->S j->¬W j x):sh H W S x n=H i x:=by
 rw[nE (a:=i) n (by omega) λj a b c=>by
  by_cases e:j=i
  ·subst e;exact absurd c hS
  ·exact h2 j (by omega) b c]
 rw[vh (S':=λ_=>True) i λj hj hw=>⟨λ_=>trivial,λ_=>Classical.byContradiction λhn=>h1 j hj hn hw⟩];exact xy same i (by omega) λ_ _=>trivial
def si(hi:i<n)(C':∀j,S' j↔S j∨j=i)(hw:W i x)(h2:∀j,i<j->j<n->S j->¬W j x):sh H W S' x n=H (i+1) x:=by
 rw[nE (a:=i+1) n (by omega) λj a b c=>by
  rcases(C' j).1 c with c|c
  ·exact h2 j (by omega) b c
  ·omega]
 unfold sh;rw[if_pos ⟨(C' i).2 (.inr rfl),hw⟩]
def AH(C':∀j,S' j↔S j∨j=i)(hw:¬W i x):sh H W S' x n=sh H W S x n:=
 vh n λj hj hwj=>by rw[C' j];exact⟨λc=>c.elim id λe=>by subst e;exact absurd hwj hw,.inl⟩
end
structure Tape' where
 E:Nat->T AV
 H:Nat->T ABlk
 N:Nat->Nat
 V:Nat->AV
 TT:Nat->T Unit
 WW:Nat->List Nat
def Tape'.note(c:Tape')(j:Nat):Note:=.mk (c.N j) (c.N (j+1)) (c.TT j) (c.WW j)
def Tape'.notes(c:Tape')(i:Nat):Nat->List (Nat×Note)
 |0=>[]
 |m+1=>(i+m,c.note (i+m))::c.notes i m
def Tape'.notes_first(c:Tape')(i:Nat)(ns:List (Nat×Note)):∀m,c.notes i (m+1)++ns=c.notes (i+1) m++(i,c.note i)::ns:=by
 intro m
 induction m with
 |zero=>rfl
 |succ m ih=>rw[Tape'.notes,List.cons_append,ih,show i+(m+1)=i+1+m by omega];rfl
def Tape'.mem_notes(c:Tape')(i:Nat):∀m p,p<m->(i+p,c.note (i+p))∈c.notes i m:=by
 intro m
 induction m with
 |zero=>intro p hp;omega
 |succ m ih=>
  intro p hp;by_cases e:p=m
  ·subst e;exact aan
  ·exact aaj _ (ih p (by omega))
def Tape'.notes_congr(c d:Tape')(i:Nat):∀m,(∀j,i<=j->j<i+m->c.note j=d.note j)->c.notes i m=d.notes i m:=by
 intro m
 induction m with
 |zero=>intro _;rfl
 |succ m ih=>intro h;rw[Tape'.notes,Tape'.notes,ih (λj a b=>h j a (by omega)),h (i+m) (by omega) (by omega)]
def Dn(dst:Option Nat)(v:AV)(env:T AV):T AV:=match dst with|none=>env|some d=>env.set d v
structure StepOk(P:Program)(en rn:cQ)(nt:Nat)(ops:Array Oper)(c:Tape')(j:Nat)(o:Oper):Prop where
 loc:LocAt (tk P en rn ops (c.E j) o) (c.H j) (c.N j) (c.N j) .leaf [] (c.V j) (c.H (j+1)) (c.N (j+1)) (c.TT j) (c.WW j)
 env:c.E (j+1)=Dn o.dst (c.V j) (c.E j)
 dst:∀d,o.dst=some d->d<nt
 lo:1<=c.N j
 hi:c.N j<=1000000001
def Tape'.before(c:Tape')(i:Nat)(env:T AV)(h:T ABlk)(n:Nat)(v:AV)(t:T Unit)(w:List Nat):Tape' where
 E j:=if j<=i then env else c.E j
 H j:=if j<=i then h else c.H j
 N j:=if j<=i then n else c.N j
 V j:=if j<=i then v else c.V j
 TT j:=if j<=i then t else c.TT j
 WW j:=if j<=i then w else c.WW j
def StepOk.later{P:Program}{en rn:cQ}{nt:Nat}{ops:Array Oper}{c:Tape'}{j:Nat}{o:Oper}(h:StepOk P en rn nt ops c j o){i:Nat}(hi:i<j)(env:T AV)(hh:T ABlk)(n:Nat)(v:AV)(t:T Unit)(w:List Nat):
 StepOk P en rn nt ops (c.before i env hh n v t w) j o:=by
 obtain⟨h1,h2,h3,h4,h5⟩:=h
 have e1:¬j<=i:=by omega
 have e2:¬j+1<=i:=by omega
 refine⟨?_, ?_,h3, ?_, ?_⟩ <;> simp only [Tape'.before,if_neg e1,if_neg e2] <;> assumption
section
variable{P:Program}{w0:World}{ρ:Rho}{w:World}{σ:St}{K:Fin}{nt:Nat}{env:T AV}{a:Act}
def LY{dst:Option Nat}{v:AV}{k:T AV->Tr}(h:run (zX nt dst v env k) σ K=true):run (k (Dn dst v env)) σ K=true/\∀d,dst=some d->d<nt:=by
 cases dst with
 |none=>exact⟨h,λd hd=>by cases hd⟩
 |some d=>obtain⟨hd,h⟩:=ay h;rw[T.setK_eq] at h;exact⟨h,λd' hd'=>by injection hd' with hd';subst hd';exact bY hd⟩
def Rj{t:Tr}{k:AV->Nat->Nat->T Unit->List Nat->Tr}{h:T ABlk}{n fs:Nat}{tc:T Unit}{w:List Nat}(hS:SI (.mk h n fs tc w))(hr:run (.sub t k) (.mk h n fs tc w) K=true):
 ∃a h' n' t' w',LocAt t h n n .leaf [] a h' n' t' w'/\∃tc2 w2,run (k a n n' t' w') (.mk h' n' fs tc2 w2) K=true/\SI (.mk h' n' fs tc2 w2):=by
 obtain⟨h1,h2,h3,h4,h5⟩:=hS
 rw[gV] at hr
 rcases loc t h n n .leaf [] (by omega) (aaa _) h2 (by simp) (λb hb=>by simp [T.get] at hb) with hf|⟨a,h',n',t',w',L⟩
 ·rw[hf] at hr;cases hr
 ·rw[L.run] at hr;have hle:=L.le;have ao0:=L.lid;refine⟨a,h',n',t',w',L, ?_⟩;simp only at hr;split at hr
  ·exact⟨tc,w,hr,by omega,ao0,by omega,h4,h5⟩
  ·refine⟨_,_,hr,by omega,ao0,by omega,λb hb=>?_,λb hb=>?_⟩
   ·have af6:∀b∈T.keys t' id [],b+1<2 ^ 64:=λb hb=>by
     rcases uK t' id [] b hb with hb|⟨x,u,e,hx⟩
     ·cases hb
     ·have:=L.low x hx;have e':b=x:=e;subst e';omega
    rcases ni _ _ _ hb with hb|⟨hb,c8⟩
    ·exact fc _ _ _ af6 (h4 b hb)
    ·exact kD _ _ _ af6 (by have:=T.mem_keys t' id [] b () (L.sub b hb);simpa using this) c8
   ·have key:∀(l:List Nat) (t:T Unit),(∀b,t.get b=some ()->b<fs)->∀b,(fS fs l t).get b=some ()->b<fs:=by
     intro l
     induction l with
     |nil=>intro t ht b hb;exact ht b hb
     |cons x l ih=>
      intro t ht b hb;refine ih _ (λy hy=>?_) b hb;by_cases e:fs<=x
      ·rw[Sym.note,if_pos e] at hy;exact ht y hy
      ·by_cases ey:y=x
       ·omega
       ·rw[Sym.note,if_neg e,T.get_set_ne _ ey] at hy;exact ht y hy
    exact key _ _ h5 b hb
def Zy{ops:Array Oper}{en rn:cQ}{k:T AV->Tr}:∀(l:List Oper) (i:Nat) (env:T AV) (ns:List (Nat×Note)) (h:T ABlk) (n fs:Nat) (tc:T Unit) (w:List Nat),SI (.mk h n fs tc w)->
 run (Fb P en rn nt ops l i env ns k) (.mk h n fs tc w) K=true->
 ∃c:Tape',c.E i=env/\c.H i=h/\c.N i=n/\(∀j o,l[j]? =some o->StepOk P en rn nt ops c (i+j) o)/\
  (∃tc' w',run (k (c.E (i+l.length))) (.mk (c.H (i+l.length)) (c.N (i+l.length)) fs tc' w') K=true/\SI (.mk (c.H (i+l.length)) (c.N (i+l.length)) fs tc' w'))/\
  o_ (jr ops.toList []) (c.notes i l.length++ns)=true:=by
 intro l
 induction l with
 |nil=>
  intro i env ns h n fs tc w hS hr
  have hr:run (ac (o_ (jr ops.toList []) ns) (k env) .fail) (.mk h n fs tc w) K=true:=hr
  obtain⟨hc,hr⟩:=ay hr
  exact⟨⟨λ_=>env,λ_=>h,λ_=>n,λ_=>.nilp,λ_=>.leaf,λ_=>[]⟩,rfl,rfl,rfl,λj o ho=>by simp at ho,⟨tc,w,hr,hS⟩,hc⟩
 |cons o l ih=>
  intro i env ns h n fs tc w hS hr
  have hr:run (.sub (tk P en rn ops env o) λv c c' t w=>zX nt o.dst v env λenv=>fN (Nat.succ i) λi'=>Fb P en rn nt ops l i' env ((i,.mk c c' t w)::ns) k) (.mk h n fs tc w) K=true:=hr
  obtain⟨v,h',n',t',w',L,tc2,w2,hr,i9⟩:=Rj hS hr
  obtain⟨hr,hd⟩:=LY hr
  have hr:=jV hr
  obtain⟨c,e1,e2,e3,A',ac8,ag3⟩:=ih _ _ _ _ _ _ _ _ i9 hr
  have g1:∀m,i+1+m=i+(m+1):=λm=>by omega
  have g2:∀m,¬i+(m+1)<=i:=λm=>by omega
  have g3:¬i+1<=i:=by omega
  refine⟨c.before i env h n v t' w',by simp [Tape'.before],by simp [Tape'.before],by simp [Tape'.before],λj o' ho=>?_, ?_, ?_⟩
  ·cases j with
   |zero=>
    simp at ho;subst ho;refine⟨?_, ?_,hd, ?_, ?_⟩
    ·simp only [Tape'.before,aas,aaa,if_true,if_neg g3];have e2:c.H (i+1)=h':=e2;have e3:c.N (i+1)=n':=e3;rw[e2,e3];exact L
    ·simp only [Tape'.before,aas,aaa,if_true,if_neg g3];exact e1
    ·simp only [Tape'.before,aas,aaa,if_true];exact hS.1
    ·simp only [Tape'.before,aas,aaa,if_true];exact hS.2.1
   |succ j=>simp at ho;have:=(A' j o' ho).later (i:=i) (by omega) env h n v t' w';rw[g1] at this;exact this
  ·obtain⟨tc',w'',q1,q2⟩:=ac8;refine⟨tc',w'', ?_⟩;simp only [aau,Tape'.before,if_neg (g2 _)];have g1':Nat.succ i+l.length=i+(l.length+1):=by omega
   rw[g1'] at q1 q2;exact⟨q1,q2⟩
  ·rw[aau,Tape'.notes_first];have e0:(c.before i env h n v t' w').note i= .mk n n' t' w':=by have e3:c.N (i+1)=n':=e3;simp only [Tape'.note,Tape'.before,aaa,if_true,if_neg g3,e3]
   rw[e0,Tape'.notes_congr _ c (i+1) l.length λj a b=>by
    have e4:¬j<=i:=by omega
    have e5:¬j+1<=i:=by omega
    simp only [Tape'.note,Tape'.before,if_neg e4,if_neg e5]]
   exact ag3
end
def sj{t:T Unit}:∀{l:List Nat},oY t l=true->∀b∈l,t.get b=none:=by
 intro l
 induction l with
 |nil=>intro _ b hb;cases hb
 |cons x l ih=>
  intro h b hb;have h:T.getK t x (oY t l) (λ_=>false)=true:=h;rw[T.getK_eq] at h;split at h
  ·rename_i hx;rcases List.mem_cons.mp hb with e|hb
   ·subst e;exact hx
   ·exact ih h b hb
  ·cases h
def jY{c c':Nat}:∀{l:List Nat},cV c c' l=true->∀b∈l,¬(c<=b/\b<c'):=by
 intro l
 induction l with
 |nil=>intro _ b hb;cases hb
 |cons x l ih=>
  intro h b hb hc;have h:ac (Nat.ble c x) (ac (Nat.ble (Nat.succ x) c') false (cV c c' l)) (cV c c' l)=true:=h;rcases List.mem_cons.mp hb with e|hb
  ·subst e;rw[show Nat.ble c b=true from Nat.ble_eq.mpr hc.1,show Nat.ble (Nat.succ b) c'=true from Nat.ble_eq.mpr hc.2] at h;cases h
  ·refine ih ?_ b hb hc
   cases h1:Nat.ble c x with
   |false=>rw[h1] at h;exact h
   |true=>
    rw[h1] at h
    cases h2:Nat.ble (Nat.succ x) c' with
    |false=>rw[h2] at h;exact h
    |true=>rw[h2] at h;cases h
def AI{bs:List Nat}{c:Tape'}:∀{m:Nat} {ns:List (Nat×Note)},o_ bs (c.notes 0 m++ns)=true->∀p q,p<q->q<m->(bs.getD q 0).testBit p=true∨C2 (c.note p) (c.note q)=true:=by
 intro m
 induction m with
 |zero=>intro ns _ p q _ h;omega
 |succ m ih=>
  intro ns h p q hp hq;have h:ac ((c.notes 0 m++ns).all λx=>ac ((bs.getD (0+m) 0).testBit x.1) true (C2 x.2 (c.note (0+m)))) (o_ bs (c.notes 0 m++ns)) false=true:=h;obtain⟨h1,h2⟩:=aD h;by_cases e:q=m
  ·subst e;have hm:=c.mem_notes 0 q p hp;have:=List.all_eq_true.mp h1 _ (abn _ hm);simp only [aam] at this;rw[ar] at this;split at this
   ·rename_i hb;exact .inl hb
   ·exact .inr this
  ·exact ih h2 p q hp (by omega)
def sn:∀(l:List Oper) (acc:List Nat) (i:Nat),i<acc.length->(jr l acc).getD i 0=acc.getD i 0:=by
 intro l
 induction l with
 |nil=>intro acc i _;rfl
 |cons o l ih=>intro acc i hi;rw[jr,ih _ _ (by simp;omega)];simp [aag,aaA hi]
def Ft(acc:List Nat)(o:Oper):Nat:=o.after.toList.foldl (λs e=>if Region.binds .any e then s ||| 2 ^ e.on ||| acc.getD e.on 0 else s) 0
def Rk:∀(l:List Oper) (acc:List Nat) (k:Nat) (o:Oper),l[k]? =some o->∃ae_,ae_.length=acc.length+k/\(∀i,i<ae_.length->(jr l acc).getD i 0=ae_.getD i 0)/\(jr l acc).getD (acc.length+k) 0=Ft ae_ o:=by
 intro l
 induction l with
 |nil=>intro acc k o h;simp at h
 |cons o l ih=>
  intro acc k o' h
  cases k with
  |zero=>simp at h;subst h;refine⟨acc,rfl,λi hi=>sn _ _ _ hi, ?_⟩;rw[jr,sn _ _ _ (by simp)];simp [aag,Ft]
  |succ k=>simp at h;obtain⟨ae_,h1,h2,h3⟩:=ih (acc++ [Ft acc o]) k o' h;simp only [aah,aaL] at h1 h3;refine⟨ae_,by omega,h2, ?_⟩;rw[←h3,show acc.length+(k+1)=acc.length+1+k by omega];rfl
def IT{acc:List Nat}{o:Oper}{i:Nat}(h:(Ft acc o).testBit i=true):∃e∈o.after,Region.binds .any e=true/\(e.on=i∨(acc.getD e.on 0).testBit i=true):=by
 have key:∀(l:List Edge) (s:Nat),(l.foldl (λs e=>if Region.binds .any e then s ||| 2 ^ e.on ||| acc.getD e.on 0 else s) s).testBit i=true->
  s.testBit i=true∨∃e∈l,Region.binds .any e=true/\(e.on=i∨(acc.getD e.on 0).testBit i=true):=by
  intro l
  induction l with
  |nil=>intro s h;exact .inl h
  |cons e l ih=>
   intro s h
   rw[List.foldl_cons] at h
   rcases ih _ h with h|⟨e',he,h⟩
   ·split at h
    ·rename_i hb;rw[Nat.testBit_or,Nat.testBit_or,Bool.or_eq_true,Bool.or_eq_true,Nat.testBit_two_pow] at h;rcases h with(h|h)|h
     ·exact .inl h
     ·exact .inr ⟨e,by simp,hb,.inl (by simpa using h)⟩
     ·exact .inr ⟨e,by simp,hb,.inr h⟩
    ·exact .inl h
   ·exact .inr ⟨e',by simp [he],h⟩
 rcases key _ _ h with h|⟨e,he,h⟩
 ·simp at h
 ·exact⟨e,by simpa using he,h⟩
def Rl{ops:Array Oper}{j i:Nat}{o:Oper}(ho:ops[j]? =some o)(h:((jr ops.toList []).getD j 0).testBit i=true):
 ∃e∈o.after,Region.binds .any e=true/\(e.on=i∨((jr ops.toList []).getD e.on 0).testBit i=true):=by
 obtain⟨ae_,h1,h2,h3⟩:=Rk ops.toList [] j o (by simpa using ho)
 simp only [List.length_nil,aam] at h1 h3
 rw[h3] at h
 obtain⟨e,he,hb,hc⟩:=IT h
 refine⟨e,he,hb,hc.imp id λhc=>?_⟩
 rcases aaf e.on ae_.length with hl|hl
 ·rw[h2 _ hl];exact hc
 ·rw[aag,aak hl] at hc;simp at hc
def vj{ops:Array Oper}(h:oZ ops=true){j:Nat}{o:Oper}(ho:ops[j]? =some o):∀e∈o.after,Region.binds .any e=true->e.on<j:=by
 intro e he hb;unfold oZ at h;have hm:(o,j)∈ops.toList.zipIdx:=by rw[abN];simpa using ho
 have:=List.all_eq_true.mp h _ hm;simp only [Bool.and_eq_true] at this;have:=List.all_eq_true.mp this.1 e (by simpa using he);simpa [hb] using this
def xz{ops:Array Oper}(h:oZ ops=true){i j:Nat}{p o:Oper}(hp:ops[i]? =some p)(ho:ops[j]? =some o)(hij:i<j):((jr ops.toList []).getD j 0).testBit i=true∨xh ops p o=true:=by
 unfold oZ at h;have hm:(o,j)∈ops.toList.zipIdx:=by rw[abN];simpa using ho
 have hm':(p,i)∈ops.toList.zipIdx:=by rw[abN];simpa using hp
 have:=List.all_eq_true.mp h _ hm;simp only [Bool.and_eq_true] at this;have:=List.all_eq_true.mp this.2 _ hm';simp only [Bool.or_eq_true,Bool.not_eq_true',decide_eq_false_iff_not] at this;rcases this with(c|c)|c
 ·exact absurd hij c
 ·exact .inl c
 ·exact .inr c
def Do{ops:Array Oper}{a b:Oper}(h:xh ops a b=true):(∀d,a.dst=some d->d∉looks ops b)/\(∀d,b.dst=some d->d∉looks ops a)/\∀d,a.dst=some d->b.dst≠some d:=by
 unfold xh at h;simp only [Bool.and_eq_true] at h;obtain⟨⟨h1,h2⟩,h3⟩:=h;refine⟨λd hd=>?_,λd hd=>?_,λd hd he=>?_⟩
 ·rw[hd] at h1;simpa using h1
 ·rw[hd] at h2;simpa using h2
 ·rw[hd,he] at h3;simp at h3
section
variable{P:Program}{w0:World}{ρ:Rho}{w:World}{σ:St}{K:Fin}{nt:Nat}{env:T AV}{a:Act}
def Good.like{H H':T ABlk}(hG:Good w0 ρ H w)(h:∀b,H'.get b=H.get b):Good w0 ρ H' w:=
 ⟨⟨hG.below,λb x hx=>hG.blk b x (by rw[←h];exact hx),λb g x hx=>by rw[h];exact hG.dom b g x hx,hG.inj,λb g y x hy hx=>hG.gens b g y x hy (by rw[←h];exact hx),λb arr ty hf=>⟨(hG.frz b arr ty hf).1,λb' g x hh e=>by rw[h];exact(hG.frz b arr ty hf).2 b' g x hh e⟩,hG.frzB,λb k I l hb=>hG.objO b k I l (by rw[←h];exact hb)⟩,hG.ownB⟩
def ER.like{env':T AV}{tmps:Array Value}(hE:ER ρ nt env tmps)(h:∀d,env'.get d=env.get d):ER ρ nt env' tmps:=
 ⟨hE.size,λt x hx=>hE.val t x (by rw[←h];exact hx)⟩
def Rm{dst:Option Nat}{av:AV}{v:Value}(hv:VR ρ av v)(hE:ER ρ nt env a.tmps)(hd:∀d,dst=some d->d<nt):ER ρ nt (Dn dst av env) (a.put dst v).tmps:=by
 cases dst with
 |none=>exact hE
 |some d=>
  have hd:=hd d rfl;refine⟨?_,λt b hb=>?_⟩
  ·show(a.tmps.setIfInBounds d v).size=nt;rw[abM];exact hE.size
  ·show ∃u,(a.tmps.setIfInBounds d v)[t]? =some u/\VR ρ b u;by_cases e:t=d
   ·subst e;have:=T.get_set_some _ _ hb;subst this;refine⟨v, ?_,hv⟩;rw[aaG,if_pos rfl,if_pos (by rw[hE.size];omega)]
   ·have hb:(env.set d av).get t=some b:=hb;rw[T.get_set_ne _ e] at hb;obtain⟨u,hu,hr⟩:=hE.val t b hb;exact⟨u,by rw[aaG,if_neg (λe'=>e e'.symm)];exact hu,hr⟩
def vm{dst:Option Nat}{v:AV}{x:Nat}(h:dst≠some x):(Dn dst v env).get x=env.get x:=by
 cases dst with
 |none=>rfl
 |some d=>exact T.get_set_ne _ (λe=>h (by rw[e])) _
def Fu{dst:Option Nat}{v:AV}{x:Nat}(h:dst=some x)(hx:x+1<2 ^ 64):(Dn dst v env).get x=some v:=by subst h;exact T.get_set_same _ _ _ hx
def iA(listed:Array Bool)(j:Nat):Prop:=listed.getD j false=true
def LZ{listed:Array Bool}{i:Nat}(hi:i<listed.size)(j:Nat):iA (listed.setIfInBounds i true) j↔iA listed j∨j=i:=by
 unfold iA;rw[aaU,aaG,aaU];by_cases e:i=j
 ·subst e;simp [hi]
 ·have e':¬j=i:=λh=>e h.symm;rw[if_neg e,or_iff_left e']
def AJ{listed:Array Bool}{j:Nat}(h:listed.getD j true=false):¬iA listed j/\j<listed.size:=by
 rw[aaU] at h
 cases hj:listed[j]? with
 |none=>rw[hj] at h;cases h
 |some b=>rw[hj] at h;refine⟨λc=>?_,(Array.getElem?_eq_some_iff.1 hj).1⟩;unfold iA at c;rw[aaU,hj] at c;have h:b=false:=h;have c:b=true:=c;rw[h] at c;cases c
def Wp(ops:Array Oper)(o:Oper)(x:Nat):Prop:=x∈looks ops o∨o.dst=some x
def WrE(ops:Array Oper)(j:Nat)(x:Nat):Prop:=∃o,ops[j]? =some o/\o.dst=some x
def Wq(c:Tape')(j:Nat)(b:Nat):Prop:=Un (c.N j) (c.N (j+1)) (c.WW j) b
def TcH(c:Tape')(j:Nat)(b:Nat):Prop:=V9 (c.N j) (c.N (j+1)) (c.TT j) b
open Classical in
theorem Rn{rd:Option Nat}{ops:Array Oper}{en rn:cQ}(hen:AE P w0 en)(hrn:Rg P w0 rn)(hnt:nt<=1000000000)(hm:P.follows .mixedOrders=true){k:T AV->Tr}{Q:Exit->Act->World->Prop}(ρ0:Rho)(ds:List Deferred)
 (hk:∀env' a9 ρ' a' w',run (k env') a9 K=true->SI a9->Good w0 ρ' a9.h w'->ρ0.le ρ'->ER ρ' nt env' a'.tmps->a'.defers=ds->Q .normal a' w')
 (htm:oZ ops=true) (h:run (Fb P en rn nt ops ops.toList 0 env [] k) σ K=true) (hS:SI σ) (hG:Good w0 ρ σ.h w) (hle:ρ0.le ρ) (hE:ER ρ nt env a.tmps) (hd:a.defers=ds) (id:Nat):
 (Code.region id ops true).wpIn (fR rd) 0 P Q a w:=by
 cases σ with
 |mk h0 n0 fs tc ww=>
 obtain⟨c,e1,e2,e3,A',⟨tc',w',ac8,aj7⟩,ag3⟩:=Zy _ _ _ _ _ _ _ _ _ hS h
 rw[aaJ,aam] at ac8 aj7
 rw[aaJ] at ag3
 have A':∀j o,ops[j]? =some o->StepOk P en rn nt ops c j o:=λj o ho=>by
  have:=A' j o (by simpa using ho)
  rwa [aam] at this
 have c8:∀{j o},ops[j]? =some o->j<ops.size:=λh=>(Array.getElem?_eq_some_iff.1 h).1
 have hop:∀{j},j<ops.size->∃o,ops[j]? =some o:=λh=>⟨_,aaM h⟩
 have hN1:∀j,j<ops.size->c.N j<=c.N (j+1):=λj hj=>by obtain⟨o,ho⟩:=hop hj;exact(A' j o ho).loc.le
 have hN:∀i j,i<=j->j<=ops.size->c.N i<=c.N j:=λi j=>by
  induction j with
  |zero=>intro h1 _;rw[show i=0 by omega];exact aaa _
  |succ j ih=>
   intro h1 h2;by_cases e:i=j+1
   ·subst e;exact aaa _
   ·exact aaH (ih (by omega) (by omega)) (hN1 j (by omega))
 have sameH:∀b m,m<ops.size->¬Wq c m b->(c.H (m+1)).get b=(c.H m).get b:=λb m hm hw=>by obtain⟨o,ho⟩:=hop hm;exact(A' m o ho).loc.same b hw
 have sameE:∀x m,m<ops.size->¬WrE ops m x->(c.E (m+1)).get x=(c.E m).get x:=λx m hm hw=>by obtain⟨o,ho⟩:=hop hm;rw[(A' m o ho).env];exact vm λe=>hw ⟨o,ho,e⟩
 have ai8:∀j b,j<ops.size->Wq c j b->TcH c j b:=λj b hj hw=>by
  obtain⟨o,ho⟩:=hop hj;rcases hw with hw|hw
  ·exact .inl ((A' j o ho).loc.sub b hw)
  ·exact .inr hw
 have apH:∀i j b,i<j->j<ops.size->¬((jr ops.toList []).getD j 0).testBit i=true->(¬(TcH c i b/\Wq c j b))/\¬(Wq c i b/\TcH c j b):=λi j b hij hj hnb=>by
  obtain⟨p,hp⟩:=hop (show i<ops.size by omega);obtain⟨o,ho⟩:=hop hj;have s8:=(AI ag3 i j hij hj).resolve_left hnb;have s8:ac (oY (c.TT j) (c.WW i)) (ac (oY (c.TT i) (c.WW j)) (ac (cV (c.N i) (c.N (i+1)) (T.keys (c.TT j) _root_.id [])) (ac (cV (c.N i) (c.N (i+1)) (c.WW j)) true false) false) false) false=true:=s8;obtain⟨h1,s8⟩:=aD s8;obtain⟨h2,s8⟩:=aD s8;obtain⟨h3,s8⟩:=aD s8;obtain⟨h4,_⟩:=aD s8;have Li:=(A' i p hp).loc;have Lj:=(A' j o ho).loc;have au0:=hN (i+1) j (by omega) (by omega);have hNi:=hN1 i (by omega);constructor
  ·rintro⟨ht,hw⟩;rcases hw with hw|hw
   ·rcases ht with ht|ht
    ·rw[sj h2 b hw] at ht;cases ht
    ·exact jY h4 b hw ht
   ·rcases ht with ht|ht
    ·have:=Li.low b ht;omega
    ·omega
  ·rintro⟨hw,ht⟩;rcases hw with hw|hw
   ·rcases ht with ht|ht
    ·rw[sj h1 b hw] at ht;cases ht
    ·have:=Li.low b (Li.sub b hw);omega
   ·rcases ht with ht|ht
    ·exact jY h3 b (by have:=T.mem_keys (c.TT j) _root_.id [] b () ht;simpa using this) hw
    ·omega
 have apE:∀i j p o x,i<j->ops[i]? =some p->ops[j]? =some o->¬((jr ops.toList []).getD j 0).testBit i=true->(¬(Wp ops p x/\o.dst=some x))/\¬(p.dst=some x/\Wp ops o x):=λi j p o x hij hp ho hnb=>by
  obtain⟨h1,h2,h3⟩:=Do ((xz htm hp ho hij).resolve_left hnb);constructor
  ·rintro⟨ht,hw⟩;rcases ht with ht|ht
   ·exact h2 x hw ht
   ·exact h3 x ht hw
  ·rintro⟨hw,ht⟩;rcases ht with ht|ht
   ·exact h1 x hw ht
   ·exact h3 x hw ht
 have main:∀(fuel:Nat) (listed:Array Bool) (g:T ABlk) (env':T AV) (ρ':Rho) (a':Act) (w':World),listed.size=ops.size->listed.toList.count false<=fuel->
  (∀j,iA listed j->∀i,((jr ops.toList []).getD j 0).testBit i=true->iA listed i)->
  (∀b,g.get b=sh (λm b=>(c.H m).get b) (Wq c) (iA listed) b ops.size)->(∀x,env'.get x=sh (λm x=>(c.E m).get x) (WrE ops) (iA listed) x ops.size)->
  Good w0 ρ' g w'->ρ0.le ρ'->ER ρ' nt env' a'.tmps->a'.defers=ds->wpAnyIn (fR rd) 0 P .any ops Q fuel listed a' w':=by
  intro fuel
  have fin:∀(listed:Array Bool) (g:T ABlk) (env':T AV) (ρ':Rho) (a':Act) (w':World),listed.size=ops.size->
   (∀b,g.get b=sh (λm b=>(c.H m).get b) (Wq c) (iA listed) b ops.size)->(∀x,env'.get x=sh (λm x=>(c.E m).get x) (WrE ops) (iA listed) x ops.size)->
   Good w0 ρ' g w'->ρ0.le ρ'->ER ρ' nt env' a'.tmps->a'.defers=ds->Region.ready .any ops listed= []->Q .normal a' w':=by
   intro listed g env' ρ' a' w' T' hg he j7 ad7 hE' hd' hr
   have ad6:∀m,∀j,j<m->j<ops.size->iA listed j:=by
    intro m
    induction m with
    |zero=>intro j hj;omega
    |succ m ih=>
     intro j hj hjs;by_cases e:j<m
     ·exact ih j e hjs
     ·have e:j=m:=by omega
      subst e;refine byContradiction λhn=>?_;obtain⟨o,ho⟩:=hop hjs;have:j∈Region.ready .any ops listed:=mem_ready.2 ⟨?_,o,ho,λe he hb=>ih e.on (vj htm ho e he hb) (by have:=vj htm ho e he hb;omega)⟩
      ·rw[hr] at this;cases this
      ·unfold iA at hn;rw[aaU,aaM (by omega)] at hn⊢;simpa using hn
   have hH:∀b,(c.H ops.size).get b=g.get b:=λb=>by rw[hg b,xy (sameH b) ops.size (aaa _) λj hj=>ad6 (j+1) j (by omega) hj]
   have hEE:∀x,(c.E ops.size).get x=env'.get x:=λx=>by rw[he x,xy (sameE x) ops.size (aaa _) λj hj=>ad6 (j+1) j (by omega) hj]
   exact hk _ _ ρ' a' w' ac8 aj7 (j7.like hH) ad7 (hE'.like hEE) hd'
  induction fuel with
  |zero=>
   intro listed g env' ρ' a' w' T' ak_ hcl hg he j7 ad7 hE' hd'
   have hr:Region.ready .any ops listed= []:=by
    rw[List.eq_nil_iff_forall_not_mem];intro j hj;have:=(mem_ready.1 hj).1;have hn:=AJ this;have:false∈listed.toList:=by rw[aaU,aaM hn.2] at this;have this:listed[j]'hn.2=false:=this;rw[←this];simp
    have:=List.count_pos_iff.2 this;omega
   exact⟨hr,fin listed g env' ρ' a' w' T' hg he j7 ad7 hE' hd' hr⟩
  |succ fuel ih=>
   intro listed g env' ρ' a' w' T' ak_ hcl hg he j7 ad7 hE' hd'
   refine⟨fin listed g env' ρ' a' w' T' hg he j7 ad7 hE' hd',λi hi=>?_⟩
   obtain⟨hun,o,ho,ac4⟩:=mem_ready.1 hi
   obtain⟨hnd,hil⟩:=AJ hun
   have his:=c8 ho
   have st:=A' i o ho
   have L:=st.loc
   have ao1:∀j,((jr ops.toList []).getD i 0).testBit j=true->iA listed j:=λj hj=>by
    obtain⟨e,he,hb,hc⟩:=Rl ho hj;rcases hc with hc|hc
    ·subst hc;exact ac4 e he hb
    ·exact hcl _ (ac4 e he hb) j hc
   have later:∀j,i<j->j<ops.size->iA listed j->¬((jr ops.toList []).getD j 0).testBit i=true:=λj _ _ hj hb=>hnd (hcl j hj i hb)
   have sooner:∀j,j<i->¬iA listed j->¬((jr ops.toList []).getD i 0).testBit j=true:=λj _ hj hb=>hj (ao1 j hb)
   have ao2:∀b,TcH c i b->g.get b=(c.H i).get b:=λb hb=>by rw[hg b];exact AG (sameH b) his hnd (λj h1 h2 h3=>(apH j i b h1 his (sooner j h1 h2)).2 ⟨h3,hb⟩) λj h1 h2 h3 h4=>(apH i j b h1 h2 (later j h1 h2 h3)).1 ⟨hb,h4⟩
   have ao3:∀x,Wp ops o x->env'.get x=(c.E i).get x:=λx hx=>by
    rw[he x];refine AG (sameE x) his hnd (λj h1 h2 h3=>?_) λj h1 h2 h3 h4=>?_
    ·obtain⟨p,hp,hpx⟩:=h3;exact(apE j i p o x h1 hp ho (sooner j h1 h2)).2 ⟨hpx,hx⟩
    ·obtain⟨p,hp,hpx⟩:=h4;exact(apE i j o p x h1 ho hp (later j h1 h2 h3)).1 ⟨hx,hpx⟩
   obtain⟨g',r1,r2,r3⟩:=L.like g ao2
   have c9:run (tk P en rn ops env' o) (.mk g (c.N i) (c.N i) .leaf []) (λx s=>decide (x=c.V i/\s= .mk g' (c.N (i+1)) (c.N i) (c.TT i) (c.WW i)))=true:=by rw[LX (env':=c.E i) (λt ht=>ao3 t (.inl ht)),r1];simp
   have hSi:SI (.mk g (c.N i) (c.N i) .leaf []):=⟨st.lo,st.hi,aaa _,by simp,λb hb=>by simp [T.get] at hb⟩
   have next:∀(ρ2:Rho) (v:Value) (w2:World),Good w0 ρ2 g' w2->ρ'.le ρ2->VR ρ2 (c.V i) v->wpAnyIn (fR rd) 0 P .any ops Q fuel (listed.setIfInBounds i true) (a'.put o.dst v) w2:=by
    intro ρ2 v w2 l8 j0 hv;have hds:=LZ (listed:=listed) (i:=i) hil;refine ih (listed.setIfInBounds i true) g' (Dn o.dst (c.V i) env') ρ2 (a'.put o.dst v) w2 (by simp [T']) ?_ (λj hj q hq=>?_) (λb=>?_) (λx=>?_) l8 (ad7.trans j0) (Rm hv (hE'.mono j0) st.dst) (by cases au1:o.dst <;> exact hd')
    ·rw[Array.toList_setIfInBounds,List.count_set (by simpa using hil)];have e1:listed.toList[i]'(by simpa using hil)=false:=by rw[aaU,aaM hil] at hun;have hun:listed[i]'hil=false:=hun;simpa using hun
     have:0<listed.toList.count false:=List.count_pos_iff.2 (by rw[←e1];exact abe _);rw[e1,if_pos (by rfl),if_neg (by decide)];omega
    ·rcases(hds j).1 hj with hj|hj
     ·exact(hds q).2 (.inl (hcl j hj q hq))
     ·subst hj;exact(hds q).2 (.inl (ao1 q hq))
    ·by_cases hw:Wq c i b
     ·rw[r2 b (ai8 i b his hw)];exact(si (H:=λm b=>(c.H m).get b) his hds hw λj h1 h2 h3 h4=>(apH i j b h1 h2 (later j h1 h2 h3)).1 ⟨ai8 i b his hw,h4⟩).symm
     ·rw[r3 b hw,hg b];exact(AH (H:=λm b=>(c.H m).get b) hds hw).symm
    ·by_cases hw:WrE ops i x
     ·have hx:o.dst=some x:=by obtain⟨o',ho',hx⟩:=hw;rw[ho] at ho';injection ho' with ho';rw[ho'];exact hx
      have ao4:x+1<2 ^ 64:=by have:x<nt:=st.dst x hx;omega
      have q1:(Dn o.dst (c.V i) env').get x=(c.E (i+1)).get x:=by rw[st.env,Fu hx ao4,Fu hx ao4]
      rw[q1];refine(si (H:=λm x=>(c.E m).get x) his hds hw λj h1 h2 h3 h4=>?_).symm;obtain⟨p,hp,hpx⟩:=h4;exact(apE i j o p x h1 ho hp (later j h1 h2 h3)).1 ⟨.inr hx,hpx⟩
     ·rw[vm (λe=>hw ⟨o,ho,e⟩),he x];exact(AH (H:=λm x=>(c.E m).get x) hds hw).symm
   unfold wpOpIn
   simp only [ho]
   rcases LW hE' c9 with⟨hw,hr⟩|⟨hw,hr⟩
   ·rw[if_pos hw];refine LV hen hrn hSi j7 hE' hr λav v a9 ρ2 w2 q1 q2 q3 q4 q5=>?_;obtain⟨z1,z2⟩:=of_decide_eq_true (show decide (av=c.V i/\a9= .mk g' (c.N (i+1)) (c.N i) (c.TT i) (c.WW i))=true from q1);subst z1;subst z2;exact next ρ2 v w2 q3 q4 q5
   ·rw[if_neg (by rw[hw];simp)];obtain⟨z1,z2⟩:=of_decide_eq_true (show decide (AV.tup []=c.V i/\St.mk g (c.N i) (c.N i) .leaf []= .mk g' (c.N (i+1)) (c.N i) (c.TT i) (c.WW i))=true from hr);injection z2 with z2;refine⟨λ_ _=>trivial,next ρ' undef w' (by rw[←z2];exact j7) (Rho.le.refl _) (by rw[←z1];exact .tup [] #[] rfl (by simp))⟩
 refine wpIn_region_any hm (main ops.size (Array.replicate ops.size false) h0 env ρ a _ (by simp) (by simp) (λj hj=>?_) (λb=>?_) (λx=>?_) (hG.drawn _) hle hE hd)
 ·unfold iA at hj;rw[aaU,abO] at hj;split at hj <;> simp at hj
 ·have hn:∀j,¬iA (Array.replicate ops.size false) j:=λj hj=>by unfold iA at hj;rw[aaU,abO] at hj;split at hj <;> simp at hj
  rw[nE (a:=0) ops.size (aap _) λj _ _ hj=>absurd hj (hn j)];show h0.get b=(c.H 0).get b;rw[e2]
 ·have hn:∀j,¬iA (Array.replicate ops.size false) j:=λj hj=>by unfold iA at hj;rw[aaU,abO] at hj;split at hj <;> simp at hj
  rw[nE (a:=0) ops.size (aap _) λj _ _ hj=>absurd hj (hn j)];show env.get x=(c.E 0).get x;rw[e1]
end
end Go.Sym
namespace Go.Sym
open Go.RowKit (Below)
def YX:AEx->Exit
 | .normal=>.normal
 | .exit id=>.exit id
 | .goto l=>.goto l
 | .ret=>.ret
def L0(w0:World)(ρ:Rho)(K:Fin)(nt:Nat)(k:XK)(Q:Exit->Act->World->Prop):Prop:=
 ∀ex env' df' a9 ρ' w' a',run (k ex env' df') a9 K=true->SI a9->Good w0 ρ' a9.h w'->ρ.le ρ'->ER ρ' nt env' a'.tmps->DR ρ' df' a'.defers->Q (YX ex) a' w'
def RW(ρ:Rho):Option Nat->Option Nat->Prop
 |none,r=>r=none
 |some l,r=>∃h,ρ.at_ l 0=some h/\r=some h.blk
def RW.mono{ρ ρ':Rho}(hle:ρ.le ρ'){eK rd:Option Nat}(h:RW ρ eK rd):RW ρ' eK rd:=by
 cases eK with
 |none=>exact h
 |some l=>obtain⟨x,h1,h2⟩:=h;exact⟨x,hle.at_ _ _ _ h1,h2⟩
inductive SubC:Code->Code->Prop where
 |refl (c:Code):SubC c c
 |seqL {a b c:Code} (h:SubC (.seq a b) c):SubC a c
 |seqR {a b c:Code} (h:SubC (.seq a b) c):SubC b c
 |condL {x:Operand} {a b c:Code} (h:SubC (.cond x a b) c):SubC a c
 |condR {x:Operand} {a b c:Code} (h:SubC (.cond x a b) c):SubC b c
 |block {id:Nat} {a c:Code} (h:SubC (.block id a) c):SubC a c
 |loop {a c:Code} (h:SubC (.loop a) c):SubC a c
def InF(P:Program)(f:Nat)(eK:Option Nat)(c:Code):Prop:=eK=none->zY c=true∨∃fn b,P.funcs[f]? =some fn/\fn.body=some b/\SubC c b
def InF.sub{P:Program}{f:Nat}{eK:Option Nat}{c d:Code}(h:InF P f eK c)(hs:∀b,SubC c b->SubC d b)(hj:zY c=false):InF P f eK d:=λhr=>by
 rcases h hr with h|⟨fn,b,h1,h2,h3⟩
 ·rw[hj] at h;cases h
 ·exact .inr ⟨fn,b,h1,h2,hs b h3⟩
def InF.round{P:Program}{f l:Nat}{c:Code}:InF P f (some l) c:=λh=>by cases h
def Dp(P:Program)(w0:World)(x:X):Prop:=
 ∀(c:Code) (env:T AV) (nt f:Nat) (df:List Nat) (k:XK) (σ:St) (K:Fin) (ρ:Rho) (w:World) (a:Act) (Q:Exit->Act->World->Prop) (eK rd:Option Nat),RW ρ eK rd->SI σ->Good w0 ρ σ.h w->ER ρ nt env a.tmps->DR ρ df a.defers->
  run (x c env nt f eK df k) σ K=true->L0 w0 ρ K nt k Q->InF P f eK c->c.wpIn (fR rd) 0 P Q a w
def jA(P:Program)(rd:Option Nat)(c:Code)(Q:Exit->Act->World->Prop)(a:Act)(w:World):Prop:=
 ∀(b:Frame) (k:List Item) (cs:List Frame),b.roundOf=(fR rd).round->(fR rd).fn b.fn->(fR rd).room (cs.length+1+0)->
  ∃e a' w',Q e a' w'/\ArrivesIn (Machine.fenced P (fR rd)) P (lone (b.atR a (.code c:: .inLoop c::k)) cs w) b k cs e a' w'
def Ro(P:Program)(w0:World)(x:X):Prop:=
 ∀(c:Code) (env:T AV) (nt f:Nat) (df:List Nat) (k:XK) (σ:St) (K:Fin) (ρ:Rho) (w:World) (a:Act) (Q:Exit->Act->World->Prop) (eK rd:Option Nat),RW ρ eK rd->SI σ->Good w0 ρ σ.h w->ER ρ nt env a.tmps->DR ρ df a.defers->
  run (x (.loop c) env nt f eK df k) σ K=true->L0 w0 ρ K nt k Q->InF P f eK (.loop c)->jA P rd c Q a w
section
variable{P:Program}{w0:World}{ρ:Rho}{w:World}{σ:St}{K:Fin}{nt:Nat}{env:T AV}{a:Act}
def IU{k:T AV->Tr}:∀(l:List AV) (i:Nat) (t:T AV),run (K5 l i t k) σ K=true->
 ∃c,run (k c) σ K=true/\∀o x,c.get o=some x->(∃(j:Nat),o=i+j/\l[j]? =some x)∨(t.get o=some x/\(o<i∨i+l.length<=o)):=by
 intro l
 induction l with
 |nil=>intro i t h;exact⟨t,h,λo x hx=>.inr ⟨hx,by simp;omega⟩⟩
 |cons a l ih=>
  intro i t h
  have h:run (T.setK t i a λt=>fN (Nat.succ i) λi=>K5 l i t k) σ K=true:=h
  rw[T.setK_eq] at h
  obtain⟨c,h1,h2⟩:=ih _ _ (jV h)
  refine⟨c,h1,λo x hx=>?_⟩
  rcases h2 o x hx with⟨j,e,hb⟩|⟨hx',ho⟩
  ·exact .inl ⟨j+1,by omega,by simpa using hb⟩
  ·by_cases e:o=i
   ·subst e;have:=T.get_set_some _ _ hx';exact .inl ⟨0,by omega,by rw[this];rfl⟩
   ·rw[T.get_set_ne _ e] at hx';exact .inr ⟨hx',by simp at ho⊢;omega⟩
def Rp{l:List AV}{vs:List Value}{n:Nat}{c:T AV}(hl:LR ρ l vs)(hn:l.length<=n)(hc:∀o x,c.get o=some x->(∃(j:Nat),o=0+j/\l[j]? =some x)∨((T.leaf:T AV).get o=some x/\(o<0∨0+l.length<=o))):
 ER ρ n c (vs.toArray++Array.replicate (n-vs.toArray.size) undef):=by
 refine⟨by simp [hl.1];omega,λt x hx=>?_⟩
 rcases hc t x hx with⟨j,e,hj⟩|⟨h,_⟩
 ·have:t=j:=by omega
  subst this;obtain⟨v,hv,hr⟩:=hl.get hj;refine⟨v, ?_,hr⟩;have c8:t<vs.length:=by
   rcases aaf t vs.length with h'|h'
   ·exact h'
   ·rw[aak h'] at hv;cases hv
  rw[Array.getElem?_append_left (by simpa using c8)];simpa using hv
 ·simp [T.get] at h
def Zz(k:AV->Tr):List AV->Tr
 | [v]=>k v
 |l=>k (.tup l)
def ZA{l:List AV}{vs:List Value}{k:AV->Tr}(hl:LR ρ l vs)(h:run (Zz k l) σ K=true):∃av,run (k av) σ K=true/\VR ρ av (IR vs):=by
 have tup:∀(l:List AV) (vs:List Value),LR ρ l vs->VR ρ (.tup l) (.tuple vs.toArray):=λl vs hl=>by
  have:LR ρ l vs.toArray.toList:=by simpa using hl
  exact .tup _ _ this.arr.1 this.arr.2
 cases l with
 |nil=>rw[hl.nil_inv];exact⟨_,h,tup _ _ (LR.nil ρ)⟩
 |cons a l=>
  obtain⟨v,vs1,rfl,hv,hl1⟩:=hl.cons_inv
  cases l with
  |nil=>rw[hl1.nil_inv];exact⟨_,h,hv⟩
  |cons b l=>obtain⟨u,vs2,rfl,hu,hl2⟩:=hl1.cons_inv;exact⟨_,h,tup _ _ hl⟩
def iR{x:X}(hx:Dp P w0 x):AE P w0 (nu P x):=by
 intro f l vs k σ K ρ w R hS hG hl h hR;obtain⟨fn,hf,h⟩:=bT h;obtain⟨c,hb,h⟩:=bT h;obtain⟨ad0,h⟩:=qw h;have ad0:¬fn.name= "runtime.NumGoroutine" :=by simpa using ad0
 obtain⟨hlen,h⟩:=ay h;have hlen:=bY hlen;obtain⟨env,h,hc⟩:=IU _ _ _ h;have hE:=Rp hl hlen hc;refine⟨λargs=>?_,callsIn_of_wp_marks hf hb trivial ?_⟩
 ·simp [callFunc,hf,ad0,hb]
 ·refine hx c env fn.ntmps f [] _ σ K ρ w _ _ none none rfl hS hG hE trivial h (λex env' df' a9 ρ' w' a' h1 h2 h3 h4 h5 h6=>?_) (λ_=>.inr ⟨fn,c,hf,hb,.refl c⟩)
  have main:run (xi df' (K6 P env' fn.results.toList λl=>(match l with | [v]=>k v|l=>k (.tup l)))) a9 K=true->LeavesInM Fence.wide 0 P fn a'.tmps R a'.defers .returning w':=λh=>by refine Wo (λi3 w2 g1 g2 g3=>?_) _ _ _ _ h h2 h3 h6;obtain⟨avs,vs,σ3,q1,q2,q3,q4,q5⟩:=resT (P:=P) h5 _ _ _ g1 g2 g3;have q1:run (Zz k avs) σ3 K=true:=q1;obtain⟨av,r1,r2⟩:=ZA q4 q1;exact⟨IR vs,AF q5,hR av _ σ3 ρ' w2 r1 q2 q3 h4 r2⟩
  cases ex with
  |normal=>exact main h1
  |ret=>exact main h1
  |exit id=>exact(ah h1).elim
  |goto l=>exact(ah h1).elim
def Uz(P:Program)(f:Nat)(arg:List Nat)(res:AV):Prop:=
 ∀(s:ByteArray) (w:World),bytesOf s=arg->Calls P f #[.string s] w λe w'=>∃v,e= .returned v/\(∀ρ,VR ρ res v)/\Below w.heap.size w w'
def UA(P:Program)(f ty:Nat)(arg:List Nat)(res:AV):Prop:=
 ∀(blk:Nat) (arr:Array Value) (fr:Nat×Nat) (c:Nat) (w:World),w.heap[blk]? =some (.cells arr ty fr)->(∀(i n:Nat),arg[i]? =some n->arr[i]? =some (Value.int .u8 (n:Nat)))->arg.length<=c->c<=arr.size->
  Calls P f #[.slice (some ⟨blk,0,none⟩) arg.length c] w λe w'=>∃v,e= .returned v/\(∀ρ,VR ρ res v)/\Below w.heap.size w w'
def UB(P:Program)(f:Nat)(res:AV):Prop:=
 ∀(w:World),Calls P f #[] w λe w'=>∃v,e= .returned v/\(∀ρ,VR ρ res v)/\Below w.heap.size w w'
def mC(P:Program):Memo->Prop
 | .mk f none arg res=>Uz P f arg res
 | .mk f (some _) [] res=>UB P f res
 | .mk f (some ty) (a::arg) res=>UA P f ty (a::arg) res
def IV{a b:Option Nat}(h:C6 a b=true):a=b:=by cases a <;> cases b <;> first|rfl|(cases h;done)|(have:=aL h;subst this;rfl)
def mD{f:Nat}{ty:Option Nat}{arg:List Nat}{r:AV}:∀{l:List Memo},d_ f ty arg l=some r->Memo.mk f ty arg r∈l:=by
 intro l
 induction l with
 |nil=>intro h;cases h
 |cons m l ih=>
  intro h
  cases m with
  |mk g u a q=>
   have h:ac (Nat.beq f g) (ac (C6 ty u) (ac (ES arg a) (some q) (d_ f ty arg l)) (d_ f ty arg l)) (d_ f ty arg l)=some r:=h;rw[ar,ar,ar] at h;split at h
   ·rename_i h1;split at h
    ·rename_i h2;split at h
     ·rename_i h3;injection h with h5;have e1:=aL h1;have e2:=IV h2;have e3:=(xm _ _).1 h3;rw[e1,e2,e3,h5];exact aan
     ·exact aaj _ (ih h)
    ·exact aaj _ (ih h)
   ·exact aaj _ (ih h)
def IW{f:Nat}(h:l_ P f=true)(args:Array Value):(callFunc f args).run P w= .ok (.enter f args) w:=by
 unfold l_ at h;split at h
 ·rename_i fn hf;split at h
  ·rename_i c hb;have hn:¬fn.name= "runtime.NumGoroutine" :=by simpa using h
   simp [callFunc,hf,hn,hb]
  ·cases h
 ·cases h
def Good.later{H:T ABlk}{w':World}(hG:Good w0 ρ H w)(hb:Below w.heap.size w w'):Good w0 ρ H w':=
 ⟨⟨hG.below.trans (Kept.of (hb.mono hG.below.size)),λb x hx=>(hG.blk b x hx).keep (Rho.le.refl ρ) λg h hh=>hb.block _ (hG.dom _ _ _ hh).1,λb g h hh=>by
  obtain⟨q1,q2⟩:=hG.dom b g h hh;exact⟨aa5 q1 hb.size,q2⟩,hG.inj,hG.gens,λb arr ty hf=>by
  obtain⟨⟨fr,q1⟩,q2⟩:=hG.frz b arr ty hf;have c8:b<w.heap.size:=by
   rcases aaf b w.heap.size with h'|h'
   ·exact h'
   ·rw[aaT h'] at q1;cases q1
  exact⟨⟨fr,by rw[hb.block b c8];exact q1⟩,q2⟩,hG.frzB,hG.objO⟩,hG.ownB⟩
def L2{M:List Memo}(hM:∀m∈M,mC P m){en:cQ}(hen:AE P w0 en):AE P w0 (K7 P M en):=by
 intro f l vs k σ K ρ w R hS hG hl h hR
 have hit:∀(b7:St) (r:AV),run (ac (l_ P f) (k r) .fail) b7 K=true->SI b7->Good w0 ρ b7.h w->(Calls P f vs.toArray w λe w'=>∃v,e= .returned v/\(∀ρ,VR ρ r v)/\Below w.heap.size w w')->
  (∀args:Array Value,(callFunc f args).run P w= .ok (.enter f args) w)/\CallsIn Fence.wide 0 P f vs.toArray w R:=by
  intro b7 r h b6 b9 hc
  obtain⟨ht,h⟩:=ay h
  refine⟨IW ht,(callsIn_wide.2 hc).mono λe w' he=>?_⟩
  obtain⟨v,rfl,hv,hb⟩:=he
  exact hR r v b7 ρ w' h b6 (b9.later hb) (Rho.le.refl ρ) (hv ρ)
 rcases bU h with⟨_,h⟩|⟨_,h⟩
 case inr=>exact hen f l vs k σ K ρ w R hS hG hl h hR
 have other:∀b7,SI b7->b7.h=σ.h->run (en f l k) b7 K=true->(∀args:Array Value,(callFunc f args).run P w= .ok (.enter f args) w)/\CallsIn Fence.wide 0 P f vs.toArray w R:=λb7 b6 e1 h=>
  hen f l vs k b7 K ρ w R b6 (by rw[e1];exact hG) hl h hR
 cases l with
 |nil=>
  have hv:=hl.nil_inv
  subst hv
  have h:run (cU (d_ f (some 0) [] M) (en f [] k) λr=>ac (l_ P f) (k r) .fail) σ K=true:=h
  cases hr:d_ f (some 0) [] M with
  |none=>rw[hr] at h;exact other σ hS rfl h
  |some r=>rw[hr] at h;have hm:UB P f r:=hM _ (mD hr);exact hit σ r h hS hG (hm w)
 |cons a l=>
  cases l with
  |cons a2 l=>exact other σ hS rfl h
  |nil=>
   have h:run (Zr P M f a k (en f [a] k)) σ K=true:=h
   obtain⟨v,K',rfl,hv,E'⟩:=hl.cons_inv
   have:=E'.nil_inv
   subst this
   cases hv with
   |str s=>
    have h:run (cU (d_ f none (bytesOf s) M) (en f [.str (bytesOf s)] k) λr=>ac (l_ P f) (k r) .fail) σ K=true:=h
    cases hr:d_ f none (bytesOf s) M with
    |none=>rw[hr] at h;exact other σ hS rfl h
    |some r=>rw[hr] at h;have hm:Uz P f (bytesOf s) r:=hM _ (mD hr);exact hit σ r h hS hG (hm s w rfl)
   |slc b g o n cap es a cc hsl=>
    cases cap with
    |some _=>exact other σ hS rfl h
    |none=>
     rcases bU h with⟨ho,h⟩|⟨_,h⟩
     case inr=>exact other σ hS rfl h
     rcases bU h with⟨J',h⟩|⟨_,h⟩
     case inr=>exact other σ hS rfl h
     have ho:=aL ho
     have J':=aL J'
     obtain⟨q,b7,hq,e1,b6,h⟩:=bG hS h
     have b9:Good w0 ρ b7.h w:=by rw[e1];exact hG
     cases q with
     |cells c gen lo hi fl fh ro ty=>
      obtain⟨k1,z1⟩:=ay h
      obtain⟨k2,z2⟩:=ay z1
      obtain⟨k3,z3⟩:=ay z2
      have k1:=aL k1
      have k2:=bY k2
      have k3:=bY k3
      obtain⟨av,z4,hlen,l6⟩:=Zv z3
      obtain⟨bs,hbs,z5⟩:=bT z4
      cases hr:d_ f (some ty) bs M with
      |none=>have z6:run (cU (d_ f (some ty) bs M) (en f [.slc b g o n none es] k) λr=>ac (l_ P f) (k r) .fail) b7 K=true:=z5;rw[hr] at z6;exact other b7 b6 e1 z6
      |some r=>
       have z6:run (cU (d_ f (some ty) bs M) (en f [.slc b g o n none es] k) λr=>ac (l_ P f) (k r) .fail) b7 K=true:=z5;rw[hr] at z6;obtain⟨hlc,ab4⟩:=hsl;obtain⟨hm,hh,hos,ea,ac3⟩:=ab4.resolve_left (λhc=>by omega);subst ho;subst J';have hs0:hm.shift=0:=by omega
       have hB:=hG.blk _ _ hq;obtain⟨hm',q1,_,_,arr,fr,q3,q4,q5,q6⟩:=hB.2 g k2;rw[hh] at q1;injection q1 with q1;subst q1;obtain⟨hbl,al1⟩:=IP (o0:=0) hbs l6 (λo tag a ho ht=>q6 o tag a ho ht) hs0;rw[hlen] at hbl;have hm2:UA P f ty bs r:=by
        have hm3:=hM _ (mD hr)
        cases bs with
        |nil=>simp at hbl;omega
        |cons _ _=>exact hm3
       refine hit b7 r z6 b6 b9 ?_;have:=hm2 hm.blk arr fr cc w q3 (λi m hi=>by have:=al1 i m hi;rwa [aam] at this) (by rw[hbl];exact hlc) (by rw[hs0] at ac3;omega);rw[hbl] at this;rw[ea,hs0];exact this
     |_=>exact(ah h).elim
   |_=>exact other σ hS rfl h
def nF{M:Tab}{x:X}(hx:Dp P w0 x)(hl:Ro P w0 x):Ro P w0 (FX P M x):=by
 intro c env nt f df k σ K ρ w a Q eK rd hW hS hG hE hD h hQ hC b kk cs hro hb hr
 have h:run (x c env nt f eK df λex env df=>(match ex with
  | .normal=>x (.loop c) env nt f eK df k
  |ex=>k ex env df)) σ K=true:=h
 have hc:c.wpIn (fR rd) 0 P (λe a' w'=>match e with | .normal=>jA P rd c Q a' w'|e=>Q e a' w') a w:=by
  refine hx c env nt f df _ σ K ρ w a _ eK rd hW hS hG hE hD h (λex env' df' a9 ρ' w' a' h1 h2 h3 h4 h5 h6=>?_) (hC.sub (λ_=>.loop) rfl)
  cases ex with
  |normal=>exact hl c env' nt f df' k a9 K ρ' w' a' Q eK rd (hW.mono h4) h2 h3 h5 h6 h1 (λex2 ah4 df2 i3 ρ2 w2 a2 g1 g2 g3 g4 g5 g6=>hQ ex2 ah4 df2 i3 ρ2 w2 a2 g1 g2 g3 (h4.trans g4) g5 g6) hC
  |exit id=>exact hQ (.exit id) env' df' a9 ρ' w' a' h1 h2 h3 h4 h5 h6
  |goto l=>exact hQ (.goto l) env' df' a9 ρ' w' a' h1 h2 h3 h4 h5 h6
  |ret=>exact hQ .ret env' df' a9 ρ' w' a' h1 h2 h3 h4 h5 h6
 obtain⟨e,a₁,w₁,hq,ab6⟩:=hc b (.inLoop c::kk) cs hro hb hr
 cases e with
 |normal=>obtain⟨e₂,a₂,w₂,hq₂,harr₂⟩:=hq b kk cs hro hb hr;exact⟨e₂,a₂,w₂,hq₂,.of_steps (StepsIn.trans ab6 (.one (fenced_calm hb hr rfl) stepR_inLoop)) harr₂⟩
 |exit id=>exact⟨_,a₁,w₁,hq,.pass (x:=.inLoop c) rfl (λ_ _=>.inl (by simp)) ab6⟩
 |goto l=>exact⟨_,a₁,w₁,hq,.pass (x:=.inLoop c) rfl (λ_ _=>.inl (by simp)) ab6⟩
 |ret=>exact⟨_,a₁,w₁,hq,.pass (x:=.inLoop c) rfl (λ_ _=>.inl (by simp)) ab6⟩
 |panic ch=>exact⟨_,a₁,w₁,hq,.pass (x:=.inLoop c) rfl (λ_ _=>.inl (by simp)) ab6⟩
 |outgrown=>exact⟨_,a₁,w₁,hq,.pass (x:=.inLoop c) rfl (λ_ _=>.inl (by simp)) ab6⟩
def ZC{av:AV}{v:Value}{t e:Tr}(hv:VR ρ av v)(h:run (Uo av t e) σ K=true):∃b,v= .bool b/\(b=true->run t σ K=true)/\(b=false->run e σ K=true):=by
 cases hv with
 |bool b=>
  rcases bU h with⟨e1,h⟩|⟨e1,h⟩
  ·subst e1;exact⟨true,rfl,λ_=>h,(λe=>by cases e)⟩
  ·subst e1;exact⟨false,rfl,(λe=>by cases e),λ_=>h⟩
 |anyB b=>have hp:=Fd (n:=2) h;exact⟨b,rfl,λ_=>hp 0 (.inl rfl) (λ_=>rfl),λ_=>hp 1 (.inr (by omega)) (λh=>absurd h (by omega))⟩
 |sB p b hb=>
  refine⟨b,rfl,λe1=>?_,λe1=>?_⟩
  ·rcases cX h with⟨_,h⟩|⟨hp,_⟩
   ·exact h
   ·exact absurd (hb.1 e1) hp
  ·rcases cX h with⟨hp,_⟩|⟨_,h⟩
   ·exact absurd (hb.2 hp) (by rw[e1];simp)
   ·exact h
 |_=>exact(ah h).elim
def IX{rd:Option Nat}{c:Code}{Q:Exit->Act->World->Prop}(hc:c.wpIn (fR rd) 0 P (λe a' w'=>match e with | .normal=>jA P rd c Q a' w'|e=>Q e a' w') a w):jA P rd c Q a w:=by
 intro b kk cs hro hb hr
 obtain⟨e,a₁,w₁,hq,ab6⟩:=hc b (.inLoop c::kk) cs hro hb hr
 cases e with
 |normal=>obtain⟨e₂,a₂,w₂,hq₂,harr₂⟩:=hq b kk cs hro hb hr;exact⟨e₂,a₂,w₂,hq₂,.of_steps (StepsIn.trans ab6 (.one (fenced_calm hb hr rfl) stepR_inLoop)) harr₂⟩
 |exit id=>exact⟨_,a₁,w₁,hq,.pass (x:=.inLoop c) rfl (λ_ _=>.inl (by simp)) ab6⟩
 |goto l=>exact⟨_,a₁,w₁,hq,.pass (x:=.inLoop c) rfl (λ_ _=>.inl (by simp)) ab6⟩
 |ret=>exact⟨_,a₁,w₁,hq,.pass (x:=.inLoop c) rfl (λ_ _=>.inl (by simp)) ab6⟩
 |panic ch=>exact⟨_,a₁,w₁,hq,.pass (x:=.inLoop c) rfl (λ_ _=>.inl (by simp)) ab6⟩
 |outgrown=>exact⟨_,a₁,w₁,hq,.pass (x:=.inLoop c) rfl (λ_ _=>.inl (by simp)) ab6⟩
def Fv{rd:Option Nat}{c:Code}{Q:Exit->Act->World->Prop}(h:jA P rd c Q a w):(Code.loop c).wpIn (fR rd) 0 P Q a w:=by intro b k cs hro hb hr;obtain⟨e,a',w',hq,ab6⟩:=h b k cs hro hb hr;exact⟨e,a',w',hq,.of_steps (.one (fenced_calm hb hr rfl) stepR_loop) ab6⟩
def AK{l:Nat}{r:Loop}(h:w.heap[l]? =some (.loop r))(hb:r.state≠ .busy):(Instr.endLoop l).run P w= .ok r.pending {w with heap:=w.heap.setIfInBounds l (.loop {r with state:=.exhausted})}:=by
 have hb':(r.state== .busy)=false:=by cases hs:r.state <;> first|rfl|exact absurd hs hb
 simp only [Instr.endLoop,Instr.getLoop,aab,bx h (by simp),aae,aad,hb',Bool.false_eq_true,if_false,h_ h (by simp)]
def ZD(z:Tr)(go:Code->Tr):Option Code->Tr
 |none=>z
 |some c=>go c
def L3{M:Tab}{x:X}(hx:Dp P w0 x){g:Operand}{ps:Array Tmp}{as bd:Code}{f:Nat}{df:List Nat}{k:XK}{Q:Exit->Act->World->Prop}{eK rd:Option Nat}(hW:RW ρ eK rd)(hS:SI σ)(hG:Good w0 ρ σ.h w)(hE:ER ρ nt env a.tmps)(hD:DR ρ df a.defers)(h:run (FX P M x (.rangeFunc g ps as bd) env nt f eK df k) σ K=true)(hQ:L0 w0 ρ K nt k Q):(Code.rangeFunc g ps as bd).wpIn (fR rd) 0 P Q a w:=by
 cases eK with
 |some _=>exact(ah h).elim
 |none=>
 have hW:rd=none:=hW
 subst hW
 show(Code.rangeFunc g ps as bd).wpIn Fence.wide 0 P Q a w
 have h:run (.new (.dfr true) λd=>.new (.loop .ready none f nt env ps.toList as bd d) λl=>fF env g λg=>
  C5 P x g l id (λc=>ac (zY c) (x c env nt f none (d::df) k) .fail) (k .normal env (d::df))) σ K=true:=h
 obtain⟨d,b7,hn1,aq9,e1,b6,h⟩:=gt hS h
 obtain⟨L',b9⟩:=hG.alloc hn1 aq9 (.dfr true) (.deferred (some [])) 0 0 (λρ' hle q9 _=>⟨_,q9,.new hG.below.size,by simp⟩)
 rw[←e1] at b9
 obtain⟨l,i3,hn2,aq_,e2,i9,h⟩:=gt b6 h
 refine wpIn_rangeFunc λfn' _=>?_
 obtain⟨j0,l8⟩:=b9.alloc hn2 aq_ (.loop .ready none f nt env ps.toList as bd d) (.loop {state:=.ready,pending:=none,fn:=fn',tmps:=a.tmps,params:=ps,assign:=as,body:=bd,defers:=w.heap.size}) 0 0
  (λρ' hle q9 _=>⟨_,q9,.new (by have:=hG.below.size;simp;omega),a.tmps,_,fn',hE.mono (L'.trans hle),hle.at_ _ _ _ (Rho.put_at _ _ _ _),Array.getElem?_push_size⟩)
 rw[←e2] at l8
 obtain⟨av,σ3,e3,hS3,h,hv⟩:=uP (x:=g) i9 l8 (hE.mono (L'.trans j0)) h
 rw[←e3] at l8
 generalize hgv:a.eval g=gv at hv
 cases hv with
 |func fn l1 m1 first captured h1 h2 r1 r2 hf=>
  cases fn with
  |func i=>
   have q1:=LR.of_arr h1 r1
   have q2:=LR.of_arr h2 r2
   have hl:=Rho.put_at (ρ.put d 0 ⟨w.heap.size,0,0⟩) l 0 ⟨(w.heap.push (.deferred (some []))).size,0,0⟩
   have hd:=j0.at_ _ _ _ (Rho.put_at ρ d 0 ⟨w.heap.size,0,0⟩)
   simp only [C5] at h
   have m6:=(q1.append (LR.cons (.yld l _ hl) (LR.nil _))).append q2
   obtain⟨hcf,hci⟩:=iR hx i _ _ _ σ3 K _ _ (rangePost Fence.wide 0 P (w.heap.push (.deferred (some []))).size Q {a with defers:=[{target:=.collected w.heap.size,args:= #[]}]++a.defers}) hS3 l8 m6 h
    (λav v a9 ρ' w' g1 g2 g3 g4 g5=>by
     obtain⟨q,σ4,hq,e4,hS4,g1⟩:=bG g2 g1
     have hG4:Good w0 ρ' σ4.h w':=by rw[e4];exact g3
     cases q with
     |loop st jump fn nt' tmps ps' s9 bd' d'=>
      have E':=g4.at_ _ _ _ hl
      obtain⟨hm,hh,hB,ac6,hd',fn2,b1,b2,j5⟩:=g3.blk _ _ hq
      rw[E'] at hh;injection hh with hh;subst hh
      have fin:st≠ .busy->run (.wr l (.loop .exhausted jump fn nt' tmps ps' s9 bd' d') (ZD (k .normal env (d::df)) (λc=>ac (zY c) (x c env nt f none (d::df) k) .fail) jump)) σ4 K=true->
       rangePost Fence.wide 0 P (w.heap.push (.deferred (some []))).size Q {a with defers:=[{target:=.collected w.heap.size,args:= #[]}]++a.defers} (.returned v) w':=λhb g1=>by
       obtain⟨x0,σ5,hx0,e5,hS5,f9,g1⟩:=ft hS4 g1
       have hG5:=hG4.setObj (hnf:=nf e4 hq hx0 (λh=>h)) (x:=.loop .exhausted jump fn nt' tmps ps' s9 bd' d') (o':=.loop {state:=.exhausted,pending:=jump,fn:=fn2,tmps:=ac6,params:=ps'.toArray,assign:=s9,body:=bd',defers:=hd'.blk}) hx0 f9 E' hB j5
        ⟨_,E',hB,ac6,hd',fn2,b1,b2,nD j5⟩
       rw[←e5] at hG5
       refine⟨jump,_,AK j5 hb, ?_⟩
       have hDD:DR ρ' (d::df) ([{target:=.collected w.heap.size,args:= #[]}]++a.defers):=⟨⟨_,g4.at_ _ _ _ hd,rfl⟩,hD.mono (L'.trans (j0.trans g4))⟩
       have hEE:ER ρ' nt env a.tmps:=hE.mono (L'.trans (j0.trans g4))
       cases jump with
       |none=>exact hQ .normal env (d::df) σ5 ρ' _ {a with defers:=[{target:=.collected w.heap.size,args:= #[]}]++a.defers} g1 hS5 hG5 (L'.trans (j0.trans g4)) hEE hDD
       |some c=>
        obtain⟨hj,g1⟩:=ay g1
        exact hx c env nt f (d::df) k σ5 K ρ' _ {a with defers:=[{target:=.collected w.heap.size,args:= #[]}]++a.defers} Q none none rfl hS5 hG5 hEE hDD g1
         (λex2 ah4 df2 i3 ρ2 w2 a2 c1 c2 c3 c4 c5 c6=>hQ ex2 ah4 df2 i3 ρ2 w2 a2 c1 c2 c3 ((L'.trans (j0.trans g4)).trans c4) c5 c6) (λ_=>.inl hj)
      cases st with
      |busy=>exact(ah g1).elim
      |ready=>exact fin (by simp) (by cases jump <;> exact g1)
      |done=>exact fin (by simp) (by cases jump <;> exact g1)
      |exhausted=>exact fin (by simp) (by cases jump <;> exact g1)
     |_=>exact(ah g1).elim)
   have ea:(first++ #[Value.func (.yield (w.heap.push (.deferred (some []))).size) #[] #[]])++captured=(first.toList++ [Value.func (.yield (w.heap.push (.deferred (some []))).size) #[] #[]]++captured.toList).toArray:=by apply Array.ext';simp
   refine⟨(w.heap.push (.deferred (some []))).size,[{target:=.collected w.heap.size,args:= #[]}],{w with heap:=(w.heap.push (.deferred (some []))).push (.loop {state:=.ready,pending:=none,fn:=fn',tmps:=a.tmps,params:=ps,assign:=as,body:=bd,defers:=w.heap.size})},{target:=.fn (.func i) captured,args:=first++ #[.func (.yield (w.heap.push (.deferred (some []))).size) #[] #[]]},{w with heap:=(w.heap.push (.deferred (some []))).push (.loop {state:=.ready,pending:=none,fn:=fn',tmps:=a.tmps,params:=ps,assign:=as,body:=bd,defers:=w.heap.size})},i,_,_, ?_, ?_,λ_ _=>trivial, ?_,λh=>absurd h (by simp [Fence.wide]),hci⟩
   ·simp only [Instr.enterLoop,Fence.wide,aab,run_newObj,aae,aad]
   ·have ar0:∀v,a.eval (.const v)=v:=λ_=>rfl;simp only [resolve,hgv,Deferred.ofValue,List.map_toArray,aaB,List.map_nil,ar0,aad]
   ·show(callFunc i ((first++ #[Value.func (.yield (w.heap.push (.deferred (some []))).size) #[] #[]])++captured)).run P _=_;rw[ea];exact hcf _
  |_=>exact(ah h).elim
 |_=>exact(ah h).elim
def L4{k:T AV->Tr}:∀(ps:List Nat) (as:List AV) (vs:List Value) (t:T AV) (tmps:Array Value),LR ρ as vs->ER ρ nt t tmps->run (Fc ps as nt t k) σ K=true->
 ∃t',run (k t') σ K=true/\ps.length=vs.length/\ER ρ nt t' ((ps.zip vs).foldl (λtmps x=>tmps.setIfInBounds x.1 x.2) tmps):=by
 intro ps
 induction ps with
 |nil=>
  intro as vs t tmps hl hE h
  cases as with
  |nil=>rw[hl.nil_inv];exact⟨t,h,rfl,hE⟩
  |cons _ _=>exact(ah h).elim
 |cons p ps ih=>
  intro as vs t tmps hl hE h
  cases as with
  |nil=>exact(ah h).elim
  |cons av as=>
   obtain⟨v,K',rfl,hv,E'⟩:=hl.cons_inv
   have h:run (ac (Nat.ble (Nat.succ p) nt) (T.setK t p av λt=>Fc ps as nt t k) .fail) σ K=true:=h
   obtain⟨hp,h⟩:=ay h
   have hp:=bY hp
   rw[T.setK_eq] at h
   have hE':ER ρ nt (t.set p av) (tmps.setIfInBounds p v):=by
    refine⟨by rw[abM];exact hE.size,λi b hb=>?_⟩;by_cases e:i=p
    ·subst e;have:=T.get_set_some _ _ hb;subst this;exact⟨v,by rw[aaG,if_pos rfl,if_pos (by rw[hE.size];omega)],hv⟩
    ·rw[T.get_set_ne _ e] at hb;obtain⟨u,hu,hr⟩:=hE.val i b hb;exact⟨u,by rw[aaG,if_neg (λe'=>e e'.symm)];exact hu,hr⟩
   obtain⟨t',q1,q2,q3⟩:=ih as K' _ _ E' hE' h
   exact⟨t',q1,by simp [q2],q3⟩
def IY{l:Nat}{r:Loop}{vs:List Value}(h:w.heap[l]? =some (.loop r))(hn:r.params.size=vs.length):(Instr.yield l vs.toArray).run P w= .ok (.round l r.fn ((r.params.toList.zip vs).foldl (λtmps x=>tmps.setIfInBounds x.1 x.2) r.tmps) r.assign r.body) w:=by
 have e:r.params.zip vs.toArray=(r.params.toList.zip vs).toArray:=by apply Array.ext';simp
 simp only [Instr.yield,Instr.getLoop,aab,bx h (by simp),aae,aad,List.size_toArray,hn,ne_eq,not_true_eq_false,if_false,e,List.foldl_toArray']
def so{l:Nat}{r:Loop}(h:w.heap[l]? =some (.loop r))(hb:r.state= .ready):(Instr.beginRound l).run P w= .ok () {w with heap:=w.heap.setIfInBounds l (.loop {r with state:=.busy})}:=by simp only [Instr.beginRound,Instr.getLoop,aab,bx h (by simp),aae,aad,h_ h (by simp),hb]
def xA{l:Nat}{r:Loop}(jump:Option Code)(h:w.heap[l]? =some (.loop r)):(Instr.endRound l jump).run P w= .ok (.bool jump.isNone) {w with heap:=w.heap.setIfInBounds l (.loop {r with state:=if jump.isNone then .ready else .done,pending:=jump})}:=by simp only [Instr.endRound,Instr.getLoop,aab,bx h (by simp),aae,aad,h_ h (by simp)]
def vo{x:X}(hx:Dp P w0 x):Rg P w0 (C3 x):=by
 intro l as vs k σ K ρ w R hS hG hl h hR
 obtain⟨q,b7,hq,e1,b6,h⟩:=bG hS h
 have b9:Good w0 ρ b7.h w:=by rw[e1];exact hG
 cases q with
 |loop st jump fn nt tmps ps asg bd d=>
  obtain⟨hm,hh,hB,ac6,hd,fn',b1,b2,j5⟩:=hG.blk _ _ hq
  obtain⟨env,h,hlen,hE⟩:=L4 _ _ _ _ _ hl b1 h
  refine⟨hm,hh,_,_,_,_,IY j5 (by simpa using hlen),roundIn_of_wpIn trivial ?_⟩
  refine hx asg env nt fn [] _ b7 K ρ w _ _ (some l) (some hm.blk) ⟨hm,hh,rfl⟩ b6 b9 hE trivial h (λex env' df' a9 ρ' w' a' g1 g2 g3 g4 g5 g6=>?_) .round
  cases ex with
  |normal=>
   cases df' with
   |cons _ _=>exact(ah g1).elim
   |nil=>
    obtain⟨q2,i3,hq2,e2,i9,g1⟩:=bG g2 g1
    have l8:Good w0 ρ' i3.h w':=by rw[e2];exact g3
    cases q2 with
    |loop st2 aj8 fn2 nt2 ao5 ps2 as2 bd2 d2=>
     cases st2 with
     |ready=>
      have j9:=g4.at_ _ _ _ hh
      obtain⟨hm2,hh2,hB2,ah5,hd2,ao6,c1,c2,ac_⟩:=g3.blk _ _ hq2
      rw[j9] at hh2;injection hh2 with hh2;subst hh2
      obtain⟨x0,σ3,hx0,e3,hS3,f9,g1⟩:=ft i9 g1
      have hG3:=l8.setObj (hnf:=nf e2 hq2 hx0 (λh=>h)) (x:=.loop .busy aj8 fn2 nt2 ao5 ps2 as2 bd2 d2) (o':=.loop {state:=.busy,pending:=aj8,fn:=ao6,tmps:=ah5,params:=ps2.toArray,assign:=as2,body:=bd2,defers:=hd2.blk}) hx0 f9 j9 hB2 ac_
       ⟨_,j9,hB2,ah5,hd2,ao6,c1,c2,nD ac_⟩
      rw[←e3] at hG3
      refine⟨_,so ac_ rfl, ?_⟩
      refine hx bd env' nt fn2 [] _ σ3 K ρ' _ a' _ (some l) (some hm.blk) ⟨hm,j9,rfl⟩ hS3 hG3 g5 g6 g1 (λex3 au3 df3 σ4 ρ4 w4 a4 k1 k2 k3 k4 k5 k6=>?_) .round
      have fin:∀jp,run (iM l jp k) σ4 K=true->∃v w5,(Instr.endRound hm.blk jp).run P w4= .ok v w5/\R (.returned v) w5:=λjp k1=>by
       obtain⟨q3,σ5,hq3,e5,hS5,k1⟩:=bG k2 k1
       have hG5:Good w0 ρ4 σ5.h w4:=by rw[e5];exact k3
       cases q3 with
       |loop st3 at6 fn3 nt3 ag4 ps3 as3 bd3 d3=>
        have hh4:=k4.at_ _ _ _ j9
        obtain⟨hm3,hh3,hB3,ae4,hd3,ai9,c3,c4,ad1⟩:=k3.blk _ _ hq3
        rw[hh4] at hh3;injection hh3 with hh3;subst hh3
        obtain⟨x1,σ6,hx1,e6,hS6,ao7,k1⟩:=ft hS5 k1
        refine⟨_,_,xA jp ad1, ?_⟩
        cases jp with
        |none=>
         have hG6:=hG5.setObj (hnf:=nf e5 hq3 hx1 (λh=>h)) (x:=.loop .ready none fn3 nt3 ag4 ps3 as3 bd3 d3) (o':=.loop {state:=.ready,pending:=none,fn:=ai9,tmps:=ae4,params:=ps3.toArray,assign:=as3,body:=bd3,defers:=hd3.blk}) hx1 ao7 hh4 hB3 ad1
          ⟨_,hh4,hB3,ae4,hd3,ai9,c3,c4,nD ad1⟩
         have e6:σ6.h=σ5.h.set l (.loop .ready none fn3 nt3 ag4 ps3 as3 bd3 d3):=e6;rw[←e6] at hG6;exact hR (.bool true) _ σ6 ρ4 _ k1 hS6 hG6 (g4.trans k4) (.bool true)
        |some jc=>
         have hG6:=hG5.setObj (hnf:=nf e5 hq3 hx1 (λh=>h)) (x:=.loop .done (some jc) fn3 nt3 ag4 ps3 as3 bd3 d3) (o':=.loop {state:=.done,pending:=some jc,fn:=ai9,tmps:=ae4,params:=ps3.toArray,assign:=as3,body:=bd3,defers:=hd3.blk}) hx1 ao7 hh4 hB3 ad1
          ⟨_,hh4,hB3,ae4,hd3,ai9,c3,c4,nD ad1⟩
         have e6:σ6.h=σ5.h.set l (.loop .done (some jc) fn3 nt3 ag4 ps3 as3 bd3 d3):=e6;rw[←e6] at hG6;exact hR (.bool false) _ σ6 ρ4 _ k1 hS6 hG6 (g4.trans k4) (.bool false)
       |_=>exact(ah k1).elim
      cases df3 with
      |cons _ _=>exact(ah k1).elim
      |nil=>
       cases ex3 with
       |normal=>exact fin none k1
       |ret=>exact fin (some .ret) k1
       |exit id=>exact fin (some (.exit id)) k1
       |goto t=>exact fin (some (.goto t)) k1
     |_=>exact(ah g1).elim
    |_=>exact(ah g1).elim
  |_=>exact(ah g1).elim
 |_=>exact(ah h).elim
def Wr(P:Program)(w0:World)(f:Nat)(l:List AV)(t:(AV->Tr)->Tr):Prop:=
 ∀(vs:List Value) (k:AV->Tr) (σ:St) (K:Fin) (ρ:Rho) (w:World) (R:Ending->World->Prop),SI σ->Good w0 ρ σ.h w->LR ρ l vs->run (t k) σ K=true->
  (∀av v a9 ρ' w',run (k av) a9 K=true->SI a9->Good w0 ρ' a9.h w'->ρ.le ρ'->VR ρ' av v->R (.returned v) w')->
  (∀args:Array Value,(callFunc f args).run P w= .ok (.enter f args) w)/\CallsIn Fence.wide 0 P f vs.toArray w R
def UC(P:Program)(w0:World)(fn id:Nat)(t:Nat->T AV->(AEx->T AV->Tr)->Tr):Prop:=
 ∀(c:Code) (env:T AV) (nt:Nat) (k:XK) (σ:St) (K:Fin) (ρ:Rho) (w:World) (a:Act) (Q:Exit->Act->World->Prop),SI σ->Good w0 ρ σ.h w->ER ρ nt env a.tmps->a.defers= []->
  run (t nt env λex env=>k ex env []) σ K=true->L0 w0 ρ K nt k Q->(∃f b,P.funcs[fn]? =some f/\f.body=some b/\SubC (.block id c) b)->(Code.block id c).wpIn (fR none) 0 P Q a w
structure TabOk(P:Program)(M:Tab):Prop where
 memos:∀m∈M.memos,mC P m
 con:∀w0 f l t,M.con f l=some t->Wr P w0 f l t
 blk:∀w0 fn id t,M.blk fn id=some t->UC P w0 fn id t
def AL{M:Tab}(hM:TabOk P M){en:cQ}(hen:AE P w0 en):AE P w0 (K8 P M en):=by
 intro f l vs k σ K ρ w R hS hG hl h hR
 have h:run (cU (M.con f l) (K7 P M.memos en f l k) λt=>t k) σ K=true:=h
 cases hc:M.con f l with
 |none=>rw[hc] at h;exact L2 hM.memos hen f l vs k σ K ρ w R hS hG hl h hR
 |some t=>rw[hc] at h;exact hM.con w0 f l t hc vs k σ K ρ w R hS hG hl h hR
def xB{M:Tab}(hM:TabOk P M){x:X}(hx:Dp P w0 x)(hl:Ro P w0 x):Dp P w0 (FX P M x):=by
 intro c env nt f df k σ K ρ w a Q eK rd hW hS hG hE hD h hQ hC
 have here:∀{ex:AEx},run (k ex env df) σ K=true->Q (YX ex) a w:=λh=>hQ _ env df σ ρ w a h hS hG (Rho.le.refl ρ) hE hD
 cases c with
 |skip=>exact wpIn_skip (here (ex:=.normal) h)
 |label l=>exact wpIn_label (here (ex:=.normal) h)
 |ret=>exact wpIn_ret (here (ex:=.ret) h)
 |exit id=>exact wpIn_exit (here (ex:=.exit id) h)
 |goto l=>exact wpIn_goto (here (ex:=.goto l) h)
 |region id ops draw=>
  cases draw with
  |true=>obtain⟨hm,h⟩:=ay h;obtain⟨hnt,h⟩:=ay h;obtain⟨htm,h⟩:=ay h;exact Rn (AL hM (iR hx)) (vo hx) (bY hnt) hm ρ a.defers (λenv' a9 ρ' a' w' h1 h2 h3 h4 h5 h6=>hQ .normal env' df a9 ρ' w' a' h1 h2 h3 h4 h5 (by rw[h6];exact hD.mono h4)) htm h hS hG (Rho.le.refl ρ) hE rfl id
  |false=>refine wpIn_region_list (Ri (AL hM (iR hx)) (vo hx) ρ a.defers (λenv' a9 ρ' a' w' h1 h2 h3 h4 h5 h6=>?_) _ env σ ρ a w h hS hG (Rho.le.refl ρ) hE rfl);exact hQ .normal env' df a9 ρ' w' a' h1 h2 h3 h4 h5 (by rw[h6];exact hD.mono h4)
 |seq c d=>
  refine wpIn_seq (hx c env nt f df _ σ K ρ w a _ eK rd hW hS hG hE hD h (λex env' df' a9 ρ' w' a' h1 h2 h3 h4 h5 h6=>?_) (hC.sub (λ_=>.seqL) rfl))
  cases ex with
  |normal=>exact hx d env' nt f df' k a9 K ρ' w' a' Q eK rd (hW.mono h4) h2 h3 h5 h6 h1 (λex2 ah4 df2 i3 ρ2 w2 a2 g1 g2 g3 g4 g5 g6=>hQ ex2 ah4 df2 i3 ρ2 w2 a2 g1 g2 g3 (h4.trans g4) g5 g6) (hC.sub (λ_=>.seqR) rfl)
  |exit id=>exact hQ (.exit id) env' df' a9 ρ' w' a' h1 h2 h3 h4 h5 h6
  |goto l=>exact hQ (.goto l) env' df' a9 ρ' w' a' h1 h2 h3 h4 h5 h6
  |ret=>exact hQ .ret env' df' a9 ρ' w' a' h1 h2 h3 h4 h5 h6
 |cond x c d=>
  obtain⟨av,b7,e1,b6,h,hv⟩:=uP hS hG hE h
  have b9:Good w0 ρ b7.h w:=by rw[e1];exact hG
  obtain⟨b,hxv,ht,he⟩:=ZC hv h
  refine wpIn_cond hxv ?_
  cases b with
  |true=>exact hx c env nt f df k b7 K ρ w a Q eK rd hW b6 b9 hE hD (ht rfl) hQ (hC.sub (λ_=>.condL) rfl)
  |false=>exact hx d env nt f df k b7 K ρ w a Q eK rd hW b6 b9 hE hD (he rfl) hQ (hC.sub (λ_=>.condR) rfl)
 |block id c=>
  cases hc:(match eK,df with|none,[]=>M.blk f id|_,_=>none) with
  |some t=>
   have h:run (cU (match eK,df with|none,[]=>M.blk f id|_,_=>none) (x c env nt f eK df λex env df=>(match ex with
    | .exit id'=>ac (Nat.beq id' id) (k .normal env df) (k (.exit id') env df)
    |ex=>k ex env df)) λt=>t nt env λex env=>k ex env df) σ K=true:=h
   rw[hc] at h
   cases eK with
   |some _=>cases hc
   |none=>
    cases df with
    |cons _ _=>cases hc
    |nil=>
     have hd0:a.defers= []:=by
      cases hd:a.defers with
      |nil=>rfl
      |cons _ _=>rw[hd] at hD;exact hD.elim
     have hW:rd=none:=hW;subst hW;refine hM.blk w0 f id t hc c env nt k σ K ρ w a Q hS hG hE hd0 h hQ ?_;rcases hC rfl with hj|hj
     ·cases hj
     ·exact hj
  |none=>
  have h:run (cU (match eK,df with|none,[]=>M.blk f id|_,_=>none) (x c env nt f eK df λex env df=>(match ex with
   | .exit id'=>ac (Nat.beq id' id) (k .normal env df) (k (.exit id') env df)
   |ex=>k ex env df)) λt=>t nt env λex env=>k ex env df) σ K=true:=h
  rw[hc] at h
  refine wpIn_block (hx c env nt f df _ σ K ρ w a _ eK rd hW hS hG hE hD h (λex env' df' a9 ρ' w' a' h1 h2 h3 h4 h5 h6=>?_) (hC.sub (λ_=>.block) rfl))
  cases ex with
  |normal=>exact hQ .normal env' df' a9 ρ' w' a' h1 h2 h3 h4 h5 h6
  |exit id'=>
   rcases bU h1 with⟨e,h1'⟩|⟨e,h1'⟩
   ·have e:=aL e;show(if id'=id then Q .normal a' w' else Q (.exit id') a' w');rw[if_pos e];exact hQ .normal env' df' a9 ρ' w' a' h1' h2 h3 h4 h5 h6
   ·show(if id'=id then Q .normal a' w' else Q (.exit id') a' w');rw[if_neg (λe'=>by subst e';simp at e)];exact hQ (.exit id') env' df' a9 ρ' w' a' h1' h2 h3 h4 h5 h6
  |goto l=>exact hQ (.goto l) env' df' a9 ρ' w' a' h1 h2 h3 h4 h5 h6
  |ret=>exact hQ .ret env' df' a9 ρ' w' a' h1 h2 h3 h4 h5 h6
 |loop c=>exact Fv (nF hx hl c env nt f df k σ K ρ w a Q eK rd hW hS hG hE hD h hQ hC)
 |rangeFunc g ps as bd=>exact L3 hx hW hS hG hE hD h hQ
 |_=>exact(ah h).elim
end
end Go.Sym
namespace Go.Sym
open Go.RowKit (Below)
def qR(P:Program){M:Tab}(hM:TabOk P M)(w0:World):∀n:Nat,Dp P w0 (xj P M n)/\Ro P w0 (xj P M n):=by
 intro n
 induction n with
 |zero=>exact⟨λc env nt f df k σ K ρ w a Q eK rd hW hS hG hE hD h hQ hC=>(ah h).elim,λc env nt f df k σ K ρ w a Q eK rd hW hS hG hE hD h hQ hC=>(ah h).elim⟩
 |succ n ih=>exact⟨xB hM ih.1 ih.2,nF ih.1 ih.2⟩
def nG{H:T ABlk}{next:Nat}(h1:1<=next)(h2:next<=1000000001):SI (start H next):=
 ⟨h1,h2,aap _,by simp,λy hy=>by simp [T.get] at hy⟩
end Go.Sym
namespace Go.Sym
open Go.RowKit (Below)
def EvTo(r:Fin->Bool)(Φ:AV->St->Prop):Prop:=∃a σ,(∀K,r K=K a σ)/\Φ a σ
def Stop(p:Prop):Prop:=p
end Go.Sym
namespace Go.Sym
noncomputable section
inductive Hn where
 |nil
 |both (a b:Hn)
 |yes (a:Hn)
 |no (a:Hn)
inductive Fm where
 |tt
 |ff
 |at(p:Prop)
 |an (p:Prop) (f:Fm)
 |two (p:Prop) (f g:Fm)
 |al (p:Sy->Prop) (f:Sy->Fm)
def Fm.den:Fm->Prop
 | .tt=>True
 | .ff=>False
 | .at p=>p
 | .an p f=>p/\(p->f.den)
 | .two p f g=>(p->f.den)/\(¬p->g.den)
 | .al p f=>∀y,p y->(f y).den
abbrev Lf:=AV->St->Hn->Fm
def me(fs b:Nat)(t:T Unit)(k:T Unit->Fm):Fm:=ac (Nat.ble fs b) (k t) (T.setK t b () k)
def mE(fs b:Nat)(w:List Nat)(k:List Nat->Fm):Fm:=ac (Nat.ble fs b) (k w) (k (b::w))
def kP(fs:Nat):List Nat->T Unit->(T Unit->Fm)->Fm:=λl=>
 List.rec (motive:=λ_=>T Unit->(T Unit->Fm)->Fm) (λt k=>k t) (λb _ ih t k=>me fs b t λt=>ih t k) l
def iS(fs:Nat):List Nat->List Nat->(List Nat->Fm)->Fm:=λl=>
 List.rec (motive:=λ_=>List Nat->(List Nat->Fm)->Fm) (λt k=>k t) (λb _ ih t k=>mE fs b t λt=>ih t k) l
def kQ(fs b:Nat)(t:T Unit)(k:T Unit->Fm):me fs b t k=k (note fs b t):=by
 unfold me note;rw[ar,T.setK_eq];by_cases h:fs<=b
 ·simp [Nat.ble_eq,h]
 ·have:Nat.ble fs b=false:=by
   cases hb:Nat.ble fs b with
   |false=>rfl
   |true=>exact absurd (Nat.ble_eq.mp hb) h
  simp [this,h]
def pm(fs b:Nat)(w:List Nat)(k:List Nat->Fm):mE fs b w k=k (gT fs b w):=by
 unfold mE gT;rw[ar];by_cases h:fs<=b
 ·simp [Nat.ble_eq,h]
 ·have:Nat.ble fs b=false:=by
   cases hb:Nat.ble fs b with
   |false=>rfl
   |true=>exact absurd (Nat.ble_eq.mp hb) h
  simp [this,h]
def qa(fs:Nat):∀(l:List Nat) (t:T Unit) (k:T Unit->Fm),kP fs l t k=k (fS fs l t):=by
 intro l
 induction l with
 |nil=>intro t k;rfl
 |cons b l ih=>intro t k;show me fs b t (λt=>kP fs l t k)=_;rw[kQ,ih];rfl
def nI(fs:Nat):∀(l:List Nat) (t:List Nat) (k:List Nat->Fm),iS fs l t k=k (fk fs l t):=by
 intro l
 induction l with
 |nil=>intro t k;rfl
 |cons b l ih=>intro t k;show mE fs b t (λt=>iS fs l t k)=_;rw[pm,ih];rfl
def UD(_:St)(_:Lf)(_:Hn):Fm:=.ff
def ZE(a:AV)(σ:St)(K:Lf)(h:Hn):Fm:=K a σ h
def eRd(b:Nat)(_:ABlk->Tr)(ih:ABlk->St->Lf->Hn->Fm)(σ:St)(K:Lf)(hn:Hn):Fm:=
 St.rec (motive:=λ_=>Fm) (λh n fs t w=>ac (Nat.ble (Nat.succ b) n) (T.getK h b .ff λx=>me fs b t λt=>ih x (.mk h n fs t w) K hn) .ff) σ
def eWr(b:Nat)(x:ABlk)(_:Tr)(ih:St->Lf->Hn->Fm)(σ:St)(K:Lf)(hn:Hn):Fm:=
 St.rec (motive:=λ_=>Fm) (λh n fs t w=>ac (Nat.ble (Nat.succ b) n) (T.getK h b .ff λ_=>T.setK h b x λh=>me fs b t λt=>mE fs b w λw=>ih (.mk h n fs t w) K hn) .ff) σ
def ZF(x:ABlk)(_:Nat->Tr)(ih:Nat->St->Lf->Hn->Fm)(σ:St)(K:Lf)(hn:Hn):Fm:=
 St.rec (motive:=λ_=>Fm) (λh n fs t w=>ac (Nat.ble n 1000000000) (T.getK h n (T.setK h n x λh=>fN (Nat.succ n) λm=>ih n (.mk h m fs t w) K hn) λ_=>.ff) .ff) σ
def ZG(n:Nat)(_:Nat->Tr)(ih:Nat->St->Lf->Hn->Fm)(σ:St)(K:Lf)(hn:Hn):Fm:=ac (Nat.ble n 1) (ih 0 σ K hn) .ff
def ZH(_:Tr)(_:AV->Nat->Nat->T Unit->List Nat->Tr)(it:St->Lf->Hn->Fm)(ik:AV->Nat->Nat->T Unit->List Nat->St->Lf->Hn->Fm)(σ:St)(K:Lf)(hn:Hn):Fm:=
 St.rec (motive:=λ_=>Fm) (λh n fs t w=>it (.mk h n n .leaf []) (λa a9 hn=>
  St.rec (motive:=λ_=>Fm) (λh' n' _ t' w'=>ac (Nat.beq fs 0) (ik a n n' t' w' (.mk h' n' fs t w) K hn)
   (kP fs (T.keys t' id []) t λt2=>iS fs w' w λw2=>ik a n n' t' w' (.mk h' n' fs t2 w2) K hn)) a9) hn) σ
def IZ(p:Prop)(_ _:Tr)(it ie:St->Lf->Hn->Fm)(σ:St)(K:Lf)(hn:Hn):Fm:=
 Hn.rec (motive:=λ_=>Fm) (.two p (it σ K .nil) (ie σ K .nil)) (λa b _ _=>.two p (it σ K a) (ie σ K b)) (λa _=>.an p (it σ K a)) (λa _=>.an (¬p) (ie σ K a)) hn
def ZI(p:Prop)(_:Tr)(it:St->Lf->Hn->Fm)(σ:St)(K:Lf)(hn:Hn):Fm:=.an p (it σ K hn)
def eSk(p:Sy->Prop)(_:{y:Sy // p y})(_:Sy->Tr)(ik:Sy->St->Lf->Hn->Fm)(σ:St)(K:Lf)(hn:Hn):Fm:=.al p λy=>ik y σ K hn
def CI(t:Tr):St->Lf->Hn->Fm:=Tr.rec (motive:=λ_=>St->Lf->Hn->Fm) UD ZE eRd eWr ZF ZG ZH IZ ZI eSk t
def EvTo.congr{r r':Fin->Bool}{Φ:AV->St->Prop}(h:∀K,r K=r' K)(he:EvTo r' Φ):EvTo r Φ:=by obtain⟨a,σ,e,q⟩:=he;exact⟨a,σ,λK=>(h K).trans (e K),q⟩
def Dq:∀(t:Tr) (σ:St) (K:Lf) (hn:Hn),(CI t σ K hn).den->EvTo (run t σ) λa a9=>∃hn',(K a a9 hn').den:=by
 intro t
 induction t with
 |fail=>intro σ K hn h;exact h.elim
 |ret a=>intro σ K hn h;exact⟨a,σ,λ_=>rfl,hn,h⟩
 |rd b k ih=>
  intro σ K hn h
  cases σ with
  |mk H n fs t w=>
   have h:(ac (Nat.ble (Nat.succ b) n) (T.getK H b Fm.ff λx=>me fs b t λt=>CI (k x) (.mk H n fs t w) K hn) .ff).den:=h;rw[ar] at h;split at h
   ·rename_i hb;have hb:=aaw hb;rw[T.getK_eq] at h;split at h
    ·exact h.elim
    ·rename_i x hx;rw[kQ] at h;refine(ih x _ K hn h).congr λK=>?_;rw[iu,if_pos (show b<n from hb),hx]
   ·exact h.elim
 |wr b x k ih=>
  intro σ K hn h
  cases σ with
  |mk H n fs t w=>
   have h:(ac (Nat.ble (Nat.succ b) n) (T.getK H b Fm.ff λ_=>T.setK H b x λH=>me fs b t λt=>mE fs b w λw=>CI k (.mk H n fs t w) K hn) .ff).den:=h;rw[ar] at h;split at h
   ·rename_i hb;have hb:=aaw hb;rw[T.getK_eq] at h;split at h
    ·exact h.elim
    ·rename_i y hy;rw[T.setK_eq,kQ,pm] at h;refine(ih _ K hn h).congr λK=>?_;rw[kB,if_pos (show b<n from hb),hy]
   ·exact h.elim
 |new x k ih=>
  intro σ K hn h
  cases σ with
  |mk H n fs t w=>
   have h:(ac (Nat.ble n 1000000000) (T.getK H n (T.setK H n x λH=>fN (Nat.succ n) λm=>CI (k n) (.mk H m fs t w) K hn) λ_=>Fm.ff) .ff).den:=h;rw[ar] at h;split at h
   ·rename_i hb;have hb:=aaw hb;rw[T.getK_eq] at h;split at h
    ·rename_i hx;rw[T.setK_eq,rB] at h;refine(ih n _ K hn h).congr λK=>?_;rw[gU,if_pos hb,hx]
    ·exact h.elim
   ·exact h.elim
 |pick n k ih=>
  intro σ K hn h;have h:(ac (Nat.ble n 1) (CI (k 0) σ K hn) .ff).den:=h;rw[ar] at h;split at h
  ·rename_i hb;refine(ih 0 σ K hn h).congr λK=>?_;show ac (Nat.ble n 1) (run (k 0) σ K) _=_;rw[ar,if_pos hb]
  ·exact h.elim
 |sub t k iht ihk=>
  intro σ K hn h
  cases σ with
  |mk H n fs tc w=>
   obtain⟨a,a9,e,hn',h2⟩:=iht _ _ _ h
   cases a9 with
   |mk h' n' f' t' w'=>
    have h2:(ac (Nat.beq fs 0) (CI (k a n n' t' w') (.mk h' n' fs tc w) K hn')
     (kP fs (T.keys t' id []) tc λt2=>iS fs w' w λw2=>CI (k a n n' t' w') (.mk h' n' fs t2 w2) K hn')).den:=h2
    rw[ar,qa,nI] at h2;by_cases hf:fs=0
    ·subst hf;rw[if_pos (show Nat.beq 0 0=true from rfl)] at h2;refine(ihk a n n' t' w' _ K hn' h2).congr λK=>?_;rw[gV,e];simp
    ·have:¬Nat.beq fs 0=true:=λhb=>hf (aac hb);rw[if_neg this] at h2;refine(ihk a n n' t' w' _ K hn' h2).congr λK=>?_;rw[gV,e];simp [hf]
 |ask p t e iht ihe=>
  intro σ K hn h
  have both:∀a b,(Fm.two p (CI t σ K a) (CI e σ K b)).den->EvTo (run (.ask p t e) σ) λa a9=>∃hn',(K a a9 hn').den:=λa b h=>by
   by_cases hp:p
   ·exact(iht σ K a (h.1 hp)).congr λK=>fm _ _ _ _ hp
   ·exact(ihe σ K b (h.2 hp)).congr λK=>fo _ _ _ _ hp
  cases hn with
  |nil=>exact both _ _ h
  |both a b=>exact both _ _ h
  |yes a=>have h:(Fm.an p (CI t σ K a)).den:=h;exact(iht σ K a (h.2 h.1)).congr λK=>fm _ _ _ _ h.1
  |no a=>have h:(Fm.an (¬p) (CI e σ K a)).den:=h;exact(ihe σ K a (h.2 h.1)).congr λK=>fo _ _ _ _ h.1
 |req p t ih=>intro σ K hn h;have h:(Fm.an p (CI t σ K hn)).den:=h;exact(ih σ K hn (h.2 h.1)).congr λK=>fq _ _ _ h.1
 |sk p z k ih=>intro σ K hn h;have h:(Fm.al p λy=>CI (k y) σ K hn).den:=h;exact ih z.1 σ K hn (h z.1 z.2)
end
end Go.Sym
