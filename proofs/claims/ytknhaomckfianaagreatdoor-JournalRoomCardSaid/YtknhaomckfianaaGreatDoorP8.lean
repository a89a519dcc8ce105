/- Part 8. -/
import Derived.ChangeArms
import Derived.DataReads
import GoSem.ClaimJoined
import Derived.Test.YtknhaomckfianaaGreatDoorP7
set_option linter.all false
namespace Go.Sym
open Go.RowKit (Below)
noncomputable section
def bv:Code->List Nat
 | .block j a=>j::bv a
 | .seq a b=>bv a++bv b
 | .cond _ a b=>bv a++bv b
 | .loop a=>bv a
 |_=>[]
def bc(id:Nat):Code->Option Code
 | .block j a=>aa (Nat.beq j id) (some a) (bc id a)
 | .seq a b=>Option.rec (motive:=λ_=>Option Code) (bc id b) some (bc id a)
 | .cond _ a b=>Option.rec (motive:=λ_=>Option Code) (bc id b) some (bc id a)
 | .loop a=>bc id a
 |_=>none
def LP(n:Nat)(l:List Nat):Bool:=List.rec (motive:=λ_=>Bool) false (λx _ ih=>aa (Nat.beq x n) true ih) l
def pO:List Nat->Bool
 | []=>true
 |x::l=>aa (LP x l) false (pO l)
def HR{n:Nat}:∀{l:List Nat},LP n l=true↔n∈l:=by
 intro l
 induction l with
 |nil=>exact⟨λh=>(by cases h),λh=>(by cases h)⟩
 |cons x l ih=>
  show aa (Nat.beq x n) true (LP n l)=true↔_;rw[ak];split
  ·rename_i e;have:=aae e;subst this;simp
  ·rename_i e;rw[ih];exact⟨λh=>by simp [h],λh=>by rcases List.mem_cons.1 h with h|h;exact absurd (by rw[h];exact abl _) e;exact h⟩
def EG:∀{l:List Nat},pO l=true->l.Nodup:=by
 intro l
 induction l with
 |nil=>intro _;exact List.nodup_nil
 |cons x l ih=>intro h;have h:aa (LP x l) false (pO l)=true:=h;obtain⟨h1,h2⟩:=zi h;refine List.nodup_cons.2 ⟨λhm=>?_,ih h2⟩;rw[HR.2 hm] at h1;cases h1
def Aq{id:Nat}:∀{c:Code},id∈bv c->∃d,bc id c=some d:=by
 intro c
 induction c with
 |block j a ih=>
  intro h;show ∃d,aa (Nat.beq j id) (some a) (bc id a)=some d;rw[ak];split
  ·exact⟨_,rfl⟩
  ·rename_i e;rcases List.mem_cons.1 h with h|h
   ·exact absurd (by rw[h];exact abl _) e
   ·exact ih h
 |seq a b iha ihb=>
  intro h
  show ∃d,Option.rec (motive:=λ_=>Option Code) (bc id b) some (bc id a)=some d
  cases ha:bc id a with
  |some d=>exact⟨d,rfl⟩
  |none=>
   rcases List.mem_append.1 h with h|h
   ·obtain⟨d,e⟩:=iha h;rw[ha] at e;cases e
   ·exact ihb h
 |cond x a b iha ihb=>
  intro h
  show ∃d,Option.rec (motive:=λ_=>Option Code) (bc id b) some (bc id a)=some d
  cases ha:bc id a with
  |some d=>exact⟨d,rfl⟩
  |none=>
   rcases List.mem_append.1 h with h|h
   ·obtain⟨d,e⟩:=iha h;rw[ha] at e;cases e
   ·exact ihb h
 |loop a ih=>intro h;exact ih h
 |_=>intro h;cases h
def Ar{id:Nat}:∀{c:Code},id∉bv c->bc id c=none:=by
 intro c
 induction c with
 |block j a ih=>intro h;show aa (Nat.beq j id) (some a) (bc id a)=none;rw[ak,if_neg (λe=>h (by have:=aae e;subst this;exact aaj))];exact ih λhm=>h (aag _ hm)
 |seq a b iha ihb=>intro h;show Option.rec (motive:=λ_=>Option Code) (bc id b) some (bc id a)=none;rw[iha λhm=>h (List.mem_append.2 (.inl hm))];exact ihb λhm=>h (List.mem_append.2 (.inr hm))
 |cond x a b iha ihb=>intro h;show Option.rec (motive:=λ_=>Option Code) (bc id b) some (bc id a)=none;rw[iha λhm=>h (List.mem_append.2 (.inl hm))];exact ihb λhm=>h (List.mem_append.2 (.inr hm))
 |loop a ih=>intro h;exact ih h
 |_=>intro h;rfl
def jD{id:Nat}{a b:Code}{f:Code}(hf:bc id f=Option.rec (motive:=λ_=>Option Code) (bc id b) some (bc id a))(hn:(bv a++bv b).Nodup):
 (id∈bv a->bc id f=bc id a)/\(id∈bv b->bc id f=bc id b):=by
 refine⟨λh=>?_,λh=>?_⟩
 ·obtain⟨d,e⟩:=Aq h;rw[hf,e]
 ·have:id∉bv a:=λha=>(List.nodup_append.1 hn).2.2 id ha id h rfl;rw[hf,Ar this]
def EH{d c:Code}(h:SubC d c)(hn:(bv c).Nodup):(bv d).Nodup/\∀id,id∈bv d->bc id c=bc id d:=by
 induction h with
 |refl c=>exact⟨hn,λ_ _=>rfl⟩
 | @seqL a b c h ih=>obtain⟨h1,h2⟩:=ih hn;have h1:(bv a++bv b).Nodup:=h1;exact⟨(List.nodup_append.1 h1).1,λid hm=>(h2 id (List.mem_append.2 (.inl hm))).trans ((jD (f:=.seq a b) rfl h1).1 hm)⟩
 | @seqR a b c h ih=>obtain⟨h1,h2⟩:=ih hn;have h1:(bv a++bv b).Nodup:=h1;exact⟨(List.nodup_append.1 h1).2.1,λid hm=>(h2 id (List.mem_append.2 (.inr hm))).trans ((jD (f:=.seq a b) rfl h1).2 hm)⟩
 | @condL x a b c h ih=>obtain⟨h1,h2⟩:=ih hn;have h1:(bv a++bv b).Nodup:=h1;exact⟨(List.nodup_append.1 h1).1,λid hm=>(h2 id (List.mem_append.2 (.inl hm))).trans ((jD (f:=.cond x a b) rfl h1).1 hm)⟩
 | @condR x a b c h ih=>obtain⟨h1,h2⟩:=ih hn;have h1:(bv a++bv b).Nodup:=h1;exact⟨(List.nodup_append.1 h1).2.1,λid hm=>(h2 id (List.mem_append.2 (.inr hm))).trans ((jD (f:=.cond x a b) rfl h1).2 hm)⟩
 | @block XJ a c h ih=>obtain⟨h1,h2⟩:=ih hn;have h1:(XJ::bv a).Nodup:=h1;obtain⟨g1,g2⟩:=List.nodup_cons.1 h1;refine⟨g2,λid hm=>(h2 id (aag _ hm)).trans ?_⟩;show aa (Nat.beq XJ id) (some a) (bc id a)=_;rw[ak,if_neg (λe=>g1 (by have:=aae e;subst this;exact hm))]
 | @loop a c h ih=>obtain⟨h1,h2⟩:=ih hn;exact⟨h1,λid hm=>h2 id hm⟩
def pP(P:Program)(fn id:Nat):Option (Code×Nat):=match P.funcs[fn]? with
 |some f=>(match f.body with
  |some b=>aa (pO (bv b)) (match bc id b with|some (.loop c)=>some (c,f.ntmps)|_=>none) none
  |none=>none)
 |none=>none
def ji(P:Program)(fn id:Nat):Code:=match pP P fn id with|some (c,_)=>c|none=>.skip
def gE(P:Program)(fn id:Nat):Nat:=match pP P fn id with|some (_,n)=>n|none=>0
def dF(P:Program)(fn id:Nat):Bool:=match pP P fn id with|some _=>true|none=>false
def xw{P:Program}{fn id:Nat}{c:Code}(hl:dF P fn id=true)(h:∃f b,P.funcs[fn]? =some f/\f.body=some b/\SubC (.block id c) b):c= .loop (ji P fn id):=by
 obtain⟨f,b,h1,h2,h3⟩:=h
 unfold dF at hl
 unfold ji
 unfold pP at hl⊢
 simp only [h1,h2] at hl⊢
 cases hn:pO (bv b) with
 |false=>rw[hn] at hl;cases hl
 |true=>
  rw[hn] at hl;obtain⟨_,q⟩:=EH h3 (EG hn);have e:bc id b=some c:=by rw[q id aaj];show aa (Nat.beq id id) (some c) (bc id c)=some c;rw[ak,if_pos (abl id)]
  rw[e] at hl⊢;cases c <;> first|(cases hl;done)|rfl
structure Alt where
 ex:AEx
 tmps:List (Nat×Sa)
 out:List BSh
structure LSpec where
 tmps:List (Nat×Sa)
 blk:List BSh
 inv:Sy->Prop
 mu:Sy->Nat
 alts:List Alt
 post:Sy->Sy->Prop
 gl:List (Nat×Nat×List Nat):=[]
 keep:List Nat:=[]
def HS(l:List (Nat×Sa)):List Sa:=List.rec (motive:=λ_=>List Sa) [] (λx _ ih=>x.2::ih) l
def nC(l:List (Nat×Sa))(env:T AV)(k:List AV->Tr):Tr:=List.rec (motive:=λ_=>(List AV->Tr)->Tr) (λk=>k []) (λx _ ih k=>T.getK env x.1 .fail λa=>ih λl=>k (a::l)) l k
def sz(γ:jO)(y:Sy)(l:List (Nat×Sa))(t:T AV)(k:T AV->Tr):Tr:=List.rec (motive:=λ_=>T AV->(T AV->Tr)->Tr) (λt k=>k t) (λx _ ih t k=>T.setK t x.1 (jb γ y x.2) λt=>ih t k) l t k
def xx(γ:jO)(y:Sy)(l:List (Nat×Sa))(t:T AV):T AV:=List.rec (motive:=λ_=>T AV->T AV) (λt=>t) (λx _ ih t=>ih (t.set x.1 (jb γ y x.2))) l t
def xy(γ:jO)(y:Sy):∀(l:List (Nat×Sa)) (t:T AV) (k:T AV->Tr),sz γ y l t k=k (xx γ y l t):=by
 intro l
 induction l with
 |nil=>intro t k;rfl
 |cons x l ih=>intro t k;show T.setK t x.1 (jb γ y x.2) (λt=>sz γ y l t k)=_;rw[T.setK_eq,ih];rfl
def PH(l:List Nat)(t:T AV)(k:T AV->Tr):Tr:=List.rec (motive:=λ_=>T AV->(T AV->Tr)->Tr) (λt k=>k t) (λn _ ih t k=>T.setK t n (.opq n) λt=>ih t k) l t k
def PI(l:List Nat)(t:T AV):T AV:=List.rec (motive:=λ_=>T AV->T AV) (λt=>t) (λn _ ih t=>ih (t.set n (.opq n))) l t
def LQ:∀(l:List Nat) (t:T AV) (k:T AV->Tr),PH l t k=k (PI l t):=by
 intro l
 induction l with
 |nil=>intro t k;rfl
 |cons x l ih=>intro t k;show T.setK t x (.opq x) (λt=>PH l t k)=_;rw[T.setK_eq,ih];rfl
def xz:∀{l:List Nat} {t:T AV} {b:Nat} {a:AV},(PI l t).get b=some a->(b∈l/\a= .opq b)∨t.get b=some a:=by
 intro l
 induction l with
 |nil=>intro t b a h;exact .inr h
 |cons x l ih=>
  intro t b a h;rcases ih (t:=t.set x (.opq x)) h with⟨h1,h2⟩|h
  ·exact .inl ⟨aag _ h1,h2⟩
  ·by_cases e:b=x
   ·subst e;exact .inl ⟨aaj,T.get_set_some _ _ h⟩
   ·rw[T.get_set_ne _ e] at h;exact .inr h
def EI(l:List Nat)(env:T AV)(k:Tr):Tr:=List.rec (motive:=λ_=>Tr) k (λn _ ih=>T.getK env n .fail λa=>match a with | .opq m=>aa (Nat.beq m n) ih .fail|_=>.fail) l
def xA{σ:St}{K:Fin}{env:T AV}{k:Tr}:∀{l:List Nat},run (EI l env k) σ K=true->run k σ K=true/\∀n∈l,env.get n=some (.opq n):=by
 intro l
 induction l with
 |nil=>intro h;exact⟨h,λn hn=>by cases hn⟩
 |cons x l ih=>
  intro h;obtain⟨a,ha,h⟩:=mD (show run (T.getK env x .fail λa=>match a with | .opq m=>aa (Nat.beq m x) (EI l env k) .fail|_=>.fail) σ K=true from h);split at h
  ·obtain⟨e,h'⟩:=aj h;have e:=aF e;subst e;obtain⟨h1,h2⟩:=ih h';exact⟨h1,λn hn=>by
    rcases List.mem_cons.1 hn with rfl|hn
    ·exact ha
    ·exact h2 n hn⟩
  ·exact(ac h).elim
def sA(l:List Nat)(env t:T AV)(k:T AV->Tr):Tr:=List.rec (motive:=λ_=>T AV->(T AV->Tr)->Tr) (λt k=>k t) (λn _ ih t k=>T.getK env n (ih t k) λa=>T.setK t n a λt=>ih t k) l t k
def nD(l:List Nat)(env t:T AV):T AV:=List.rec (motive:=λ_=>T AV->T AV) (λt=>t) (λn _ ih t=>match env.get n with|none=>ih t|some a=>ih (t.set n a)) l t
def HT:∀(l:List Nat) (env t:T AV) (k:T AV->Tr),sA l env t k=k (nD l env t):=by
 intro l env
 induction l with
 |nil=>intro t k;rfl
 |cons x l ih=>
  intro t k
  show T.getK env x (sA l env t k) (λa=>T.setK t x a λt=>sA l env t k)=k (match env.get x with|none=>nD l env t|some a=>nD l env (t.set x a))
  rw[T.getK_eq]
  cases env.get x with
  |none=>exact ih t k
  |some a=>show T.setK t x a (λt=>sA l env t k)=_;rw[T.setK_eq];exact ih _ k
def EJ{env:T AV}:∀{l:List Nat} {t:T AV} {b:Nat} {a:AV},(nD l env t).get b=some a->(b∈l/\env.get b=some a)∨t.get b=some a:=by
 intro l
 induction l with
 |nil=>intro t b a h;exact .inr h
 |cons x l ih=>
  intro t b a h
  have h:(match env.get x with|none=>nD l env t|some a=>nD l env (t.set x a)).get b=some a:=h
  cases he:env.get x with
  |none=>
   rw[he] at h;rcases ih h with⟨h1,h2⟩|h
   ·exact .inl ⟨aag _ h1,h2⟩
   ·exact .inr h
  |some v=>
   rw[he] at h;rcases ih (t:=t.set x v) h with⟨h1,h2⟩|h
   ·exact .inl ⟨aag _ h1,h2⟩
   ·by_cases e:b=x
    ·subst e;have:=T.get_set_some _ _ h;exact .inl ⟨aaj,by rw[he,this]⟩
    ·rw[T.get_set_ne _ e] at h;exact .inr h
def uv(a b:AEx):Bool:=match a,b with
 | .normal,.normal=>true
 | .ret,.ret=>true
 | .exit i,.exit j=>Nat.beq i j
 |_,_=>false
def EK{a b:AEx}(h:uv a b=true):a=b:=by
 unfold uv at h;split at h
 ·rfl
 ·rfl
 ·have:=aae h;subst this;rfl
 ·cases h
def jk(l:List Alt)(i:Nat)(ex:AEx)(env:T AV):Tr:=
 List.rec (motive:=λ_=>Nat->Tr) (λ_=>.fail) (λa _ ih i=>aa (uv a.ex ex) (nC a.tmps env λas=>.ret (.tup [.int .i64 (.ofNat i),.tup as])) (ih (Nat.succ i))) l i
def HU(S:LSpec):XK:=λex env df=>match df with
 | []=>(match ex with
  | .normal=>EI S.keep env (nC S.tmps env λas=>.ret (.tup [.int .i64 0,.tup as]))
  |ex=>EI S.keep env (jk S.alts 1 ex env))
 |_=>.fail
def sC(H:T ABlk)(tm:List (Nat×Tm))(l:List Sa)(blk:List BSh)(as:List AV):Option PS:=
 bi (gc H blk l as {q_ with tm:=tm}) λs=>bi (EA H blk 0 s) λs=>bi (Ez H blk blk 0 s) λs=>bi (kn blk s.ln s) λs=>aa (aa (lM [] (List.length blk) s.loc) (pE s.fz s.loc) false) (aa (ko (List.length blk) s.loc) (some s) none) none
def nE(l:List Alt)(i:Nat):Option Alt:=List.rec (motive:=λ_=>Nat->Option Alt) (λ_=>none) (λa _ ih i=>Nat.rec (motive:=λ_=>Option Alt) (some a) (λi _=>ih i) i) l i
def Oi(S:LSpec)(z:Sy):Lf:=λa σ _=>match a with
 | .tup [.int .i64 (.ofNat i),.tup as]=>(match i with
  |0=>(match sC σ.h [] (HS S.tmps) S.blk as with
   |some s=>.an s.pr (.at (S.inv (aK s.tm)/\S.mu (aK s.tm)<S.mu z/\∀y,S.post (aK s.tm) y->S.post z y))
   |none=>.ff)
  |i+1=>(match nE S.alts i with
   |some alt=>(match sC σ.h [(999,.i (.ofNat i))] (HS alt.tmps) alt.out as with
    |some s=>.an s.pr (.at (S.post z (aK s.tm)))
    |none=>.ff)
   |none=>.ff))
 |_=>.ff
def LSpec.env(S:LSpec)(z:Sy):T AV:=PI S.keep (xx bw z S.tmps .leaf)
def LSpec.heap(S:LSpec)(z:Sy):T ABlk:=addTab S.gl (fm bw z S.blk 0 .leaf)
def LSpec.roundFm(S:LSpec)(P:Program)(M:Tab)(n fn id:Nat)(z:Sy)(h:Hn):Fm:=
 Ah (sz bw z S.tmps .leaf λenv=>PH S.keep env λenv=>oV P M n (ji P fn id) env (gE P fn id) fn none [] (HU S)) (start (S.heap z) (base+64)) (Oi S z) h
def HV(n:Nat)(S:LSpec):Bool:=aa (S.keep.all λt=>Nat.ble (Nat.succ t) n) (S.alts.all λa=>aa (nB S.blk a.out) (Nat.beq a.out.length S.blk.length) false) false
def EL{id:Nat}{t:Code}:∀{c d:Code},bc id c=some d->SubC c t->SubC (.block id d) t:=by
 intro c
 induction c with
 |block j a ih=>
  intro d h hs;replace h:aa (Nat.beq j id) (some a) (bc id a)=some d:=h;rw[ak] at h;split at h
  ·rename_i e;injection h with h;have:=aae e;subst this;subst h;exact hs
  ·exact ih h (.block hs)
 |seq a b iha ihb=>
  intro d h hs
  have h:Option.rec (motive:=λ_=>Option Code) (bc id b) some (bc id a)=some d:=h
  cases ha:bc id a with
  |some d'=>rw[ha] at h;injection h with h;subst h;exact iha ha (.seqL hs)
  |none=>rw[ha] at h;exact ihb h (.seqR hs)
 |cond x a b iha ihb=>
  intro d h hs
  have h:Option.rec (motive:=λ_=>Option Code) (bc id b) some (bc id a)=some d:=h
  cases ha:bc id a with
  |some d'=>rw[ha] at h;injection h with h;subst h;exact iha ha (.condL hs)
  |none=>rw[ha] at h;exact ihb h (.condR hs)
 |loop a ih=>intro d h hs;exact ih h (.loop hs)
 |_=>intro d h;cases h
def HW{P:Program}{fn id:Nat}(hl:dF P fn id=true):InF P fn none (ji P fn id):=λ_=>by
 unfold dF at hl;unfold ji;unfold pP at hl⊢;split at hl <;> try (cases hl;done)
 rename_i x cn hc;split at hc <;> try (cases hc;done)
 rename_i f hf;split at hc <;> try (cases hc;done)
 rename_i b hb;obtain⟨hn,hc⟩:=aR hc;split at hc <;> try (cases hc;done)
 rename_i c n9;simp only [hn];exact .inr ⟨f,b,hf,hb,.loop (.block (EL n9 (.refl b)))⟩
def RV(ρ:Rho)(l:List (Nat×Sa))(as:List AV)(tmps:Array Value):Prop:=cb (λ(x:Nat×Sa) a=>∃v,tmps[x.1]? =some v/\VR ρ a v) l as
section
variable{P:Program}{σ:St}{K:Fin}{ρ:Rho}
def gG{env:T AV}{k:List AV->Tr}:∀{l:List (Nat×Sa)},run (nC l env k) σ K=true->∃as,run (k as) σ K=true/\cb (λ(x:Nat×Sa) a=>env.get x.1=some a) l as
 | [],h=>⟨[],h,trivial⟩
 |x::l,h=>by obtain⟨a,ha,h⟩:=mD (show run (T.getK env x.1 .fail λa=>nC l env λl=>k (a::l)) σ K=true from h);obtain⟨as,h1,h2⟩:=gG (k:=λl=>k (a::l)) h;exact⟨a::as,h1,ha,h2⟩
def HX{nt:Nat}{env:T AV}{tmps:Array Value}(hE:ER ρ nt env tmps):∀{l:List (Nat×Sa)} {as:List AV},cb (λ(x:Nat×Sa) a=>env.get x.1=some a) l as->RV ρ l as tmps
 | [],[],_=>trivial
 |x::l,a::as,⟨h1,h2⟩=>⟨hE.val _ _ h1,HX hE h2⟩
 | [],_::_,h=>h.elim
 |_::_,[],h=>h.elim
def mT{γ:jO}{y:Sy}:∀{l:List (Nat×Sa)} {t:T AV} {b:Nat} {a:AV},(xx γ y l t).get b=some a->(∃x,x∈l/\x.1=b/\a=jb γ y x.2)∨t.get b=some a:=by
 intro l
 induction l with
 |nil=>intro t b a h;exact .inr h
 |cons x l ih=>
  intro t b a h;rcases ih (t:=t.set x.1 (jb γ y x.2)) h with⟨z,h1,h2,h3⟩|h
  ·exact .inl ⟨z,aag _ h1,h2,h3⟩
  ·by_cases e:b=x.1
   ·subst e;exact .inl ⟨x,aaj,rfl,T.get_set_some _ _ h⟩
   ·rw[T.get_set_ne _ e] at h;exact .inr h
def uw{env:T AV}{ex:AEx}{A:AV}{σf:St}:∀{l:List Alt} {i:Nat},run (jk l i ex env) σ (λa s=>dP (a=A/\s=σf))=true->
 ∃j alt as,nE l j=some alt/\alt.ex=ex/\cb (λ(x:Nat×Sa) a=>env.get x.1=some a) alt.tmps as/\A= .tup [.int .i64 (.ofNat (i+j)),.tup as]/\σ=σf:=by
 intro l
 induction l with
 |nil=>intro i h;exact(ac h).elim
 |cons a l ih=>
  intro i h
  have h:run (aa (uv a.ex ex) (nC a.tmps env λas=>.ret (.tup [.int .i64 (.ofNat i),.tup as])) (jk l (Nat.succ i) ex env)) σ (λa s=>dP (a=A/\s=σf))=true:=h
  rcases bf h with⟨e,h⟩|⟨e,h⟩
  ·obtain⟨as,h1,h2⟩:=gG h;obtain⟨e1,e2⟩:=fX.1 (show dP (AV.tup [.int .i64 (.ofNat i),.tup as]=A/\σ=σf)=true from h1);exact⟨0,a,as,rfl,EK e,h2,e1.symm,e2⟩
  ·obtain⟨j,alt,as,h1,h2,h3,h4,h5⟩:=ih h;exact⟨j+1,alt,as,h1,h2,h3,by rw[h4,show Nat.succ i+j=i+(j+1) by omega],h5⟩
def xB{H:T ABlk}{tm:List (Nat×Tm)}{l:List Sa}{blk:List BSh}{as:List AV}{s:PS}(h:sC H tm l blk as=some s)(hp:s.pr):
 cb (TvA (kU s H) blk s.L (aK s.tm)) l as/\(∀j x,blk[j]? =some x->∃b g,s.L j=some (b,g)/\∃q,H.get b=some q/\BT ρ (kU s H) blk s.L (aK s.tm) x q g)/\Fin2 [] blk.length s blk.length:=by
 obtain⟨s1,h1,h⟩:=aB h
 obtain⟨s2,h2,h⟩:=aB h
 obtain⟨s3,h3,h⟩:=aB h
 obtain⟨s4,h4,h⟩:=aB h
 obtain⟨h5,h⟩:=aR h
 obtain⟨h6,h⟩:=aR h
 injection h with h
 subst h
 obtain⟨h5,h7⟩:=az h5
 have Xt:=jB h4 hp
 obtain⟨f1,_,_,_,_⟩:=dT h4
 obtain⟨p1,p2⟩:=eU (blk:=blk) h1
 obtain⟨st,_,_⟩:=uq h2
 obtain⟨b1,b2⟩:=ur (ρ:=ρ) h3
 refine⟨p2 s4 (st.trans (b1.trans f1)) hp Xt,λj x hx=>?_,BY h5 h6 h7⟩
 obtain⟨b,g,q1,q2⟩:=b2 s4 f1 hp Xt j x hx
 exact⟨b,g,by rw[aam] at q1;exact q1,q2⟩
def kQ(P:Program)(fn id:Nat)(S:LSpec)(z y:Sy):Prop:=
 ∀(w:World) (ρ:Rho) (a:Act) (Q:Exit->Act->World->Prop),Good w ρ (S.heap z) w->OwnOk ρ->ρ.frz0=ρ.frz->ER ρ (gE P fn id) (S.env z) a.tmps->a.defers= []->
  (∀(ρ':Rho) (wx w':World) (H':T ABlk) (a':Act) (i:Nat) (alt:Alt) (as:List AV) (s:PS),FinRel S.blk ρ w ρ' wx->Good wx ρ' H' w'->nE S.alts i=some alt->a'.tmps.size=gE P fn id->a'.defers= []->
   RV ρ' alt.tmps as a'.tmps->sC H' [(999,.i (.ofNat i))] (HS alt.tmps) alt.out as=some s->s.pr->y=aK s.tm->(∀t∈S.keep,a'.tmps[t]? =some (ρ.val t))->Q (RU alt.ex) a' w')->h_ P none (ji P fn id) Q a w
def pQ{R:Sa->AV->Prop}:∀{l:List (Nat×Sa)} {as:List AV},cb R (HS l) as->cb (λ(x:Nat×Sa) a=>R x.2 a) l as
 | [],[],_=>trivial
 |x::l,a::as,h=>⟨h.1,pQ h.2⟩
 | [],_::_,h=>h.elim
 |_::_,[],h=>h.elim
def pR{α β:Type}{R:α->β->Prop}:∀{l:List α} {m:List β} {x:α},cb R l m->x∈l->∃b,R x b
 | [],[],x,_,h=>by cases h
 |a::l,b::m,x,⟨h1,h2⟩,h=>by
  rcases List.mem_cons.1 h with e|h
  ·subst e;exact⟨b,h1⟩
  ·exact pR h2 h
 | [],_::_,_,h,_=>h.elim
 |_::_,[],_,h,_=>h.elim
def pS{α β:Type}{R S:α->β->Prop}:∀{l:List α} {m:List β},cb R l m->cb S l m->cb (λa b=>R a b/\S a b) l m
 | [],[],_,_=>trivial
 |_::_,_::_,⟨h1,h2⟩,⟨h3,h4⟩=>⟨⟨h1,h3⟩,pS h2 h4⟩
 | [],_::_,h,_=>h.elim
 |_::_,[],h,_=>h.elim
def sD{vl:Nat->Value}{w w':World}{ρ ρ':Rho}{H':T ABlk}{S:LSpec}{as:List AV}{s:PS}{a':Act}{nt:Nat}(ho:OwnOk ρ)(XF:ρ.frz0=ρ.frz)(g9:Good w ρ' H' w')(hle:ρ.le ρ')(hs:sC H' [] (HS S.tmps) S.blk as=some s)(hp:s.pr)(m8:a'.tmps.size=nt)(j5:RV ρ' S.tmps as a'.tmps)(d4:S.blk.length<=64)(Yg:TabIn ρ S.gl)(YT:∀t∈S.keep,a'.tmps[t]? =some (vl t)):
 ∃ρ2:Rho,ρ2.val=vl/\Good w' ρ2 (S.heap (aK s.tm)) w'/\OwnOk ρ2/\ρ2.frz0=ρ2.frz/\ER ρ2 nt (S.env (aK s.tm)) a'.tmps/\∀ρf wx,FinRel S.blk ρ2 w' ρf wx->FinRel S.blk ρ w ρf wx:=by
 obtain⟨t1,t2,t3⟩:=xB (ρ:=ρ') hs hp
 have hm:MvHyp w ρ' H' (kU s H') w' w w' s.L bw S.blk (aK s.tm) (xp w ρ' H' s.L) (je w.heap.size ρ' H' w' w s.L):=
  {good:=g9,hb:=t2,dom:=λj p h=>(t3.t3 j p.1 p.2 h).1,linj:=t3.t4,
   ginj:=λa b _ _ e=>by have e:base+a=base+b:=e;omega,g64:=λj hj=>by have:=B0;show base+j+1<_;omega,
   g0:=λ_ _ _ _=>rfl,kept:=Kept.refl _ _ _,owns:=λj h h1 h2=>.inr ⟨j,h,h1,rfl,h2⟩,
   frF:=λb x hb hF=>⟨(gD hF).1,t3.t5 b (gD hF).2,λg h hh d6=>by
    rcases d6 with d6|d6
    ·exact d6
    ·rw[hle.own] at d6;obtain⟨j,g0,h0,q1,q2,q3⟩:=ho _ d6;have:=(g9.inj _ _ _ _ _ _ (hle.at_ _ _ _ q2) hh q1).1;omega⟩,
   frz:=λb x h _=>h}
 have ab4:OwnOk (jQ w.heap.size ρ' H' w' w s.L bw S.blk.length (xp w ρ' H' s.L) (je w.heap.size ρ' H' w' w s.L) vl):=λx hx=>by obtain⟨j,h,q1,q2,q3⟩:=hx;obtain⟨b,g,_,e,_⟩:=cA q1;have hj:=(t3.t3 _ _ _ e).1;obtain⟨g',Xs⟩:=xu hm q1 (by rw[q2];exact q3) hj;exact⟨j,g',h,q2,Xs,Zm hj d4⟩
 have Xe:∀j x,S.blk[j]? =some x->gB x=true->∃q,s.L j=some (base+j,0)/\H'.get (base+j)=some q/\BT ρ' (kU s H') S.blk s.L (aK s.tm) x q 0/\j<S.blk.length:=λj x hx l8=>by obtain⟨b,g,e1,q,e2,e3⟩:=t2 j _ hx;have:=(fM e3).1 l8;subst this;have hj:=(t3.t3 _ _ _ e1).1;have:=t3.at0 e1 hj;subst this;exact⟨q,e1,e2,e3,hj⟩
 have WA:∀j g h,BZ S.blk j->ρ'.at_ (base+j) g=some h->(jQ w.heap.size ρ' H' w' w s.L bw S.blk.length (xp w ρ' H' s.L) (je w.heap.size ρ' H' w' w s.L) vl).at_ (base+j) g=some h:=λj g h hc h1=>by obtain⟨k,C,t,hx⟩:=hc;obtain⟨q,e1,e2,e3,hj⟩:=Xe j _ hx rfl;obtain⟨_,e⟩:=e3;subst e;exact ic hm hj ⟨_,_,_,_,_,e1,e2⟩ e1 h1 (g9.objO _ _ _ _ e2 _ _ h1).1
 refine⟨_,rfl,Good.addTab ⟨hm.to0,ab4.B⟩ (Yg.mono λb x h=>dj (hle.frz _ _ h)),ab4,rfl,⟨m8,λt a ha=>?_⟩,λρf wx hF=>?_⟩
 ·rcases xz ha with⟨h1,h2⟩|ha
  ·subst h2;exact⟨_,YT _ h1,.opq _⟩
  rcases mT ha with⟨x,h1,h2,h3⟩|h
  ·subst h3;obtain⟨b,⟨v,hv,hr⟩,htv⟩:=pR (pS j5 (pQ t1)) h1;exact⟨v,by rw[←h2];exact hv,TvA.vr hm htv hr⟩
  ·simp [T.get] at h
 ·have al0:=g9.below.size;refine⟨?_,λb x hx=>hF.frz _ _ (dj (hle.frz _ _ hx)),λb x hx c8=>?_,λx hx=>?_,λj h hc hh=>?_,λj g h hc hh=>hF.objs j g h hc (WA j g h hc (hle.at_ _ _ _ hh))⟩
  ·have hk:=g9.below;rw[hle.own] at hk;refine hk.trans ⟨hF.kept.os,hF.kept.tape,hF.kept.output,hF.kept.size,λx hx j6=>hF.kept.block x (by omega) λhpo=>?_⟩;obtain⟨_,_,_,_,q⟩:=hpo;rcases q with q|q
   ·omega
   ·rw[hle.own] at q;exact j6 q
  ·have h1:=hF.frzB b x hx (by omega);have h1:je w.heap.size ρ' H' w' w s.L b=some x:=h1;unfold je at h1;split at h1
   ·rename_i x' w6;injection h1 with h1;subst h1;have:=g9.frzB b _ w6 c8;rw[hle.frz0,XF] at this;exact this
   ·split at h1
    ·rename_i hc;omega
    ·cases h1
  ·obtain⟨j,g,h,q1,q2,q3,q4⟩:=hF.ownx x hx;refine⟨j,g,h,q1,q2,q3, ?_⟩;rcases q4 with q4|⟨q4,g',q5⟩
   ·exact .inl (by omega)
   ·obtain⟨_,_,_,_,q6⟩:=q4;rcases q6 with q6|q6
    ·exact .inl q6
    ·rw[hle.own] at q6;refine .inr ⟨q6, ?_⟩;obtain⟨j',Zo,e1,hGj⟩:=di (show xg w.heap.size ρ' H' s.L bw S.blk.length (base+j) g'=some h from q5);have e1:base+j'=base+j:=e1;have:j'=j:=by omega
     subst this;obtain⟨b,g1,g2,e3,e4⟩:=cA (dg hGj).1;have:=t3.at0 e3 Zo;subst this;obtain⟨j2,g3,h2,r1,r2,r3⟩:=ho _ q6;obtain⟨u1,u2⟩:=g9.inj _ _ _ _ _ _ (hle.at_ _ _ _ r2) e4 (by rw[r1,q1]);have:j2=j':=by omega
     subst this;subst u2;exact⟨g3,r2⟩
  ·have h1:=hle.at_ _ _ _ hh;obtain⟨x,hx,l8⟩:=hc;refine hF.stb j h ⟨x,hx,l8⟩ ?_;by_cases hob:BZ S.blk j
   ·exact WA j 0 h hob h1
   ·obtain⟨q,e1,e2,e3,hj⟩:=Xe j x hx l8;have j6:¬vD H' s.L j:=λ⟨b2,g2,k,I,l,f1,f2⟩=>by rw[e1] at f1;injection f1 with f1;injection f1 with f1 _;subst f1;rw[e2] at f2;injection f2 with f2;obtain⟨k,C,t,e⟩:=(fM e3).2.1.2 ⟨k,I,l,f2⟩;exact hob ⟨k,C,t,by rw[hx,e]⟩
    refine(dh hm hj j6).trans ?_;unfold ba;rw[e1];have:∀c g ty,q= .grow c g ty->¬c.len=0:=λc g ty e=>by
     subst e
     cases x with
     |cells ty l=>obtain⟨_,c,as,e,_⟩:=e3;cases e
     |sm m t=>obtain⟨_,e|⟨c,e,_⟩⟩:=e3 <;> cases e
     |arr m ty t=>obtain⟨_,e,i4⟩:=e3;injection e with e;subst e;intro h0;have h0:List.length _=0:=h0;omega
     |arb ty t=>obtain⟨_,e,i4⟩:=e3;injection e with e;subst e;intro h0;have h0:List.length _=0:=h0;omega
     |obj k C t=>obtain⟨_,e⟩:=e3;cases e
     |_=>cases l8
    simp only [e2];split
    ·rename_i e;injection e with e;rw[if_neg (this _ _ _ e)];exact h1
    ·exact h1
def oh{i j:Int}{as bs:List AV}(h:AV.tup [.int .i64 i,.tup as]= .tup [.int .i64 j,.tup bs]):i=j/\as=bs:=by injection h with h;injection h with h1 h2;injection h1 with _ h1;injection h2 with h2 _;injection h2 with h2;exact⟨h1,h2⟩
def LT{M:Tab}(hM:TabOk P M){n fn id:Nat}{S:LSpec}(hl:dF P fn id=true)(d4:S.blk.length<=64)(ZL:Ak S.gl=true)(h:∀z,S.inv z->∃hn,(S.roundFm P M n fn id z hn).den):
 ∀(m:Nat) (z:Sy),S.mu z=m->S.inv z->∃y,S.post z y/\kQ P fn id S z y:=by
 intro m
 induction m using Nat.strongRecOn with
 |_ m ih=>
 intro z hm hz
 obtain⟨hn,hd⟩:=h z hz
 obtain⟨A,σf,e,Xc,p6⟩:=HD _ _ _ _ hd
 replace e:∀K,run (oV P M n (ji P fn id) (S.env z) (gE P fn id) fn none [] (HU S)) (start (S.heap z) (base+64)) K=K A σf:=λK=>by rw[←e K,xy,LQ];rfl
 have round:∀(w:World) (ρ:Rho) (a:Act) (Q:Exit->Act->World->Prop),Good w ρ (S.heap z) w->ER ρ (gE P fn id) (S.env z) a.tmps->a.defers= []->
  (∀(ρ':Rho) (w':World) (a':Act) (ex:AEx) (as:List AV),ρ.le ρ'->Good w ρ' σf.h w'->a'.tmps.size=gE P fn id->a'.defers= []->(∀t∈S.keep,a'.tmps[t]? =some (ρ.val t))->
   ((ex= .normal/\A= .tup [.int .i64 0,.tup as]/\RV ρ' S.tmps as a'.tmps)∨(ex≠ .normal/\∃i alt,nE S.alts i=some alt/\alt.ex=ex/\A= .tup [.int .i64 (.ofNat (i+1)),.tup as]/\RV ρ' alt.tmps as a'.tmps))->
   (match RU ex with | .normal=>h_ P none (ji P fn id) Q a' w'|e=>Q e a' w'))->h_ P none (ji P fn id) Q a w:=by
  intro w ρ a Q hG hE hdf R'
  refine Eu ((lI P hM w n).1 (ji P fn id) (S.env z) (gE P fn id) fn [] (HU S) (start (S.heap z) (base+64)) (λa' s'=>dP (a'=A/\s'=σf)) ρ w a _ none none rfl (iZ (by decide) (by decide)) hG hE (by rw[hdf];trivial) (by rw[e];exact fX.2 ⟨rfl,rfl⟩) (λex env' WQ a8 ρ' w' a' q1 q2 q3 q4 q5 q6=>?_) (HW hl))
  cases WQ with
  |cons _ _=>exact(ac q1).elim
  |nil=>
  have Wx:a'.defers= []:=by
   cases hd:a'.defers with
   |nil=>rfl
   |cons _ _=>rw[hd] at q6;exact q6.elim
  have toks:(∀n∈S.keep,env'.get n=some (.opq n))->∀t∈S.keep,a'.tmps[t]? =some (ρ.val t):=λh t ht=>by obtain⟨v,h1,h2⟩:=q5.val _ _ (h t ht);cases h2;rw[←q4.val];exact h1
  have alts:run (jk S.alts 1 ex env') a8 (λa' s'=>dP (a'=A/\s'=σf))=true->∃as,a8=σf/\∃i alt,nE S.alts i=some alt/\alt.ex=ex/\A= .tup [.int .i64 (.ofNat (i+1)),.tup as]/\RV ρ' alt.tmps as a'.tmps:=λq=>by obtain⟨j,alt,as,r1,r2,r3,r4,r5⟩:=uw q;exact⟨as,r5,j,alt,r1,r2,by rw[r4,Nat.add_comm],HX q5 r3⟩
  have other:ex≠ .normal->run (EI S.keep env' (jk S.alts 1 ex env')) a8 (λa' s'=>dP (a'=A/\s'=σf))=true->(match RU ex with | .normal=>h_ P none (ji P fn id) Q a' w'|e=>Q e a' w'):=λj0 q=>by obtain⟨q,hk⟩:=xA q;obtain⟨as,r1,r2⟩:=alts q;subst r1;exact R' ρ' w' a' ex as q4 q3 q5.size Wx (toks hk) (.inr ⟨j0,r2⟩)
  cases ex with
  |normal=>
   obtain⟨q1,hk⟩:=xA (show run (EI S.keep env' (nC S.tmps env' λas=>.ret (.tup [.int .i64 0,.tup as]))) a8 _=true from q1)
   obtain⟨as,r1,r2⟩:=gG q1
   obtain⟨e1,e2⟩:=fX.1 (show dP (AV.tup [.int .i64 0,.tup as]=A/\a8=σf)=true from r1)
   subst e2
   exact R' ρ' w' a' .normal as q4 q3 q5.size Wx (toks hk) (.inl ⟨rfl,e1.symm,HX q5 r2⟩)
  |exit i=>exact other (λh=>by cases h) q1
  |goto l=>exact other (λh=>by cases h) q1
  |ret=>exact other (λh=>by cases h) q1
 unfold Oi at p6
 split at p6
 case h_2=>exact p6.elim
 rename_i i as
 split at p6
 ·split at p6;case h_2=>exact p6.elim
  rename_i s hs;have X1:=p6.1;obtain⟨k1,k2,k3⟩:=p6.2 p6.1;obtain⟨y,y1,y2⟩:=ih (S.mu (aK s.tm)) (by omega) (aK s.tm) rfl k1;refine⟨y,k3 y y1,λw ρ a Q hG ho XF hE hdf hQ=>round w ρ a Q hG hE hdf λρ' w' a' ex m6 hle g9 m8 Wx YT Yf=>?_⟩;rcases Yf with⟨r1,r2,r3⟩|⟨_,i,alt,_,_,r2,_⟩
  ·subst r1;obtain⟨_,r2⟩:=oh r2;subst r2;obtain⟨ρ2,g0,g1,g2,g3,g4,g5⟩:=sD (a':=a') ho XF g9 hle hs X1 m8 r3 d4 (Good.tabIn (z:=z) ZL hG) YT;exact y2 w' ρ2 a' Q g1 g2 g3 g4 Wx λρf wx wf Hf af j alt asf sf hF h1 h2 h3 h4 h5 h6 h7 h8 h9=>hQ ρf wx wf Hf af j alt asf sf (g5 ρf wx hF) h1 h2 h3 h4 h5 h6 h7 h8 (by rw[←g0];exact h9)
  ·obtain⟨r2,_⟩:=oh r2;have r2:((0:Nat):Int)=((i+1:Nat):Int):=r2;omega
 ·rename_i j;split at p6;case h_2=>exact p6.elim
  rename_i alt halt;split at p6;case h_2=>exact p6.elim
  rename_i s hs;have X1:=p6.1;have k1:=p6.2 p6.1;refine⟨aK s.tm,k1,λw ρ a Q hG ho XF hE hdf hQ=>round w ρ a Q hG hE hdf λρ' w' a' ex m6 hle g9 m8 Wx YT Yf=>?_⟩;rcases Yf with⟨r1,r2,r3⟩|⟨j0,i,al1,r1,r1',r2,r3⟩
  ·obtain⟨r2,_⟩:=oh r2;have r2:((j+1:Nat):Int)=0:=r2;omega
  ·obtain⟨r2,r4⟩:=oh r2
   have r2:((j+1:Nat):Int)=((i+1:Nat):Int):=r2
   have r2:j=i:=by omega
   subst r2;subst r4
   rw[halt] at r1;injection r1 with r1;subst r1
   have hq:=hQ ρ' w w' σf.h a' j alt as s (FinRel.of_le hle ho XF) g9 halt m8 Wx r3 hs X1 rfl YT
   rw[r1'] at hq
   cases ex with
   |normal=>exact absurd rfl j0
   |_=>exact hq
end
noncomputable section
structure LTab where
 ptm:List (Nat×Sa)
 S:Sy->LSpec
def B4(e0:T AV)(id:Nat)(γ:jO)(y:Sy)(l:List Alt)(i:Nat)(k:AEx->T AV->Tr):Tr:=
 List.rec (motive:=λ_=>Nat->Tr) (λ_=>.fail) (λa l ih i=>
  let go:Tr:=PC γ y a.out 0 (sz γ y a.tmps e0 λenv=>match a.ex with
   | .exit j=>aa (Nat.beq j id) (k .normal env) (k (.exit j) env)
   |ex=>k ex env)
  List.rec (motive:=λ_=>Tr) go (λ_ _ _=>.ask (y.i 999=(i:Int)) go (ih (Nat.succ i))) l) l i
def PJ(ptm:List (Nat×Sa))(LS:Sy->LSpec)(zf:(p z:Sy)->{y:Sy // (LS p).inv z->(LS p).post z y})(n id:Nat)(nt:Nat)(env:T AV)(k:AEx->T AV->Tr):Tr:=
 aa (Nat.beq nt n) (nC ptm env λpas=>ib [] [] (HS ptm) pas λpas=>bS (gc .leaf [] (HS ptm) pas q_) .fail λps=>
  LG (LS (aK ps.tm)).gl <| nC (LS (aK ps.tm)).tmps env λas=>ib [] (LS (aK ps.tm)).blk (HS (LS (aK ps.tm)).tmps) as λas=>bS (gc .leaf (LS (aK ps.tm)).blk (HS (LS (aK ps.tm)).tmps) as q_) .fail λs=>
   sn (LS (aK ps.tm)).blk (LS (aK ps.tm)).blk 0 s λs=>bS (kn (LS (aK ps.tm)).blk s.ln s) .fail λs=>
    aa (aa (HV n (LS (aK ps.tm))) (ko (List.length (LS (aK ps.tm)).blk) s.loc) false) (.req (s.pr/\(LS (aK ps.tm)).inv (aK s.tm))
     (.sk (λy=>(LS (aK ps.tm)).inv (aK s.tm)->(LS (aK ps.tm)).post (aK s.tm) y) (zf (aK ps.tm) (aK s.tm)) λy=>sA (LS (aK ps.tm)).keep env .leaf λe0=>B4 e0 id (nM (LS (aK ps.tm)).blk (mQ s)) y (LS (aK ps.tm)).alts 0 k)) .fail) .fail
end
section
variable{P:Program}{w0:World}{σ:St}{K:Fin}{ρ:Rho}
def HY{e0:T AV}{id:Nat}{γ:jO}{y:Sy}{k:AEx->T AV->Tr}{i0:Nat}(hi:y.i 999=(i0:Int)):∀{l:List Alt} {i:Nat} {alt:Alt} {j:Nat},nE l j=some alt->i+j=i0->run (B4 e0 id γ y l i k) σ K=true->
 run (PC γ y alt.out 0 (sz γ y alt.tmps e0 λenv=>match alt.ex with
  | .exit j=>aa (Nat.beq j id) (k .normal env) (k (.exit j) env)
  |ex=>k ex env)) σ K=true:=by
 intro l
 induction l with
 |nil=>intro i alt j h;cases h
 |cons a l ih=>
  intro i alt j h e hr
  cases l with
  |nil=>
   cases j with
   |zero=>injection h with h;subst h;exact hr
   |succ j=>cases h
  |cons b l=>
   rcases bU (show run (.ask (y.i 999=(i:Int)) (PC γ y a.out 0 (sz γ y a.tmps e0 λenv=>match a.ex with
    | .exit j=>aa (Nat.beq j id) (k .normal env) (k (.exit j) env)
    |ex=>k ex env)) (B4 e0 id γ y (b::l) (Nat.succ i) k)) σ K=true from hr) with⟨hp,hr⟩|⟨hp,hr⟩
   ·have:j=0:=by omega
    subst this;injection h with h;subst h;exact hr
   ·cases j with
    |zero=>exact absurd (by rw[hi];congr 1;omega) hp
    |succ j=>exact ih h (by omega) hr
def EM{n:Nat}{S:LSpec}(h:HV n S=true):∀{i:Nat} {alt:Alt},nE S.alts i=some alt->nB S.blk alt.out=true/\alt.out.length=S.blk.length:=by
 have h:S.alts.all (λa=>aa (nB S.blk a.out) (Nat.beq a.out.length S.blk.length) false)=true:=(az h).2;have key:∀{l:List Alt} {i:Nat} {alt:Alt},nE l i=some alt->alt∈l:=by
  intro l
  induction l with
  |nil=>intro i alt h;cases h
  |cons a l ih=>
   intro i alt h
   cases i with
   |zero=>injection h with h;rw[h];exact aaj
   |succ i=>exact aag _ (ih h)
 intro i alt ha;obtain⟨h1,h2⟩:=az ((List.all_eq_true.1 h) alt (key ha));exact⟨h1,aae h2⟩
def EN{H:T ABlk}{n:Int}{l:List Sa}{blk:List BSh}{as:List AV}{s:PS}(h:sC H [(999,.i n)] l blk as=some s):(aK s.tm).i 999=n:=by obtain⟨s1,h1,h⟩:=aB h;obtain⟨s2,h2,h⟩:=aB h;obtain⟨s3,h3,h⟩:=aB h;obtain⟨s4,h4,h⟩:=aB h;obtain⟨h5,h⟩:=aR h;obtain⟨h6,h⟩:=aR h;injection h with h;subst h;obtain⟨f1,_⟩:=dT h4;obtain⟨p1,_⟩:=eU (blk:=blk) h1;obtain⟨st,_,_⟩:=uq h2;obtain⟨b1,_⟩:=ur (ρ:=⟨λ_ _=>none,λ_=>undef,λ_=>False,λ_=>none,λ_=>none⟩) h3;exact HH ((p1.trans (st.trans (b1.trans f1))).tm 999 (.i n) rfl)
def PK{fn id:Nat}{ptm:List (Nat×Sa)}{LS:Sy->LSpec}{zf:(p z:Sy)->{y:Sy // (LS p).inv z->(LS p).post z y}}(hl:dF P fn id=true)(d4:∀p,(LS p).blk.length<=64)(hC:∀p z,(LS p).inv z->kQ P fn id (LS p) z (zf p z).1)(w0:World):
 Od P w0 fn id (PJ ptm LS zf (gE P fn id) id):=by
 intro c env nt k σ0 K ZP w a Q ZO YS hE0 hdf h hQ0 Yb
 have hc:=xw hl Yb
 subst hc
 obtain⟨hnt,z0⟩:=aj h
 have hnt:=aF hnt
 obtain⟨al2,z00,ai8⟩:=gG z0
 have ad0:∀{l:List (Nat×Sa)} {as:List AV},cb (λ(x:Nat×Sa) a=>env.get x.1=some a) l as->∃vs,LR ZP as vs:=by
  intro l
  induction l with
  |nil=>intro as h;cases as with|nil=>exact⟨[],LR.nil _⟩|cons _ _=>exact h.elim
  |cons x l ih=>
   intro as h
   cases as with
   |nil=>exact h.elim
   |cons b as=>obtain⟨v,hv,hr⟩:=hE0.val _ _ h.1;obtain⟨vs,h1⟩:=ih h.2;exact⟨v::vs,LR.cons hr h1⟩
 obtain⟨pvs,ai9⟩:=ad0 ai8
 obtain⟨pas,σ,ρ,z1,hS,hG,af_,_,_⟩:=gC ZO YS ai9 z00
 have hE:ER ρ nt env a.tmps:=hE0.mono af_
 have hQ:Hw w0 ρ K nt k Q:=λex env' WQ a8 ρ' w' a' q1 q2 q3 q4 q5 q6=>hQ0 ex env' WQ a8 ρ' w' a' q1 q2 q3 (af_.trans q4) q5 q6
 obtain⟨ps,F0,z2⟩:=br z1
 obtain⟨p,hp⟩:∃p,p=aK ps.tm:=⟨_,rfl⟩
 rw[←hp] at z2
 obtain⟨σt,eh,hSt,z2t,Yg⟩:=ut hS hG z2
 have hGt:Good w0 ρ σt.h w:=by rw[eh];exact hG
 obtain⟨as,z3,has⟩:=gG z2t
 have ag0:∀{l:List (Nat×Sa)} {as:List AV},cb (λ(x:Nat×Sa) a=>env.get x.1=some a) l as->∃vs,LR ρ as vs/\cb (λ(x:Nat×Sa) v=>a.tmps[x.1]? =some v) l vs:=by
  intro l
  induction l with
  |nil=>intro as h;cases as with|nil=>exact⟨[],LR.nil _,trivial⟩|cons _ _=>exact h.elim
  |cons x l ih=>
   intro as h
   cases as with
   |nil=>exact h.elim
   |cons b as=>obtain⟨v,hv,hr⟩:=hE.val _ _ h.1;obtain⟨vs,h1,h2⟩:=ih h.2;exact⟨v::vs,LR.cons hr h1,hv,h2⟩
 obtain⟨vs,ai_,htv⟩:=ag0 has
 obtain⟨m6,c7,J',z4,b6,b9,o8,hlen,Zr⟩:=gC hSt hGt ai_ z3
 obtain⟨s0,WZ,z5⟩:=br z4
 obtain⟨s1,d5,ρ2,z6,d8,d9,i5,ac8,_,s8⟩:=xl b6 b9 z5
 obtain⟨s2,Xh,z7⟩:=br z6
 obtain⟨Zb,z8⟩:=aj z7
 obtain⟨⟨Zc,WK⟩,z9⟩:=aJ z8
 clear h z0 z00 z1 z2 z3 z4 z5 z6 z7 z8
 obtain⟨hcA,hcL⟩:=az Zb
 obtain⟨p1,p2⟩:=eU (blk:=(LS p).blk) WZ
 obtain⟨f1,f2,f3,f4,_⟩:=dT Xh
 have Xt:=jB Xh Zc
 have l6:LR ρ2 m6 vs:=(Zr (by rw[←hlen];exact kP WZ)).mono i5
 have i7:=p2 s2 (ac8.trans f1) Zc Xt
 rw[jg] at i7
 have hL:=B1 d9 Xh Zc s8 (d4 p) hcL
 obtain⟨z,hz⟩:∃z,z=aK s2.tm:=⟨_,rfl⟩
 rw[←hz] at WK z9 i7 hL
 have z9:run (sA (LS p).keep env .leaf λe0=>B4 e0 id (nM (LS p).blk (mQ s2)) (zf p z).1 (LS p).alts 0 (λex env=>k ex env [])) d5 K=true:=z9
 rw[HT] at z9
 obtain⟨vl,hvl⟩:∃vl:Nat->Value,vl=λt=>(a.tmps[t]?).getD undef:=⟨_,rfl⟩
 have hkp:∀t∈(LS p).keep,a.tmps[t]? =some (vl t):=λt ht=>by have c8:=aau (List.all_eq_true.1 (az hcA).1 t ht);have e1:=aaK (xs:=a.tmps) (i:=t) (by rw[hE.size,hnt];exact c8);rw[hvl];show a.tmps[t]? =some ((a.tmps[t]?).getD undef);rw[e1];rfl
 have hLb:=TvAs.lr (vl:=vl) hL.mv i7 l6
 have hER:ER (xr w0 ρ2 d5.h w s2.L (LS p).blk vl) nt ((LS p).env z) a.tmps:=by
  refine⟨hE.size,λt b hb=>?_⟩;rcases xz hb with⟨h1,h2⟩|hb
  ·subst h2;exact⟨_,hkp _ h1,.opq _⟩
  rcases mT hb with⟨x,h1,h2,h3⟩|h
  ·subst h3;have key:∀{l:List (Nat×Sa)} {vs:List Value},cb (λ(x:Nat×Sa) v=>a.tmps[x.1]? =some v) l vs->LR (xr w0 ρ2 d5.h w s2.L (LS p).blk vl) (jd bw z (HS l)) vs->∀x∈l,∃v,a.tmps[x.1]? =some v/\VR (xr w0 ρ2 d5.h w s2.L (LS p).blk vl) (jb bw z x.2) v:=by
    intro l
    induction l with
    |nil=>intro vs _ _ x hx;cases hx
    |cons q l ih=>
     intro vs h1 h2 x hx
     cases vs with
     |nil=>exact h1.elim
     |cons v vs=>
      obtain⟨v',o7,e,hv,m7⟩:=LR.cons_inv (show LR _ (jb bw z q.2::jd bw z (HS l)) (v::vs) from h2);injection e with e1 e2;subst e1;subst e2;rcases List.mem_cons.1 hx with e|hx
      ·subst e;exact⟨v,h1.1,hv⟩
      ·exact ih h1.2 m7 x hx
   obtain⟨v,r1,r2⟩:=key htv hLb x h1;exact⟨v,by rw[←h2];exact r1,r2⟩
  ·simp [T.get] at h
 subst hnt
 refine wpIn_block (BU (hC p z WK w _ a _ ((hL.to (vl:=vl)).addTab ((Yg.mono (o8.trans i5).frz).mono λb x h=>dj h)) hL.ownOk (frzE _ _ _ _ _ _ _).symm hER hdf λρ' wx w' H' a' i alt asf s hF g9 halt m8 Wx j5 hpt X1 hy YT=>?_))
 have ag1:=EN hpt
 obtain⟨t1,t2,t3⟩:=xB (ρ:=ρ') hpt X1
 rw[←hy] at t1 t2 ag1
 have z10:=HY (i0:=i) ag1 halt (aam _) z9
 obtain⟨WO,z11,WP,e3,aj0⟩:=HN d8 z10
 obtain⟨hsk,ab5⟩:=EM hcA halt
 obtain⟨ρ3,m1,m2,m3,_⟩:=Oh (F:=kU s H') hL hsk (λj x b g hx hl=>B2 hx hl) (λj h1 h2=>by omega) (λi hi=>by have:=aj0 i hi;rwa [aam] at this) g9 hF (λb x hF=>⟨(gD hF).1,t3.t5 b (gD hF).2⟩) t2 (λj b g h=>by obtain⟨q1,_,q3⟩:=t3.t3 j b g h;have q2:j<alt.out.length->b=base+j:=λhj=>t3.at0 h hj;rw[ab5] at q1 q2 q3;exact⟨by rw[ab5];exact q1,λhj=>.inl (q2 hj),q3⟩) t3.t4
 rw[xy] at z11
 have hE2:ER ρ3 (gE P fn id) (xx (nM (LS p).blk (mQ s2)) (zf p z).1 alt.tmps (nD (LS p).keep env .leaf)) a'.tmps:=by
  refine⟨m8,λt b hb=>?_⟩;rcases mT hb with⟨x,h1,h2,h3⟩|h
  ·subst h3;obtain⟨b,⟨v,hv,hr⟩,htv⟩:=pR (pS j5 (pQ t1)) h1;exact⟨v,by rw[←h2];exact hv,m3 _ _ _ htv hr⟩
  ·rcases EJ h with⟨h1,h2⟩|h
   ·obtain⟨v,h3,h4⟩:=hE.val _ _ h2;rw[hkp _ h1] at h3;injection h3 with h3;exact⟨v,by rw[←h3];exact YT _ h1,h4.mono ((o8.trans i5).trans m2)⟩
   ·simp [T.get] at h
 have hDR:DR ρ3 [] a'.defers:=by rw[Wx];trivial
 have B':Good w0 ρ3 WO.h w':=by rw[e3];exact m1
 have fin:∀ex,run (k ex (xx (nM (LS p).blk (mQ s2)) (zf p z).1 alt.tmps (nD (LS p).keep env .leaf)) []) WO K=true->Q (RU ex) a' w':=λex hr=>hQ ex _ [] WO ρ3 w' a' hr WP B' ((o8.trans i5).trans m2) hE2 hDR
 generalize alt.ex=ex at z11
 cases ex with
 |normal=>exact fin .normal z11
 |exit j=>
  rcases bf z11 with⟨e,hr⟩|⟨e,hr⟩
  ·have e:=aF e;show(if j=id then Q .normal a' w' else Q (.exit j) a' w');rw[if_pos e];exact fin .normal hr
  ·show(if j=id then Q .normal a' w' else Q (.exit j) a' w');rw[if_neg (λe'=>by subst e';simp at e)];exact fin (.exit j) hr
 |goto l=>exact fin (.goto l) z11
 |ret=>exact fin .ret z11
end
end
end Go.Sym
namespace Go.Sym
open Go.RowKit (Below)
noncomputable section
def sE(x:Sh)(a:AV)(k:AV->Tr):Tr:=match x with
 | .v _ _=>(match a with
  | .gsl b g n es=>.rd b λq=>(match q with | .grow ct gen _=>aa (Nat.beq g gen) (.req (ct.len=n) (k (.cv ct))) .fail | .froz ct gen=>aa (Nat.beq g gen) (aa (Nat.beq ct.es es) (.req (ct.len=n) (k (.cv ct))) .fail) .fail|_=>.fail)
  |a=>k a)
 | .vb _=>(match a with
  | .gsl b g n es=>.rd b λq=>(match q with | .grow ct gen _=>aa (Nat.beq g gen) (.req (ct.len=n) (k (.cv ct))) .fail | .froz ct gen=>aa (Nat.beq g gen) (aa (Nat.beq ct.es es) (.req (ct.len=n) (k (.cv ct))) .fail) .fail|_=>.fail)
  | .slc b g o len cap es=>aa (Nat.beq 1 es) (K9 [] b g o len cap 1 oQ λct _=>k (.cv ct)) .fail
  |a=>k a)
 |_=>k a
def As(l:List Sh)(as:List AV)(k:List AV->Tr):Tr:=
 List.rec (motive:=λ_=>List AV->(List AV->Tr)->Tr) (λas k=>k as) (λx _ ih as k=>match as with
  | []=>k []
  |a::as=>sE x a λa=>ih as λas=>k (a::as)) l as k
def Oj(l:List Sh)(b g:Nat)(k:AV->Tr):Tr:=.rd b λq=>match q with
 | .cells c gen _ _ _ _ _ _=>aa (Nat.ble g gen) (aa (Nat.ble 1 (List.length l)) (bS (KZ c g (List.length l) 0) .fail λas=>As l as λas=>k (.cptr as)) .fail) .fail
 |_=>.fail
def HZ(x:Sa)(a:AV)(k:AV->Tr):Tr:=match x with
 | .c x=>sE x a k
 | .ag _=>k a
 | .cp l=>(match a with
  | .ptr b g o=>aa (Nat.beq o 0) (Oj l b g k) .fail
  |a=>k a)
def pT(l:List Sa)(as:List AV)(k:List AV->Tr):Tr:=
 List.rec (motive:=λ_=>List AV->(List AV->Tr)->Tr) (λas k=>k as) (λx _ ih as k=>match as with
  | []=>k []
  |a::as=>HZ x a λa=>ih as λas=>k (a::as)) l as k
def ux(x:Sh):Bool:=match x with
 | .i _ _=>true | .b _=>true | .s _=>true | .o=>true | .pi _ _=>true | .pb _=>true | .ps _=>true | .np=>true | .li _ _=>true | .nz=>true
 |_=>false
def uy(l:List Sh):Bool:=List.rec (motive:=λ_=>Bool) true (λx _ ih=>aa (ux x) ih false) l
def uz(x:Sa):Bool:=match x with | .c x=>ux x | .ag l=>uy l | .cp _=>false
def uA(l:List Sa):Bool:=List.rec (motive:=λ_=>Bool) true (λx _ ih=>aa (uz x) ih false) l
def H0(r:Sr):Bool:=match r with | .one a=>uz a | .tu l=>uA l
def H1{α:Type}(l:List α):Bool:=match l with | []=>true|_=>false
def H3(S:FSpec)(zf:(z:Sy)->{y:Sy // S.pre z->S.post z y})(args:List AV)(k:AV->Tr):Tr:=
 LG S.gl <| pT S.args args λargs=>bS (gc .leaf [] S.args args q_) .fail λs=>bS (kn [] s.ln s) .fail λs=>
  aa (aa (H1 S.blk) (aa (H1 (S.out (aK s.tm))) (H0 (S.res (aK s.tm))) false) false) (.req (s.pr/\S.pre (aK s.tm))
   (.sk (λy=>S.pre (aK s.tm)->S.post (aK s.tm) y) (zf (aK s.tm)) λy=>k (Ai bw y (S.res (aK s.tm))))) .fail
end
section
variable{P:Program}{w0:World}{ρ:Rho}{w:World}{σ:St}{K:Fin}
open Classical in
noncomputable def rv(ρ:Rho)(w:World)(b:Nat):Option (Array Value×TypeId):=match ρ.frz b with
 |some x=>some x
 |none=>(match w.heap[b]? with|some (.cells arr ty _)=>some (arr,ty)|_=>none)
noncomputable def pU(ρ:Rho)(w:World):Rho:=⟨λ_ _=>none,ρ.val,λ_=>False,rv ρ w,rv ρ w⟩
def At{H:T ABlk}(hG:Good w0 ρ H w){b:Nat}{arr:Array Value}{ty:TypeId}(hf:rv ρ w b=some (arr,ty)):∃fr,w.heap[b]? =some (.cells arr ty fr):=by
 unfold rv at hf;split at hf
 ·rename_i x hx;injection hf with hf;subst hf;exact(hG.frz _ _ _ hx).1
 ·split at hf
  ·rename_i l7 Ww fr hw;injection hf with hf;injection hf with e1 e2;subst e1;subst e2;exact⟨fr,hw⟩
  ·cases hf
def SC{H:T ABlk}(hG:Good w0 ρ H w):Good w (pU ρ w) .leaf w:=
 ⟨⟨Kept.refl _ _ _,(λb x h=>by simp [T.get] at h),(λb g h hh=>by cases hh),(λb g h b' g' h' hh=>by cases hh),(λb g h x hh=>by cases hh),λb arr ty hf=>⟨At hG hf,λb' g h hh=>by cases hh⟩,λb x hf _=>hf,(λb k I l h=>by simp [T.get] at h)⟩,λx h=>h.elim⟩
def lP{b:Nat}{x:Array Value×TypeId}(h:ρ.frz b=some x):(pU ρ w).frz b=some x:=by show rv ρ w b=_;unfold rv;rw[h]
def Cn(ρ:Rho)(w:World)(a':AV)(v:Value):Prop:=VR ρ a' v∨∃ct,a'= .cv ct/\VR (pU ρ w) (.cv ct) v
def B5{H:T ABlk}(hG:Good w0 ρ H w){b g n es ty:Nat}{ct:Ct}{v:Value}(hq:H.get b=some (.grow ct g ty))(hn:ct.len=n)(hv:VR ρ (.gsl b g n es) v):Cn ρ w (.cv ct) v:=by
 refine .inr ⟨ct,rfl, ?_⟩
 cases hv with
 |gnil _ _ _=>exact .cvnil _ hn
 |gempty _ _ _ a=>exact .cvempty _ a hn
 |gsl _ _ _ _ hm c X6 hh hs hc hz=>
  subst hn;rcases hG.blk _ _ hq with h0|⟨u0,r1,r2,r3,arr,fr,r4,r5,r6,r7,r8⟩
  ·omega
  rw[hh] at r1;injection r1 with r1;subst r1;refine .cv ct hm.blk 0 c arr ty ?_ hc (by omega) λi j a v hi ha hv=>?_
  ·show rv ρ w hm.blk=_
   unfold rv
   cases hf:ρ.frz hm.blk with
   |some x=>exact absurd rfl (hG.frzE (show ρ.frz hm.blk=some (x.1,x.2) from hf) hh hq (λh=>h))
   |none=>simp only [r4]
  ·obtain⟨u,u1,u2⟩:=r8 i hi j a ha;rw[aam,u1] at hv;injection hv with hv;subst hv;exact cF (λb x h=>lP h) u2 (kO ha)
def xC{b g n es:Nat}{k:AV->Tr}{v:Value}(hS:SI σ)(hG:Good w0 ρ σ.h w)(hv:VR ρ (.gsl b g n es) v)(h:run (.rd b λq=>(match q with | .grow ct gen _=>aa (Nat.beq g gen) (.req (ct.len=n) (k (.cv ct))) .fail | .froz ct gen=>aa (Nat.beq g gen) (aa (Nat.beq ct.es es) (.req (ct.len=n) (k (.cv ct))) .fail) .fail|_=>.fail)) σ K=true):
 ∃a' a8,run (k a') a8 K=true/\SI a8/\Good w0 ρ a8.h w/\Cn ρ w a' v:=by
 obtain⟨q,c7,hq,e1,b6,h⟩:=aT hS h
 have b9:Good w0 ρ c7.h w:=by rw[e1];exact hG
 cases q with
 |grow ct gen ty=>
  obtain⟨hg,z1⟩:=aj h
  obtain⟨hn,z2⟩:=aJ z1
  have hg:=aF hg
  subst hg
  exact⟨_,c7,z2,b6,b9,B5 hG hq hn hv⟩
 |froz ct gen=>
  obtain⟨hg,z1⟩:=aj h
  obtain⟨he,z1⟩:=aj z1
  obtain⟨hn,z2⟩:=aJ z1
  have hg:=aF hg
  have he:=aF he
  subst hg;subst he;subst hn
  exact⟨_,c7,z2,b6,b9,.inl (gW (hG.blk _ _ hq) hv)⟩
 |_=>exact(ac h).elim
def H4{b g o len es:Nat}{cap:Option Nat}{k:AV->Tr}{v:Value}(hS:SI σ)(hG:Good w0 ρ σ.h w)(hv:VR ρ (.slc b g o len cap es) v)(h:run (aa (Nat.beq 1 es) (K9 [] b g o len cap 1 oQ λct _=>k (.cv ct)) .fail) σ K=true):
 ∃a' a8,run (k a') a8 K=true/\SI a8/\Good w0 ρ a8.h w/\Cn ρ w a' v:=by
 obtain⟨he,h⟩:=aj h
 have he:=aF he
 subst he
 obtain⟨ct,ty,c7,h1,b6,e1,d4,_,hl,_,d9,hvv⟩:=BG hS hG iV h
 exact⟨_,c7,h1,b6,by rw[e1];exact hG,B5 d9 (T.get_set_same _ _ _ d4) hl (hvv ρ (.refl _) v hv)⟩
def xD{x:Sh}{a:AV}{k:AV->Tr}{v:Value}(hS:SI σ)(hG:Good w0 ρ σ.h w)(hv:VR ρ a v)(h:run (sE x a k) σ K=true):
 ∃a' a8,run (k a') a8 K=true/\SI a8/\Good w0 ρ a8.h w/\Cn ρ w a' v:=by
 have same:run (k a) σ K=true->∃a' a8,run (k a') a8 K=true/\SI a8/\Good w0 ρ a8.h w/\Cn ρ w a' v:=λh=>⟨a,σ,h,hS,hG,.inl hv⟩
 unfold sE at h
 cases x with
 |v m t=>
  simp only at h
  split at h
  ·exact xC hS hG hv h
  ·exact same h
 |vb t=>
  simp only at h
  split at h
  ·exact xC hS hG hv h
  ·exact H4 hS hG hv h
  ·exact same h
 |_=>exact same h
def EO:∀{l:List Sh} {as:List AV} {k:List AV->Tr} {σ:St} {vs:List Value},SI σ->Good w0 ρ σ.h w->LR ρ as vs->run (As l as k) σ K=true->
 ∃m6 a8,run (k m6) a8 K=true/\SI a8/\Good w0 ρ a8.h w/\(l.length=as.length->cb (λa v=>Cn ρ w a v) m6 vs/\m6.length=as.length):=by
 intro l
 induction l with
 |nil=>intro as k σ vs hS hG hl h;exact⟨as,σ,h,hS,hG,λe=>by cases as with|nil=>rw[hl.nil_inv];exact⟨trivial,rfl⟩|cons _ _=>simp at e⟩
 |cons x l ih=>
  intro as k σ vs hS hG hl h
  cases as with
  |nil=>exact⟨[],σ,h,hS,hG,λe=>by simp at e⟩
  |cons a as=>
   obtain⟨v,o7,rfl,hv,m7⟩:=hl.cons_inv
   obtain⟨a',c7,h1,h2,h3,h5⟩:=xD hS hG hv (show run (sE x a λa=>As l as λas=>k (a::as)) σ K=true from h)
   obtain⟨m6,d5,q1,q2,q3,q4⟩:=ih h2 h3 m7 h1
   exact⟨a'::m6,d5,q1,q2,q3,λe=>⟨⟨h5,(q4 (by simpa using e)).1⟩,by simp [(q4 (by simpa using e)).2]⟩⟩
def Cp(ρ:Rho)(w:World)(a':AV)(v:Value):Prop:=∃m6 blk arr ty,a'= .cptr m6/\v= .pointer (some ⟨blk,0,none⟩)/\rv ρ w blk=some (arr,ty)/\m6.length<=arr.size/\cb (λa v=>Cn ρ w a v) m6 (arr.toList.take m6.length)
def SD(ρ:Rho)(w:World)(a':AV)(v:Value):Prop:=Cn ρ w a' v∨Cp ρ w a' v
def H5{l:List Sh}{b g:Nat}{k:AV->Tr}{v:Value}(hS:SI σ)(hG:Good w0 ρ σ.h w)(hv:VR ρ (.ptr b g 0) v)(h:run (Oj l b g k) σ K=true):
 ∃a' a8,run (k a') a8 K=true/\SI a8/\Good w0 ρ a8.h w/\SD ρ w a' v:=by
 obtain⟨q,c7,hq,e1,b6,h⟩:=aT hS h
 have b9:Good w0 ρ c7.h w:=by rw[e1];exact hG
 cases q with
 |cells c gen lo hi fl fh ro ty=>
  obtain⟨k1,z1⟩:=aj h
  obtain⟨k2,z2⟩:=aj z1
  obtain⟨as,hl,z3⟩:=br z2
  have k1:=aU k1
  have k2:=aU k2
  obtain⟨hm,r1,r2,_,arr,fr,r3,r4,r5,r6⟩:=(hG.blk _ _ hq).2 g k1
  obtain⟨l1,l2⟩:=pd hl
  cases hv with
  |ptr _ _ _ h0 hh ho=>
   rw[hh] at r1;injection r1 with r1;subst r1
   have WZ:h0.shift=0:=by omega
   have g8:∀j a,as[j]? =some a->∃u,arr[j]? =some u/\VR ρ a u:=λj a ha=>by obtain⟨tag,t1,t2⟩:=l2 j _ ha;rw[aam] at t1;obtain⟨s1,u,s2,s3⟩:=r6 _ _ _ t1 t2;rw[WZ,abm] at s2;exact⟨u,s2,s3⟩
   have m8:as.length<=arr.size:=by
    rcases aaf arr.size as.length with h'|h'
    ·obtain⟨u,hu,_⟩:=g8 arr.size _ (aah h');rw[aaN (aab _)] at hu;cases hu
    ·exact h'
   have hLR:LR ρ as (arr.toList.take as.length):=by
    refine⟨by rw[aar,aaI (xs:=arr)];omega,λj a u ha hu=>?_⟩;obtain⟨u',h1,h2⟩:=g8 j a ha;have hj:j<as.length:=by
     rcases aaf j as.length with h'|h'
     ·exact h'
     ·rw[aak h'] at ha;cases ha
    rw[aav hj,aaP,h1] at hu;injection hu with hu;rw[←hu];exact h2
   obtain⟨m6,d5,q1,q2,q3,q4⟩:=EO b6 b9 hLR z3
   obtain⟨q5,q6⟩:=q4 l1.symm
   refine⟨_,d5,q1,q2,q3,.inr ⟨m6,h0.blk,arr,ty,rfl,by rw[WZ], ?_,by omega,by rw[q6];exact q5⟩⟩
   unfold rv
   cases hf:ρ.frz h0.blk with
   |some x=>exact absurd rfl (hG.frzE (show ρ.frz h0.blk=some (x.1,x.2) from hf) hh hq (λh=>h))
   |none=>simp only [r3]
 |_=>exact(ac h).elim
def EP:∀{l:List Sa} {as:List AV} {k:List AV->Tr} {σ:St} {vs:List Value},SI σ->Good w0 ρ σ.h w->LR ρ as vs->run (pT l as k) σ K=true->
 ∃m6 a8,run (k m6) a8 K=true/\SI a8/\Good w0 ρ a8.h w/\(l.length=m6.length->cb (λa v=>SD ρ w a v) m6 vs/\m6.length=as.length):=by
 intro l
 induction l with
 |nil=>intro as k σ vs hS hG hl h;exact⟨as,σ,h,hS,hG,λe=>by cases as with|nil=>rw[hl.nil_inv];exact⟨trivial,rfl⟩|cons _ _=>simp at e⟩
 |cons x l ih=>
  intro as k σ vs hS hG hl h
  cases as with
  |nil=>exact⟨[],σ,h,hS,hG,λe=>by simp at e⟩
  |cons a as=>
   obtain⟨v,o7,rfl,hv,m7⟩:=hl.cons_inv
   have h:run (HZ x a λa=>pT l as λas=>k (a::as)) σ K=true:=h
   have:∃a' a8,run (pT l as λas=>k (a'::as)) a8 K=true/\SI a8/\Good w0 ρ a8.h w/\SD ρ w a' v:=by
    cases x with
    |c x=>obtain⟨a',a8,q1,q2,q3,q4⟩:=xD hS hG hv (show run (sE x a λa=>pT l as λas=>k (a::as)) σ K=true from h);exact⟨a',a8,q1,q2,q3,.inl q4⟩
    |ag l=>exact⟨a,σ,h,hS,hG,.inl (.inl hv)⟩
    |cp l'=>
     unfold HZ at h;simp only at h;split at h
     ·rename_i b g o;obtain⟨e,h⟩:=aj h;have e:=aF e;subst e;exact H5 hS hG hv h
     ·exact⟨a,σ,h,hS,hG,.inl (.inl hv)⟩
   obtain⟨a',c7,h1,h2,h3,h5⟩:=this
   obtain⟨m6,d5,q1,q2,q3,q4⟩:=ih h2 h3 m7 h1
   exact⟨a'::m6,d5,q1,q2,q3,λe=>⟨⟨h5,(q4 (by simpa using e)).1⟩,by simp [(q4 (by simpa using e)).2]⟩⟩
def RdC.look{ct:Ct}{a:AV}{v:Value}(h:RdC (λ_=>none) ct a)(hv:Cn ρ w a v):VR (pU ρ w) (.cv ct) v:=by
 rcases h with⟨e,h0⟩|e|⟨b,g,es,ty,_,_,hF⟩|⟨b,g,o,cap,c,gen,lo,hi,fl,fh,ty,as,_,_,hF,_⟩|⟨b,g,_,_,hF⟩
 ·subst e;rcases hv with hv|⟨_,e,_⟩
  ·cases hv;exact .cvnil _ h0
  ·cases e
 ·subst e;rcases hv with hv|⟨_,e,hv⟩
  ·exact cF (λb x h=>lP h) hv rfl
  ·injection e with e;subst e;exact hv
 ·cases hF
 ·cases hF
 ·cases hF
def RdC.nocp{ct:Ct}{l:List AV}(h:RdC (λ_=>none) ct (.cptr l)):False:=by
 rcases h with⟨e,h0⟩|e|⟨b,g,es,ty,_,_,hF⟩|⟨b,g,o,cap,c,gen,lo,hi,fl,fh,ty,as,_,_,hF,_⟩|⟨b,g,_,_,hF⟩
 ·cases e
 ·cases e
 ·cases hF
 ·cases hF
 ·cases hF
def Tv.look{L:Nat->Option (Nat×Nat)}{z:Sy}{x:Sh}{a:AV}{v:Value}(h:Tv (λ_=>none) [] L z x a)(hv:Cn ρ w a v):VR (pU ρ w) (put bw z x) v:=by
 have num:∀{k n},bD a=some (k,n)->v= .int k n:=λhn=>by
  rcases hv with hv|⟨_,e,_⟩
  ·exact aI hv hn
  ·subst e;cases hn
 have pr:∀{q},cS a=some q->∃b,v= .bool b/\(b=true↔q):=λhn=>by
  rcases hv with hv|⟨_,e,_⟩
  ·exact dB hv hn
  ·subst e;cases hn
 have st:∀{l},eY a=some l->∃s,v= .string s/\l=bytesOf s:=λhn=>by
  rcases hv with hv|⟨_,e,_⟩
  ·exact cM hv hn
  ·subst e;cases hn
 cases x with
 |i k t=>have h:bD a=some (k,z.i t):=h;rw[num h];exact .sI _ _
 |b t=>have h:cS a=some (z.p t):=h;obtain⟨b,e,hb⟩:=pr h;rw[e];exact .sB _ b hb
 |s t=>have h:eY a=some (z.s t):=h;obtain⟨s,e,hs⟩:=st h;rw[e];show VR _ (.sS (z.s t)) _;rw[hs];exact .sS s
 |o=>
  rcases hv with hv|⟨_,e,hv⟩
  ·exact .any1 v (gO hv h)
  ·exact .any1 v (gO hv rfl)
 |v m t=>exact RdC.look h hv
 |vb t=>exact RdC.look h hv
 |pi k n=>have h:bD a=some (k,n):=h;rw[num h];exact .sI _ _
 |pb q=>obtain⟨q',h1,h2⟩:=h;obtain⟨b,e,hb⟩:=pr h1;rw[e];exact .sB _ b (hb.trans h2)
 |ps l=>have h:eY a=some l:=h;obtain⟨s,e,hs⟩:=st h;rw[e];show VR _ (.sS l) _;rw[hs];exact .sS s
 |pv m l=>exact RdC.look h hv
 |pvb l=>exact RdC.look h hv
 |np=>
  have h:a= .nilp:=h;subst h;rcases hv with hv|⟨_,e,_⟩
  ·cases hv;exact .nilp
  ·cases e
 |li k n=>
  have h:a= .int k n:=h;subst h;rcases hv with hv|⟨_,e,_⟩
  ·cases hv;exact .int _ _
  ·cases e
 |nz=>
  have h:a= .nils:=h;subst h;rcases hv with hv|⟨_,e,_⟩
  ·cases hv;exact .nils
  ·cases e
 |p j=>obtain⟨_,_,_,hc⟩:=h;cases hc
 |m j=>obtain⟨_,_,_,hc⟩:=h;cases hc
 |fn f j=>obtain⟨_,_,_,hc⟩:=h;cases hc
 |g j es t=>obtain⟨_,_,_,_,_,_,hc⟩:=h;simp at hc
 |gb j t=>obtain⟨_,_,_,_,_,hc⟩:=h;simp at hc
def mU{α:Type}{C:AV->Value->Prop}{R:α->AV->Prop}{f:α->AV}{fs:List α->List AV}(XF:fs []= [])(Yj:∀x l,fs (x::l)=f x::fs l)(hR:∀x a v,R x a->C a v->VR (pU ρ w) (f x) v):
 ∀{l:List α} {as:List AV} {vs:List Value},cb R l as->cb C as vs->LR (pU ρ w) (fs l) vs
 | [],[],[],_,_=>by rw[XF];exact LR.nil _
 |x::l,a::as,v::vs,⟨h1,h2⟩,⟨h3,h4⟩=>by rw[Yj];exact LR.cons (hR x a v h1 h3) (mU XF Yj hR h2 h4)
 | [],_::_,_,h,_=>h.elim
 |_::_,[],_,h,_=>h.elim
 | [],[],_::_,_,h=>h.elim
 |_::_,_::_,[],_,h=>h.elim
def LR.cn:∀{as:List AV} {vs:List Value},LR ρ as vs->cb (λa v=>Cn ρ w a v) as vs:=by
 intro as
 induction as with
 |nil=>intro vs h;rw[h.nil_inv];trivial
 |cons a as ih=>intro vs h;obtain⟨v,o7,rfl,hv,h'⟩:=h.cons_inv;exact⟨.inl hv,ih h'⟩
def Tvs.look{L:Nat->Option (Nat×Nat)}{z:Sy}{l:List Sh}{as:List AV}{vs:List Value}(ha:cb (Tv (λ_=>none) [] L z) l as)(h:cb (λa v=>Cn ρ w a v) as vs):LR (pU ρ w) (jP bw z l) vs:=
 mU (C:=λa v=>Cn ρ w a v) (fs:=jP bw z) rfl (λ_ _=>rfl) (λ_ _ _ h hv=>Tv.look h hv) ha h
def TvA.look{L:Nat->Option (Nat×Nat)}{z:Sy}{x:Sa}{a:AV}{v:Value}(h:TvA (λ_=>none) [] L z x a)(hv:SD ρ w a v):VR (pU ρ w) (jb bw z x) v:=by
 cases x with
 |c x=>
  rcases hv with hv|⟨m6,_,_,_,e,ev⟩
  ·exact Tv.look h hv
  ·subst e
   have h:Tv (λ_=>none) [] L z x (.cptr m6):=h
   cases x with
   |i k t=>have h:bD (.cptr m6)=some (k,z.i t):=h;cases h
   |b t=>have h:cS (.cptr m6)=some (z.p t):=h;cases h
   |s t=>have h:eY (.cptr m6)=some (z.s t):=h;cases h
   |o=>exact .any1 v (by rw[ev.1];rfl)
   |v m t=>exact(RdC.nocp h).elim
   |vb t=>exact(RdC.nocp h).elim
   |pi k n=>have h:bD (.cptr m6)=some (k,n):=h;cases h
   |pb q=>obtain⟨q',h1,_⟩:=h;cases h1
   |ps l=>have h:eY (.cptr m6)=some l:=h;cases h
   |pv m l=>exact(RdC.nocp h).elim
   |pvb l=>exact(RdC.nocp h).elim
   |np=>have h:AV.cptr m6= .nilp:=h;cases h
   |li k n=>have h:AV.cptr m6= .int k n:=h;cases h
   |nz=>have h:AV.cptr m6= .nils:=h;cases h
   |p j=>obtain⟨_,_,_,hc⟩:=h;cases hc
   |m j=>obtain⟨_,_,_,hc⟩:=h;cases hc
   |fn f j=>obtain⟨_,_,_,hc⟩:=h;cases hc
   |g j es t=>obtain⟨_,_,_,_,_,_,hc⟩:=h;simp at hc
   |gb j t=>obtain⟨_,_,_,_,_,hc⟩:=h;simp at hc
 |ag l=>
  obtain⟨as,e,ha⟩:=h;subst e;rcases hv with(hv|⟨_,e,_⟩)|⟨_,_,_,_,e,_⟩
  ·cases hv with
   |agg _ cs h1 h2=>obtain⟨q1,q2⟩:=(Tvs.look ha (LR.of_arr h1 h2).cn).arr;exact .agg _ cs q1 q2
  ·cases e
  ·cases e
 |cp l=>
  obtain⟨as,e,ha⟩:=h;subst e;rcases hv with(hv|⟨_,e,_⟩)|⟨m6,blk,arr,ty,e,ev,hf,m8,hc⟩
  ·cases hv with
   |cptr _ bl off arr ty hf hb r=>exact sv hf (lP hf) hb r λvs hl=>Tvs.look ha hl.cn
  ·cases e
  ·injection e with e;subst e;subst ev;obtain⟨e2,hr⟩:=Tvs.look ha hc;rw[aar,aaI (xs:=arr)] at e2;refine .cptr _ blk 0 arr ty hf (by omega) λj a u ha2 hu=>hr j a u ha2 ?_;have hj:j<(jP bw z l).length:=by
    rcases aaf j (jP bw z l).length with h'|h'
    ·exact h'
    ·rw[aak h'] at ha2;cases ha2
   rw[aav (by omega),aaP];rw[aam] at hu;exact hu
def xE{J' ρ2:Rho}{F:Nat->Option ABlk}{blk:List BSh}{L:Nat->Option (Nat×Nat)}{y:Sy}{x:Sh}{a:AV}{v:Value}(hp:ux x=true)(h:Tv F blk L y x a)(hv:VR J' a v):VR ρ2 (put bw y x) v:=by
 cases x with
 |i k t=>have h:bD a=some (k,y.i t):=h;rw[aI hv h];exact .sI _ _
 |b t=>have h:cS a=some (y.p t):=h;obtain⟨b,e,hb⟩:=dB hv h;rw[e];exact .sB _ b hb
 |s t=>have h:eY a=some (y.s t):=h;obtain⟨s,e,hs⟩:=cM hv h;rw[e];show VR _ (.sS (y.s t)) _;rw[hs];exact .sS s
 |o=>exact .any1 v (gO hv h)
 |pi k n=>have h:bD a=some (k,n):=h;rw[aI hv h];exact .sI _ _
 |pb q=>obtain⟨q',h1,h2⟩:=h;obtain⟨b,e,hb⟩:=dB hv h1;rw[e];exact .sB _ b (hb.trans h2)
 |ps l=>have h:eY a=some l:=h;obtain⟨s,e,hs⟩:=cM hv h;rw[e];show VR _ (.sS l) _;rw[hs];exact .sS s
 |np=>have h:a= .nilp:=h;subst h;cases hv;exact .nilp
 |li k n=>have h:a= .int k n:=h;subst h;cases hv;exact .int _ _
 |nz=>have h:a= .nils:=h;subst h;cases hv;exact .nils
 |_=>cases hp
def sG{J' ρ2:Rho}{F:Nat->Option ABlk}{blk:List BSh}{L:Nat->Option (Nat×Nat)}{y:Sy}:∀{l:List Sh} {as:List AV} {vs:List Value},uy l=true->cb (Tv F blk L y) l as->LR J' as vs->LR ρ2 (jP bw y l) vs
 | [],[],vs,_,_,h=>by rw[h.nil_inv];exact LR.nil _
 |x::l,a::as,vs,hp,⟨h1,h2⟩,h=>by obtain⟨v,o7,rfl,hv,h'⟩:=h.cons_inv;obtain⟨p1,p2⟩:=az (show aa (ux x) (uy l) false=true from hp);exact LR.cons (xE p1 h1 hv) (sG p2 h2 h')
 | [],_::_,_,_,h,_=>h.elim
 |_::_,[],_,_,h,_=>h.elim
def sH{J' ρ2:Rho}{F:Nat->Option ABlk}{blk:List BSh}{L:Nat->Option (Nat×Nat)}{y:Sy}{x:Sa}{a:AV}{v:Value}(hp:uz x=true)(h:TvA F blk L y x a)(hv:VR J' a v):VR ρ2 (jb bw y x) v:=by
 cases x with
 |c x=>exact xE hp h hv
 |ag l=>
  obtain⟨as,e,ha⟩:=h
  subst e
  cases hv with
  |agg _ cs h1 h2=>obtain⟨q1,q2⟩:=(sG (ρ2:=ρ2) hp ha (LR.of_arr h1 h2)).arr;exact .agg _ cs q1 q2
 |cp l=>cases hp
def pV{J' ρ2:Rho}{F:Nat->Option ABlk}{blk:List BSh}{L:Nat->Option (Nat×Nat)}{y:Sy}:∀{l:List Sa} {as:List AV} {vs:List Value},uA l=true->cb (TvA F blk L y) l as->LR J' as vs->LR ρ2 (jd bw y l) vs
 | [],[],vs,_,_,h=>by rw[h.nil_inv];exact LR.nil _
 |x::l,a::as,vs,hp,⟨h1,h2⟩,h=>by obtain⟨v,o7,rfl,hv,h'⟩:=h.cons_inv;obtain⟨p1,p2⟩:=az (show aa (uz x) (uA l) false=true from hp);exact LR.cons (sH p1 h1 hv) (pV p2 h2 h')
 | [],_::_,_,_,h,_=>h.elim
 |_::_,[],_,_,h,_=>h.elim
def EQ{J' ρ2:Rho}{F:Nat->Option ABlk}{blk:List BSh}{L:Nat->Option (Nat×Nat)}{y:Sy}{x:Sr}{a:AV}{v:Value}(hp:H0 x=true)(h:TvR F blk L y x a)(hv:VR J' a v):VR ρ2 (Ai bw y x) v:=by
 cases x with
 |one x=>exact sH hp h hv
 |tu l=>
  obtain⟨as,e,ha⟩:=h
  subst e
  cases hv with
  |tup _ cs h1 h2=>obtain⟨q1,q2⟩:=(pV (ρ2:=ρ2) hp ha (LR.of_arr h1 h2)).arr;exact .tup _ cs q1 q2
def LU{f:Nat}{S:FSpec}{zf:(z:Sy)->{y:Sy // S.pre z->S.post z y}}(hC:jh P f S zf)(w0:World)(l:List AV):PB P w0 f l (H3 S zf l):=by
 intro vs k σ0 K ρ w R ZO YS hl h0 hR;obtain⟨σ,eh,hS,h,Yg⟩:=ut ZO YS h0;have hG:Good w0 ρ σ.h w:=by rw[eh];exact YS
 clear h0 YS ZO;obtain⟨l',c7,z1,b6,b9,hcn⟩:=EP hS hG hl h;obtain⟨s0,WZ,z2⟩:=br z1;obtain⟨s2,Xh,z4⟩:=br z2;obtain⟨Zb,z5⟩:=aj z4;obtain⟨⟨Zc,WK⟩,z6⟩:=aJ z5;clear h z1 z2 z4 z5;obtain⟨hc1,hc2⟩:=az Zb;obtain⟨hc3,hc4⟩:=az hc2;obtain⟨p1,p2⟩:=eU (blk:=[]) WZ;obtain⟨f1,_⟩:=dT Xh;have Xt:=jB Xh Zc;have i7:=p2 s2 f1 Zc Xt;rw[jg] at i7;have hcv:=(hcn (kP WZ)).1;obtain⟨z,hz⟩:∃z,z=aK s2.tm:=⟨_,rfl⟩
 rw[←hz] at WK z6 i7 hc3 hc4;have z6:run (k (Ai bw (zf z).1 (S.res z))) c7 K=true:=z6;have hLb:=mU (C:=λa v=>SD ρ w a v) (fs:=jd bw z) rfl (λ_ _=>rfl) (λ_ _ _ h hv=>TvA.look h hv) i7 hcv;have XD:S.blk= []:=by cases hb:S.blk with|nil=>rfl|cons _ _=>rw[hb] at hc1;cases hc1
 have hgz:Good w (pU ρ w) (S.heap z) w:=by unfold FSpec.heap;rw[XD];exact(SC b9).addTab (z:=z) (blk:=[]) (Yg.mono λb x h=>lP h)
 obtain⟨hcf,Yh⟩:=hC z WK w (pU ρ w) vs hgz hLb;refine⟨hcf,Yh.mono λe w' he=>?_⟩;obtain⟨v,ρ',H',a,s,rfl,g9,Xi,ZZ,R',ac_,hzf⟩:=he;obtain⟨t1,_,_⟩:=pN (ρ:=ρ') R' ac_;rw[←hzf] at t1;have ad1:Below w.heap.size w w':=g9.below.below λx=>by rw[Xi.own];exact λh=>h
 exact hR _ v c7 ρ w' z6 b6 (b9.later ad1) (Rho.le.refl ρ) (EQ hc4 t1 ZZ)
end
end Go.Sym
namespace Go.Sym
theorem aq(s:List Nat):(Ga s).length=s.length:=aaF ..
theorem aA{a:List Nat}(h:¬a= []):0<a.length:=List.length_pos_iff.2 h
def mV(n:Int):IntKind.wrap .u64 n=n%18446744073709551616:=rfl
def xF(n:Int):IntKind.wrap .u8 n=n%256:=rfl
noncomputable section
def Fm.ana_den{a q:Prop}{r:Sy->Prop}{f:Sy->Fm}(h1:a/\q)(h2:a/\q->∀y,r y->(f y).den):(Fm.an (a/\q) (Fm.al (λy=>q->r y) f)).den:=⟨h1,λh y hy=>h2 h y (hy h1.2)⟩
def d_{a q:Prop}{r:Sy->Prop}{f:Sy->Fm}(h1:a/\q)(h2:a/\q->∀y,r y->(f y).den):(Fm.an (a/\q) (Fm.al (λy=>q->r y) f)).den:=Fm.ana_den h1 h2
def ed{p:Prop}{f g:Fm}(h1:p->f.den)(h2:¬p->g.den):(Fm.two p f g).den:=⟨h1,h2⟩
def ef{p:Prop}{f:Fm}(h1:p)(h2:p->f.den):(Fm.an p f).den:=⟨h1,h2⟩
def eu{p:Sy->Prop}{f:Sy->Fm}(h:∀y,p y->(f y).den):(Fm.al p f).den:=h
def ew{p:Prop}(h:p):(Fm.at p).den:=h
abbrev Zf(S:FSpec):=(z:Sy)->{y:Sy // S.pre z->S.post z y}
abbrev Vd(LS:Sy->LSpec):=(p z:Sy)->{y:Sy // (LS p).inv z->(LS p).post z y}
structure Ent where
 f:Nat
 S:FSpec
 zf:(z:Sy)->{y:Sy // S.pre z->S.post z y}
 look:Bool:=false
structure LEnt where
 fn:Nat
 id:Nat
 n:Nat
 ptm:List (Nat×Sa)
 LS:Sy->LSpec
 zf:(p z:Sy)->{y:Sy // (LS p).inv z->(LS p).post z y}
def PL(l:List Ent)(f:Nat)(args:List AV):Option ((AV->Tr)->Tr):=
 List.rec (motive:=λ_=>Option ((AV->Tr)->Tr)) none (λe _ ih=>aa (Nat.beq e.f f) (some (aa e.look (H3 e.S e.zf args) (PD e.S e.zf args))) ih) l
def PM(l:List LEnt)(fn id:Nat):Option (Nat->T AV->(AEx->T AV->Tr)->Tr):=
 List.rec (motive:=λ_=>Option (Nat->T AV->(AEx->T AV->Tr)->Tr)) none (λe _ ih=>aa (aa (Nat.beq e.fn fn) (Nat.beq e.id id) false) (some (PJ e.ptm e.LS e.zf e.n e.id)) ih) l
def sJ(m:List Memo)(c:List Ent)(l:List LEnt):Tab:=⟨m,PL c,PM l⟩
def fO(P:Program)(e:Ent):Prop:=jh P e.f e.S e.zf
def eB(P:Program)(e:LEnt):Prop:=dF P e.fn e.id=true/\e.n=gE P e.fn e.id/\(∀p,(e.LS p).blk.length<=64)/\∀p z,(e.LS p).inv z->kQ P e.fn e.id (e.LS p) z (e.zf p z).1
end
def Ok(P:Program)(f:Nat)(S:FSpec):Prop:=∃zf,jh P f S zf
def SE(P:Program)(fn id:Nat)(LS:Sy->LSpec):Prop:=∃zf:Vd LS,dF P fn id=true/\(∀p,(LS p).blk.length<=64)/\∀p z,(LS p).inv z->kQ P fn id (LS p) z (zf p z).1
def pW{P:Program}{m:List Memo}{c:List Ent}{l:List LEnt}(hm:∀x∈m,ga P x)(hc:∀e∈c,fO P e)(hl:∀e∈l,eB P e):TabOk P (sJ m c l) where
 memos:=hm
 con:=λw0 f args t h=>by
  replace h:PL c f args=some t:=h
  clear hl hm
  induction c with
  |nil=>cases h
  |cons e c ih=>
   replace h:aa (Nat.beq e.f f) (some (aa e.look (H3 e.S e.zf args) (PD e.S e.zf args))) (PL c f args)=some t:=h;rw[ak] at h;split at h
   ·rename_i hf
    have hf:=aae hf
    injection h with h
    subst hf;subst h
    cases hlk:e.look with
    |true=>exact LU (hc e aaj) w0 args
    |false=>exact PG (hc e aaj) w0 args
   ·exact ih (λe he=>hc e (aag _ he)) h
 blk:=λw0 fn id t h=>by
  replace h:PM l fn id=some t:=h
  clear hc hm
  induction l with
  |nil=>cases h
  |cons e l ih=>
   replace h:aa (aa (Nat.beq e.fn fn) (Nat.beq e.id id) false) (some (PJ e.ptm e.LS e.zf e.n e.id)) (PM l fn id)=some t:=h;rw[ak] at h;split at h
   ·rename_i hf;obtain⟨h1,h2⟩:=az hf;have h1:=aae h1;have h2:=aae h2;injection h with h;subst h1;subst h2;subst h;obtain⟨q1,q2,q3,q4⟩:=hl e aaj;rw[q2];exact PK q1 q3 q4 w0
   ·exact ih (λe he=>hl e (aag _ he)) h
def PN{P:Program}{M:Tab}(hM:TabOk P M){n fn id:Nat}{LS:Sy->LSpec}(hl:dF P fn id=true)(d4:∀p,(LS p).blk.length<=64)(h:∀p z,(LS p).inv z->∃hn,((LS p).roundFm P M n fn id z hn).den)(ZL:∀p,Ak (LS p).gl=true:=by intro p;rfl):SE P fn id LS:=by
 have key:∀p z,∃y:{y:Sy // (LS p).inv z->(LS p).post z y},(LS p).inv z->kQ P fn id (LS p) z y.1:=λp z=>by
  by_cases hz:(LS p).inv z
  ·obtain⟨y,h1,h2⟩:=LT hM hl (d4 p) (ZL p) (h p) _ z rfl hz;exact⟨⟨y,λ_=>h1⟩,λ_=>h2⟩
  ·exact⟨⟨⟨λ_=>0,λ_=>[],λ_=>False,λ_=>[]⟩,λh=>absurd h hz⟩,λh=>absurd h hz⟩
 exact⟨λp z=>Classical.choose (key p z),hl,d4,λp z hz=>aby (key p z) hz⟩
def H6{P:Program}{f:Nat}{S:FSpec}{zf:Zf S}{look:Bool}(h:jh P f S zf):fO P ⟨f,S,zf,look⟩:=h
def ES{P:Program}{fn id:Nat}{ptm:List (Nat×Sa)}{LS:Sy->LSpec}{zf:Vd LS}(h:dF P fn id=true/\(∀p,(LS p).blk.length<=64)/\∀p z,(LS p).inv z->kQ P fn id (LS p) z (zf p z).1):eB P ⟨fn,id,gE P fn id,ptm,LS,zf⟩:=⟨h.1,rfl,h.2.1,h.2.2⟩
def mN{P:Program}:∀x∈([]:List Memo),ga P x:=λ_ h=>by cases h
def eN{P:Program}:∀e∈([]:List Ent),fO P e:=λ_ h=>by cases h
def lN{P:Program}:∀e∈([]:List LEnt),eB P e:=λ_ h=>by cases h
def eC{P:Program}{f:Nat}{S:FSpec}{zf:Zf S}{look:Bool}{l:List Ent}(h:jh P f S zf)(hl:∀e∈l,fO P e):∀e∈(⟨f,S,zf,look⟩:Ent)::l,fO P e:=λe he=>by
 rcases List.mem_cons.1 he with rfl|he
 ·exact H6 h
 ·exact hl e he
def lC{P:Program}{fn id:Nat}{ptm:List (Nat×Sa)}{LS:Sy->LSpec}{zf:Vd LS}{l:List LEnt}(h:dF P fn id=true/\(∀p,(LS p).blk.length<=64)/\∀p z,(LS p).inv z->kQ P fn id (LS p) z (zf p z).1)(hl:∀e∈l,eB P e):∀e∈(⟨fn,id,gE P fn id,ptm,LS,zf⟩:LEnt)::l,eB P e:=λe he=>by
 rcases List.mem_cons.1 he with rfl|he
 ·exact ES h
 ·exact hl e he
end Go.Sym
namespace Go.Sym
noncomputable section
def PO(n:Nat)(_:Nat->Tr)(ih:Nat->St->Lf->Hn->Fm)(σ:St)(K:Lf)(hn:Hn):Fm:=
 aa (Nat.ble n 1) (ih 0 σ K hn) (St.rec (motive:=λ_=>Fm) (λ_ _ fs _ _=>aa (aa (Nat.beq n 2) (Nat.beq fs 0) false) (.al (λ_=>True) λy=>Ex (y.p 0) .fail .fail (ih 0) (ih 1) σ K hn) .ff) σ)
def B6(t:Tr):St->Lf->Hn->Fm:=Tr.rec (motive:=λ_=>St->Lf->Hn->Fm) Oe Sp VG VH Sq PO Su Ex Sv VI t
def EvM(r:Fin->Bool)(Φ:AV->St->Prop):Prop:=∀K:Fin,(∀a σ,Φ a σ->K a σ=true)->r K=true
def EvM.congr{r r':Fin->Bool}{Φ:AV->St->Prop}(h:∀K,r K=r' K)(he:EvM r' Φ):EvM r Φ:=λK hK=>(h K).trans (he K hK)
def PP{p:Prop}{t e:Tr}{it ie:St->Lf->Hn->Fm}{σ:St}{K:Lf}{hn:Hn}(h:(Ex p t e it ie σ K hn).den):(p->∃a,(it σ K a).den)/\(¬p->∃a,(ie σ K a).den):=by
 have both:∀a b,(Fm.two p (it σ K a) (ie σ K b)).den->(p->∃a,(it σ K a).den)/\(¬p->∃a,(ie σ K a).den):=λa b h=>⟨λq=>⟨a,h.1 q⟩,λq=>⟨b,h.2 q⟩⟩
 cases hn with
 |nil=>exact both _ _ h
 |both a b=>exact both _ _ h
 |yes a=>have h:(Fm.an p (it σ K a)).den:=h;exact⟨λ_=>⟨a,h.2 h.1⟩,λq=>absurd h.1 q⟩
 |no a=>have h:(Fm.an (¬p) (ie σ K a)).den:=h;exact⟨λq=>absurd q h.1,λ_=>⟨a,h.2 h.1⟩⟩
def PQ:∀(t:Tr) (σ:St) (K:Lf) (hn:Hn),(B6 t σ K hn).den->EvM (run t σ) λa a8=>∃Xc,(K a a8 Xc).den:=by
 intro t
 induction t with
 |fail=>intro σ K hn h;exact h.elim
 |ret a=>intro σ K hn h Q hQ;exact hQ _ _ ⟨hn,h⟩
 |rd b k ih=>
  intro σ K hn h
  cases σ with
  |mk H n fs t w=>
   have h:(aa (Nat.ble (Nat.succ b) n) (T.getK H b Fm.ff λx=>kj fs b t λt=>B6 (k x) (.mk H n fs t w) K hn) .ff).den:=h;rw[ak] at h;split at h
   ·rename_i hb;have hb:=aau hb;rw[T.getK_eq] at h;split at h
    ·exact h.elim
    ·rename_i x hx;rw[ja] at h;refine(ih x _ K hn h).congr λK=>?_;rw[fY,if_pos (show b<n from hb),hx]
   ·exact h.elim
 |wr b x k ih=>
  intro σ K hn h
  cases σ with
  |mk H n fs t w=>
   have h:(aa (Nat.ble (Nat.succ b) n) (T.getK H b Fm.ff λ_=>T.setK H b x λH=>kj fs b t λt=>kL fs b w λw=>B6 k (.mk H n fs t w) K hn) .ff).den:=h;rw[ak] at h;split at h
   ·rename_i hb;have hb:=aau hb;rw[T.getK_eq] at h;split at h
    ·exact h.elim
    ·rename_i y hy;rw[T.setK_eq,ja,mO] at h;refine(ih _ K hn h).congr λK=>?_;rw[iF,if_pos (show b<n from hb),hy]
   ·exact h.elim
 |new x k ih=>
  intro σ K hn h
  cases σ with
  |mk H n fs t w=>
   have h:(aa (Nat.ble n 1000000000) (T.getK H n (T.setK H n x λH=>fN (Nat.succ n) λm=>B6 (k n) (.mk H m fs t w) K hn) λ_=>Fm.ff) .ff).den:=h;rw[ak] at h;split at h
   ·rename_i hb;have hb:=aau hb;rw[T.getK_eq] at h;split at h
    ·rename_i hx;rw[T.setK_eq,eG] at h;refine(ih n _ K hn h).congr λK=>?_;rw[fC,if_pos hb,hx]
    ·exact h.elim
   ·exact h.elim
 |pick n k ih=>
  intro σ K hn h;have h:(aa (Nat.ble n 1) (B6 (k 0) σ K hn) (St.rec (motive:=λ_=>Fm) (λ_ _ fs _ _=>aa (aa (Nat.beq n 2) (Nat.beq fs 0) false) (.al (λ_=>True) λy=>Ex (y.p 0) .fail .fail (B6 (k 0)) (B6 (k 1)) σ K hn) .ff) σ)).den:=h;rw[ak] at h;split at h
  ·rename_i hb;refine(ih 0 σ K hn h).congr λK=>?_;show aa (Nat.ble n 1) (run (k 0) σ K) _=_;rw[ak,if_pos hb]
  ·cases σ with
   |mk H m fs t w=>
    have h:(aa (aa (Nat.beq n 2) (Nat.beq fs 0) false) (Fm.al (λ_=>True) λy=>Ex (y.p 0) .fail .fail (B6 (k 0)) (B6 (k 1)) (.mk H m fs t w) K hn) .ff).den:=h;rw[ak] at h;split at h
    ·rename_i hc;rw[ak] at hc;split at hc
     ·rename_i h2
      have h2:=aae h2
      have Yj:=aae hc
      subst h2;subst Yj
      obtain⟨a,ha⟩:=(PP (h ⟨λ_=>0,λ_=>[],λ_=>True,λ_=>[]⟩ trivial)).1 trivial
      obtain⟨b,hb⟩:=(PP (h ⟨λ_=>0,λ_=>[],λ_=>False,λ_=>[]⟩ trivial)).2 id
      intro Q hQ
      have e1:=ih 0 _ K a ha Q hQ
      have e2:=ih 1 _ K b hb Q hQ
      show gj (λi=>run (k i) (.mk H m 0 t w) Q) 2=true
      refine k_.mpr λi hi=>?_
      match i,hi with
      |0,_=>exact e1
      |1,_=>exact e2
     ·cases hc
    ·exact h.elim
 |sub t k iht ihk=>
  intro σ K hn h
  cases σ with
  |mk H n fs tc w=>
   intro Q hQ
   rw[fD]
   refine iht _ _ _ h _ λa a8 ⟨Xc,h2⟩=>?_
   cases a8 with
   |mk h' n' f' t' w'=>
    have h2:(aa (Nat.beq fs 0) (B6 (k a n n' t' w') (.mk h' n' fs tc w) K Xc)
     (i_ fs (T.keys t' id []) tc λt2=>gA fs w' w λw2=>B6 (k a n n' t' w') (.mk h' n' fs t2 w2) K Xc)).den:=h2
    rw[ak,nA,lJ] at h2;by_cases hf:fs=0
    ·subst hf;rw[if_pos (show Nat.beq 0 0=true from rfl)] at h2;exact ihk a n n' t' w' _ K Xc h2 Q hQ
    ·have:¬Nat.beq fs 0=true:=λhb=>hf (aae hb);rw[if_neg this] at h2;simp only [if_neg hf];exact ihk a n n' t' w' _ K Xc h2 Q hQ
 |ask p t e iht ihe=>
  intro σ K hn h;obtain⟨h1,h2⟩:=PP (t:=t) (e:=e) h;by_cases hp:p
  ·obtain⟨a,h1⟩:=h1 hp;exact(iht σ K a h1).congr λK=>dM _ _ _ _ hp
  ·obtain⟨a,h2⟩:=h2 hp;exact(ihe σ K a h2).congr λK=>dN _ _ _ _ hp
 |req p t ih=>intro σ K hn h;have h:(Fm.an p (B6 t σ K hn)).den:=h;exact(ih σ K hn (h.2 h.1)).congr λK=>dO _ _ _ h.1
 |sk p z k ih=>intro σ K hn h;have h:(Fm.al p λy=>B6 (k y) σ K hn).den:=h;exact ih z.1 σ K hn (h z.1 z.2)
def SF(x D:Tm):Fm:=match x,D with | .g l,.g m=>.at (l=m) | .s l,.s m=>.at (l=m)|_,_=>.ff
def LV{x D:Tm}(h:(SF x D).den):x=D:=by cases x <;> cases D <;> first|exact h.elim|exact congrArg _ h
def B7(n:Nat)(r:Sr)(l:List BSh)(t0:Nat)(D:Tm):Lf:=λa σ _=>match db n σ.h r l a with
 |some s=>.an s.pr (match s.tm with | [(t,x)]=>aa (Nat.beq t t0) (SF x D) .ff|_=>.ff)
 |none=>.ff
def FSpec.callFmP(S:FSpec)(t0:Nat)(D:Sy->Tm)(P:Program)(M:Tab)(n f:Nat)(z:Sy)(h:Hn):Fm:=
 B6 (iR P (oV P M n) f (S.argsA z) λa=>Am (S.out z) (S.res z) a .ret) (start (S.heap z) (base+64)) (B7 (List.length S.blk) (S.res z) (S.out z) t0 (D z)) h
def H7{P:Program}{M:Tab}(hM:TabOk P M){n f:Nat}{S:FSpec}{t0:Nat}{D:Sy->Tm}(hp:∀z,S.pre z->S.post z (aK [(t0,D z)]))(h:∀z,S.pre z->∃hn,(S.callFmP t0 D P M n f z hn).den):Ok P f S:=by
 refine⟨λz=>⟨aK [(t0,D z)],hp z⟩,λz hz w ρ vs hG hl=>?_⟩;obtain⟨hn,hd⟩:=h z hz;refine fk (lI P hM w n).1 f (S.argsA z) vs (λa=>Am (S.out z) (S.res z) a .ret) (start (S.heap z) (base+64)) (λa s=>dP (∃Xc,(B7 (List.length S.blk) (S.res z) (S.out z) t0 (D z) a s Xc).den)) ρ w _ (iZ (by decide) (by decide)) hG hl (PQ _ _ _ _ hd _ λa σ hd=>fX.2 hd) λav v a8 ρ' w' q1 q2 q3 q4 q5=>?_;obtain⟨a',d5,ρ2,q1,q2,q3,q4',q5⟩:=B3 q2 q3 q5 q1;obtain⟨Xc,Wx⟩:=fX.1 (show dP (∃Xc,(B7 (List.length S.blk) (S.res z) (S.out z) t0 (D z) a' d5 Xc).den)=true from q1);unfold B7 at Wx;split at Wx
 ·rename_i s hs;obtain⟨h1,h2⟩:=Wx;replace h2:=h2 h1;split at h2
  ·rename_i t l htm;rw[ak] at h2;split at h2
   ·rename_i ht;have ht:=aae ht;have h3:l=D z:=LV h2;subst ht;exact⟨v,ρ2,_,_,s,rfl,q3,q4.trans q4',q5,hs,h1,by rw[htm,h3]⟩
   ·exact h2.elim
  ·exact h2.elim
 ·exact Wx.elim
end
end Go.Sym
namespace Go.Sym
noncomputable section
variable{H:Type}{enc:TypeId×Value->H}{P:Program}{W:World}
def ig(W:World):Rho:=⟨λ_ _=>none,λ_=>undef,λ_=>False,λb=>match W.heap[b]? with|some (.cells c t _)=>some (c,t)|_=>none,λb=>match W.heap[b]? with|some (.cells c t _)=>some (c,t)|_=>none⟩
def pX{b:Nat}{c:Array Value}{t:TypeId}{fr:_}(h:W.heap[b]? =some (.cells c t fr)):(ig W).frz b=some (c,t):=by show(match W.heap[b]? with|some (.cells c t _)=>some (c,t)|_=>none)=_;rw[h]
def SG(W:World){T:T ABlk}(hT:∀b x,T.get b=some x->BR (ig W) W.heap.size W b x)(hO:∀b k I l,¬T.get b=some (.obj k I l)):Good W (ig W) T W:=
 ⟨⟨Kept.refl _ _ _,hT,(λb g h hh=>by cases hh),(λb g h b' g' h' hh=>by cases hh),(λb g h x hh=>by cases hh),(λb arr ty hh=>by
  have hh:(match W.heap[b]? with|some (.cells c t _)=>some (c,t)|_=>none)=some (arr,ty):=hh;split at hh
  ·rename_i c t fr e;injection hh with hh;injection hh with h1 h2;subst h1;subst h2;exact⟨⟨fr,e⟩,λb' g h hh=>by cases hh⟩
  ·cases hh),(λb x hh _=>hh),(λb k I l h=>absurd h (hO b k I l))⟩,λx h=>h.elim⟩
def mW{base n:Nat}{a:Addr}{cs:List Value}(h:W.cells? base a n=some cs)(hn:0<n):cs.length=n/\∃arr t fr,W.heap[a.block]? =some (.cells arr t fr)/\a.spot=none/\a.off+n<=arr.size/\∀j,j<n->arr[a.off+j]? =cs[j]? :=by
 obtain⟨h1,h2,h3⟩:=World.cells?_some h;refine⟨h2, ?_⟩;have c0:=h3 0 hn;have i3:∀j,j<n->∃v,W.cell? (a.add j)=some v/\cs[j]? =some v:=λj hj=>by have:=h3 j hj;rw[aah (by omega)] at this;exact⟨_,this,aah (by omega)⟩
 obtain⟨v0,e0,_⟩:=i3 0 hn;unfold World.cell? Addr.add at e0;rw[if_pos rfl] at e0;split at e0
 ·rename_i arr t fr hb;have hs:a.spot=none:=by
   cases hs:a.spot with
   |none=>rfl
   |some x=>rw[hs] at e0;cases e0
  have key:∀j,j<n->arr[a.off+j]? =cs[j]? :=λj hj=>by
   obtain⟨v,e1,e2⟩:=i3 j hj;rw[e2, ←e1];unfold World.cell? Addr.add;by_cases hj0:j=0
   ·subst hj0;rw[if_pos rfl,hb];simp [hs]
   ·rw[if_neg hj0];show _=(match W.heap[a.block]? with|some (.cells c _ _)=>_|_=>none);rw[hb];rfl
  refine⟨arr,t,fr,hb,hs, ?_,key⟩;obtain⟨v,_,e2⟩:=i3 (n-1) (by omega);have:=key (n-1) (by omega);rw[e2] at this;have:=(Array.getElem?_eq_some_iff.1 this).1;omega
 ·cases e0
def ET(a:Addr)(k:Nat):(a.add k).block=a.block:=by unfold Addr.add;split <;> rfl
def LW(a:Addr)(k:Nat):(a.add k).off=a.off+k:=by
 unfold Addr.add;split
 ·rename_i h;rw[h];rfl
 ·rfl
def nF{e:TypeId}{N:Nat}:∀{l:List (DataW H)},(∀k∈DataW.weightsAll P e l,k<=N)->∀d∈l,∀k∈d.weights P e,k<=N
 |d::l,h,x,hx,k,hk=>by
  rw[DataW.weightsAll] at h;rcases List.mem_cons.1 hx with rfl|hx
  ·exact h k (abd _ hk)
  ·exact nF (λk hk=>h k (abe _ hk)) x hx k hk
def eQ{N:Nat}:∀{ts:List TypeId} {l:List (DataW H)},(∀k∈DataW.weightsEach P ts l,k<=N)->∀(i:Nat) (t:TypeId) (d:DataW H),ts[i]? =some t->l[i]? =some d->∀k∈d.weights P t,k<=N
 | [],_,_,_,_,_,ht,_,_,_=>by cases ht
 |_::_,[],_,_,_,_,_,hd,_,_=>by cases hd
 |u::ts,x::l,h,0,t,d,ht,hd,k,hk=>by rw[DataW.weightsEach] at h;injection ht with ht;injection hd with hd;subst ht;subst hd;exact h k (abd _ hk)
 |u::ts,x::l,h,i+1,t,d,ht,hd,k,hk=>by rw[DataW.weightsEach] at h;exact eQ (ts:=ts) (l:=l) (λk hk=>h k (abe _ hk)) i t d ht hd k hk
def xG{sp:Nat->Bool}{held:Bool}{t e:TypeId}{m N:Nat}(X1:∀b,sp b=true)(ht:P.underlying t=some (.slice e))(n8:P.cellsOf e=aS (bO m))(i4:0<aS (bO m))(hbe:0<P.bytesOf e)(Q:G->Prop){n:Nat}(Zt:∀cs x,DataW.trod enc P W 0 sp held n e cs=some x->(∀k∈x.1.weights P e,k<=N)->∃g,Q g/\LR (ig W) (aV (bO m) g 0) cs){cs:List Value}{x:DataW H×List MemPlace}(h:DataW.trod enc P W 0 sp held (n+1) t cs=some x)(hw:∀k∈x.1.weights P t,k<=N):
 ∃v l,cs= [v]/\VR (ig W) (.cv (.rows m l)) v/\(∀g∈l,Q g)/\l.length<=N:=by
 rcases DataW.trod_slice ht h with⟨rfl,rfl⟩|⟨a,len,cap,elems,rest,n',hn,rfl,rfl,hb,Wz,hcm,hll,hi,hr,_⟩
 ·exact⟨_,[],rfl,.cvnil _ rfl,(λ_ hg=>absurd hg aaS),aan _⟩
 ·injection hn with hn;subst hn;rw[n8] at hi hr;obtain⟨hr1,hr2⟩:=hr (X1 _);have hw':∀k∈((elems.map (·.1)).length * P.bytesOf e+(rest.map (·.1)).length * P.bytesOf e)::(DataW.weightsAll P e (elems.map (·.1))++DataW.weightsAll P e (rest.map (·.1))),k<=N:=by have:=hw;simp only [DataW.weights,ht,aaz] at this;exact this
  have hlN:len<=N:=by have:=hw' _ aaj;rw[aaF,hll] at this;have h2:len * 1<=len * P.bytesOf e:=Nat.mul_le_mul_left _ hbe;omega
  have hwe:∀d∈elems.map (·.1),∀k∈d.weights P e,k<=N:=nF λk hk=>hw' k (aag _ (abd _ hk));have each:∀i,i<len->∃g Xv,Q g/\W.cells? 0 (a.add (i * aS (bO m))) (aS (bO m))=some Xv/\LR (ig W) (aV (bO m) g 0) Xv:=λi hl=>by have e1:=hi i hl;rw[aah (by omega)] at e1;obtain⟨Xv,e2,e3⟩:=Option.bind_eq_some_iff.1 e1;obtain⟨g,g1,g2⟩:=Zt Xv _ e3 (hwe _ (abf (f:=λy:DataW H×List MemPlace=>y.1) (abk _)));exact⟨g,Xv,g1,e2,g2⟩
  by_cases hc0:cap=0
  ·have:len=0:=by omega
   subst hc0;subst this;exact⟨_,[],rfl,.cvempty _ a rfl,(λ_ hg=>absurd hg aaS),aan _⟩
  ·have first:∃arr ty fr,W.heap[a.block]? =some (.cells arr ty fr)/\a.spot=none/\a.off<=arr.size:=by
    by_cases hl:0<len
    ·obtain⟨g,Xv,_,e2,_⟩:=each 0 hl;obtain⟨_,arr,ty,fr,q1,q2,q3,_⟩:=mW e2 i4;rw[aa_] at q1 q2 q3;exact⟨arr,ty,fr,q1,q2,by have:(a.add 0).off=a.off:=rfl;omega⟩
    ·have e1:=hr2 0 (by omega);have h0:len=0:=by omega
     rw[show len+0=0 by omega,aa_,aah (by omega)] at e1;obtain⟨Xv,e2,_⟩:=Option.bind_eq_some_iff.1 e1;obtain⟨_,arr,ty,fr,q1,q2,q3,_⟩:=mW e2 i4;exact⟨arr,ty,fr,q1,q2,by have:(a.add 0).off=a.off:=rfl;omega⟩
   obtain⟨arr,ty,fr,hH,hS,hO⟩:=first
   have fr2:∀i,i<len->∃g Xv,Q g/\LR (ig W) (aV (bO m) g 0) Xv/\a.off+i * aS (bO m)+aS (bO m)<=arr.size/\∀j,j<aS (bO m)->arr[a.off+i * aS (bO m)+j]? =Xv[j]? :=λi hl=>by obtain⟨g,Xv,g1,e2,g2⟩:=each i hl;obtain⟨_,l7,Ww,Z1,q1,_,q3,q4⟩:=mW e2 i4;rw[ET,hH] at q1;injection q1 with q1;injection q1 with q1;subst q1;rw[LW] at q3 q4;exact⟨g,Xv,g1,g2,q3,q4⟩
   let f:_root_.Fin len->G:=λi=>Classical.choose (fr2 i.1 i.2);have hf:∀i:_root_.Fin len,∃Xv,Q (f i)/\LR (ig W) (aV (bO m) (f i) 0) Xv/\a.off+i.1 * aS (bO m)+aS (bO m)<=arr.size/\∀j,j<aS (bO m)->arr[a.off+i.1 * aS (bO m)+j]? =Xv[j]? :=λi=>aby (fr2 i.1 i.2);refine⟨_,List.ofFn f,rfl, ?_,λg hg=>?_,by rw[List.length_ofFn];exact hlN⟩
   ·obtain⟨bl,off,spot⟩:=a;have hS:spot=none:=hS;subst hS;have hlen:(Ct.rows m (List.ofFn f)).len=len:=List.length_ofFn;have hr0:VR (ig W) (.cv (.rows m (List.ofFn f))) (.slice (some ⟨bl,off,none⟩) (Ct.rows m (List.ofFn f)).len cap):=by
     refine .cv (.rows m (List.ofFn f)) bl off cap arr ty (pX hH) (by rw[hlen];exact Wz) ?_ λi j av v hi' hav hv=>?_
     ·rw[hlen];show off+len * aS (bO m)<=arr.size;by_cases hl:0<len
      ·obtain⟨_,_,_,q,_⟩:=hf ⟨len-1,by omega⟩;have q:off+(len-1) * aS (bO m)+aS (bO m)<=arr.size:=q;have e:len * aS (bO m)=(len-1) * aS (bO m)+aS (bO m):=by
        have:len=(len-1)+1:=by omega
        conv=>lhs;rw[this,aaz,Nat.one_mul]
       omega
      ·have:len=0:=by omega
       rw[this,aa_];exact hO
     ·rw[hlen] at hi';obtain⟨Xv,_,hL,_,q⟩:=hf ⟨i,hi'⟩;have hgi:aL (List.ofFn f) i=f ⟨i,hi'⟩:=by unfold aL;rw[aai,aah (by rw[List.length_ofFn];exact hi'),List.getElem_ofFn];rfl
      have hav:(aV (bO m) (aL (List.ofFn f) i) 0)[j]? =some av:=hav;rw[hgi] at hav;have hj:j<aS (bO m):=by
       have:=(List.getElem?_eq_some_iff.1 hav).1
       rwa [oK] at this
      have hv:arr[off+i * aS (bO m)+j]? =some v:=hv;have q:arr[off+i * aS (bO m)+j]? =Xv[j]? :=q j hj;rw[q] at hv;exact hL.2 j av v hav hv
    rw[hlen] at hr0;exact hr0
   ·obtain⟨i,rfl⟩:=List.mem_ofFn.1 hg;exact(hf i).choose_spec.1
end
end Go.Sym
namespace Go.Sym
open Go.RowKit (Below)
variable{P:Program}
structure ObStep(root:Nat)(fp fp':List Nat)(w w':World):Prop where
 os:w'.os=w.os
 tape:w'.tape=w.tape
 output:w'.output=w.output
 size:w.heap.size<=w'.heap.size
 block:∀k,k<w.heap.size->k∉root::fp->w'.heap[k]? =w.heap[k]?
 sub:∀x∈fp',x∈fp∨(w.heap.size<=x/\x<w'.heap.size)
noncomputable section
open Classical in
def gH(ρ:Rho)(b0 n:Nat)(fp':List Nat):Rho:=
 {at_:=λb g=>match ρ.at_ b g with|some h=>some h|none=>if b=b0/\1<=g/\g-1∈fp'/\n<=g-1 then some ⟨g-1,0,0⟩ else none,val:=ρ.val,own:=ρ.own,frz:=ρ.frz,frz0:=ρ.frz0}
def lQ(ρ:Rho)(b0 n:Nat)(fp':List Nat):ρ.le (gH ρ b0 n fp'):=
 ⟨λb g h hh=>by show(match ρ.at_ b g with|some h=>some h|none=>_)=_;rw[hh],rfl,rfl,λ_ _ h=>h,rfl⟩
def cV{ρ:Rho}{b0 n:Nat}{fp':List Nat}{b g:Nat}{h:Home}(hh:(gH ρ b0 n fp').at_ b g=some h):
 ρ.at_ b g=some h∨(b=b0/\g=h.blk+1/\h=⟨h.blk,0,0⟩/\h.blk∈fp'/\n<=h.blk):=by
 have hh:(match ρ.at_ b g with|some h=>some h|none=>if b=b0/\1<=g/\g-1∈fp'/\n<=g-1 then some (⟨g-1,0,0⟩:Home) else none)=some h:=hh
 cases hr:ρ.at_ b g with
 |some h0=>rw[hr] at hh;exact .inl hh
 |none=>
  rw[hr] at hh
  by_cases hc:b=b0/\1<=g/\g-1∈fp'/\n<=g-1
  ·simp only [if_pos hc] at hh;injection hh with hh;subst hh;exact .inr ⟨hc.1,by show g=g-1+1;omega,rfl,hc.2.2.1,hc.2.2.2⟩
  ·simp only [if_neg hc] at hh;cases hh
def sK{ρ:Rho}{b0 n:Nat}{fp':List Nat}{x:Nat}(hx:x∈fp')(hn:n<=x)(h0:ρ.at_ b0 (x+1)=none):(gH ρ b0 n fp').at_ b0 (x+1)=some ⟨x,0,0⟩:=by show(match ρ.at_ b0 (x+1) with|some h=>some h|none=>if b0=b0/\1<=x+1/\x+1-1∈fp'/\n<=x+1-1 then some (⟨x+1-1,0,0⟩:Home) else none)=_;rw[h0];exact if_pos ⟨rfl,by omega,hx,hn⟩
def fP{b0 b:Nat}{q x:ABlk}(h0:b0+1<2 ^ 64)(h:((T.leaf:T ABlk).set b0 q).get b=some x):b=b0/\x=q:=by
 by_cases e:b=b0
 ·subst e;rw[T.get_set_same _ _ _ h0] at h;exact⟨rfl,(Option.some.inj h).symm⟩
 ·rw[T.get_set_ne _ e] at h;simp [T.get] at h
def B9{w w':World}{ρ:Rho}{k b0:Nat}{C:List G->Nat->List Nat->World->Prop}(hC:∀l,kx (C l)){l l':List G}{h:Home}{fp fp':List Nat}(d4:b0+1<2 ^ 64)(hG:Good w ρ ((T.leaf:T ABlk).set b0 (.obj k (C l) l)) w)(j5:ρ.at_ b0 0=some h)(hs:h.shift=0)(YF:∀x∈h.blk::fp,Own ρ w.heap.size x/\∃g hx,ρ.at_ b0 g=some hx/\hx.blk=x)(WD:∀b x,ρ.frz b=some x->b∉h.blk::fp)(hI:C l' h.blk fp' w')(l8:ObStep h.blk fp fp' w w'):
 Good w (gH ρ b0 w.heap.size fp') ((T.leaf:T ABlk).set b0 (.obj k (C l') l')) w':=by
 have i3:((T.leaf:T ABlk).set b0 (.obj k (C l') l')).get b0=some (.obj k (C l') l'):=T.get_set_same _ _ _ d4
 have WS:((T.leaf:T ABlk).set b0 (.obj k (C l) l)).get b0=some (.obj k (C l) l):=T.get_set_same _ _ _ d4
 have hle:=lQ ρ b0 w.heap.size fp'
 have ZN:∀b g h,ρ.at_ b g=some h->b=b0/\h.blk<w.heap.size:=λb g h hh=>by obtain⟨q1,x,q2⟩:=hG.dom _ _ _ hh;exact⟨(fP d4 q2).1,q1⟩
 have x6:∀x,w.heap.size<=x->ρ.at_ b0 (x+1)=none:=λx hx=>by
  cases hr:ρ.at_ b0 (x+1) with
  |none=>rfl
  |some p7=>
   rcases(hG.objO _ _ _ _ WS _ _ hr).2 with e|e
   ·omega
   ·have:=(ZN _ _ _ hr).2;omega
 have u9:∀b,b<w.heap.size->b∉h.blk::fp->w'.heap[b]? =w.heap[b]? :=l8.block
 refine⟨⟨⟨l8.os,l8.tape,l8.output,l8.size,λb hb j6=>u9 b hb (λhm=>?_)⟩,λb x hx=>?_,λb g h2 hh=>?_,λb g h1 b' g' h2 hh1 Xb e=>?_,λb g h2 x hh hx=>?_,λb arr ty hf=>?_,hG.frzB,λb k2 I2 l2 hx g h2 hh=>?_⟩,λx hx=>?_⟩
 ·rcases(YF _ hm).1 with h1|h1
  ·omega
  ·exact j6 h1
 ·obtain⟨rfl,rfl⟩:=fP d4 hx;refine⟨hC l',h,fp',hle.at_ _ _ _ j5,hs,λy hy=>?_,hI⟩;have old:y∈h.blk::fp->Own (gH ρ b w.heap.size fp') w.heap.size y/\∃g hx,(gH ρ b w.heap.size fp').at_ b g=some hx/\hx.blk=y:=λhm=>by obtain⟨q1,g,hx,q2,q3⟩:=YF _ hm;exact⟨q1,g,hx,hle.at_ _ _ _ q2,q3⟩
  rcases List.mem_cons.1 hy with e|hy
  ·exact old (e▸aaj)
  ·rcases l8.sub y hy with h1|⟨h1,h2⟩
   ·exact old (aag _ h1)
   ·exact⟨.inl h1,y+1,_,sK hy h1 (x6 y h1),rfl⟩
 ·rcases cV hh with h1|⟨rfl,_,_,h3,h4⟩
  ·obtain⟨rfl,q⟩:=ZN _ _ _ h1;exact⟨Zm q l8.size,_,i3⟩
  ·rcases l8.sub _ h3 with h5|⟨_,h5⟩
   ·obtain⟨_,g2,hx,q2,q3⟩:=YF _ (aag _ h5);have:=(ZN _ _ _ q2).2;omega
   ·exact⟨h5,_,i3⟩
 ·rcases cV hh1 with a1|⟨a1,a2,a3,a4,a5⟩
  ·rcases cV Xb with c1|⟨c1,c2,c3,c4,c5⟩
   ·exact hG.inj _ _ _ _ _ _ a1 c1 e
   ·have:=(ZN _ _ _ a1).2;omega
  ·rcases cV Xb with c1|⟨c1,c2,c3,c4,c5⟩
   ·have:=(ZN _ _ _ c1).2;omega
   ·exact⟨a1.trans c1.symm,by rw[a3,c3,e]⟩
 ·obtain⟨rfl,rfl⟩:=fP d4 hx;trivial
 ·obtain⟨⟨fr,q1⟩,q2⟩:=hG.frz _ _ _ hf;have c8:b<w.heap.size:=(Array.getElem?_eq_some_iff.1 q1).1;refine⟨⟨fr,(u9 b c8 (WD _ _ hf)).trans q1⟩,λb' g h2 hh e=>?_⟩;rcases cV hh with a1|⟨a1,a2,a3,a4,a5⟩
  ·obtain⟨x,r1,r2⟩:=q2 _ _ _ a1 e;obtain⟨rfl,rfl⟩:=fP d4 r1;exact absurd r2 (λh=>h)
  ·omega
 ·obtain⟨rfl,e⟩:=fP d4 hx;rcases cV hh with a1|⟨a1,a2,a3,a4,a5⟩
  ·exact hG.objO _ _ _ _ WS _ _ a1
  ·exact⟨.inl a5,.inr a2⟩
 ·obtain⟨b,g,h2,q1,q2,q3⟩:=hG.ownB x hx;exact⟨b,g,h2,q1,hle.at_ _ _ _ q2,q3⟩
def EU{f k:Nat}{C:List G->Nat->List Nat->World->Prop}{S:FSpec}{al:List Sa}(hC:∀l,kx (C l))(tR:Sy->List G)(av:Sy->AV)(tm:Sy->List (Nat×Tm))(e1:S.args= .c (.p 0)::al)(e2:S.blk= [.obj k C 20])(e3:S.gl= [])(W9:∀z,S.pre z->S.post z (aK (tm z)))(R':∀z,∃s,db 1 ((T.leaf:T ABlk).set base (.obj k (C (tR z)) (tR z))) (S.res z) (S.out z) (av z)=some s/\s.pr/\s.tm=tm z)(W_:∀(args:Array Value) (w:World),(callFunc f args).run P w= .ok (.enter f args) w)(XV:∀z,S.pre z->∀(w:World) (ρ:Rho) (root:Nat) (fp:List Nat) (vs:List Value),(∀b x,ρ.frz b=some x->b∉root::fp/\∃fr,w.heap[b]? =some (.cells x.1 x.2 fr))->(∀x∈root::fp,x<w.heap.size)->LR ρ (jd bw z al) vs->C (z.g 20) root fp w->
  Calls P f (Value.pointer (some ⟨root,0,none⟩)::vs).toArray w λe w'=>∃v fp',e= .returned v/\C (tR z) root fp' w'/\ObStep root fp fp' w w'/\∀ρ',VR ρ' (av z) v):Ok P f S:=by
 refine⟨λz=>⟨aK (tm z),W9 z⟩,λz hz w ρ vs hG hl=>?_⟩
 have hH:S.heap z=(T.leaf:T ABlk).set base (.obj k (C (z.g 20)) (z.g 20)):=by unfold FSpec.heap;rw[e3,e2];rfl
 rw[hH] at hG
 unfold FSpec.argsA at hl
 rw[e1] at hl
 obtain⟨v0,o7,rfl,h0,m7⟩:=LR.cons_inv (show LR ρ (.ptr base 0 0::jd bw z al) vs from hl)
 have d4:base+1<2 ^ 64:=by decide
 have WS:((T.leaf:T ABlk).set base (.obj k (C (z.g 20)) (z.g 20))).get base=some (.obj k (C (z.g 20)) (z.g 20)):=T.get_set_same _ _ _ d4
 cases h0 with
 |ptr b g o h hh ho=>
  obtain⟨Xj,h1,fp,j5,hs,YF,hI⟩:=hG.blk _ _ WS
  rw[hh] at j5;injection j5 with j5;subst j5
  have WD:∀b x,ρ.frz b=some x->b∉h.blk::fp:=λb x hf hm=>by obtain⟨_,g,hx,q2,q3⟩:=YF _ hm;exact hG.frzE (show ρ.frz b=some (x.1,x.2) from hf) q2 WS (λh=>h) q3
  have hc:=XV z hz w ρ h.blk fp o7 (λb x hf=>⟨WD b x hf,(hG.frz _ _ _ (show ρ.frz b=some (x.1,x.2) from hf)).1⟩) (λx hm=>by obtain⟨_,g,hx,q2,q3⟩:=YF _ hm;have:=(hG.dom _ _ _ q2).1;omega) m7 hI
  rw[hs]
  refine⟨λargs=>W_ args w,callsIn_wide.2 (hc.mono ?_)⟩
  rintro e w' ⟨v,fp',rfl,hI',l8,hv⟩
  obtain⟨s,p1,p2,p3⟩:=R' z
  refine⟨v,gH ρ base w.heap.size fp',_,av z,s,rfl,B9 hC d4 hG hh hs YF WD hI' l8,lQ _ _ _ _,hv _, ?_,p2,by rw[p3]⟩
  rw[e2];exact p1
def SH{f k:Nat}{C:List G->Nat->List Nat->World->Prop}{S:FSpec}(hC:∀l,kx (C l))(tR:Sy->List G)(av:Sy->AV)(tm:Sy->List (Nat×Tm))(e2:S.blk= [])(e3:S.gl= [])(W9:∀z,S.pre z->S.post z (aK (tm z)))(R':∀z,∃s,db 0 ((T.leaf:T ABlk).set (base+64) (.obj k (C (tR z)) (tR z))) (S.res z) (S.out z) (av z)=some s/\s.pr/\s.tm=tm z)(W_:∀(args:Array Value) (w:World),(callFunc f args).run P w= .ok (.enter f args) w)(XV:∀z,S.pre z->∀(w:World) (ρ:Rho) (vs:List Value),LR ρ (S.argsA z) vs->
  Calls P f vs.toArray w λe w'=>∃v root fp',e= .returned v/\C (tR z) root fp' w'/\Below w.heap.size w w'/\(∀x∈root::fp',w.heap.size<=x/\x<w'.heap.size)/\∀ρ':Rho,ρ'.at_ (base+64) 0=some ⟨root,0,0⟩->VR ρ' (av z) v):Ok P f S:=by
 refine⟨λz=>⟨aK (tm z),W9 z⟩,λz hz w ρ vs hG hl=>?_⟩
 have hH:S.heap z=(T.leaf:T ABlk):=by unfold FSpec.heap;rw[e3,e2];rfl
 rw[hH] at hG
 have d4:base+64+1<2 ^ 64:=by decide
 refine⟨λargs=>W_ args w,callsIn_wide.2 ((XV z hz w ρ vs hl).mono ?_)⟩
 rintro e w' ⟨v,root,fp',rfl,hI,hb,j4,hv⟩
 obtain⟨s,p1,p2,p3⟩:=R' z
 have j6:∀b g,ρ.at_ b g=none:=λb g=>by
  cases hr:ρ.at_ b g with
  |none=>rfl
  |some h=>obtain⟨_,x,q⟩:=hG.dom _ _ _ hr;simp [T.get] at q
 let J':Rho:={at_:=λb g=>if b=base+64/\g=0 then some ⟨root,0,0⟩ else ρ.at_ b g,val:=ρ.val,own:=ρ.own,frz:=ρ.frz,frz0:=ρ.frz0}
 have h1:J'.at_ (base+64) 0=some ⟨root,0,0⟩:=by show(if base+64=base+64/\(0:Nat)=0 then some (⟨root,0,0⟩:Home) else ρ.at_ (base+64) 0)=_;exact if_pos ⟨rfl,rfl⟩
 have h1i:∀b g h,J'.at_ b g=some h->b=base+64/\g=0/\h=⟨root,0,0⟩:=λb g h hh=>by
  have hh:(if b=base+64/\g=0 then some (⟨root,0,0⟩:Home) else ρ.at_ b g)=some h:=hh;split at hh
  ·rename_i hc;injection hh with hh;exact⟨hc.1,hc.2,hh.symm⟩
  ·rw[j6] at hh;cases hh
 have o8:ρ.le J':=⟨(λb g h hh=>by rw[j6] at hh;cases hh),rfl,rfl,λ_ _ h=>h,rfl⟩
 have i5:=lQ J' (base+64) w.heap.size fp'
 have hinv:∀b g h,(gH J' (base+64) w.heap.size fp').at_ b g=some h->b=base+64/\h=⟨h.blk,0,0⟩/\h.blk∈root::fp'/\(g=0∨g=h.blk+1):=λb g h hh=>by
  rcases cV hh with a1|⟨a1,a2,a3,a4,a5⟩
  ·obtain⟨q1,q2,rfl⟩:=h1i _ _ _ a1;exact⟨q1,rfl,aaj,.inl q2⟩
  ·exact⟨a1,a3,aag _ a4,.inr a2⟩
 have i3:((T.leaf:T ABlk).set (base+64) (.obj k (C (tR z)) (tR z))).get (base+64)=some (.obj k (C (tR z)) (tR z)):=T.get_set_same _ _ _ d4
 refine⟨v,gH J' (base+64) w.heap.size fp',(T.leaf:T ABlk).set (base+64) (.obj k (C (tR z)) (tR z)),av z,s,rfl, ?_,o8.trans i5,hv _ (i5.at_ _ _ _ h1),by rw[e2];exact p1,p2,by rw[p3]⟩
 refine⟨⟨Kept.of hb,λb x hx=>?_,λb g h2 hh=>?_,λb g a b' g' c hh1 Xb e=>?_,λb g h2 x hh hx=>?_,λb arr ty hf=>?_,hG.frzB,λb k2 I2 l2 hx g h2 hh=>?_⟩,λx hx=>?_⟩
 ·obtain⟨rfl,rfl⟩:=fP d4 hx;refine⟨hC _,⟨root,0,0⟩,fp',i5.at_ _ _ _ h1,rfl,λy hy=>⟨.inl (j4 y hy).1, ?_⟩,hI⟩;rcases List.mem_cons.1 hy with e|hy
  ·exact⟨0,_,i5.at_ _ _ _ h1,e.symm⟩
  ·refine⟨y+1,_,sK hy (j4 y (aag _ hy)).1 ?_,rfl⟩;show(if base+64=base+64/\y+1=0 then some (⟨root,0,0⟩:Home) else ρ.at_ (base+64) (y+1))=none;rw[if_neg (by omega)];exact j6 _ _
 ·obtain⟨rfl,_,q3,_⟩:=hinv _ _ _ hh;exact⟨(j4 _ q3).2,_,i3⟩
 ·obtain⟨q1,q2,_,_⟩:=hinv _ _ _ hh1;obtain⟨r1,r2,_,_⟩:=hinv _ _ _ Xb;exact⟨q1.trans r1.symm,by rw[q2,r2,e]⟩
 ·obtain⟨rfl,rfl⟩:=fP d4 hx;trivial
 ·obtain⟨⟨fr,q1⟩,_⟩:=hG.frz _ _ _ hf;have c8:b<w.heap.size:=(Array.getElem?_eq_some_iff.1 q1).1;refine⟨⟨fr,(hb.block b c8).trans q1⟩,λb' g h2 hh e=>?_⟩;obtain⟨_,_,q3,_⟩:=hinv _ _ _ hh;have:=(j4 _ q3).1;omega
 ·obtain⟨_,_,q3,q4⟩:=hinv _ _ _ hh;exact⟨.inl (j4 _ q3).1,q4⟩
 ·obtain⟨b,g,h2,q1,q2,q3⟩:=hG.ownB x hx;rw[j6] at q2;cases q2
end
end Go.Sym
namespace Go.Sym
open Go.RowKit (Below)
noncomputable section
variable{P:Program}
def Au(ρ:Rho)(nb:Nat)(x:Array Value×TypeId):Rho:={at_:=ρ.at_,val:=ρ.val,own:=ρ.own,frz:=λb=>if b=nb then some x else ρ.frz b,frz0:=ρ.frz0}
def sL{ρ:Rho}{nb:Nat}{x:Array Value×TypeId}(h:ρ.frz nb=none):ρ.le (Au ρ nb x):=
 ⟨λ_ _ _ h=>h,rfl,rfl,λb y hy=>by
  show(if b=nb then some x else ρ.frz b)=some y;split
  ·rename_i e;subst e;rw[h] at hy;cases hy
  ·exact hy,rfl⟩
def H8{w0 w:World}{ρ:Rho}{H:T ABlk}{nb:Nat}{arr:Array Value}{ty:TypeId}{fr:Nat×Nat}(hG:Good w0 ρ H w)(hn:w0.heap.size<=nb)(h0:ρ.frz nb=none)(hb:w.heap[nb]? =some (.cells arr ty fr))(j6:∀b g h,ρ.at_ b g=some h->h.blk≠nb):
 Good w0 (Au ρ nb (arr,ty)) H w:=by
 have hle:=sL (x:=(arr,ty)) h0
 refine⟨⟨hG.below,λb x hx=>(hG.blk b x hx).keep hle λg h hh=>rfl,hG.dom,hG.inj,hG.gens,λb a t hf=>?_,λb x hf c8=>?_,hG.objO⟩,hG.ownB⟩
 ·have hq:(if b=nb then some (arr,ty) else ρ.frz b)=some (a,t):=hf;clear hf;split at hq
  ·rename_i e;subst e;injection hq with hq;injection hq with e1 e2;subst e1;subst e2;exact⟨⟨fr,hb⟩,λb' g h hh e=>absurd e (j6 _ _ _ hh)⟩
  ·exact hG.frz _ _ _ hq
 ·have hf:(if b=nb then some (arr,ty) else ρ.frz b)=some x:=hf;rw[if_neg (by omega)] at hf;exact hG.frzB _ _ hf c8
def SJ{f k:Nat}{C:List G->Nat->List Nat->World->Prop}{S:FSpec}{al:List Sa}(hC:∀l,kx (C l))(tR:Sy->List G)(av:Sy->AV)(tm:Sy->List (Nat×Tm))(e1:S.args= .c (.p 0)::al)(e2:S.blk= [.obj k C 20])(e3:S.gl= [])(W9:∀z,S.pre z->S.post z (aK (tm z)))(R':∀z,∃s,db 1 ((T.leaf:T ABlk).set base (.obj k (C (tR z)) (tR z))) (S.res z) (S.out z) (av z)=some s/\s.pr/\s.tm=tm z)(W_:∀(args:Array Value) (w:World),(callFunc f args).run P w= .ok (.enter f args) w)(XV:∀z,S.pre z->∀(w:World) (ρ:Rho) (root:Nat) (fp:List Nat) (vs:List Value),(∀b x,ρ.frz b=some x->b∉root::fp/\∃fr,w.heap[b]? =some (.cells x.1 x.2 fr))->(∀x∈root::fp,x<w.heap.size)->LR ρ (jd bw z al) vs->C (z.g 20) root fp w->
  Calls P f (Value.pointer (some ⟨root,0,none⟩)::vs).toArray w λe w'=>∃v fp',e= .returned v/\C (tR z) root fp' w'/\ObStep root fp fp' w w'/\
   ((∀ρ',VR ρ' (av z) v)∨∃nb arr ty fr,w.heap.size<=nb/\nb∉fp'/\w'.heap[nb]? =some (.cells arr ty fr)/\∀ρ':Rho,ρ'.frz nb=some (arr,ty)->VR ρ' (av z) v)):Ok P f S:=by
 refine⟨λz=>⟨aK (tm z),W9 z⟩,λz hz w ρ vs hG hl=>?_⟩
 have hH:S.heap z=(T.leaf:T ABlk).set base (.obj k (C (z.g 20)) (z.g 20)):=by unfold FSpec.heap;rw[e3,e2];rfl
 rw[hH] at hG
 unfold FSpec.argsA at hl
 rw[e1] at hl
 obtain⟨v0,o7,rfl,h0,m7⟩:=LR.cons_inv (show LR ρ (.ptr base 0 0::jd bw z al) vs from hl)
 have d4:base+1<2 ^ 64:=by decide
 have WS:((T.leaf:T ABlk).set base (.obj k (C (z.g 20)) (z.g 20))).get base=some (.obj k (C (z.g 20)) (z.g 20)):=T.get_set_same _ _ _ d4
 cases h0 with
 |ptr b g o h hh ho=>
  obtain⟨Xj,h1,fp,j5,hs,YF,hI⟩:=hG.blk _ _ WS
  rw[hh] at j5;injection j5 with j5;subst j5
  have WD:∀b x,ρ.frz b=some x->b∉h.blk::fp:=λb x hf hm=>by obtain⟨_,g,hx,q2,q3⟩:=YF _ hm;exact hG.frzE (show ρ.frz b=some (x.1,x.2) from hf) q2 WS (λh=>h) q3
  have hc:=XV z hz w ρ h.blk fp o7 (λb x hf=>⟨WD b x hf,(hG.frz _ _ _ (show ρ.frz b=some (x.1,x.2) from hf)).1⟩) (λx hm=>by obtain⟨_,g,hx,q2,q3⟩:=YF _ hm;have:=(hG.dom _ _ _ q2).1;omega) m7 hI
  rw[hs]
  refine⟨λargs=>W_ args w,callsIn_wide.2 (hc.mono ?_)⟩
  rintro e w' ⟨v,fp',rfl,hI',l8,hv⟩
  obtain⟨s,p1,p2,p3⟩:=R' z
  have g9:=B9 hC d4 hG hh hs YF WD hI' l8
  have hle:=lQ ρ base w.heap.size fp'
  rcases hv with hv|⟨nb,arr,ty,fr,n1,n2,n3,hv⟩
  ·exact⟨v,gH ρ base w.heap.size fp',_,av z,s,rfl,g9,hle,hv _,by rw[e2];exact p1,p2,by rw[p3]⟩
  ·have x6:(gH ρ base w.heap.size fp').frz nb=none:=by
    show ρ.frz nb=none
    cases hr:ρ.frz nb with
    |none=>rfl
    |some x=>obtain⟨⟨Z1,q⟩,_⟩:=hG.frz nb x.1 x.2 hr;have:=(Array.getElem?_eq_some_iff.1 q).1;omega
   have j6:∀b g h2,(gH ρ base w.heap.size fp').at_ b g=some h2->h2.blk≠nb:=λb g h2 Xb e=>by
    rcases cV Xb with a1|⟨_,_,_,a4,_⟩
    ·have:=(hG.dom _ _ _ a1).1;omega
    ·exact n2 (e▸a4)
   exact⟨v,Au (gH ρ base w.heap.size fp') nb (arr,ty),_,av z,s,rfl,H8 g9 n1 x6 n3 j6,hle.trans (sL x6),hv _ (if_pos rfl),by rw[e2];exact p1,p2,by rw[p3]⟩
end
end Go.Sym
namespace Go.Sym
def RX{P:Program}{f:Nat}{S:FSpec}(h:∀z,¬S.pre z):Ok P f S:=⟨λz=>⟨⟨λ_=>0,λ_=>[],λ_=>False,λ_=>[]⟩,λhp=>absurd hp (h z)⟩,λz hz=>absurd hz (h z)⟩
def ar{P:Program}{f:Nat}{S:FSpec}{l:List Ent}(h:Ok P f S)(hl:∀e∈l,fO P e):∀e∈(⟨f,S,Classical.choose h,false⟩:Ent)::l,fO P e:=eC (Classical.choose_spec h) hl
def Ol{P:Program}{f:Nat}{S:FSpec}{l:List Ent}(h:Ok P f S)(hl:∀e∈l,fO P e):∀e∈(⟨f,S,Classical.choose h,true⟩:Ent)::l,fO P e:=eC (Classical.choose_spec h) hl
def aX{P:Program}{fn id:Nat}{ptm:List (Nat×Sa)}{LS:Sy->LSpec}{l:List LEnt}(h:SE P fn id LS)(hl:∀e∈l,eB P e):∀e∈(⟨fn,id,gE P fn id,ptm,LS,Classical.choose h⟩:LEnt)::l,eB P e:=lC (Classical.choose_spec h) hl
def Wd{P:Program}{m:List Memo}{c:List Ent}{l:List LEnt}{f:Nat}{S:FSpec}{T:Sy->Fm}{hn:Hn}(n:Nat)(hm:∀x∈m,ga P x)(hc:∀e∈c,fO P e)(hl:∀e∈l,eB P e)(hd:∀z,S.pre z->(T z).den)(he:∀z,S.callFm P (sJ m c l) n f z hn=T z:=by intro _;kernel_rfl):Ok P f S:=LO (pW hm hc hl) λz hz=>⟨hn,by rw[he];exact hd z hz⟩
def VJ{P:Program}{m:List Memo}{c:List Ent}{l:List LEnt}{f:Nat}{S:FSpec}{T:Sy->Fm}{hn:Hn}{t0:Nat}{D:Sy->Tm}(n:Nat)(hm:∀x∈m,ga P x)(hc:∀e∈c,fO P e)(hl:∀e∈l,eB P e)(hd:∀z,S.pre z->(T z).den)(hp:∀z,S.pre z->S.post z (aK [(t0,D z)]):=by intro _ _;rfl)(he:∀z,S.callFmP t0 D P (sJ m c l) n f z hn=T z:=by intro _;kernel_rfl):Ok P f S:=H7 (pW hm hc hl) hp λz hz=>⟨hn,by rw[he];exact hd z hz⟩
def Ve{P:Program}{m:List Memo}{c:List Ent}{l:List LEnt}{fn id:Nat}{LS:Sy->LSpec}{T:Sy->Sy->Fm}{hn:Hn}(n:Nat)(hm:∀x∈m,ga P x)(hc:∀e∈c,fO P e)(hl:∀e∈l,eB P e)(hd:∀p z,(LS p).inv z->(T p z).den)(he:∀p z,(LS p).roundFm P (sJ m c l) n fn id z hn=T p z:=by intro _ _;kernel_rfl)(hi:dF P fn id=true:=by kernel_rfl)(d4:∀p,Nat.ble (LS p).blk.length 64=true:=by intro _;rfl)(ZL:∀p,Ak (LS p).gl=true:=by intro p;rfl):SE P fn id LS:=PN (pW hm hc hl) hi (λp=>Nat.le_of_ble_eq_true (d4 p)) (λp z hz=>⟨hn,by rw[he];exact hd p z hz⟩) ZL
def hD:Nat->Nat->Hn×Nat
 |0,n=>(.nil,n)
 |k+1,n=>match n%4 with
  |0=>(.nil,n/4)
  |1=>(.both (hD k (n/4)).1 (hD k (hD k (n/4)).2).1,(hD k (hD k (n/4)).2).2)
  |2=>(.yes (hD k (n/4)).1,(hD k (n/4)).2)
  |_=>(.no (hD k (n/4)).1,(hD k (n/4)).2)
def hC(k n:Nat):Hn:=(hD k n).1
def cC{P:Program}{c:List Ent}{l:List LEnt}{f:Nat}{S:FSpec}{T:Sy->Fm}(i j:Nat)(hc:∀e∈c,fO P e)(hl:∀e∈l,eB P e)(hd:∀z,S.pre z->(T z).den)(he:∀z,S.callFm P (sJ [] c l) 1000 f z (hC i j)=T z:=by intro _;kernel_rfl):Ok P f S:=Wd 1000 mN hc hl hd he
def cG{P:Program}{c:List Ent}{l:List LEnt}{fn id:Nat}{LS:Sy->LSpec}{T:Sy->Sy->Fm}(i j:Nat)(hc:∀e∈c,fO P e)(hl:∀e∈l,eB P e)(hd:∀p z,(LS p).inv z->(T p z).den)(he:∀p z,(LS p).roundFm P (sJ [] c l) 1000 fn id z (hC i j)=T p z:=by intro _ _;kernel_rfl)(hi:dF P fn id=true:=by kernel_rfl)(d4:∀p,Nat.ble (LS p).blk.length 64=true:=by intro _;rfl)(ZL:∀p,Ak (LS p).gl=true:=by intro p;rfl):SE P fn id LS:=Ve 1000 mN hc hl hd he hi d4 ZL
abbrev Fm.ax(q:Prop):Fm:=.an True (.at q)
abbrev Fm.ct(q:Prop)(r:Sy->Prop)(f:Sy->Fm):Fm:=.an (True/\q) (.al (λy=>q->r y) f)
abbrev Fm.cl(a q:Prop)(r:Sy->Prop)(f:Sy->Fm):Fm:=.an (a/\q) (.al (λy=>q->r y) f)
def jR{p:Prop}(h:p:=by(try conv=>zeta);(repeat' with_reducible first|intro _|apply d_|apply ed|apply ef|apply eu|apply ew);all_goals first|omega|grind [aA,aq,ao]):p:=h
def pY{p:Prop}(h:p:=by(try conv=>zeta);(repeat' with_reducible first|intro _|apply d_|apply ed|apply ef|apply eu|apply ew);all_goals first|omega|grind [aA,aq,ao,List.append_assoc]):p:=h
def xH{p:Prop}(h:p:=by(try conv=>zeta);(repeat' with_reducible first|intro _|apply d_|apply ed|apply ef|apply eu|apply ew);all_goals first|omega|grind [aA,aq,ao,List.append_assoc,List.length_append,List.length_cons,List.length_nil,List.append_cancel_left_eq,List.cons.injEq]):p:=h
end Go.Sym
