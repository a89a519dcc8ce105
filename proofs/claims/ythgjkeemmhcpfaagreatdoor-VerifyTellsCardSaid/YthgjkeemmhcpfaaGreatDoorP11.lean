/- Part 11. -/
import Derived.ChangeArms
import Derived.DataReads
import GoSem.ClaimJoined
import Derived.Test.YthgjkeemmhcpfaaGreatDoorP10
set_option linter.all false
namespace Go.Sym
open Go.RowKit (Below)
noncomputable section
def bL:Code->List Nat
 | .block j a=>j::bL a
 | .seq a b=>bL a++bL b
 | .cond _ a b=>bL a++bL b
 | .loop a=>bL a
 |_=>[]
def bD(id:Nat):Code->Option Code
 | .block j a=>ac (Nat.beq j id) (some a) (bD id a)
 | .seq a b=>Option.rec (motive:=λ_=>Option Code) (bD id b) some (bD id a)
 | .cond _ a b=>Option.rec (motive:=λ_=>Option Code) (bD id b) some (bD id a)
 | .loop a=>bD id a
 |_=>none
def RA(n:Nat)(l:List Nat):Bool:=List.rec (motive:=λ_=>Bool) false (λx _ ih=>ac (Nat.beq x n) true ih) l
def sG:List Nat->Bool
 | []=>true
 |x::l=>ac (RA x l) false (sG l)
def Mf{n:Nat}:∀{l:List Nat},RA n l=true↔n∈l:=by
 intro l
 induction l with
 |nil=>exact⟨λh=>(by cases h),λh=>(by cases h)⟩
 |cons x l ih=>
  show ac (Nat.beq x n) true (RA n l)=true↔_;rw[ar];split
  ·rename_i e;have:=aac e;subst this;simp
  ·rename_i e;rw[ih];exact⟨λh=>by simp [h],λh=>by rcases List.mem_cons.1 h with h|h;exact absurd (by rw[h];exact abk _) e;exact h⟩
def I_:∀{l:List Nat},sG l=true->l.Nodup:=by
 intro l
 induction l with
 |nil=>intro _;exact List.nodup_nil
 |cons x l ih=>intro h;have h:ac (RA x l) false (sG l)=true:=h;obtain⟨h1,h2⟩:=CR h;refine List.nodup_cons.2 ⟨λhm=>?_,ih h2⟩;rw[Mf.2 hm] at h1;cases h1
def Dx{id:Nat}:∀{c:Code},id∈bL c->∃d,bD id c=some d:=by
 intro c
 induction c with
 |block j a ih=>
  intro h;show ∃d,ac (Nat.beq j id) (some a) (bD id a)=some d;rw[ar];split
  ·exact⟨_,rfl⟩
  ·rename_i e;rcases List.mem_cons.1 h with h|h
   ·exact absurd (by rw[h];exact abk _) e
   ·exact ih h
 |seq a b iha ihb=>
  intro h
  show ∃d,Option.rec (motive:=λ_=>Option Code) (bD id b) some (bD id a)=some d
  cases ha:bD id a with
  |some d=>exact⟨d,rfl⟩
  |none=>
   rcases List.mem_append.1 h with h|h
   ·obtain⟨d,e⟩:=iha h;rw[ha] at e;cases e
   ·exact ihb h
 |cond x a b iha ihb=>
  intro h
  show ∃d,Option.rec (motive:=λ_=>Option Code) (bD id b) some (bD id a)=some d
  cases ha:bD id a with
  |some d=>exact⟨d,rfl⟩
  |none=>
   rcases List.mem_append.1 h with h|h
   ·obtain⟨d,e⟩:=iha h;rw[ha] at e;cases e
   ·exact ihb h
 |loop a ih=>intro h;exact ih h
 |_=>intro h;cases h
def Dy{id:Nat}:∀{c:Code},id∉bL c->bD id c=none:=by
 intro c
 induction c with
 |block j a ih=>intro h;show ac (Nat.beq j id) (some a) (bD id a)=none;rw[ar,if_neg (λe=>h (by have:=aac e;subst this;exact aan))];exact ih λhm=>h (aaj _ hm)
 |seq a b iha ihb=>intro h;show Option.rec (motive:=λ_=>Option Code) (bD id b) some (bD id a)=none;rw[iha λhm=>h (List.mem_append.2 (.inl hm))];exact ihb λhm=>h (List.mem_append.2 (.inr hm))
 |cond x a b iha ihb=>intro h;show Option.rec (motive:=λ_=>Option Code) (bD id b) some (bD id a)=none;rw[iha λhm=>h (List.mem_append.2 (.inl hm))];exact ihb λhm=>h (List.mem_append.2 (.inr hm))
 |loop a ih=>intro h;exact ih h
 |_=>intro h;rfl
def lJ{id:Nat}{a b:Code}{f:Code}(hf:bD id f=Option.rec (motive:=λ_=>Option Code) (bD id b) some (bD id a))(hn:(bL a++bL b).Nodup):
 (id∈bL a->bD id f=bD id a)/\(id∈bL b->bD id f=bD id b):=by
 refine⟨λh=>?_,λh=>?_⟩
 ·obtain⟨d,e⟩:=Dx h;rw[hf,e]
 ·have:id∉bL a:=λha=>(List.nodup_append.1 hn).2.2 id ha id h rfl;rw[hf,Dy this]
def Ja{d c:Code}(h:SubC d c)(hn:(bL c).Nodup):(bL d).Nodup/\∀id,id∈bL d->bD id c=bD id d:=by
 induction h with
 |refl c=>exact⟨hn,λ_ _=>rfl⟩
 | @seqL a b c h ih=>obtain⟨h1,h2⟩:=ih hn;have h1:(bL a++bL b).Nodup:=h1;exact⟨(List.nodup_append.1 h1).1,λid hm=>(h2 id (List.mem_append.2 (.inl hm))).trans ((lJ (f:=.seq a b) rfl h1).1 hm)⟩
 | @seqR a b c h ih=>obtain⟨h1,h2⟩:=ih hn;have h1:(bL a++bL b).Nodup:=h1;exact⟨(List.nodup_append.1 h1).2.1,λid hm=>(h2 id (List.mem_append.2 (.inr hm))).trans ((lJ (f:=.seq a b) rfl h1).2 hm)⟩
 | @condL x a b c h ih=>obtain⟨h1,h2⟩:=ih hn;have h1:(bL a++bL b).Nodup:=h1;exact⟨(List.nodup_append.1 h1).1,λid hm=>(h2 id (List.mem_append.2 (.inl hm))).trans ((lJ (f:=.cond x a b) rfl h1).1 hm)⟩
 | @condR x a b c h ih=>obtain⟨h1,h2⟩:=ih hn;have h1:(bL a++bL b).Nodup:=h1;exact⟨(List.nodup_append.1 h1).2.1,λid hm=>(h2 id (List.mem_append.2 (.inr hm))).trans ((lJ (f:=.cond x a b) rfl h1).2 hm)⟩
 | @block id' a c h ih=>obtain⟨h1,h2⟩:=ih hn;have h1:(id'::bL a).Nodup:=h1;obtain⟨g1,g2⟩:=List.nodup_cons.1 h1;refine⟨g2,λid hm=>(h2 id (aaj _ hm)).trans ?_⟩;show ac (Nat.beq id' id) (some a) (bD id a)=_;rw[ar,if_neg (λe=>g1 (by have:=aac e;subst this;exact hm))]
 | @loop a c h ih=>obtain⟨h1,h2⟩:=ih hn;exact⟨h1,λid hm=>h2 id hm⟩
def sH(P:Program)(fn id:Nat):Option (Code×Nat):=match P.funcs[fn]? with
 |some f=>(match f.body with
  |some b=>ac (sG (bL b)) (match bD id b with|some (.loop c)=>some (c,f.ntmps)|_=>none) none
  |none=>none)
 |none=>none
def kW(P:Program)(fn id:Nat):Code:=match sH P fn id with|some (c,_)=>c|none=>.skip
def iX(P:Program)(fn id:Nat):Nat:=match sH P fn id with|some (_,n)=>n|none=>0
def eU(P:Program)(fn id:Nat):Bool:=match sH P fn id with|some _=>true|none=>false
def A2{P:Program}{fn id:Nat}{c:Code}(hl:eU P fn id=true)(h:∃f b,P.funcs[fn]? =some f/\f.body=some b/\SubC (.block id c) b):c= .loop (kW P fn id):=by
 obtain⟨f,b,h1,h2,h3⟩:=h
 unfold eU at hl
 unfold kW
 unfold sH at hl⊢
 simp only [h1,h2] at hl⊢
 cases hn:sG (bL b) with
 |false=>rw[hn] at hl;cases hl
 |true=>
  rw[hn] at hl;obtain⟨_,q⟩:=Ja h3 (I_ hn);have e:bD id b=some c:=by rw[q id aan];show ac (Nat.beq id id) (some c) (bD id c)=some c;rw[ar,if_pos (abk id)]
  rw[e] at hl⊢;cases c <;> first|(cases hl;done)|rfl
structure Alt where
 ex:AEx
 tmps:List (Nat×Sa)
 out:List BSh
structure LSpec where
 tmps:List (Nat×Sa)
 blk:List BSh
 inv:Sy->Prop
 mu:Sy->Nat
 alts:List Alt
 post:Sy->Sy->Prop
 gl:Option (Nat×Nat×List Nat):=none
 keep:List Nat:=[]
def Mg(l:List (Nat×Sa)):List Sa:=List.rec (motive:=λ_=>List Sa) [] (λx _ ih=>x.2::ih) l
def qc(l:List (Nat×Sa))(env:T AV)(k:List AV->Tr):Tr:=List.rec (motive:=λ_=>(List AV->Tr)->Tr) (λk=>k []) (λx _ ih k=>T.getK env x.1 .fail λa=>ih λl=>k (a::l)) l k
def vD(γ:lS)(y:Sy)(l:List (Nat×Sa))(t:T AV)(k:T AV->Tr):Tr:=List.rec (motive:=λ_=>T AV->(T AV->Tr)->Tr) (λt k=>k t) (λx _ ih t k=>T.setK t x.1 (kR γ y x.2) λt=>ih t k) l t k
def A3(γ:lS)(y:Sy)(l:List (Nat×Sa))(t:T AV):T AV:=List.rec (motive:=λ_=>T AV->T AV) (λt=>t) (λx _ ih t=>ih (t.set x.1 (kR γ y x.2))) l t
def A4(γ:lS)(y:Sy):∀(l:List (Nat×Sa)) (t:T AV) (k:T AV->Tr),vD γ y l t k=k (A3 γ y l t):=by
 intro l
 induction l with
 |nil=>intro t k;rfl
 |cons x l ih=>intro t k;show T.setK t x.1 (kR γ y x.2) (λt=>vD γ y l t k)=_;rw[T.setK_eq,ih];rfl
def Wx(l:List Nat)(t:T AV)(k:T AV->Tr):Tr:=List.rec (motive:=λ_=>T AV->(T AV->Tr)->Tr) (λt k=>k t) (λn _ ih t k=>T.setK t n (.opq n) λt=>ih t k) l t k
def Wy(l:List Nat)(t:T AV):T AV:=List.rec (motive:=λ_=>T AV->T AV) (λt=>t) (λn _ ih t=>ih (t.set n (.opq n))) l t
def RB:∀(l:List Nat) (t:T AV) (k:T AV->Tr),Wx l t k=k (Wy l t):=by
 intro l
 induction l with
 |nil=>intro t k;rfl
 |cons x l ih=>intro t k;show T.setK t x (.opq x) (λt=>Wx l t k)=_;rw[T.setK_eq,ih];rfl
def A5:∀{l:List Nat} {t:T AV} {b:Nat} {a:AV},(Wy l t).get b=some a->(b∈l/\a= .opq b)∨t.get b=some a:=by
 intro l
 induction l with
 |nil=>intro t b a h;exact .inr h
 |cons x l ih=>
  intro t b a h;rcases ih (t:=t.set x (.opq x)) h with⟨h1,h2⟩|h
  ·exact .inl ⟨aaj _ h1,h2⟩
  ·by_cases e:b=x
   ·subst e;exact .inl ⟨aan,T.get_set_some _ _ h⟩
   ·rw[T.get_set_ne _ e] at h;exact .inr h
def Jb(l:List Nat)(env:T AV)(k:Tr):Tr:=List.rec (motive:=λ_=>Tr) k (λn _ ih=>T.getK env n .fail λa=>match a with | .opq m=>ac (Nat.beq m n) ih .fail|_=>.fail) l
def A6{σ:St}{K:Fin}{env:T AV}{k:Tr}:∀{l:List Nat},run (Jb l env k) σ K=true->run k σ K=true/\∀n∈l,env.get n=some (.opq n):=by
 intro l
 induction l with
 |nil=>intro h;exact⟨h,λn hn=>by cases hn⟩
 |cons x l ih=>
  intro h;obtain⟨a,ha,h⟩:=ul (show run (T.getK env x .fail λa=>match a with | .opq m=>ac (Nat.beq m x) (Jb l env k) .fail|_=>.fail) σ K=true from h);split at h
  ·obtain⟨e,h'⟩:=ay h;have e:=aL e;subst e;obtain⟨h1,h2⟩:=ih h';exact⟨h1,λn hn=>by
    rcases List.mem_cons.1 hn with rfl|hn
    ·exact ha
    ·exact h2 n hn⟩
  ·exact(ah h).elim
def vE(l:List Nat)(env t:T AV)(k:T AV->Tr):Tr:=List.rec (motive:=λ_=>T AV->(T AV->Tr)->Tr) (λt k=>k t) (λn _ ih t k=>T.getK env n (ih t k) λa=>T.setK t n a λt=>ih t k) l t k
def qd(l:List Nat)(env t:T AV):T AV:=List.rec (motive:=λ_=>T AV->T AV) (λt=>t) (λn _ ih t=>match env.get n with|none=>ih t|some a=>ih (t.set n a)) l t
def Mh:∀(l:List Nat) (env t:T AV) (k:T AV->Tr),vE l env t k=k (qd l env t):=by
 intro l env
 induction l with
 |nil=>intro t k;rfl
 |cons x l ih=>
  intro t k
  show T.getK env x (vE l env t k) (λa=>T.setK t x a λt=>vE l env t k)=k (match env.get x with|none=>qd l env t|some a=>qd l env (t.set x a))
  rw[T.getK_eq]
  cases env.get x with
  |none=>exact ih t k
  |some a=>show T.setK t x a (λt=>vE l env t k)=_;rw[T.setK_eq];exact ih _ k
def Jc{env:T AV}:∀{l:List Nat} {t:T AV} {b:Nat} {a:AV},(qd l env t).get b=some a->(b∈l/\env.get b=some a)∨t.get b=some a:=by
 intro l
 induction l with
 |nil=>intro t b a h;exact .inr h
 |cons x l ih=>
  intro t b a h
  have h:(match env.get x with|none=>qd l env t|some a=>qd l env (t.set x a)).get b=some a:=h
  cases he:env.get x with
  |none=>
   rw[he] at h;rcases ih h with⟨h1,h2⟩|h
   ·exact .inl ⟨aaj _ h1,h2⟩
   ·exact .inr h
  |some v=>
   rw[he] at h;rcases ih (t:=t.set x v) h with⟨h1,h2⟩|h
   ·exact .inl ⟨aaj _ h1,h2⟩
   ·by_cases e:b=x
    ·subst e;have:=T.get_set_some _ _ h;exact .inl ⟨aan,by rw[he,this]⟩
    ·rw[T.get_set_ne _ e] at h;exact .inr h
def xJ(a b:AEx):Bool:=match a,b with
 | .normal,.normal=>true
 | .ret,.ret=>true
 | .exit i,.exit j=>Nat.beq i j
 |_,_=>false
def Jd{a b:AEx}(h:xJ a b=true):a=b:=by
 unfold xJ at h;split at h
 ·rfl
 ·rfl
 ·have:=aac h;subst this;rfl
 ·cases h
def kX(l:List Alt)(i:Nat)(ex:AEx)(env:T AV):Tr:=
 List.rec (motive:=λ_=>Nat->Tr) (λ_=>.fail) (λa _ ih i=>ac (xJ a.ex ex) (qc a.tmps env λas=>.ret (.tup [.int .i64 (.ofNat i),.tup as])) (ih (Nat.succ i))) l i
def Mi(S:LSpec):XK:=λex env df=>match df with
 | []=>(match ex with
  | .normal=>Jb S.keep env (qc S.tmps env λas=>.ret (.tup [.int .i64 0,.tup as]))
  |ex=>Jb S.keep env (kX S.alts 1 ex env))
 |_=>.fail
def vF(H:T ABlk)(tm:List (Nat×Tm))(l:List Sa)(blk:List BSh)(as:List AV):Option PS:=
 bC (iB H blk l as {kj with tm:=tm}) λs=>bC (I4 H blk 0 s) λs=>bC (I3 H blk blk 0 s) λs=>bC (mf blk s.ln s) λs=>ac (ac (nM [] (List.length blk) s.loc) (sv s.fz s.loc) false) (ac (mg (List.length blk) s.loc) (some s) none) none
def qe(l:List Alt)(i:Nat):Option Alt:=List.rec (motive:=λ_=>Nat->Option Alt) (λ_=>none) (λa _ ih i=>Nat.rec (motive:=λ_=>Option Alt) (some a) (λi _=>ih i) i) l i
def UH(S:LSpec)(z:Sy):Lf:=λa σ _=>match a with
 | .tup [.int .i64 (.ofNat i),.tup as]=>(match i with
  |0=>(match vF σ.h [] (Mg S.tmps) S.blk as with
   |some s=>.an s.pr (.at (S.inv (aM s.tm)/\S.mu (aM s.tm)<S.mu z/\∀y,S.post (aM s.tm) y->S.post z y))
   |none=>.ff)
  |i+1=>(match qe S.alts i with
   |some alt=>(match vF σ.h [(999,.i (.ofNat i))] (Mg alt.tmps) alt.out as with
    |some s=>.an s.pr (.at (S.post z (aM s.tm)))
    |none=>.ff)
   |none=>.ff))
 |_=>.ff
def LSpec.env(S:LSpec)(z:Sy):T AV:=Wy S.keep (A3 bH z S.tmps .leaf)
def LSpec.heap(S:LSpec)(z:Sy):T ABlk:=addTab S.gl (eS bH z S.blk 0 .leaf)
def LSpec.roundFm(S:LSpec)(P:Program)(M:Tab)(n fn id:Nat)(z:Sy)(h:Hn):Fm:=
 CI (vD bH z S.tmps .leaf λenv=>Wx S.keep env λenv=>xj P M n (kW P fn id) env (iX P fn id) fn none [] (Mi S)) (start (S.heap z) (base+64)) (UH S z) h
def Mj(n:Nat)(S:LSpec):Bool:=ac (S.keep.all λt=>Nat.ble (Nat.succ t) n) (S.alts.all λa=>ac (qb S.blk a.out) (Nat.beq a.out.length S.blk.length) false) false
def Je{id:Nat}{t:Code}:∀{c d:Code},bD id c=some d->SubC c t->SubC (.block id d) t:=by
 intro c
 induction c with
 |block j a ih=>
  intro d h hs;replace h:ac (Nat.beq j id) (some a) (bD id a)=some d:=h;rw[ar] at h;split at h
  ·rename_i e;injection h with h;have:=aac e;subst this;subst h;exact hs
  ·exact ih h (.block hs)
 |seq a b iha ihb=>
  intro d h hs
  have h:Option.rec (motive:=λ_=>Option Code) (bD id b) some (bD id a)=some d:=h
  cases ha:bD id a with
  |some d'=>rw[ha] at h;injection h with h;subst h;exact iha ha (.seqL hs)
  |none=>rw[ha] at h;exact ihb h (.seqR hs)
 |cond x a b iha ihb=>
  intro d h hs
  have h:Option.rec (motive:=λ_=>Option Code) (bD id b) some (bD id a)=some d:=h
  cases ha:bD id a with
  |some d'=>rw[ha] at h;injection h with h;subst h;exact iha ha (.condL hs)
  |none=>rw[ha] at h;exact ihb h (.condR hs)
 |loop a ih=>intro d h hs;exact ih h (.loop hs)
 |_=>intro d h;cases h
def Mk{P:Program}{fn id:Nat}(hl:eU P fn id=true):InF P fn none (kW P fn id):=λ_=>by
 unfold eU at hl;unfold kW;unfold sH at hl⊢;split at hl <;> try (cases hl;done)
 rename_i x cn hc;split at hc <;> try (cases hc;done)
 rename_i f hf;split at hc <;> try (cases hc;done)
 rename_i b hb;obtain⟨hn,hc⟩:=bf hc;split at hc <;> try (cases hc;done)
 rename_i c ae0;simp only [hn];exact .inr ⟨f,b,hf,hb,.loop (.block (Je ae0 (.refl b)))⟩
def YY(ρ:Rho)(l:List (Nat×Sa))(as:List AV)(tmps:Array Value):Prop:=cH (λ(x:Nat×Sa) a=>∃v,tmps[x.1]? =some v/\VR ρ a v) l as
section
variable{P:Program}{σ:St}{K:Fin}{ρ:Rho}
def iY{env:T AV}{k:List AV->Tr}:∀{l:List (Nat×Sa)},run (qc l env k) σ K=true->∃as,run (k as) σ K=true/\cH (λ(x:Nat×Sa) a=>env.get x.1=some a) l as
 | [],h=>⟨[],h,trivial⟩
 |x::l,h=>by obtain⟨a,ha,h⟩:=ul (show run (T.getK env x.1 .fail λa=>qc l env λl=>k (a::l)) σ K=true from h);obtain⟨as,h1,h2⟩:=iY (k:=λl=>k (a::l)) h;exact⟨a::as,h1,ha,h2⟩
def Ml{nt:Nat}{env:T AV}{tmps:Array Value}(hE:ER ρ nt env tmps):∀{l:List (Nat×Sa)} {as:List AV},cH (λ(x:Nat×Sa) a=>env.get x.1=some a) l as->YY ρ l as tmps
 | [],[],_=>trivial
 |x::l,a::as,⟨h1,h2⟩=>⟨hE.val _ _ h1,Ml hE h2⟩
 | [],_::_,h=>h.elim
 |_::_,[],h=>h.elim
def pt{γ:lS}{y:Sy}:∀{l:List (Nat×Sa)} {t:T AV} {b:Nat} {a:AV},(A3 γ y l t).get b=some a->(∃x,x∈l/\x.1=b/\a=kR γ y x.2)∨t.get b=some a:=by
 intro l
 induction l with
 |nil=>intro t b a h;exact .inr h
 |cons x l ih=>
  intro t b a h;rcases ih (t:=t.set x.1 (kR γ y x.2)) h with⟨z,h1,h2,h3⟩|h
  ·exact .inl ⟨z,aaj _ h1,h2,h3⟩
  ·by_cases e:b=x.1
   ·subst e;exact .inl ⟨x,aan,rfl,T.get_set_some _ _ h⟩
   ·rw[T.get_set_ne _ e] at h;exact .inr h
def xK{env:T AV}{ex:AEx}{A:AV}{σf:St}:∀{l:List Alt} {i:Nat},run (kX l i ex env) σ (λa s=>dP (a=A/\s=σf))=true->
 ∃j alt as,qe l j=some alt/\alt.ex=ex/\cH (λ(x:Nat×Sa) a=>env.get x.1=some a) alt.tmps as/\A= .tup [.int .i64 (.ofNat (i+j)),.tup as]/\σ=σf:=by
 intro l
 induction l with
 |nil=>intro i h;exact(ah h).elim
 |cons a l ih=>
  intro i h
  have h:run (ac (xJ a.ex ex) (qc a.tmps env λas=>.ret (.tup [.int .i64 (.ofNat i),.tup as])) (kX l (Nat.succ i) ex env)) σ (λa s=>dP (a=A/\s=σf))=true:=h
  rcases bU h with⟨e,h⟩|⟨e,h⟩
  ·obtain⟨as,h1,h2⟩:=iY h;obtain⟨e1,e2⟩:=fE.1 (show dP (AV.tup [.int .i64 (.ofNat i),.tup as]=A/\σ=σf)=true from h1);exact⟨0,a,as,rfl,Jd e,h2,e1.symm,e2⟩
  ·obtain⟨j,alt,as,h1,h2,h3,h4,h5⟩:=ih h;exact⟨j+1,alt,as,h1,h2,h3,by rw[h4,show Nat.succ i+j=i+(j+1) by omega],h5⟩
def A7{H:T ABlk}{tm:List (Nat×Tm)}{l:List Sa}{blk:List BSh}{as:List AV}{s:PS}(h:vF H tm l blk as=some s)(hp:s.pr):
 cH (TvA (mW s H) blk s.L (aM s.tm)) l as/\(∀j x,blk[j]? =some x->∃b g,s.L j=some (b,g)/\∃q,H.get b=some q/\BT ρ (mW s H) blk s.L (aM s.tm) x q g)/\Fin2 [] blk.length s blk.length:=by
 obtain⟨s1,h1,h⟩:=aB h
 obtain⟨s2,h2,h⟩:=aB h
 obtain⟨s3,h3,h⟩:=aB h
 obtain⟨s4,h4,h⟩:=aB h
 obtain⟨h5,h⟩:=bf h
 obtain⟨h6,h⟩:=bf h
 injection h with h
 subst h
 obtain⟨h5,h7⟩:=aD h5
 have hln:=lH h4 hp
 obtain⟨f1,_,_,_,_⟩:=eu h4
 obtain⟨p1,p2⟩:=gd (blk:=blk) h1
 obtain⟨st,_,_⟩:=qS h2
 obtain⟨b1,b2⟩:=qU (ρ:=ρ) h3
 refine⟨p2 s4 (st.trans (b1.trans f1)) hp hln,λj x hx=>?_,Fz h5 h6 h7⟩
 obtain⟨b,g,q1,q2⟩:=b2 s4 f1 hp hln j x hx
 exact⟨b,g,by rw[aam] at q1;exact q1,q2⟩
def mJ(P:Program)(fn id:Nat)(S:LSpec)(z y:Sy):Prop:=
 ∀(w:World) (ρ:Rho) (a:Act) (Q:Exit->Act->World->Prop),Good w ρ (S.heap z) w->OwnOk ρ->ρ.frz0=ρ.frz->ER ρ (iX P fn id) (S.env z) a.tmps->a.defers= []->
  (∀(ρ':Rho) (wx w':World) (H':T ABlk) (a':Act) (i:Nat) (alt:Alt) (as:List AV) (s:PS),FinRel S.blk ρ w ρ' wx->Good wx ρ' H' w'->qe S.alts i=some alt->a'.tmps.size=iX P fn id->a'.defers= []->
   YY ρ' alt.tmps as a'.tmps->vF H' [(999,.i (.ofNat i))] (Mg alt.tmps) alt.out as=some s->s.pr->y=aM s.tm->(∀t∈S.keep,a'.tmps[t]? =some (ρ.val t))->Q (YX alt.ex) a' w')->jA P none (kW P fn id) Q a w
def sJ{R:Sa->AV->Prop}:∀{l:List (Nat×Sa)} {as:List AV},cH R (Mg l) as->cH (λ(x:Nat×Sa) a=>R x.2 a) l as
 | [],[],_=>trivial
 |x::l,a::as,h=>⟨h.1,sJ h.2⟩
 | [],_::_,h=>h.elim
 |_::_,[],h=>h.elim
def sK{α β:Type}{R:α->β->Prop}:∀{l:List α} {m:List β} {x:α},cH R l m->x∈l->∃b,R x b
 | [],[],x,_,h=>by cases h
 |a::l,b::m,x,⟨h1,h2⟩,h=>by
  rcases List.mem_cons.1 h with e|h
  ·subst e;exact⟨b,h1⟩
  ·exact sK h2 h
 | [],_::_,_,h,_=>h.elim
 |_::_,[],_,h,_=>h.elim
def sL{α β:Type}{R S:α->β->Prop}:∀{l:List α} {m:List β},cH R l m->cH S l m->cH (λa b=>R a b/\S a b) l m
 | [],[],_,_=>trivial
 |_::_,_::_,⟨h1,h2⟩,⟨h3,h4⟩=>⟨⟨h1,h3⟩,sL h2 h4⟩
 | [],_::_,h,_=>h.elim
 |_::_,[],h,_=>h.elim
def vG{vl:Nat->Value}{w w':World}{ρ ρ':Rho}{H':T ABlk}{S:LSpec}{as:List AV}{s:PS}{a':Act}{nt:Nat}(ho:OwnOk ρ)(hf0:ρ.frz0=ρ.frz)(j7:Good w ρ' H' w')(hle:ρ.le ρ')(hs:vF H' [] (Mg S.tmps) S.blk as=some s)(hp:s.pr)(T':a'.tmps.size=nt)(q9:YY ρ' S.tmps as a'.tmps)(f9:S.blk.length<=64)(af9:TabIn ρ S.gl)(htk:∀t∈S.keep,a'.tmps[t]? =some (vl t)):
 ∃ρ2:Rho,ρ2.val=vl/\Good w' ρ2 (S.heap (aM s.tm)) w'/\OwnOk ρ2/\ρ2.frz0=ρ2.frz/\ER ρ2 nt (S.env (aM s.tm)) a'.tmps/\∀ρf wx,FinRel S.blk ρ2 w' ρf wx->FinRel S.blk ρ w ρf wx:=by
 obtain⟨t1,t2,t3⟩:=A7 (ρ:=ρ') hs hp
 have hm:MvHyp w ρ' H' (mW s H') w' w w' s.L bH S.blk (aM s.tm) (AZ w ρ' H' s.L) (kS w.heap.size ρ' H' w' w s.L):=
  {good:=j7,hb:=t2,dom:=λj p h=>(t3.t3 j p.1 p.2 h).1,linj:=t3.t4,
   ginj:=λa b _ _ e=>by have e:base+a=base+b:=e;omega,g64:=λj hj=>by have:=FB;show base+j+1<_;omega,
   g0:=λ_ _ _ _=>rfl,kept:=Kept.refl _ _ _,owns:=λj h h1 h2=>.inr ⟨j,h,h1,rfl,h2⟩,
   frF:=λb x hb hF=>⟨(iW hF).1,t3.t5 b (iW hF).2,λg h hh i5=>by
    rcases i5 with i5|i5
    ·exact i5
    ·rw[hle.own] at i5;obtain⟨j,g0,h0,q1,q2,q3⟩:=ho _ i5;have:=(j7.inj _ _ _ _ _ _ (hle.at_ _ _ _ q2) hh q1).1;omega⟩,
   frz:=λb x h _=>h}
 have ak0:OwnOk (lT w.heap.size ρ' H' w' w s.L bH S.blk.length (AZ w ρ' H' s.L) (kS w.heap.size ρ' H' w' w s.L) vl):=λx hx=>by obtain⟨j,h,q1,q2,q3⟩:=hx;obtain⟨b,g,_,e,_⟩:=c_ q1;have hj:=(t3.t3 _ _ _ e).1;obtain⟨g',hg'⟩:=A1 hm q1 (by rw[q2];exact q3) hj;exact⟨j,g',h,q2,hg',aa5 hj f9⟩
 have ad5:∀j x,S.blk[j]? =some x->iU x=true->∃q,s.L j=some (base+j,0)/\H'.get (base+j)=some q/\BT ρ' (mW s H') S.blk s.L (aM s.tm) x q 0/\j<S.blk.length:=λj x hx A'=>by obtain⟨b,g,e1,q,e2,e3⟩:=t2 j _ hx;have:=(ia e3).1 A';subst this;have hj:=(t3.t3 _ _ _ e1).1;have:=t3.at0 e1 hj;subst this;exact⟨q,e1,e2,e3,hj⟩
 have ab9:∀j g h,FA S.blk j->ρ'.at_ (base+j) g=some h->(lT w.heap.size ρ' H' w' w s.L bH S.blk.length (AZ w ρ' H' s.L) (kS w.heap.size ρ' H' w' w s.L) vl).at_ (base+j) g=some h:=λj g h hc h1=>by obtain⟨k,C,t,hx⟩:=hc;obtain⟨q,e1,e2,e3,hj⟩:=ad5 j _ hx rfl;obtain⟨_,e⟩:=e3;subst e;exact jE hm hj ⟨_,_,_,_,_,e1,e2⟩ e1 h1 (j7.objO _ _ _ _ e2 _ _ h1).1
 refine⟨_,rfl,Good.addTab ⟨hm.to0,ak0.B⟩ (af9.mono λb x h=>eB (hle.frz _ _ h)),ak0,rfl,⟨T',λt a ha=>?_⟩,λρf wx hF=>?_⟩
 ·rcases A5 ha with⟨h1,h2⟩|ha
  ·subst h2;exact⟨_,htk _ h1,.opq _⟩
  rcases pt ha with⟨x,h1,h2,h3⟩|h
  ·subst h3;obtain⟨b,⟨v,hv,hr⟩,htv⟩:=sK (sL q9 (sJ t1)) h1;exact⟨v,by rw[←h2];exact hv,TvA.vr hm htv hr⟩
  ·simp [T.get] at h
 ·have au4:=j7.below.size;refine⟨?_,λb x hx=>hF.frz _ _ (eB (hle.frz _ _ hx)),λb x hx c8=>?_,λx hx=>?_,λj h hc hh=>?_,λj g h hc hh=>hF.objs j g h hc (ab9 j g h hc (hle.at_ _ _ _ hh))⟩
  ·have hk:=j7.below;rw[hle.own] at hk;refine hk.trans ⟨hF.kept.os,hF.kept.tape,hF.kept.output,hF.kept.size,λx hx s8=>hF.kept.block x (by omega) λhpo=>?_⟩;obtain⟨_,_,_,_,q⟩:=hpo;rcases q with q|q
   ·omega
   ·rw[hle.own] at q;exact s8 q
  ·have h1:=hF.frzB b x hx (by omega);have h1:kS w.heap.size ρ' H' w' w s.L b=some x:=h1;unfold kS at h1;split at h1
   ·rename_i x' hx';injection h1 with h1;subst h1;have:=j7.frzB b _ hx' c8;rw[hle.frz0,hf0] at this;exact this
   ·split at h1
    ·rename_i hc;omega
    ·cases h1
  ·obtain⟨j,g,h,q1,q2,q3,q4⟩:=hF.ownx x hx;refine⟨j,g,h,q1,q2,q3, ?_⟩;rcases q4 with q4|⟨q4,g',q5⟩
   ·exact .inl (by omega)
   ·obtain⟨_,_,_,_,q6⟩:=q4;rcases q6 with q6|q6
    ·exact .inl q6
    ·rw[hle.own] at q6;refine .inr ⟨q6, ?_⟩;obtain⟨j',hj',e1,hGj⟩:=eA (show iI w.heap.size ρ' H' s.L bH S.blk.length (base+j) g'=some h from q5);have e1:base+j'=base+j:=e1;have:j'=j:=by omega
     subst this;obtain⟨b,g1,g2,e3,e4⟩:=c_ (ew hGj).1;have:=t3.at0 e3 hj';subst this;obtain⟨j2,g3,h2,r1,r2,r3⟩:=ho _ q6;obtain⟨u1,u2⟩:=j7.inj _ _ _ _ _ _ (hle.at_ _ _ _ r2) e4 (by rw[r1,q1]);have:j2=j':=by omega
     subst this;subst u2;exact⟨g3,r2⟩
  ·have h1:=hle.at_ _ _ _ hh;obtain⟨x,hx,A'⟩:=hc;refine hF.stb j h ⟨x,hx,A'⟩ ?_;by_cases hob:FA S.blk j
   ·exact ab9 j 0 h hob h1
   ·obtain⟨q,e1,e2,e3,hj⟩:=ad5 j x hx A';have s8:¬zA H' s.L j:=λ⟨b2,g2,k,I,l,f1,f2⟩=>by rw[e1] at f1;injection f1 with f1;injection f1 with f1 _;subst f1;rw[e2] at f2;injection f2 with f2;obtain⟨k,C,t,e⟩:=(ia e3).2.1.2 ⟨k,I,l,f2⟩;exact hob ⟨k,C,t,by rw[hx,e]⟩
    refine(ez hm hj s8).trans ?_;unfold bz;rw[e1];have:∀c g ty,q= .grow c g ty->¬c.len=0:=λc g ty e=>by
     subst e
     cases x with
     |cells ty l=>obtain⟨_,c,as,e,_⟩:=e3;cases e
     |sm m t=>obtain⟨_,e|⟨c,e,_⟩⟩:=e3 <;> cases e
     |arr m ty t=>obtain⟨_,e,l9⟩:=e3;injection e with e;subst e;intro h0;have h0:List.length _=0:=h0;omega
     |arb ty t=>obtain⟨_,e,l9⟩:=e3;injection e with e;subst e;intro h0;have h0:List.length _=0:=h0;omega
     |obj k C t=>obtain⟨_,e⟩:=e3;cases e
     |_=>cases A'
    simp only [e2];split
    ·rename_i e;injection e with e;rw[if_neg (this _ _ _ e)];exact h1
    ·exact h1
def qV{i j:Int}{as bs:List AV}(h:AV.tup [.int .i64 i,.tup as]= .tup [.int .i64 j,.tup bs]):i=j/\as=bs:=by injection h with h;injection h with h1 h2;injection h1 with _ h1;injection h2 with h2 _;injection h2 with h2;exact⟨h1,h2⟩
def RC{M:Tab}(hM:TabOk P M){n fn id:Nat}{S:LSpec}(hl:eU P fn id=true)(f9:S.blk.length<=64)(hgl:∀g ty l,S.gl=some (g,ty,l)->g<1048576)(h:∀z,S.inv z->∃hn,(S.roundFm P M n fn id z hn).den):
 ∀(m:Nat) (z:Sy),S.mu z=m->S.inv z->∃y,S.post z y/\mJ P fn id S z y:=by
 intro m
 induction m using Nat.strongRecOn with
 |_ m ih=>
 intro z hm hz
 obtain⟨hn,hd⟩:=h z hz
 obtain⟨A,σf,e,hn',G'⟩:=Dq _ _ _ _ hd
 replace e:∀K,run (xj P M n (kW P fn id) (S.env z) (iX P fn id) fn none [] (Mi S)) (start (S.heap z) (base+64)) K=K A σf:=λK=>by rw[←e K,A4,RB];rfl
 have round:∀(w:World) (ρ:Rho) (a:Act) (Q:Exit->Act->World->Prop),Good w ρ (S.heap z) w->ER ρ (iX P fn id) (S.env z) a.tmps->a.defers= []->
  (∀(ρ':Rho) (w':World) (a':Act) (ex:AEx) (as:List AV),ρ.le ρ'->Good w ρ' σf.h w'->a'.tmps.size=iX P fn id->a'.defers= []->(∀t∈S.keep,a'.tmps[t]? =some (ρ.val t))->
   ((ex= .normal/\A= .tup [.int .i64 0,.tup as]/\YY ρ' S.tmps as a'.tmps)∨(ex≠ .normal/\∃i alt,qe S.alts i=some alt/\alt.ex=ex/\A= .tup [.int .i64 (.ofNat (i+1)),.tup as]/\YY ρ' alt.tmps as a'.tmps))->
   (match YX ex with | .normal=>jA P none (kW P fn id) Q a' w'|e=>Q e a' w'))->jA P none (kW P fn id) Q a w:=by
  intro w ρ a Q hG hE hdf ac5
  refine IX ((qR P hM w n).1 (kW P fn id) (S.env z) (iX P fn id) fn [] (Mi S) (start (S.heap z) (base+64)) (λa' s'=>dP (a'=A/\s'=σf)) ρ w a _ none none rfl (nG (by decide) (by decide)) hG hE (by rw[hdf];trivial) (by rw[e];exact fE.2 ⟨rfl,rfl⟩) (λex env' df' a9 ρ' w' a' q1 q2 q3 q4 q5 q6=>?_) (Mk hl))
  cases df' with
  |cons _ _=>exact(ah q1).elim
  |nil=>
  have hd':a'.defers= []:=by
   cases hd:a'.defers with
   |nil=>rfl
   |cons _ _=>rw[hd] at q6;exact q6.elim
  have toks:(∀n∈S.keep,env'.get n=some (.opq n))->∀t∈S.keep,a'.tmps[t]? =some (ρ.val t):=λh t ht=>by obtain⟨v,h1,h2⟩:=q5.val _ _ (h t ht);cases h2;rw[←q4.val];exact h1
  have alts:run (kX S.alts 1 ex env') a9 (λa' s'=>dP (a'=A/\s'=σf))=true->∃as,a9=σf/\∃i alt,qe S.alts i=some alt/\alt.ex=ex/\A= .tup [.int .i64 (.ofNat (i+1)),.tup as]/\YY ρ' alt.tmps as a'.tmps:=λq=>by obtain⟨j,alt,as,r1,r2,r3,r4,r5⟩:=xK q;exact⟨as,r5,j,alt,r1,r2,by rw[r4,Nat.add_comm],Ml q5 r3⟩
  have other:ex≠ .normal->run (Jb S.keep env' (kX S.alts 1 ex env')) a9 (λa' s'=>dP (a'=A/\s'=σf))=true->(match YX ex with | .normal=>jA P none (kW P fn id) Q a' w'|e=>Q e a' w'):=λm8 q=>by obtain⟨q,hk⟩:=A6 q;obtain⟨as,r1,r2⟩:=alts q;subst r1;exact ac5 ρ' w' a' ex as q4 q3 q5.size hd' (toks hk) (.inr ⟨m8,r2⟩)
  cases ex with
  |normal=>
   obtain⟨q1,hk⟩:=A6 (show run (Jb S.keep env' (qc S.tmps env' λas=>.ret (.tup [.int .i64 0,.tup as]))) a9 _=true from q1)
   obtain⟨as,r1,r2⟩:=iY q1
   obtain⟨e1,e2⟩:=fE.1 (show dP (AV.tup [.int .i64 0,.tup as]=A/\a9=σf)=true from r1)
   subst e2
   exact ac5 ρ' w' a' .normal as q4 q3 q5.size hd' (toks hk) (.inl ⟨rfl,e1.symm,Ml q5 r2⟩)
  |exit i=>exact other (λh=>by cases h) q1
  |goto l=>exact other (λh=>by cases h) q1
  |ret=>exact other (λh=>by cases h) q1
 unfold UH at G'
 split at G'
 case h_2=>exact G'.elim
 rename_i i as
 split at G'
 ·split at G';case h_2=>exact G'.elim
  rename_i s hs;have hsp:=G'.1;obtain⟨k1,k2,k3⟩:=G'.2 G'.1;obtain⟨y,y1,y2⟩:=ih (S.mu (aM s.tm)) (by omega) (aM s.tm) rfl k1;refine⟨y,k3 y y1,λw ρ a Q hG ho hf0 hE hdf hQ=>round w ρ a Q hG hE hdf λρ' w' a' ex s9 hle j7 T' hd' htk hor=>?_⟩;rcases hor with⟨r1,r2,r3⟩|⟨_,i,alt,_,_,r2,_⟩
  ·subst r1;obtain⟨_,r2⟩:=qV r2;subst r2;obtain⟨ρ2,g0,g1,g2,g3,g4,g5⟩:=vG (a':=a') ho hf0 j7 hle hs hsp T' r3 f9 (Good.tabIn (z:=z) hgl hG) htk;exact y2 w' ρ2 a' Q g1 g2 g3 g4 hd' λρf wx wf Hf af j alt asf sf hF h1 h2 h3 h4 h5 h6 h7 h8 h9=>hQ ρf wx wf Hf af j alt asf sf (g5 ρf wx hF) h1 h2 h3 h4 h5 h6 h7 h8 (by rw[←g0];exact h9)
  ·obtain⟨r2,_⟩:=qV r2;have r2:((0:Nat):Int)=((i+1:Nat):Int):=r2;omega
 ·rename_i j;split at G';case h_2=>exact G'.elim
  rename_i alt halt;split at G';case h_2=>exact G'.elim
  rename_i s hs;have hsp:=G'.1;have k1:=G'.2 G'.1;refine⟨aM s.tm,k1,λw ρ a Q hG ho hf0 hE hdf hQ=>round w ρ a Q hG hE hdf λρ' w' a' ex s9 hle j7 T' hd' htk hor=>?_⟩;rcases hor with⟨r1,r2,r3⟩|⟨m8,i,au5,r1,r1',r2,r3⟩
  ·obtain⟨r2,_⟩:=qV r2;have r2:((j+1:Nat):Int)=0:=r2;omega
  ·obtain⟨r2,r4⟩:=qV r2
   have r2:((j+1:Nat):Int)=((i+1:Nat):Int):=r2
   have r2:j=i:=by omega
   subst r2;subst r4
   rw[halt] at r1;injection r1 with r1;subst r1
   have hq:=hQ ρ' w w' σf.h a' j alt as s (FinRel.of_le hle ho hf0) j7 halt T' hd' r3 hs hsp rfl htk
   rw[r1'] at hq
   cases ex with
   |normal=>exact absurd rfl m8
   |_=>exact hq
end
noncomputable section
structure LTab where
 ptm:List (Nat×Sa)
 S:Sy->LSpec
def FF(e0:T AV)(id:Nat)(γ:lS)(y:Sy)(l:List Alt)(i:Nat)(k:AEx->T AV->Tr):Tr:=
 List.rec (motive:=λ_=>Nat->Tr) (λ_=>.fail) (λa l ih i=>
  let go:Tr:=Ws γ y a.out 0 (vD γ y a.tmps e0 λenv=>match a.ex with
   | .exit j=>ac (Nat.beq j id) (k .normal env) (k (.exit j) env)
   |ex=>k ex env)
  List.rec (motive:=λ_=>Tr) go (λ_ _ _=>.ask (y.i 999=(i:Int)) go (ih (Nat.succ i))) l) l i
def Wz(ptm:List (Nat×Sa))(LS:Sy->LSpec)(zf:(p z:Sy)->{y:Sy // (LS p).inv z->(LS p).post z y})(n id:Nat)(nt:Nat)(env:T AV)(k:AEx->T AV->Tr):Tr:=
 ac (Nat.beq nt n) (qc ptm env λpas=>jD [] [] (Mg ptm) pas λpas=>cU (iB .leaf [] (Mg ptm) pas kj) .fail λps=>
  Rr (LS (aM ps.tm)).gl <| qc (LS (aM ps.tm)).tmps env λas=>jD [] (LS (aM ps.tm)).blk (Mg (LS (aM ps.tm)).tmps) as λas=>cU (iB .leaf (LS (aM ps.tm)).blk (Mg (LS (aM ps.tm)).tmps) as kj) .fail λs=>
   vu (LS (aM ps.tm)).blk (LS (aM ps.tm)).blk 0 s λs=>cU (mf (LS (aM ps.tm)).blk s.ln s) .fail λs=>
    ac (ac (Mj n (LS (aM ps.tm))) (mg (List.length (LS (aM ps.tm)).blk) s.loc) false) (.req (s.pr/\(LS (aM ps.tm)).inv (aM s.tm))
     (.sk (λy=>(LS (aM ps.tm)).inv (aM s.tm)->(LS (aM ps.tm)).post (aM s.tm) y) (zf (aM ps.tm) (aM s.tm)) λy=>vE (LS (aM ps.tm)).keep env .leaf λe0=>FF e0 id (qx (LS (aM ps.tm)).blk (po s)) y (LS (aM ps.tm)).alts 0 k)) .fail) .fail
end
section
variable{P:Program}{w0:World}{σ:St}{K:Fin}{ρ:Rho}
def Mm{e0:T AV}{id:Nat}{γ:lS}{y:Sy}{k:AEx->T AV->Tr}{i0:Nat}(hi:y.i 999=(i0:Int)):∀{l:List Alt} {i:Nat} {alt:Alt} {j:Nat},qe l j=some alt->i+j=i0->run (FF e0 id γ y l i k) σ K=true->
 run (Ws γ y alt.out 0 (vD γ y alt.tmps e0 λenv=>match alt.ex with
  | .exit j=>ac (Nat.beq j id) (k .normal env) (k (.exit j) env)
  |ex=>k ex env)) σ K=true:=by
 intro l
 induction l with
 |nil=>intro i alt j h;cases h
 |cons a l ih=>
  intro i alt j h e hr
  cases l with
  |nil=>
   cases j with
   |zero=>injection h with h;subst h;exact hr
   |succ j=>cases h
  |cons b l=>
   rcases cX (show run (.ask (y.i 999=(i:Int)) (Ws γ y a.out 0 (vD γ y a.tmps e0 λenv=>match a.ex with
    | .exit j=>ac (Nat.beq j id) (k .normal env) (k (.exit j) env)
    |ex=>k ex env)) (FF e0 id γ y (b::l) (Nat.succ i) k)) σ K=true from hr) with⟨hp,hr⟩|⟨hp,hr⟩
   ·have:j=0:=by omega
    subst this;injection h with h;subst h;exact hr
   ·cases j with
    |zero=>exact absurd (by rw[hi];congr 1;omega) hp
    |succ j=>exact ih h (by omega) hr
def Jf{n:Nat}{S:LSpec}(h:Mj n S=true):∀{i:Nat} {alt:Alt},qe S.alts i=some alt->qb S.blk alt.out=true/\alt.out.length=S.blk.length:=by
 have h:S.alts.all (λa=>ac (qb S.blk a.out) (Nat.beq a.out.length S.blk.length) false)=true:=(aD h).2;have key:∀{l:List Alt} {i:Nat} {alt:Alt},qe l i=some alt->alt∈l:=by
  intro l
  induction l with
  |nil=>intro i alt h;cases h
  |cons a l ih=>
   intro i alt h
   cases i with
   |zero=>injection h with h;rw[h];exact aan
   |succ i=>exact aaj _ (ih h)
 intro i alt ha;obtain⟨h1,h2⟩:=aD ((List.all_eq_true.1 h) alt (key ha));exact⟨h1,aac h2⟩
def Jg{H:T ABlk}{n:Int}{l:List Sa}{blk:List BSh}{as:List AV}{s:PS}(h:vF H [(999,.i n)] l blk as=some s):(aM s.tm).i 999=n:=by obtain⟨s1,h1,h⟩:=aB h;obtain⟨s2,h2,h⟩:=aB h;obtain⟨s3,h3,h⟩:=aB h;obtain⟨s4,h4,h⟩:=aB h;obtain⟨h5,h⟩:=bf h;obtain⟨h6,h⟩:=bf h;injection h with h;subst h;obtain⟨f1,_⟩:=eu h4;obtain⟨p1,_⟩:=gd (blk:=blk) h1;obtain⟨st,_,_⟩:=qS h2;obtain⟨b1,_⟩:=qU (ρ:=⟨λ_ _=>none,λ_=>undef,λ_=>False,λ_=>none,λ_=>none⟩) h3;exact L6 ((p1.trans (st.trans (b1.trans f1))).tm 999 (.i n) rfl)
def WA{fn id:Nat}{ptm:List (Nat×Sa)}{LS:Sy->LSpec}{zf:(p z:Sy)->{y:Sy // (LS p).inv z->(LS p).post z y}}(hl:eU P fn id=true)(f9:∀p,(LS p).blk.length<=64)(hC:∀p z,(LS p).inv z->mJ P fn id (LS p) z (zf p z).1)(w0:World):
 UC P w0 fn id (Wz ptm LS zf (iX P fn id) id):=by
 intro c env nt k σ0 K ρ0 w a Q hS0 hG0 hE0 hdf h hQ0 ai8
 have hc:=A2 hl ai8
 subst hc
 obtain⟨hnt,z0⟩:=ay h
 have hnt:=aL hnt
 obtain⟨au6,z00,ar7⟩:=iY z0
 have al8:∀{l:List (Nat×Sa)} {as:List AV},cH (λ(x:Nat×Sa) a=>env.get x.1=some a) l as->∃vs,LR ρ0 as vs:=by
  intro l
  induction l with
  |nil=>intro as h;cases as with|nil=>exact⟨[],LR.nil _⟩|cons _ _=>exact h.elim
  |cons x l ih=>
   intro as h
   cases as with
   |nil=>exact h.elim
   |cons b as=>obtain⟨v,hv,hr⟩:=hE0.val _ _ h.1;obtain⟨vs,h1⟩:=ih h.2;exact⟨v::vs,LR.cons hr h1⟩
 obtain⟨pvs,ar8⟩:=al8 ar7
 obtain⟨pas,σ,ρ,z1,hS,hG,ap1,_,_⟩:=iV hS0 hG0 ar8 z00
 have hE:ER ρ nt env a.tmps:=hE0.mono ap1
 have hQ:L0 w0 ρ K nt k Q:=λex env' df' a9 ρ' w' a' q1 q2 q3 q4 q5 q6=>hQ0 ex env' df' a9 ρ' w' a' q1 q2 q3 (ap1.trans q4) q5 q6
 obtain⟨ps,uz,z2⟩:=bT z1
 obtain⟨p,hp⟩:∃p,p=aM ps.tm:=⟨_,rfl⟩
 rw[←hp] at z2
 obtain⟨σt,eh,hSt,z2t,af9⟩:=xI hS hG z2
 have hGt:Good w0 ρ σt.h w:=by rw[eh];exact hG
 obtain⟨as,z3,has⟩:=iY z2t
 have ap2:∀{l:List (Nat×Sa)} {as:List AV},cH (λ(x:Nat×Sa) a=>env.get x.1=some a) l as->∃vs,LR ρ as vs/\cH (λ(x:Nat×Sa) v=>a.tmps[x.1]? =some v) l vs:=by
  intro l
  induction l with
  |nil=>intro as h;cases as with|nil=>exact⟨[],LR.nil _,trivial⟩|cons _ _=>exact h.elim
  |cons x l ih=>
   intro as h
   cases as with
   |nil=>exact h.elim
   |cons b as=>obtain⟨v,hv,hr⟩:=hE.val _ _ h.1;obtain⟨vs,h1,h2⟩:=ih h.2;exact⟨v::vs,LR.cons hr h1,hv,h2⟩
 obtain⟨vs,ar9,htv⟩:=ap2 has
 obtain⟨s9,b7,ρ1,z4,b6,b9,L',hlen,hlr⟩:=iV hSt hGt ar9 z3
 obtain⟨s0,hs0,z5⟩:=bT z4
 obtain⟨s1,i3,ρ2,z6,i9,l8,j0,al5,_,P'⟩:=AW b6 b9 z5
 obtain⟨s2,hs2,z7⟩:=bT z6
 obtain⟨ah_,z8⟩:=ay z7
 obtain⟨⟨hpr,ac4⟩,z9⟩:=aN z8
 clear h z0 z00 z1 z2 z3 z4 z5 z6 z7 z8
 obtain⟨hcA,hcL⟩:=aD ah_
 obtain⟨p1,p2⟩:=gd (blk:=(LS p).blk) hs0
 obtain⟨f1,f2,f3,f4,_⟩:=eu hs2
 have hln:=lH hs2 hpr
 have I':LR ρ2 s9 vs:=(hlr (by rw[←hlen];exact mI hs0)).mono j0
 have m6:=p2 s2 (al5.trans f1) hpr hln
 rw[kU] at m6
 have hL:=FC l8 hs2 hpr P' (f9 p) hcL
 obtain⟨z,hz⟩:∃z,z=aM s2.tm:=⟨_,rfl⟩
 rw[←hz] at ac4 z9 m6 hL
 have z9:run (vE (LS p).keep env .leaf λe0=>FF e0 id (qx (LS p).blk (po s2)) (zf p z).1 (LS p).alts 0 (λex env=>k ex env [])) i3 K=true:=z9
 rw[Mh] at z9
 obtain⟨vl,hvl⟩:∃vl:Nat->Value,vl=λt=>(a.tmps[t]?).getD undef:=⟨_,rfl⟩
 have hkp:∀t∈(LS p).keep,a.tmps[t]? =some (vl t):=λt ht=>by have c8:=aaw (List.all_eq_true.1 (aD hcA).1 t ht);have e1:=aaM (xs:=a.tmps) (i:=t) (by rw[hE.size,hnt];exact c8);rw[hvl];show a.tmps[t]? =some ((a.tmps[t]?).getD undef);rw[e1];rfl
 have hLb:=TvAs.lr (vl:=vl) hL.mv m6 I'
 have hER:ER (A0 w0 ρ2 i3.h w s2.L (LS p).blk vl) nt ((LS p).env z) a.tmps:=by
  refine⟨hE.size,λt b hb=>?_⟩;rcases A5 hb with⟨h1,h2⟩|hb
  ·subst h2;exact⟨_,hkp _ h1,.opq _⟩
  rcases pt hb with⟨x,h1,h2,h3⟩|h
  ·subst h3;have key:∀{l:List (Nat×Sa)} {vs:List Value},cH (λ(x:Nat×Sa) v=>a.tmps[x.1]? =some v) l vs->LR (A0 w0 ρ2 i3.h w s2.L (LS p).blk vl) (nJ bH z (Mg l)) vs->∀x∈l,∃v,a.tmps[x.1]? =some v/\VR (A0 w0 ρ2 i3.h w s2.L (LS p).blk vl) (kR bH z x.2) v:=by
    intro l
    induction l with
    |nil=>intro vs _ _ x hx;cases hx
    |cons q l ih=>
     intro vs h1 h2 x hx
     cases vs with
     |nil=>exact h1.elim
     |cons v vs=>
      obtain⟨v',K',e,hv,E'⟩:=LR.cons_inv (show LR _ (kR bH z q.2::nJ bH z (Mg l)) (v::vs) from h2);injection e with e1 e2;subst e1;subst e2;rcases List.mem_cons.1 hx with e|hx
      ·subst e;exact⟨v,h1.1,hv⟩
      ·exact ih h1.2 E' x hx
   obtain⟨v,r1,r2⟩:=key htv hLb x h1;exact⟨v,by rw[←h2];exact r1,r2⟩
  ·simp [T.get] at h
 subst hnt
 refine wpIn_block (Fv (hC p z ac4 w _ a _ ((hL.to (vl:=vl)).addTab ((af9.mono (L'.trans j0).frz).mono λb x h=>eB h)) hL.ownOk (frzE _ _ _ _ _ _ _).symm hER hdf λρ' wx w' H' a' i alt asf s hF j7 halt T' hd' q9 hpt hsp hy htk=>?_))
 have ap3:=Jg hpt
 obtain⟨t1,t2,t3⟩:=A7 (ρ:=ρ') hpt hsp
 rw[←hy] at t1 t2 ap3
 have z10:=Mm (i0:=i) ap3 halt (aam _) z9
 obtain⟨σ3,z11,hS3,e3,ar_⟩:=Mb i9 z10
 obtain⟨hsk,ak1⟩:=Jf hcA halt
 obtain⟨ρ3,m1,m2,m3,_⟩:=UG (F:=mW s H') hL hsk (λj x b g hx hl=>FD hx hl) (λj h1 h2=>by omega) (λi hi=>by have:=ar_ i hi;rwa [aam] at this) j7 hF (λb x hF=>⟨(iW hF).1,t3.t5 b (iW hF).2⟩) t2 (λj b g h=>by obtain⟨q1,_,q3⟩:=t3.t3 j b g h;have q2:j<alt.out.length->b=base+j:=λhj=>t3.at0 h hj;rw[ak1] at q1 q2 q3;exact⟨by rw[ak1];exact q1,λhj=>.inl (q2 hj),q3⟩) t3.t4
 rw[A4] at z11
 have hE2:ER ρ3 (iX P fn id) (A3 (qx (LS p).blk (po s2)) (zf p z).1 alt.tmps (qd (LS p).keep env .leaf)) a'.tmps:=by
  refine⟨T',λt b hb=>?_⟩;rcases pt hb with⟨x,h1,h2,h3⟩|h
  ·subst h3;obtain⟨b,⟨v,hv,hr⟩,htv⟩:=sK (sL q9 (sJ t1)) h1;exact⟨v,by rw[←h2];exact hv,m3 _ _ _ htv hr⟩
  ·rcases Jc h with⟨h1,h2⟩|h
   ·obtain⟨v,h3,h4⟩:=hE.val _ _ h2;rw[hkp _ h1] at h3;injection h3 with h3;exact⟨v,by rw[←h3];exact htk _ h1,h4.mono ((L'.trans j0).trans m2)⟩
   ·simp [T.get] at h
 have hDR:DR ρ3 [] a'.defers:=by rw[hd'];trivial
 have hG3:Good w0 ρ3 σ3.h w':=by rw[e3];exact m1
 have fin:∀ex,run (k ex (A3 (qx (LS p).blk (po s2)) (zf p z).1 alt.tmps (qd (LS p).keep env .leaf)) []) σ3 K=true->Q (YX ex) a' w':=λex hr=>hQ ex _ [] σ3 ρ3 w' a' hr hS3 hG3 ((L'.trans j0).trans m2) hE2 hDR
 generalize alt.ex=ex at z11
 cases ex with
 |normal=>exact fin .normal z11
 |exit j=>
  rcases bU z11 with⟨e,hr⟩|⟨e,hr⟩
  ·have e:=aL e;show(if j=id then Q .normal a' w' else Q (.exit j) a' w');rw[if_pos e];exact fin .normal hr
  ·show(if j=id then Q .normal a' w' else Q (.exit j) a' w');rw[if_neg (λe'=>by subst e';simp at e)];exact fin (.exit j) hr
 |goto l=>exact fin (.goto l) z11
 |ret=>exact fin .ret z11
end
end
end Go.Sym
namespace Go.Sym
open Go.RowKit (Below)
noncomputable section
def vH(x:Sh)(a:AV)(k:AV->Tr):Tr:=match x with
 | .v _ _=>(match a with
  | .gsl b g n es=>.rd b λq=>(match q with | .grow ct gen _=>ac (Nat.beq g gen) (.req (ct.len=n) (k (.cv ct))) .fail | .froz ct gen=>ac (Nat.beq g gen) (ac (Nat.beq ct.es es) (.req (ct.len=n) (k (.cv ct))) .fail) .fail|_=>.fail)
  |a=>k a)
 | .vb _=>(match a with
  | .gsl b g n es=>.rd b λq=>(match q with | .grow ct gen _=>ac (Nat.beq g gen) (.req (ct.len=n) (k (.cv ct))) .fail | .froz ct gen=>ac (Nat.beq g gen) (ac (Nat.beq ct.es es) (.req (ct.len=n) (k (.cv ct))) .fail) .fail|_=>.fail)
  | .slc b g o len cap es=>ac (Nat.beq 1 es) (QZ [] b g o len cap 1 rJ λct _=>k (.cv ct)) .fail
  |a=>k a)
 |_=>k a
def Dz(l:List Sh)(as:List AV)(k:List AV->Tr):Tr:=
 List.rec (motive:=λ_=>List AV->(List AV->Tr)->Tr) (λas k=>k as) (λx _ ih as k=>match as with
  | []=>k []
  |a::as=>vH x a λa=>ih as λas=>k (a::as)) l as k
def UI(l:List Sh)(b g:Nat)(k:AV->Tr):Tr:=.rd b λq=>match q with
 | .cells c gen _ _ _ _ _ _=>ac (Nat.ble g gen) (ac (Nat.ble 1 (List.length l)) (cU (QM c g (List.length l) 0) .fail λas=>Dz l as λas=>k (.cptr as)) .fail) .fail
 |_=>.fail
def Mn(x:Sa)(a:AV)(k:AV->Tr):Tr:=match x with
 | .c x=>vH x a k
 | .ag _=>k a
 | .cp l=>(match a with
  | .ptr b g o=>ac (Nat.beq o 0) (UI l b g k) .fail
  |a=>k a)
def sM(l:List Sa)(as:List AV)(k:List AV->Tr):Tr:=
 List.rec (motive:=λ_=>List AV->(List AV->Tr)->Tr) (λas k=>k as) (λx _ ih as k=>match as with
  | []=>k []
  |a::as=>Mn x a λa=>ih as λas=>k (a::as)) l as k
def xL(x:Sh):Bool:=match x with
 | .i _ _=>true | .b _=>true | .s _=>true | .o=>true | .pi _ _=>true | .pb _=>true | .ps _=>true | .np=>true | .li _ _=>true | .nz=>true
 |_=>false
def xM(l:List Sh):Bool:=List.rec (motive:=λ_=>Bool) true (λx _ ih=>ac (xL x) ih false) l
def xN(x:Sa):Bool:=match x with | .c x=>xL x | .ag l=>xM l | .cp _=>false
def xO(l:List Sa):Bool:=List.rec (motive:=λ_=>Bool) true (λx _ ih=>ac (xN x) ih false) l
def Mo(r:Sr):Bool:=match r with | .one a=>xN a | .tu l=>xO l
def Mp{α:Type}(l:List α):Bool:=match l with | []=>true|_=>false
def Mq(S:FSpec)(zf:(z:Sy)->{y:Sy // S.pre z->S.post z y})(args:List AV)(k:AV->Tr):Tr:=
 Rr S.gl <| sM S.args args λargs=>cU (iB .leaf [] S.args args kj) .fail λs=>cU (mf [] s.ln s) .fail λs=>
  ac (ac (Mp S.blk) (ac (Mp (S.out (aM s.tm))) (Mo (S.res (aM s.tm))) false) false) (.req (s.pr/\S.pre (aM s.tm))
   (.sk (λy=>S.pre (aM s.tm)->S.post (aM s.tm) y) (zf (aM s.tm)) λy=>k (Dr bH y (S.res (aM s.tm))))) .fail
end
section
variable{P:Program}{w0:World}{ρ:Rho}{w:World}{σ:St}{K:Fin}
open Classical in
noncomputable def ut(ρ:Rho)(w:World)(b:Nat):Option (Array Value×TypeId):=match ρ.frz b with
 |some x=>some x
 |none=>(match w.heap[b]? with|some (.cells arr ty _)=>some (arr,ty)|_=>none)
noncomputable def sN(ρ:Rho)(w:World):Rho:=⟨λ_ _=>none,ρ.val,λ_=>False,ut ρ w,ut ρ w⟩
def DA{H:T ABlk}(hG:Good w0 ρ H w){b:Nat}{arr:Array Value}{ty:TypeId}(hf:ut ρ w b=some (arr,ty)):∃fr,w.heap[b]? =some (.cells arr ty fr):=by
 unfold ut at hf;split at hf
 ·rename_i x hx;injection hf with hf;subst hf;exact(hG.frz _ _ _ hx).1
 ·split at hf
  ·rename_i u0 ty' fr hw;injection hf with hf;injection hf with e1 e2;subst e1;subst e2;exact⟨fr,hw⟩
  ·cases hf
def ZO{H:T ABlk}(hG:Good w0 ρ H w):Good w (sN ρ w) .leaf w:=
 ⟨⟨Kept.refl _ _ _,(λb x h=>by simp [T.get] at h),(λb g h hh=>by cases hh),(λb g h b' g' h' hh=>by cases hh),(λb g h x hh=>by cases hh),λb arr ty hf=>⟨DA hG hf,λb' g h hh=>by cases hh⟩,λb x hf _=>hf,(λb k I l h=>by simp [T.get] at h)⟩,λx h=>h.elim⟩
def nO{b:Nat}{x:Array Value×TypeId}(h:ρ.frz b=some x):(sN ρ w).frz b=some x:=by show ut ρ w b=_;unfold ut;rw[h]
def Cn(ρ:Rho)(w:World)(a':AV)(v:Value):Prop:=VR ρ a' v∨∃ct,a'= .cv ct/\VR (sN ρ w) (.cv ct) v
def FG{H:T ABlk}(hG:Good w0 ρ H w){b g n es ty:Nat}{ct:Ct}{v:Value}(hq:H.get b=some (.grow ct g ty))(hn:ct.len=n)(hv:VR ρ (.gsl b g n es) v):Cn ρ w (.cv ct) v:=by
 refine .inr ⟨ct,rfl, ?_⟩
 cases hv with
 |gnil _ _ _=>exact .cvnil _ hn
 |gempty _ _ _ a=>exact .cvempty _ a hn
 |gsl _ _ _ _ hm c hn0 hh hs hc hz=>
  subst hn;rcases hG.blk _ _ hq with h0|⟨hm',r1,r2,r3,arr,fr,r4,r5,r6,r7,r8⟩
  ·omega
  rw[hh] at r1;injection r1 with r1;subst r1;refine .cv ct hm.blk 0 c arr ty ?_ hc (by omega) λi j a v hi ha hv=>?_
  ·show ut ρ w hm.blk=_
   unfold ut
   cases hf:ρ.frz hm.blk with
   |some x=>exact absurd rfl (hG.frzE (show ρ.frz hm.blk=some (x.1,x.2) from hf) hh hq (λh=>h))
   |none=>simp only [r4]
  ·obtain⟨u,u1,u2⟩:=r8 i hi j a ha;rw[aam,u1] at hv;injection hv with hv;subst hv;exact dl (λb x h=>nO h) u2 (mH ha)
def A8{b g n es:Nat}{k:AV->Tr}{v:Value}(hS:SI σ)(hG:Good w0 ρ σ.h w)(hv:VR ρ (.gsl b g n es) v)(h:run (.rd b λq=>(match q with | .grow ct gen _=>ac (Nat.beq g gen) (.req (ct.len=n) (k (.cv ct))) .fail | .froz ct gen=>ac (Nat.beq g gen) (ac (Nat.beq ct.es es) (.req (ct.len=n) (k (.cv ct))) .fail) .fail|_=>.fail)) σ K=true):
 ∃a' a9,run (k a') a9 K=true/\SI a9/\Good w0 ρ a9.h w/\Cn ρ w a' v:=by
 obtain⟨q,b7,hq,e1,b6,h⟩:=bG hS h
 have b9:Good w0 ρ b7.h w:=by rw[e1];exact hG
 cases q with
 |grow ct gen ty=>
  obtain⟨hg,z1⟩:=ay h
  obtain⟨hn,z2⟩:=aN z1
  have hg:=aL hg
  subst hg
  exact⟨_,b7,z2,b6,b9,FG hG hq hn hv⟩
 |froz ct gen=>
  obtain⟨hg,z1⟩:=ay h
  obtain⟨he,z1⟩:=ay z1
  obtain⟨hn,z2⟩:=aN z1
  have hg:=aL hg
  have he:=aL he
  subst hg;subst he;subst hn
  exact⟨_,b7,z2,b6,b9,.inl (jv (hG.blk _ _ hq) hv)⟩
 |_=>exact(ah h).elim
def Mr{b g o len es:Nat}{cap:Option Nat}{k:AV->Tr}{v:Value}(hS:SI σ)(hG:Good w0 ρ σ.h w)(hv:VR ρ (.slc b g o len cap es) v)(h:run (ac (Nat.beq 1 es) (QZ [] b g o len cap 1 rJ λct _=>k (.cv ct)) .fail) σ K=true):
 ∃a' a9,run (k a') a9 K=true/\SI a9/\Good w0 ρ a9.h w/\Cn ρ w a' v:=by
 obtain⟨he,h⟩:=ay h
 have he:=aL he
 subst he
 obtain⟨ct,ty,b7,h1,b6,e1,f9,_,hl,_,l8,hvv⟩:=Fh hS hG kN h
 exact⟨_,b7,h1,b6,by rw[e1];exact hG,FG l8 (T.get_set_same _ _ _ f9) hl (hvv ρ (.refl _) v hv)⟩
def A9{x:Sh}{a:AV}{k:AV->Tr}{v:Value}(hS:SI σ)(hG:Good w0 ρ σ.h w)(hv:VR ρ a v)(h:run (vH x a k) σ K=true):
 ∃a' a9,run (k a') a9 K=true/\SI a9/\Good w0 ρ a9.h w/\Cn ρ w a' v:=by
 have same:run (k a) σ K=true->∃a' a9,run (k a') a9 K=true/\SI a9/\Good w0 ρ a9.h w/\Cn ρ w a' v:=λh=>⟨a,σ,h,hS,hG,.inl hv⟩
 unfold vH at h
 cases x with
 |v m t=>
  simp only at h
  split at h
  ·exact A8 hS hG hv h
  ·exact same h
 |vb t=>
  simp only at h
  split at h
  ·exact A8 hS hG hv h
  ·exact Mr hS hG hv h
  ·exact same h
 |_=>exact same h
def Jh:∀{l:List Sh} {as:List AV} {k:List AV->Tr} {σ:St} {vs:List Value},SI σ->Good w0 ρ σ.h w->LR ρ as vs->run (Dz l as k) σ K=true->
 ∃s9 a9,run (k s9) a9 K=true/\SI a9/\Good w0 ρ a9.h w/\(l.length=as.length->cH (λa v=>Cn ρ w a v) s9 vs/\s9.length=as.length):=by
 intro l
 induction l with
 |nil=>intro as k σ vs hS hG hl h;exact⟨as,σ,h,hS,hG,λe=>by cases as with|nil=>rw[hl.nil_inv];exact⟨trivial,rfl⟩|cons _ _=>simp at e⟩
 |cons x l ih=>
  intro as k σ vs hS hG hl h
  cases as with
  |nil=>exact⟨[],σ,h,hS,hG,λe=>by simp at e⟩
  |cons a as=>
   obtain⟨v,K',rfl,hv,E'⟩:=hl.cons_inv
   obtain⟨a',b7,h1,h2,h3,h5⟩:=A9 hS hG hv (show run (vH x a λa=>Dz l as λas=>k (a::as)) σ K=true from h)
   obtain⟨s9,i3,q1,q2,q3,q4⟩:=ih h2 h3 E' h1
   exact⟨a'::s9,i3,q1,q2,q3,λe=>⟨⟨h5,(q4 (by simpa using e)).1⟩,by simp [(q4 (by simpa using e)).2]⟩⟩
def Cp(ρ:Rho)(w:World)(a':AV)(v:Value):Prop:=∃s9 blk arr ty,a'= .cptr s9/\v= .pointer (some ⟨blk,0,none⟩)/\ut ρ w blk=some (arr,ty)/\s9.length<=arr.size/\cH (λa v=>Cn ρ w a v) s9 (arr.toList.take s9.length)
def ZP(ρ:Rho)(w:World)(a':AV)(v:Value):Prop:=Cn ρ w a' v∨Cp ρ w a' v
def Ms{l:List Sh}{b g:Nat}{k:AV->Tr}{v:Value}(hS:SI σ)(hG:Good w0 ρ σ.h w)(hv:VR ρ (.ptr b g 0) v)(h:run (UI l b g k) σ K=true):
 ∃a' a9,run (k a') a9 K=true/\SI a9/\Good w0 ρ a9.h w/\ZP ρ w a' v:=by
 obtain⟨q,b7,hq,e1,b6,h⟩:=bG hS h
 have b9:Good w0 ρ b7.h w:=by rw[e1];exact hG
 cases q with
 |cells c gen lo hi fl fh ro ty=>
  obtain⟨k1,z1⟩:=ay h
  obtain⟨k2,z2⟩:=ay z1
  obtain⟨as,hl,z3⟩:=bT z2
  have k1:=bY k1
  have k2:=bY k2
  obtain⟨hm,r1,r2,_,arr,fr,r3,r4,r5,r6⟩:=(hG.blk _ _ hq).2 g k1
  obtain⟨l1,l2⟩:=rT hl
  cases hv with
  |ptr _ _ _ h0 hh ho=>
   rw[hh] at r1;injection r1 with r1;subst r1
   have hs0:h0.shift=0:=by omega
   have i6:∀j a,as[j]? =some a->∃u,arr[j]? =some u/\VR ρ a u:=λj a ha=>by obtain⟨tag,t1,t2⟩:=l2 j _ ha;rw[aam] at t1;obtain⟨s1,u,s2,s3⟩:=r6 _ _ _ t1 t2;rw[hs0,abl] at s2;exact⟨u,s2,s3⟩
   have T':as.length<=arr.size:=by
    rcases aaf arr.size as.length with h'|h'
    ·obtain⟨u,hu,_⟩:=i6 arr.size _ (aai h');rw[aaT (aaa _)] at hu;cases hu
    ·exact h'
   have hLR:LR ρ as (arr.toList.take as.length):=by
    refine⟨by rw[aal,aaJ (xs:=arr)];omega,λj a u ha hu=>?_⟩;obtain⟨u',h1,h2⟩:=i6 j a ha;have hj:j<as.length:=by
     rcases aaf j as.length with h'|h'
     ·exact h'
     ·rw[aak h'] at ha;cases ha
    rw[aar hj,aaW,h1] at hu;injection hu with hu;rw[←hu];exact h2
   obtain⟨s9,i3,q1,q2,q3,q4⟩:=Jh b6 b9 hLR z3
   obtain⟨q5,q6⟩:=q4 l1.symm
   refine⟨_,i3,q1,q2,q3,.inr ⟨s9,h0.blk,arr,ty,rfl,by rw[hs0], ?_,by omega,by rw[q6];exact q5⟩⟩
   unfold ut
   cases hf:ρ.frz h0.blk with
   |some x=>exact absurd rfl (hG.frzE (show ρ.frz h0.blk=some (x.1,x.2) from hf) hh hq (λh=>h))
   |none=>simp only [r3]
 |_=>exact(ah h).elim
def Ji:∀{l:List Sa} {as:List AV} {k:List AV->Tr} {σ:St} {vs:List Value},SI σ->Good w0 ρ σ.h w->LR ρ as vs->run (sM l as k) σ K=true->
 ∃s9 a9,run (k s9) a9 K=true/\SI a9/\Good w0 ρ a9.h w/\(l.length=s9.length->cH (λa v=>ZP ρ w a v) s9 vs/\s9.length=as.length):=by
 intro l
 induction l with
 |nil=>intro as k σ vs hS hG hl h;exact⟨as,σ,h,hS,hG,λe=>by cases as with|nil=>rw[hl.nil_inv];exact⟨trivial,rfl⟩|cons _ _=>simp at e⟩
 |cons x l ih=>
  intro as k σ vs hS hG hl h
  cases as with
  |nil=>exact⟨[],σ,h,hS,hG,λe=>by simp at e⟩
  |cons a as=>
   obtain⟨v,K',rfl,hv,E'⟩:=hl.cons_inv
   have h:run (Mn x a λa=>sM l as λas=>k (a::as)) σ K=true:=h
   have:∃a' a9,run (sM l as λas=>k (a'::as)) a9 K=true/\SI a9/\Good w0 ρ a9.h w/\ZP ρ w a' v:=by
    cases x with
    |c x=>obtain⟨a',a9,q1,q2,q3,q4⟩:=A9 hS hG hv (show run (vH x a λa=>sM l as λas=>k (a::as)) σ K=true from h);exact⟨a',a9,q1,q2,q3,.inl q4⟩
    |ag l=>exact⟨a,σ,h,hS,hG,.inl (.inl hv)⟩
    |cp l'=>
     unfold Mn at h;simp only at h;split at h
     ·rename_i b g o;obtain⟨e,h⟩:=ay h;have e:=aL e;subst e;exact Ms hS hG hv h
     ·exact⟨a,σ,h,hS,hG,.inl (.inl hv)⟩
   obtain⟨a',b7,h1,h2,h3,h5⟩:=this
   obtain⟨s9,i3,q1,q2,q3,q4⟩:=ih h2 h3 E' h1
   exact⟨a'::s9,i3,q1,q2,q3,λe=>⟨⟨h5,(q4 (by simpa using e)).1⟩,by simp [(q4 (by simpa using e)).2]⟩⟩
def RdC.look{ct:Ct}{a:AV}{v:Value}(h:RdC (λ_=>none) ct a)(hv:Cn ρ w a v):VR (sN ρ w) (.cv ct) v:=by
 rcases h with⟨e,h0⟩|e|⟨b,g,es,ty,_,_,hF⟩|⟨b,g,o,cap,c,gen,lo,hi,fl,fh,ty,as,_,_,hF,_⟩|⟨b,g,_,_,hF⟩
 ·subst e;rcases hv with hv|⟨_,e,_⟩
  ·cases hv;exact .cvnil _ h0
  ·cases e
 ·subst e;rcases hv with hv|⟨_,e,hv⟩
  ·exact dl (λb x h=>nO h) hv rfl
  ·injection e with e;subst e;exact hv
 ·cases hF
 ·cases hF
 ·cases hF
def RdC.nocp{ct:Ct}{l:List AV}(h:RdC (λ_=>none) ct (.cptr l)):False:=by
 rcases h with⟨e,h0⟩|e|⟨b,g,es,ty,_,_,hF⟩|⟨b,g,o,cap,c,gen,lo,hi,fl,fh,ty,as,_,_,hF,_⟩|⟨b,g,_,_,hF⟩
 ·cases e
 ·cases e
 ·cases hF
 ·cases hF
 ·cases hF
def Tv.look{L:Nat->Option (Nat×Nat)}{z:Sy}{x:Sh}{a:AV}{v:Value}(h:Tv (λ_=>none) [] L z x a)(hv:Cn ρ w a v):VR (sN ρ w) (put bH z x) v:=by
 have num:∀{k n},ce a=some (k,n)->v= .int k n:=λhn=>by
  rcases hv with hv|⟨_,e,_⟩
  ·exact bc hv hn
  ·subst e;cases hn
 have pr:∀{q},dO a=some q->∃b,v= .bool b/\(b=true↔q):=λhn=>by
  rcases hv with hv|⟨_,e,_⟩
  ·exact eP hv hn
  ·subst e;cases hn
 have st:∀{l},gj a=some l->∃s,v= .string s/\l=bytesOf s:=λhn=>by
  rcases hv with hv|⟨_,e,_⟩
  ·exact dB hv hn
  ·subst e;cases hn
 cases x with
 |i k t=>have h:ce a=some (k,z.i t):=h;rw[num h];exact .sI _ _
 |b t=>have h:dO a=some (z.p t):=h;obtain⟨b,e,hb⟩:=pr h;rw[e];exact .sB _ b hb
 |s t=>have h:gj a=some (z.s t):=h;obtain⟨s,e,hs⟩:=st h;rw[e];show VR _ (.sS (z.s t)) _;rw[hs];exact .sS s
 |o=>
  rcases hv with hv|⟨_,e,hv⟩
  ·exact .any1 v (jo hv h)
  ·exact .any1 v (jo hv rfl)
 |v m t=>exact RdC.look h hv
 |vb t=>exact RdC.look h hv
 |pi k n=>have h:ce a=some (k,n):=h;rw[num h];exact .sI _ _
 |pb q=>obtain⟨q',h1,h2⟩:=h;obtain⟨b,e,hb⟩:=pr h1;rw[e];exact .sB _ b (hb.trans h2)
 |ps l=>have h:gj a=some l:=h;obtain⟨s,e,hs⟩:=st h;rw[e];show VR _ (.sS l) _;rw[hs];exact .sS s
 |pv m l=>exact RdC.look h hv
 |pvb l=>exact RdC.look h hv
 |np=>
  have h:a= .nilp:=h;subst h;rcases hv with hv|⟨_,e,_⟩
  ·cases hv;exact .nilp
  ·cases e
 |li k n=>
  have h:a= .int k n:=h;subst h;rcases hv with hv|⟨_,e,_⟩
  ·cases hv;exact .int _ _
  ·cases e
 |nz=>
  have h:a= .nils:=h;subst h;rcases hv with hv|⟨_,e,_⟩
  ·cases hv;exact .nils
  ·cases e
 |p j=>obtain⟨_,_,_,hc⟩:=h;cases hc
 |m j=>obtain⟨_,_,_,hc⟩:=h;cases hc
 |fn f j=>obtain⟨_,_,_,hc⟩:=h;cases hc
 |g j es t=>obtain⟨_,_,_,_,_,_,hc⟩:=h;simp at hc
 |gb j t=>obtain⟨_,_,_,_,_,hc⟩:=h;simp at hc
def pu{α:Type}{C:AV->Value->Prop}{R:α->AV->Prop}{f:α->AV}{fs:List α->List AV}(hf0:fs []= [])(hfs:∀x l,fs (x::l)=f x::fs l)(hR:∀x a v,R x a->C a v->VR (sN ρ w) (f x) v):
 ∀{l:List α} {as:List AV} {vs:List Value},cH R l as->cH C as vs->LR (sN ρ w) (fs l) vs
 | [],[],[],_,_=>by rw[hf0];exact LR.nil _
 |x::l,a::as,v::vs,⟨h1,h2⟩,⟨h3,h4⟩=>by rw[hfs];exact LR.cons (hR x a v h1 h3) (pu hf0 hfs hR h2 h4)
 | [],_::_,_,h,_=>h.elim
 |_::_,[],_,h,_=>h.elim
 | [],[],_::_,_,h=>h.elim
 |_::_,_::_,[],_,h=>h.elim
def LR.cn:∀{as:List AV} {vs:List Value},LR ρ as vs->cH (λa v=>Cn ρ w a v) as vs:=by
 intro as
 induction as with
 |nil=>intro vs h;rw[h.nil_inv];trivial
 |cons a as ih=>intro vs h;obtain⟨v,K',rfl,hv,h'⟩:=h.cons_inv;exact⟨.inl hv,ih h'⟩
def Tvs.look{L:Nat->Option (Nat×Nat)}{z:Sy}{l:List Sh}{as:List AV}{vs:List Value}(ha:cH (Tv (λ_=>none) [] L z) l as)(h:cH (λa v=>Cn ρ w a v) as vs):LR (sN ρ w) (ki bH z l) vs:=
 pu (C:=λa v=>Cn ρ w a v) (fs:=ki bH z) rfl (λ_ _=>rfl) (λ_ _ _ h hv=>Tv.look h hv) ha h
def TvA.look{L:Nat->Option (Nat×Nat)}{z:Sy}{x:Sa}{a:AV}{v:Value}(h:TvA (λ_=>none) [] L z x a)(hv:ZP ρ w a v):VR (sN ρ w) (kR bH z x) v:=by
 cases x with
 |c x=>
  rcases hv with hv|⟨s9,_,_,_,e,ev⟩
  ·exact Tv.look h hv
  ·subst e
   have h:Tv (λ_=>none) [] L z x (.cptr s9):=h
   cases x with
   |i k t=>have h:ce (.cptr s9)=some (k,z.i t):=h;cases h
   |b t=>have h:dO (.cptr s9)=some (z.p t):=h;cases h
   |s t=>have h:gj (.cptr s9)=some (z.s t):=h;cases h
   |o=>exact .any1 v (by rw[ev.1];rfl)
   |v m t=>exact(RdC.nocp h).elim
   |vb t=>exact(RdC.nocp h).elim
   |pi k n=>have h:ce (.cptr s9)=some (k,n):=h;cases h
   |pb q=>obtain⟨q',h1,_⟩:=h;cases h1
   |ps l=>have h:gj (.cptr s9)=some l:=h;cases h
   |pv m l=>exact(RdC.nocp h).elim
   |pvb l=>exact(RdC.nocp h).elim
   |np=>have h:AV.cptr s9= .nilp:=h;cases h
   |li k n=>have h:AV.cptr s9= .int k n:=h;cases h
   |nz=>have h:AV.cptr s9= .nils:=h;cases h
   |p j=>obtain⟨_,_,_,hc⟩:=h;cases hc
   |m j=>obtain⟨_,_,_,hc⟩:=h;cases hc
   |fn f j=>obtain⟨_,_,_,hc⟩:=h;cases hc
   |g j es t=>obtain⟨_,_,_,_,_,_,hc⟩:=h;simp at hc
   |gb j t=>obtain⟨_,_,_,_,_,hc⟩:=h;simp at hc
 |ag l=>
  obtain⟨as,e,ha⟩:=h;subst e;rcases hv with(hv|⟨_,e,_⟩)|⟨_,_,_,_,e,_⟩
  ·cases hv with
   |agg _ cs h1 h2=>obtain⟨q1,q2⟩:=(Tvs.look ha (LR.of_arr h1 h2).cn).arr;exact .agg _ cs q1 q2
  ·cases e
  ·cases e
 |cp l=>
  obtain⟨as,e,ha⟩:=h;subst e;rcases hv with(hv|⟨_,e,_⟩)|⟨s9,blk,arr,ty,e,ev,hf,T',hc⟩
  ·cases hv with
   |cptr _ bl off arr ty hf hb r=>exact vz hf (nO hf) hb r λvs hl=>Tvs.look ha hl.cn
  ·cases e
  ·injection e with e;subst e;subst ev;obtain⟨e2,hr⟩:=Tvs.look ha hc;rw[aal,aaJ (xs:=arr)] at e2;refine .cptr _ blk 0 arr ty hf (by omega) λj a u ha2 hu=>hr j a u ha2 ?_;have hj:j<(ki bH z l).length:=by
    rcases aaf j (ki bH z l).length with h'|h'
    ·exact h'
    ·rw[aak h'] at ha2;cases ha2
   rw[aar (by omega),aaW];rw[aam] at hu;exact hu
def A_{ρ1 ρ2:Rho}{F:Nat->Option ABlk}{blk:List BSh}{L:Nat->Option (Nat×Nat)}{y:Sy}{x:Sh}{a:AV}{v:Value}(hp:xL x=true)(h:Tv F blk L y x a)(hv:VR ρ1 a v):VR ρ2 (put bH y x) v:=by
 cases x with
 |i k t=>have h:ce a=some (k,y.i t):=h;rw[bc hv h];exact .sI _ _
 |b t=>have h:dO a=some (y.p t):=h;obtain⟨b,e,hb⟩:=eP hv h;rw[e];exact .sB _ b hb
 |s t=>have h:gj a=some (y.s t):=h;obtain⟨s,e,hs⟩:=dB hv h;rw[e];show VR _ (.sS (y.s t)) _;rw[hs];exact .sS s
 |o=>exact .any1 v (jo hv h)
 |pi k n=>have h:ce a=some (k,n):=h;rw[bc hv h];exact .sI _ _
 |pb q=>obtain⟨q',h1,h2⟩:=h;obtain⟨b,e,hb⟩:=eP hv h1;rw[e];exact .sB _ b (hb.trans h2)
 |ps l=>have h:gj a=some l:=h;obtain⟨s,e,hs⟩:=dB hv h;rw[e];show VR _ (.sS l) _;rw[hs];exact .sS s
 |np=>have h:a= .nilp:=h;subst h;cases hv;exact .nilp
 |li k n=>have h:a= .int k n:=h;subst h;cases hv;exact .int _ _
 |nz=>have h:a= .nils:=h;subst h;cases hv;exact .nils
 |_=>cases hp
def vI{ρ1 ρ2:Rho}{F:Nat->Option ABlk}{blk:List BSh}{L:Nat->Option (Nat×Nat)}{y:Sy}:∀{l:List Sh} {as:List AV} {vs:List Value},xM l=true->cH (Tv F blk L y) l as->LR ρ1 as vs->LR ρ2 (ki bH y l) vs
 | [],[],vs,_,_,h=>by rw[h.nil_inv];exact LR.nil _
 |x::l,a::as,vs,hp,⟨h1,h2⟩,h=>by obtain⟨v,K',rfl,hv,h'⟩:=h.cons_inv;obtain⟨p1,p2⟩:=aD (show ac (xL x) (xM l) false=true from hp);exact LR.cons (A_ p1 h1 hv) (vI p2 h2 h')
 | [],_::_,_,_,h,_=>h.elim
 |_::_,[],_,_,h,_=>h.elim
def vJ{ρ1 ρ2:Rho}{F:Nat->Option ABlk}{blk:List BSh}{L:Nat->Option (Nat×Nat)}{y:Sy}{x:Sa}{a:AV}{v:Value}(hp:xN x=true)(h:TvA F blk L y x a)(hv:VR ρ1 a v):VR ρ2 (kR bH y x) v:=by
 cases x with
 |c x=>exact A_ hp h hv
 |ag l=>
  obtain⟨as,e,ha⟩:=h
  subst e
  cases hv with
  |agg _ cs h1 h2=>obtain⟨q1,q2⟩:=(vI (ρ2:=ρ2) hp ha (LR.of_arr h1 h2)).arr;exact .agg _ cs q1 q2
 |cp l=>cases hp
def sO{ρ1 ρ2:Rho}{F:Nat->Option ABlk}{blk:List BSh}{L:Nat->Option (Nat×Nat)}{y:Sy}:∀{l:List Sa} {as:List AV} {vs:List Value},xO l=true->cH (TvA F blk L y) l as->LR ρ1 as vs->LR ρ2 (nJ bH y l) vs
 | [],[],vs,_,_,h=>by rw[h.nil_inv];exact LR.nil _
 |x::l,a::as,vs,hp,⟨h1,h2⟩,h=>by obtain⟨v,K',rfl,hv,h'⟩:=h.cons_inv;obtain⟨p1,p2⟩:=aD (show ac (xN x) (xO l) false=true from hp);exact LR.cons (vJ p1 h1 hv) (sO p2 h2 h')
 | [],_::_,_,_,h,_=>h.elim
 |_::_,[],_,_,h,_=>h.elim
def Jj{ρ1 ρ2:Rho}{F:Nat->Option ABlk}{blk:List BSh}{L:Nat->Option (Nat×Nat)}{y:Sy}{x:Sr}{a:AV}{v:Value}(hp:Mo x=true)(h:TvR F blk L y x a)(hv:VR ρ1 a v):VR ρ2 (Dr bH y x) v:=by
 cases x with
 |one x=>exact vJ hp h hv
 |tu l=>
  obtain⟨as,e,ha⟩:=h
  subst e
  cases hv with
  |tup _ cs h1 h2=>obtain⟨q1,q2⟩:=(sO (ρ2:=ρ2) hp ha (LR.of_arr h1 h2)).arr;exact .tup _ cs q1 q2
def RD{f:Nat}{S:FSpec}{zf:(z:Sy)->{y:Sy // S.pre z->S.post z y}}(hC:kV P f S zf)(w0:World)(l:List AV):Wr P w0 f l (Mq S zf l):=by
 intro vs k σ0 K ρ w R hS0 hG0 hl h0 hR;obtain⟨σ,eh,hS,h,af9⟩:=xI hS0 hG0 h0;have hG:Good w0 ρ σ.h w:=by rw[eh];exact hG0
 clear h0 hG0 hS0;obtain⟨l',b7,z1,b6,b9,hcn⟩:=Ji hS hG hl h;obtain⟨s0,hs0,z2⟩:=bT z1;obtain⟨s2,hs2,z4⟩:=bT z2;obtain⟨ah_,z5⟩:=ay z4;obtain⟨⟨hpr,ac4⟩,z6⟩:=aN z5;clear h z1 z2 z4 z5;obtain⟨hc1,hc2⟩:=aD ah_;obtain⟨hc3,hc4⟩:=aD hc2;obtain⟨p1,p2⟩:=gd (blk:=[]) hs0;obtain⟨f1,_⟩:=eu hs2;have hln:=lH hs2 hpr;have m6:=p2 s2 f1 hpr hln;rw[kU] at m6;have hcv:=(hcn (mI hs0)).1;obtain⟨z,hz⟩:∃z,z=aM s2.tm:=⟨_,rfl⟩
 rw[←hz] at ac4 z6 m6 hc3 hc4;have z6:run (k (Dr bH (zf z).1 (S.res z))) b7 K=true:=z6;have hLb:=pu (C:=λa v=>ZP ρ w a v) (fs:=nJ bH z) rfl (λ_ _=>rfl) (λ_ _ _ h hv=>TvA.look h hv) m6 hcv;have hbl:S.blk= []:=by cases hb:S.blk with|nil=>rfl|cons _ _=>rw[hb] at hc1;cases hc1
 have hgz:Good w (sN ρ w) (S.heap z) w:=by unfold FSpec.heap;rw[hbl];exact(ZO b9).addTab (z:=z) (blk:=[]) (af9.mono λb x h=>nO h)
 obtain⟨hcf,af_⟩:=hC z ac4 w (sN ρ w) vs hgz hLb;refine⟨hcf,af_.mono λe w' he=>?_⟩;obtain⟨v,ρ',H',a,s,rfl,j7,ad7,hva,ac5,al7,hzf⟩:=he;obtain⟨t1,_,_⟩:=sE (ρ:=ρ') ac5 al7;rw[←hzf] at t1;have al9:Below w.heap.size w w':=j7.below.below λx=>by rw[ad7.own];exact λh=>h
 exact hR _ v b7 ρ w' z6 b6 (b9.later al9) (Rho.le.refl ρ) (Jj hc4 t1 hva)
end
end Go.Sym
namespace Go.Sym
theorem am(s:List Nat):(KA s).length=s.length:=aaK ..
theorem ao{a:List Nat}(h:¬a= []):0<a.length:=List.length_pos_iff.2 h
def pw(n:Int):IntKind.wrap .u64 n=n%18446744073709551616:=rfl
def iZ(n:Int):IntKind.wrap .u8 n=n%256:=rfl
noncomputable section
def Fm.ana_den{a q:Prop}{r:Sy->Prop}{f:Sy->Fm}(h1:a/\q)(h2:a/\q->∀y,r y->(f y).den):(Fm.an (a/\q) (Fm.al (λy=>q->r y) f)).den:=⟨h1,λh y hy=>h2 h y (hy h1.2)⟩
def bV{a q:Prop}{r:Sy->Prop}{f:Sy->Fm}(h1:a/\q)(h2:a/\q->∀y,r y->(f y).den):(Fm.an (a/\q) (Fm.al (λy=>q->r y) f)).den:=Fm.ana_den h1 h2
def bW{p:Prop}{f g:Fm}(h1:p->f.den)(h2:¬p->g.den):(Fm.two p f g).den:=⟨h1,h2⟩
def bX{p:Prop}{f:Fm}(h1:p)(h2:p->f.den):(Fm.an p f).den:=⟨h1,h2⟩
def cy{p:Sy->Prop}{f:Sy->Fm}(h:∀y,p y->(f y).den):(Fm.al p f).den:=h
def cj{p:Prop}(h:p):(Fm.at p).den:=h
abbrev Zf(S:FSpec):=(z:Sy)->{y:Sy // S.pre z->S.post z y}
abbrev Lf0(LS:Sy->LSpec):=(p z:Sy)->{y:Sy // (LS p).inv z->(LS p).post z y}
structure Ent where
 f:Nat
 S:FSpec
 zf:(z:Sy)->{y:Sy // S.pre z->S.post z y}
 look:Bool:=false
structure LEnt where
 fn:Nat
 id:Nat
 n:Nat
 ptm:List (Nat×Sa)
 LS:Sy->LSpec
 zf:(p z:Sy)->{y:Sy // (LS p).inv z->(LS p).post z y}
def WB(l:List Ent)(f:Nat)(args:List AV):Option ((AV->Tr)->Tr):=
 List.rec (motive:=λ_=>Option ((AV->Tr)->Tr)) none (λe _ ih=>ac (Nat.beq e.f f) (some (ac e.look (Mq e.S e.zf args) (Wt e.S e.zf args))) ih) l
def WC(l:List LEnt)(fn id:Nat):Option (Nat->T AV->(AEx->T AV->Tr)->Tr):=
 List.rec (motive:=λ_=>Option (Nat->T AV->(AEx->T AV->Tr)->Tr)) none (λe _ ih=>ac (ac (Nat.beq e.fn fn) (Nat.beq e.id id) false) (some (Wz e.ptm e.LS e.zf e.n e.id)) ih) l
def nQ(m:List Memo)(c:List Ent)(l:List LEnt):Tab:=⟨m,WB c,WC l⟩
def ib(P:Program)(e:Ent):Prop:=kV P e.f e.S e.zf
def fG(P:Program)(e:LEnt):Prop:=eU P e.fn e.id=true/\e.n=iX P e.fn e.id/\(∀p,(e.LS p).blk.length<=64)/\∀p z,(e.LS p).inv z->mJ P e.fn e.id (e.LS p) z (e.zf p z).1
end
def Ok(P:Program)(f:Nat)(S:FSpec):Prop:=∃zf,kV P f S zf
def ZQ(P:Program)(fn id:Nat)(LS:Sy->LSpec):Prop:=∃zf:Lf0 LS,eU P fn id=true/\(∀p,(LS p).blk.length<=64)/\∀p z,(LS p).inv z->mJ P fn id (LS p) z (zf p z).1
def nR{P:Program}{m:List Memo}{c:List Ent}{l:List LEnt}(hm:∀x∈m,mC P x)(hc:∀e∈c,ib P e)(hl:∀e∈l,fG P e):TabOk P (nQ m c l) where
 memos:=hm
 con:=λw0 f args t h=>by
  replace h:WB c f args=some t:=h
  clear hl hm
  induction c with
  |nil=>cases h
  |cons e c ih=>
   replace h:ac (Nat.beq e.f f) (some (ac e.look (Mq e.S e.zf args) (Wt e.S e.zf args))) (WB c f args)=some t:=h;rw[ar] at h;split at h
   ·rename_i hf
    have hf:=aac hf
    injection h with h
    subst hf;subst h
    cases hlk:e.look with
    |true=>exact RD (hc e aan) w0 args
    |false=>exact Ww (hc e aan) w0 args
   ·exact ih (λe he=>hc e (aaj _ he)) h
 blk:=λw0 fn id t h=>by
  replace h:WC l fn id=some t:=h
  clear hc hm
  induction l with
  |nil=>cases h
  |cons e l ih=>
   replace h:ac (ac (Nat.beq e.fn fn) (Nat.beq e.id id) false) (some (Wz e.ptm e.LS e.zf e.n e.id)) (WC l fn id)=some t:=h;rw[ar] at h;split at h
   ·rename_i hf;obtain⟨h1,h2⟩:=aD hf;have h1:=aac h1;have h2:=aac h2;injection h with h;subst h1;subst h2;subst h;obtain⟨q1,q2,q3,q4⟩:=hl e aan;rw[q2];exact WA q1 q3 q4 w0
   ·exact ih (λe he=>hl e (aaj _ he)) h
def WD{P:Program}{M:Tab}(hM:TabOk P M){n fn id:Nat}{LS:Sy->LSpec}(hl:eU P fn id=true)(f9:∀p,(LS p).blk.length<=64)(h:∀p z,(LS p).inv z->∃hn,((LS p).roundFm P M n fn id z hn).den)(hgl:∀p g ty l,(LS p).gl=some (g,ty,l)->g<1048576:=by intro p g ty l h;cases h):ZQ P fn id LS:=by
 have key:∀p z,∃y:{y:Sy // (LS p).inv z->(LS p).post z y},(LS p).inv z->mJ P fn id (LS p) z y.1:=λp z=>by
  by_cases hz:(LS p).inv z
  ·obtain⟨y,h1,h2⟩:=RC hM hl (f9 p) (hgl p) (h p) _ z rfl hz;exact⟨⟨y,λ_=>h1⟩,λ_=>h2⟩
  ·exact⟨⟨⟨λ_=>0,λ_=>[],λ_=>False,λ_=>[]⟩,λh=>absurd h hz⟩,λh=>absurd h hz⟩
 exact⟨λp z=>Classical.choose (key p z),hl,f9,λp z hz=>abt (key p z) hz⟩
def Mt{P:Program}{f:Nat}{S:FSpec}{zf:Zf S}{look:Bool}(h:kV P f S zf):ib P ⟨f,S,zf,look⟩:=h
def Jk{P:Program}{fn id:Nat}{ptm:List (Nat×Sa)}{LS:Sy->LSpec}{zf:Lf0 LS}(h:eU P fn id=true/\(∀p,(LS p).blk.length<=64)/\∀p z,(LS p).inv z->mJ P fn id (LS p) z (zf p z).1):fG P ⟨fn,id,iX P fn id,ptm,LS,zf⟩:=⟨h.1,rfl,h.2.1,h.2.2⟩
def mN{P:Program}:∀x∈([]:List Memo),mC P x:=λ_ h=>by cases h
def eN{P:Program}:∀e∈([]:List Ent),ib P e:=λ_ h=>by cases h
def lN{P:Program}:∀e∈([]:List LEnt),fG P e:=λ_ h=>by cases h
def eC{P:Program}{f:Nat}{S:FSpec}{zf:Zf S}{look:Bool}{l:List Ent}(h:kV P f S zf)(hl:∀e∈l,ib P e):∀e∈(⟨f,S,zf,look⟩:Ent)::l,ib P e:=λe he=>by
 rcases List.mem_cons.1 he with rfl|he
 ·exact Mt h
 ·exact hl e he
def lC{P:Program}{fn id:Nat}{ptm:List (Nat×Sa)}{LS:Sy->LSpec}{zf:Lf0 LS}{l:List LEnt}(h:eU P fn id=true/\(∀p,(LS p).blk.length<=64)/\∀p z,(LS p).inv z->mJ P fn id (LS p) z (zf p z).1)(hl:∀e∈l,fG P e):∀e∈(⟨fn,id,iX P fn id,ptm,LS,zf⟩:LEnt)::l,fG P e:=λe he=>by
 rcases List.mem_cons.1 he with rfl|he
 ·exact Jk h
 ·exact hl e he
end Go.Sym
namespace Go.Sym
noncomputable section
def WE(n:Nat)(_:Nat->Tr)(ih:Nat->St->Lf->Hn->Fm)(σ:St)(K:Lf)(hn:Hn):Fm:=
 ac (Nat.ble n 1) (ih 0 σ K hn) (St.rec (motive:=λ_=>Fm) (λ_ _ fs _ _=>ac (ac (Nat.beq n 2) (Nat.beq fs 0) false) (.al (λ_=>True) λy=>IZ (y.p 0) .fail .fail (ih 0) (ih 1) σ K hn) .ff) σ)
def FH(t:Tr):St->Lf->Hn->Fm:=Tr.rec (motive:=λ_=>St->Lf->Hn->Fm) UD ZE eRd eWr ZF WE ZH IZ ZI eSk t
def EvM(r:Fin->Bool)(Φ:AV->St->Prop):Prop:=∀K:Fin,(∀a σ,Φ a σ->K a σ=true)->r K=true
def EvM.congr{r r':Fin->Bool}{Φ:AV->St->Prop}(h:∀K,r K=r' K)(he:EvM r' Φ):EvM r Φ:=λK hK=>(h K).trans (he K hK)
def WF{p:Prop}{t e:Tr}{it ie:St->Lf->Hn->Fm}{σ:St}{K:Lf}{hn:Hn}(h:(IZ p t e it ie σ K hn).den):(p->∃a,(it σ K a).den)/\(¬p->∃a,(ie σ K a).den):=by
 have both:∀a b,(Fm.two p (it σ K a) (ie σ K b)).den->(p->∃a,(it σ K a).den)/\(¬p->∃a,(ie σ K a).den):=λa b h=>⟨λq=>⟨a,h.1 q⟩,λq=>⟨b,h.2 q⟩⟩
 cases hn with
 |nil=>exact both _ _ h
 |both a b=>exact both _ _ h
 |yes a=>have h:(Fm.an p (it σ K a)).den:=h;exact⟨λ_=>⟨a,h.2 h.1⟩,λq=>absurd h.1 q⟩
 |no a=>have h:(Fm.an (¬p) (ie σ K a)).den:=h;exact⟨λq=>absurd q h.1,λ_=>⟨a,h.2 h.1⟩⟩
def WG:∀(t:Tr) (σ:St) (K:Lf) (hn:Hn),(FH t σ K hn).den->EvM (run t σ) λa a9=>∃hn',(K a a9 hn').den:=by
 intro t
 induction t with
 |fail=>intro σ K hn h;exact h.elim
 |ret a=>intro σ K hn h Q hQ;exact hQ _ _ ⟨hn,h⟩
 |rd b k ih=>
  intro σ K hn h
  cases σ with
  |mk H n fs t w=>
   have h:(ac (Nat.ble (Nat.succ b) n) (T.getK H b Fm.ff λx=>me fs b t λt=>FH (k x) (.mk H n fs t w) K hn) .ff).den:=h;rw[ar] at h;split at h
   ·rename_i hb;have hb:=aaw hb;rw[T.getK_eq] at h;split at h
    ·exact h.elim
    ·rename_i x hx;rw[kQ] at h;refine(ih x _ K hn h).congr λK=>?_;rw[iu,if_pos (show b<n from hb),hx]
   ·exact h.elim
 |wr b x k ih=>
  intro σ K hn h
  cases σ with
  |mk H n fs t w=>
   have h:(ac (Nat.ble (Nat.succ b) n) (T.getK H b Fm.ff λ_=>T.setK H b x λH=>me fs b t λt=>mE fs b w λw=>FH k (.mk H n fs t w) K hn) .ff).den:=h;rw[ar] at h;split at h
   ·rename_i hb;have hb:=aaw hb;rw[T.getK_eq] at h;split at h
    ·exact h.elim
    ·rename_i y hy;rw[T.setK_eq,kQ,pm] at h;refine(ih _ K hn h).congr λK=>?_;rw[kB,if_pos (show b<n from hb),hy]
   ·exact h.elim
 |new x k ih=>
  intro σ K hn h
  cases σ with
  |mk H n fs t w=>
   have h:(ac (Nat.ble n 1000000000) (T.getK H n (T.setK H n x λH=>fN (Nat.succ n) λm=>FH (k n) (.mk H m fs t w) K hn) λ_=>Fm.ff) .ff).den:=h;rw[ar] at h;split at h
   ·rename_i hb;have hb:=aaw hb;rw[T.getK_eq] at h;split at h
    ·rename_i hx;rw[T.setK_eq,rB] at h;refine(ih n _ K hn h).congr λK=>?_;rw[gU,if_pos hb,hx]
    ·exact h.elim
   ·exact h.elim
 |pick n k ih=>
  intro σ K hn h;have h:(ac (Nat.ble n 1) (FH (k 0) σ K hn) (St.rec (motive:=λ_=>Fm) (λ_ _ fs _ _=>ac (ac (Nat.beq n 2) (Nat.beq fs 0) false) (.al (λ_=>True) λy=>IZ (y.p 0) .fail .fail (FH (k 0)) (FH (k 1)) σ K hn) .ff) σ)).den:=h;rw[ar] at h;split at h
  ·rename_i hb;refine(ih 0 σ K hn h).congr λK=>?_;show ac (Nat.ble n 1) (run (k 0) σ K) _=_;rw[ar,if_pos hb]
  ·cases σ with
   |mk H m fs t w=>
    have h:(ac (ac (Nat.beq n 2) (Nat.beq fs 0) false) (Fm.al (λ_=>True) λy=>IZ (y.p 0) .fail .fail (FH (k 0)) (FH (k 1)) (.mk H m fs t w) K hn) .ff).den:=h;rw[ar] at h;split at h
    ·rename_i hc;rw[ar] at hc;split at hc
     ·rename_i h2
      have h2:=aac h2
      have hfs:=aac hc
      subst h2;subst hfs
      obtain⟨a,ha⟩:=(WF (h ⟨λ_=>0,λ_=>[],λ_=>True,λ_=>[]⟩ trivial)).1 trivial
      obtain⟨b,hb⟩:=(WF (h ⟨λ_=>0,λ_=>[],λ_=>False,λ_=>[]⟩ trivial)).2 id
      intro Q hQ
      have e1:=ih 0 _ K a ha Q hQ
      have e2:=ih 1 _ K b hb Q hQ
      show iK (λi=>run (k i) (.mk H m 0 t w) Q) 2=true
      refine nh.mpr λi hi=>?_
      match i,hi with
      |0,_=>exact e1
      |1,_=>exact e2
     ·cases hc
    ·exact h.elim
 |sub t k iht ihk=>
  intro σ K hn h
  cases σ with
  |mk H n fs tc w=>
   intro Q hQ
   rw[gV]
   refine iht _ _ _ h _ λa a9 ⟨hn',h2⟩=>?_
   cases a9 with
   |mk h' n' f' t' w'=>
    have h2:(ac (Nat.beq fs 0) (FH (k a n n' t' w') (.mk h' n' fs tc w) K hn')
     (kP fs (T.keys t' id []) tc λt2=>iS fs w' w λw2=>FH (k a n n' t' w') (.mk h' n' fs t2 w2) K hn')).den:=h2
    rw[ar,qa,nI] at h2;by_cases hf:fs=0
    ·subst hf;rw[if_pos (show Nat.beq 0 0=true from rfl)] at h2;exact ihk a n n' t' w' _ K hn' h2 Q hQ
    ·have:¬Nat.beq fs 0=true:=λhb=>hf (aac hb);rw[if_neg this] at h2;simp only [if_neg hf];exact ihk a n n' t' w' _ K hn' h2 Q hQ
 |ask p t e iht ihe=>
  intro σ K hn h;obtain⟨h1,h2⟩:=WF (t:=t) (e:=e) h;by_cases hp:p
  ·obtain⟨a,h1⟩:=h1 hp;exact(iht σ K a h1).congr λK=>fm _ _ _ _ hp
  ·obtain⟨a,h2⟩:=h2 hp;exact(ihe σ K a h2).congr λK=>fo _ _ _ _ hp
 |req p t ih=>intro σ K hn h;have h:(Fm.an p (FH t σ K hn)).den:=h;exact(ih σ K hn (h.2 h.1)).congr λK=>fq _ _ _ h.1
 |sk p z k ih=>intro σ K hn h;have h:(Fm.al p λy=>FH (k y) σ K hn).den:=h;exact ih z.1 σ K hn (h z.1 z.2)
def ZR(x D:Tm):Fm:=match x,D with | .g l,.g m=>.at (l=m) | .s l,.s m=>.at (l=m)|_,_=>.ff
def RE{x D:Tm}(h:(ZR x D).den):x=D:=by cases x <;> cases D <;> first|exact h.elim|exact congrArg _ h
def FI(n:Nat)(r:Sr)(l:List BSh)(t0:Nat)(D:Tm):Lf:=λa σ _=>match fg n σ.h r l a with
 |some s=>.an s.pr (match s.tm with | [(t,x)]=>ac (Nat.beq t t0) (ZR x D) .ff|_=>.ff)
 |none=>.ff
def FSpec.callFmP(S:FSpec)(t0:Nat)(D:Sy->Tm)(P:Program)(M:Tab)(n f:Nat)(z:Sy)(h:Hn):Fm:=
 FH (nu P (xj P M n) f (S.argsA z) λa=>Du (S.out z) (S.res z) a .ret) (start (S.heap z) (base+64)) (FI (List.length S.blk) (S.res z) (S.out z) t0 (D z)) h
def Mu{P:Program}{M:Tab}(hM:TabOk P M){n f:Nat}{S:FSpec}{t0:Nat}{D:Sy->Tm}(hp:∀z,S.pre z->S.post z (aM [(t0,D z)]))(h:∀z,S.pre z->∃hn,(S.callFmP t0 D P M n f z hn).den):Ok P f S:=by
 refine⟨λz=>⟨aM [(t0,D z)],hp z⟩,λz hz w ρ vs hG hl=>?_⟩;obtain⟨hn,hd⟩:=h z hz;refine iR (qR P hM w n).1 f (S.argsA z) vs (λa=>Du (S.out z) (S.res z) a .ret) (start (S.heap z) (base+64)) (λa s=>dP (∃hn',(FI (List.length S.blk) (S.res z) (S.out z) t0 (D z) a s hn').den)) ρ w _ (nG (by decide) (by decide)) hG hl (WG _ _ _ _ hd _ λa σ hd=>fE.2 hd) λav v a9 ρ' w' q1 q2 q3 q4 q5=>?_;obtain⟨a',i3,ρ2,q1,q2,q3,q4',q5⟩:=FE q2 q3 q5 q1;obtain⟨hn',hd'⟩:=fE.1 (show dP (∃hn',(FI (List.length S.blk) (S.res z) (S.out z) t0 (D z) a' i3 hn').den)=true from q1);unfold FI at hd';split at hd'
 ·rename_i s hs;obtain⟨h1,h2⟩:=hd';replace h2:=h2 h1;split at h2
  ·rename_i t l htm;rw[ar] at h2;split at h2
   ·rename_i ht;have ht:=aac ht;have h3:l=D z:=RE h2;subst ht;exact⟨v,ρ2,_,_,s,rfl,q3,q4.trans q4',q5,hs,h1,by rw[htm,h3]⟩
   ·exact h2.elim
  ·exact h2.elim
 ·exact hd'.elim
end
end Go.Sym
namespace Go.Sym
noncomputable section
variable{H:Type}{enc:TypeId×Value->H}{P:Program}{W:World}
def fw(W:World):Rho:=⟨λ_ _=>none,λ_=>undef,λ_=>False,λb=>match W.heap[b]? with|some (.cells c t _)=>some (c,t)|_=>none,λb=>match W.heap[b]? with|some (.cells c t _)=>some (c,t)|_=>none⟩
def Ba{b:Nat}{c:Array Value}{t:TypeId}{fr:_}(h:W.heap[b]? =some (.cells c t fr)):(fw W).frz b=some (c,t):=by show(match W.heap[b]? with|some (.cells c t _)=>some (c,t)|_=>none)=_;rw[h]
def ZS(W:World){T:T ABlk}(hT:∀b x,T.get b=some x->BR (fw W) W.heap.size W b x)(hO:∀b k I l,¬T.get b=some (.obj k I l)):Good W (fw W) T W:=
 ⟨⟨Kept.refl _ _ _,hT,(λb g h hh=>by cases hh),(λb g h b' g' h' hh=>by cases hh),(λb g h x hh=>by cases hh),(λb arr ty hh=>by
  have hh:(match W.heap[b]? with|some (.cells c t _)=>some (c,t)|_=>none)=some (arr,ty):=hh;split at hh
  ·rename_i c t fr e;injection hh with hh;injection hh with h1 h2;subst h1;subst h2;exact⟨⟨fr,e⟩,λb' g h hh=>by cases hh⟩
  ·cases hh),(λb x hh _=>hh),(λb k I l h=>absurd h (hO b k I l))⟩,λx h=>h.elim⟩
def px{base n:Nat}{a:Addr}{cs:List Value}(h:W.cells? base a n=some cs)(hn:0<n):cs.length=n/\∃arr t fr,W.heap[a.block]? =some (.cells arr t fr)/\a.spot=none/\a.off+n<=arr.size/\∀j,j<n->arr[a.off+j]? =cs[j]? :=by
 obtain⟨h1,h2,h3⟩:=World.cells?_some h;refine⟨h2, ?_⟩;have c0:=h3 0 hn;have l6:∀j,j<n->∃v,W.cell? (a.add j)=some v/\cs[j]? =some v:=λj hj=>by have:=h3 j hj;rw[aai (by omega)] at this;exact⟨_,this,aai (by omega)⟩
 obtain⟨v0,e0,_⟩:=l6 0 hn;unfold World.cell? Addr.add at e0;rw[if_pos rfl] at e0;split at e0
 ·rename_i arr t fr hb;have hs:a.spot=none:=by
   cases hs:a.spot with
   |none=>rfl
   |some x=>rw[hs] at e0;cases e0
  have key:∀j,j<n->arr[a.off+j]? =cs[j]? :=λj hj=>by
   obtain⟨v,e1,e2⟩:=l6 j hj;rw[e2, ←e1];unfold World.cell? Addr.add;by_cases hj0:j=0
   ·subst hj0;rw[if_pos rfl,hb];simp [hs]
   ·rw[if_neg hj0];show _=(match W.heap[a.block]? with|some (.cells c _ _)=>_|_=>none);rw[hb];rfl
  refine⟨arr,t,fr,hb,hs, ?_,key⟩;obtain⟨v,_,e2⟩:=l6 (n-1) (by omega);have:=key (n-1) (by omega);rw[e2] at this;have:=(Array.getElem?_eq_some_iff.1 this).1;omega
 ·cases e0
def Jl(a:Addr)(k:Nat):(a.add k).block=a.block:=by unfold Addr.add;split <;> rfl
def RF(a:Addr)(k:Nat):(a.add k).off=a.off+k:=by
 unfold Addr.add;split
 ·rename_i h;rw[h];rfl
 ·rfl
def qf{e:TypeId}{N:Nat}:∀{l:List (DataW H)},(∀k∈DataW.weightsAll P e l,k<=N)->∀d∈l,∀k∈d.weights P e,k<=N
 |d::l,h,x,hx,k,hk=>by
  rw[DataW.weightsAll] at h;rcases List.mem_cons.1 hx with rfl|hx
  ·exact h k (abn _ hk)
  ·exact qf (λk hk=>h k (abo _ hk)) x hx k hk
def dm{N:Nat}:∀{ts:List TypeId} {l:List (DataW H)},(∀k∈DataW.weightsEach P ts l,k<=N)->∀(i:Nat) (t:TypeId) (d:DataW H),ts[i]? =some t->l[i]? =some d->∀k∈d.weights P t,k<=N
 | [],_,_,_,_,_,ht,_,_,_=>by cases ht
 |_::_,[],_,_,_,_,_,hd,_,_=>by cases hd
 |u::ts,x::l,h,0,t,d,ht,hd,k,hk=>by rw[DataW.weightsEach] at h;injection ht with ht;injection hd with hd;subst ht;subst hd;exact h k (abn _ hk)
 |u::ts,x::l,h,i+1,t,d,ht,hd,k,hk=>by rw[DataW.weightsEach] at h;exact dm (ts:=ts) (l:=l) (λk hk=>h k (abo _ hk)) i t d ht hd k hk
def nS{sp:Nat->Bool}{held:Bool}{t e:TypeId}{m N:Nat}(hsp:∀b,sp b=true)(ht:P.underlying t=some (.slice e))(J':P.cellsOf e=bq (cK m))(l9:0<bq (cK m))(hbe:0<P.bytesOf e)(Q:G->Prop){n:Nat}(hel:∀cs x,DataW.trod enc P W 0 sp held n e cs=some x->(∀k∈x.1.weights P e,k<=N)->∃g,Q g/\LR (fw W) (bB (cK m) g 0) cs){cs:List Value}{x:DataW H×List MemPlace}(h:DataW.trod enc P W 0 sp held (n+1) t cs=some x)(hw:∀k∈x.1.weights P t,k<=N):
 ∃v l,cs= [v]/\VR (fw W) (.cv (.rows m l)) v/\(∀g∈l,Q g)/\l.length<=N:=by
 rcases DataW.trod_slice ht h with⟨rfl,rfl⟩|⟨a,len,cap,elems,rest,n',hn,rfl,rfl,hb,hlc,hcm,hll,hi,hr,_⟩
 ·exact⟨_,[],rfl,.cvnil _ rfl,(λ_ hg=>absurd hg aaP),aap _⟩
 ·injection hn with hn;subst hn;rw[J'] at hi hr;obtain⟨hr1,hr2⟩:=hr (hsp _);have hw':∀k∈((elems.map (·.1)).length * P.bytesOf e+(rest.map (·.1)).length * P.bytesOf e)::(DataW.weightsAll P e (elems.map (·.1))++DataW.weightsAll P e (rest.map (·.1))),k<=N:=by have:=hw;simp only [DataW.weights,ht,aaz] at this;exact this
  have hlN:len<=N:=by have:=hw' _ aan;rw[aaK,hll] at this;have h2:len * 1<=len * P.bytesOf e:=Nat.mul_le_mul_left _ hbe;omega
  have hwe:∀d∈elems.map (·.1),∀k∈d.weights P e,k<=N:=qf λk hk=>hw' k (aaj _ (abn _ hk));have each:∀i,i<len->∃g cs',Q g/\W.cells? 0 (a.add (i * bq (cK m))) (bq (cK m))=some cs'/\LR (fw W) (bB (cK m) g 0) cs':=λi hl=>by have e1:=hi i hl;rw[aai (by omega)] at e1;obtain⟨cs',e2,e3⟩:=Option.bind_eq_some_iff.1 e1;obtain⟨g,g1,g2⟩:=hel cs' _ e3 (hwe _ (abu (f:=λy:DataW H×List MemPlace=>y.1) (abe _)));exact⟨g,cs',g1,e2,g2⟩
  by_cases hc0:cap=0
  ·have:len=0:=by omega
   subst hc0;subst this;exact⟨_,[],rfl,.cvempty _ a rfl,(λ_ hg=>absurd hg aaP),aap _⟩
  ·have first:∃arr ty fr,W.heap[a.block]? =some (.cells arr ty fr)/\a.spot=none/\a.off<=arr.size:=by
    by_cases hl:0<len
    ·obtain⟨g,cs',_,e2,_⟩:=each 0 hl;obtain⟨_,arr,ty,fr,q1,q2,q3,_⟩:=px e2 l9;rw[abc] at q1 q2 q3;exact⟨arr,ty,fr,q1,q2,by have:(a.add 0).off=a.off:=rfl;omega⟩
    ·have e1:=hr2 0 (by omega);have h0:len=0:=by omega
     rw[show len+0=0 by omega,abc,aai (by omega)] at e1;obtain⟨cs',e2,_⟩:=Option.bind_eq_some_iff.1 e1;obtain⟨_,arr,ty,fr,q1,q2,q3,_⟩:=px e2 l9;exact⟨arr,ty,fr,q1,q2,by have:(a.add 0).off=a.off:=rfl;omega⟩
   obtain⟨arr,ty,fr,hH,hS,hO⟩:=first
   have fr2:∀i,i<len->∃g cs',Q g/\LR (fw W) (bB (cK m) g 0) cs'/\a.off+i * bq (cK m)+bq (cK m)<=arr.size/\∀j,j<bq (cK m)->arr[a.off+i * bq (cK m)+j]? =cs'[j]? :=λi hl=>by obtain⟨g,cs',g1,e2,g2⟩:=each i hl;obtain⟨_,u0,ty',fr',q1,_,q3,q4⟩:=px e2 l9;rw[Jl,hH] at q1;injection q1 with q1;injection q1 with q1;subst q1;rw[RF] at q3 q4;exact⟨g,cs',g1,g2,q3,q4⟩
   let f:_root_.Fin len->G:=λi=>Classical.choose (fr2 i.1 i.2);have hf:∀i:_root_.Fin len,∃cs',Q (f i)/\LR (fw W) (bB (cK m) (f i) 0) cs'/\a.off+i.1 * bq (cK m)+bq (cK m)<=arr.size/\∀j,j<bq (cK m)->arr[a.off+i.1 * bq (cK m)+j]? =cs'[j]? :=λi=>abt (fr2 i.1 i.2);refine⟨_,List.ofFn f,rfl, ?_,λg hg=>?_,by rw[List.length_ofFn];exact hlN⟩
   ·obtain⟨bl,off,spot⟩:=a;have hS:spot=none:=hS;subst hS;have hlen:(Ct.rows m (List.ofFn f)).len=len:=List.length_ofFn;have hr0:VR (fw W) (.cv (.rows m (List.ofFn f))) (.slice (some ⟨bl,off,none⟩) (Ct.rows m (List.ofFn f)).len cap):=by
     refine .cv (.rows m (List.ofFn f)) bl off cap arr ty (Ba hH) (by rw[hlen];exact hlc) ?_ λi j av v hi' hav hv=>?_
     ·rw[hlen];show off+len * bq (cK m)<=arr.size;by_cases hl:0<len
      ·obtain⟨_,_,_,q,_⟩:=hf ⟨len-1,by omega⟩;have q:off+(len-1) * bq (cK m)+bq (cK m)<=arr.size:=q;have e:len * bq (cK m)=(len-1) * bq (cK m)+bq (cK m):=by
        have:len=(len-1)+1:=by omega
        conv=>lhs;rw[this,aaz,Nat.one_mul]
       omega
      ·have:len=0:=by omega
       rw[this,abc];exact hO
     ·rw[hlen] at hi';obtain⟨cs',_,hL,_,q⟩:=hf ⟨i,hi'⟩;have hgi:aq (List.ofFn f) i=f ⟨i,hi'⟩:=by unfold aq;rw[aag,aai (by rw[List.length_ofFn];exact hi'),List.getElem_ofFn];rfl
      have hav:(bB (cK m) (aq (List.ofFn f) i) 0)[j]? =some av:=hav;rw[hgi] at hav;have hj:j<bq (cK m):=by
       have:=(List.getElem?_eq_some_iff.1 hav).1
       rwa [rC] at this
      have hv:arr[off+i * bq (cK m)+j]? =some v:=hv;have q:arr[off+i * bq (cK m)+j]? =cs'[j]? :=q j hj;rw[q] at hv;exact hL.2 j av v hav hv
    rw[hlen] at hr0;exact hr0
   ·obtain⟨i,rfl⟩:=List.mem_ofFn.1 hg;exact(hf i).choose_spec.1
end
end Go.Sym
namespace Go.Sym
open Go.RowKit (Below)
variable{P:Program}
structure ObStep(root:Nat)(fp fp':List Nat)(w w':World):Prop where
 os:w'.os=w.os
 tape:w'.tape=w.tape
 output:w'.output=w.output
 size:w.heap.size<=w'.heap.size
 block:∀k,k<w.heap.size->k∉root::fp->w'.heap[k]? =w.heap[k]?
 sub:∀x∈fp',x∈fp∨(w.heap.size<=x/\x<w'.heap.size)
noncomputable section
open Classical in
def nT(ρ:Rho)(b0 n:Nat)(fp':List Nat):Rho:=
 {at_:=λb g=>match ρ.at_ b g with|some h=>some h|none=>if b=b0/\1<=g/\g-1∈fp'/\n<=g-1 then some ⟨g-1,0,0⟩ else none,val:=ρ.val,own:=ρ.own,frz:=ρ.frz,frz0:=ρ.frz0}
def sP(ρ:Rho)(b0 n:Nat)(fp':List Nat):ρ.le (nT ρ b0 n fp'):=
 ⟨λb g h hh=>by show(match ρ.at_ b g with|some h=>some h|none=>_)=_;rw[hh],rfl,rfl,λ_ _ h=>h,rfl⟩
def eV{ρ:Rho}{b0 n:Nat}{fp':List Nat}{b g:Nat}{h:Home}(hh:(nT ρ b0 n fp').at_ b g=some h):
 ρ.at_ b g=some h∨(b=b0/\g=h.blk+1/\h=⟨h.blk,0,0⟩/\h.blk∈fp'/\n<=h.blk):=by
 have hh:(match ρ.at_ b g with|some h=>some h|none=>if b=b0/\1<=g/\g-1∈fp'/\n<=g-1 then some (⟨g-1,0,0⟩:Home) else none)=some h:=hh
 cases hr:ρ.at_ b g with
 |some h0=>rw[hr] at hh;exact .inl hh
 |none=>
  rw[hr] at hh
  by_cases hc:b=b0/\1<=g/\g-1∈fp'/\n<=g-1
  ·simp only [if_pos hc] at hh;injection hh with hh;subst hh;exact .inr ⟨hc.1,by show g=g-1+1;omega,rfl,hc.2.2.1,hc.2.2.2⟩
  ·simp only [if_neg hc] at hh;cases hh
def vK{ρ:Rho}{b0 n:Nat}{fp':List Nat}{x:Nat}(hx:x∈fp')(hn:n<=x)(h0:ρ.at_ b0 (x+1)=none):(nT ρ b0 n fp').at_ b0 (x+1)=some ⟨x,0,0⟩:=by show(match ρ.at_ b0 (x+1) with|some h=>some h|none=>if b0=b0/\1<=x+1/\x+1-1∈fp'/\n<=x+1-1 then some (⟨x+1-1,0,0⟩:Home) else none)=_;rw[h0];exact if_pos ⟨rfl,by omega,hx,hn⟩
def jF{b0 b:Nat}{q x:ABlk}(h0:b0+1<2 ^ 64)(h:((T.leaf:T ABlk).set b0 q).get b=some x):b=b0/\x=q:=by
 by_cases e:b=b0
 ·subst e;rw[T.get_set_same _ _ _ h0] at h;exact⟨rfl,(Option.some.inj h).symm⟩
 ·rw[T.get_set_ne _ e] at h;simp [T.get] at h
def RG{w w':World}{ρ:Rho}{k b0:Nat}{C:List G->Nat->List Nat->World->Prop}(hC:∀l,rD (C l)){l l':List G}{h:Home}{fp fp':List Nat}(f9:b0+1<2 ^ 64)(hG:Good w ρ ((T.leaf:T ABlk).set b0 (.obj k (C l) l)) w)(q9:ρ.at_ b0 0=some h)(hs:h.shift=0)(hfp:∀x∈h.blk::fp,Own ρ w.heap.size x/\∃g hx,ρ.at_ b0 g=some hx/\hx.blk=x)(hfz:∀b x,ρ.frz b=some x->b∉h.blk::fp)(hI:C l' h.blk fp' w')(A':ObStep h.blk fp fp' w w'):
 Good w (nT ρ b0 w.heap.size fp') ((T.leaf:T ABlk).set b0 (.obj k (C l') l')) w':=by
 have l6:((T.leaf:T ABlk).set b0 (.obj k (C l') l')).get b0=some (.obj k (C l') l'):=T.get_set_same _ _ _ f9
 have af2:((T.leaf:T ABlk).set b0 (.obj k (C l) l)).get b0=some (.obj k (C l) l):=T.get_set_same _ _ _ f9
 have hle:=sP ρ b0 w.heap.size fp'
 have hb0:∀b g h,ρ.at_ b g=some h->b=b0/\h.blk<w.heap.size:=λb g h hh=>by obtain⟨q1,x,q2⟩:=hG.dom _ _ _ hh;exact⟨(jF f9 q2).1,q1⟩
 have ac7:∀x,w.heap.size<=x->ρ.at_ b0 (x+1)=none:=λx hx=>by
  cases hr:ρ.at_ b0 (x+1) with
  |none=>rfl
  |some hx2=>
   rcases(hG.objO _ _ _ _ af2 _ _ hr).2 with e|e
   ·omega
   ·have:=(hb0 _ _ _ hr).2;omega
 have ab3:∀b,b<w.heap.size->b∉h.blk::fp->w'.heap[b]? =w.heap[b]? :=A'.block
 refine⟨⟨⟨A'.os,A'.tape,A'.output,A'.size,λb hb s8=>ab3 b hb (λhm=>?_)⟩,λb x hx=>?_,λb g h2 hh=>?_,λb g h1 b' g' h2 hh1 hh2 e=>?_,λb g h2 x hh hx=>?_,λb arr ty hf=>?_,hG.frzB,λb k2 I2 l2 hx g h2 hh=>?_⟩,λx hx=>?_⟩
 ·rcases(hfp _ hm).1 with h1|h1
  ·omega
  ·exact s8 h1
 ·obtain⟨rfl,rfl⟩:=jF f9 hx;refine⟨hC l',h,fp',hle.at_ _ _ _ q9,hs,λy hy=>?_,hI⟩;have old:y∈h.blk::fp->Own (nT ρ b w.heap.size fp') w.heap.size y/\∃g hx,(nT ρ b w.heap.size fp').at_ b g=some hx/\hx.blk=y:=λhm=>by obtain⟨q1,g,hx,q2,q3⟩:=hfp _ hm;exact⟨q1,g,hx,hle.at_ _ _ _ q2,q3⟩
  rcases List.mem_cons.1 hy with e|hy
  ·exact old (e▸aan)
  ·rcases A'.sub y hy with h1|⟨h1,h2⟩
   ·exact old (aaj _ h1)
   ·exact⟨.inl h1,y+1,_,vK hy h1 (ac7 y h1),rfl⟩
 ·rcases eV hh with h1|⟨rfl,_,_,h3,h4⟩
  ·obtain⟨rfl,q⟩:=hb0 _ _ _ h1;exact⟨aa5 q A'.size,_,l6⟩
  ·rcases A'.sub _ h3 with h5|⟨_,h5⟩
   ·obtain⟨_,g2,hx,q2,q3⟩:=hfp _ (aaj _ h5);have:=(hb0 _ _ _ q2).2;omega
   ·exact⟨h5,_,l6⟩
 ·rcases eV hh1 with a1|⟨a1,a2,a3,a4,a5⟩
  ·rcases eV hh2 with c1|⟨c1,c2,c3,c4,c5⟩
   ·exact hG.inj _ _ _ _ _ _ a1 c1 e
   ·have:=(hb0 _ _ _ a1).2;omega
  ·rcases eV hh2 with c1|⟨c1,c2,c3,c4,c5⟩
   ·have:=(hb0 _ _ _ c1).2;omega
   ·exact⟨a1.trans c1.symm,by rw[a3,c3,e]⟩
 ·obtain⟨rfl,rfl⟩:=jF f9 hx;trivial
 ·obtain⟨⟨fr,q1⟩,q2⟩:=hG.frz _ _ _ hf;have c8:b<w.heap.size:=(Array.getElem?_eq_some_iff.1 q1).1;refine⟨⟨fr,(ab3 b c8 (hfz _ _ hf)).trans q1⟩,λb' g h2 hh e=>?_⟩;rcases eV hh with a1|⟨a1,a2,a3,a4,a5⟩
  ·obtain⟨x,r1,r2⟩:=q2 _ _ _ a1 e;obtain⟨rfl,rfl⟩:=jF f9 r1;exact absurd r2 (λh=>h)
  ·omega
 ·obtain⟨rfl,e⟩:=jF f9 hx;rcases eV hh with a1|⟨a1,a2,a3,a4,a5⟩
  ·exact hG.objO _ _ _ _ af2 _ _ a1
  ·exact⟨.inl a5,.inr a2⟩
 ·obtain⟨b,g,h2,q1,q2,q3⟩:=hG.ownB x hx;exact⟨b,g,h2,q1,hle.at_ _ _ _ q2,q3⟩
def RH{f k:Nat}{C:List G->Nat->List Nat->World->Prop}{S:FSpec}{al:List Sa}(hC:∀l,rD (C l))(tR:Sy->List G)(av:Sy->AV)(tm:Sy->List (Nat×Tm))(e1:S.args= .c (.p 0)::al)(e2:S.blk= [.obj k C 20])(e3:S.gl=none)(af3:∀z,S.pre z->S.post z (aM (tm z)))(ac5:∀z,∃s,fg 1 ((T.leaf:T ABlk).set base (.obj k (C (tR z)) (tR z))) (S.res z) (S.out z) (av z)=some s/\s.pr/\s.tm=tm z)(ag0:∀(args:Array Value) (w:World),(callFunc f args).run P w= .ok (.enter f args) w)(ai0:∀z,S.pre z->∀(w:World) (ρ:Rho) (root:Nat) (fp:List Nat) (vs:List Value),(∀b x,ρ.frz b=some x->b∉root::fp/\∃fr,w.heap[b]? =some (.cells x.1 x.2 fr))->(∀x∈root::fp,x<w.heap.size)->LR ρ (nJ bH z al) vs->C (z.g 20) root fp w->
  Calls P f (Value.pointer (some ⟨root,0,none⟩)::vs).toArray w λe w'=>∃v fp',e= .returned v/\C (tR z) root fp' w'/\ObStep root fp fp' w w'/\∀ρ',VR ρ' (av z) v):Ok P f S:=by
 refine⟨λz=>⟨aM (tm z),af3 z⟩,λz hz w ρ vs hG hl=>?_⟩
 have hH:S.heap z=(T.leaf:T ABlk).set base (.obj k (C (z.g 20)) (z.g 20)):=by unfold FSpec.heap;rw[e3,e2];rfl
 rw[hH] at hG
 unfold FSpec.argsA at hl
 rw[e1] at hl
 obtain⟨v0,K',rfl,h0,E'⟩:=LR.cons_inv (show LR ρ (.ptr base 0 0::nJ bH z al) vs from hl)
 have f9:base+1<2 ^ 64:=by decide
 have af2:((T.leaf:T ABlk).set base (.obj k (C (z.g 20)) (z.g 20))).get base=some (.obj k (C (z.g 20)) (z.g 20)):=T.get_set_same _ _ _ f9
 cases h0 with
 |ptr b g o h hh ho=>
  obtain⟨ae5,h1,fp,q9,hs,hfp,hI⟩:=hG.blk _ _ af2
  rw[hh] at q9;injection q9 with q9;subst q9
  have hfz:∀b x,ρ.frz b=some x->b∉h.blk::fp:=λb x hf hm=>by obtain⟨_,g,hx,q2,q3⟩:=hfp _ hm;exact hG.frzE (show ρ.frz b=some (x.1,x.2) from hf) q2 af2 (λh=>h) q3
  have hc:=ai0 z hz w ρ h.blk fp K' (λb x hf=>⟨hfz b x hf,(hG.frz _ _ _ (show ρ.frz b=some (x.1,x.2) from hf)).1⟩) (λx hm=>by obtain⟨_,g,hx,q2,q3⟩:=hfp _ hm;have:=(hG.dom _ _ _ q2).1;omega) E' hI
  rw[hs]
  refine⟨λargs=>ag0 args w,callsIn_wide.2 (hc.mono ?_)⟩
  rintro e w' ⟨v,fp',rfl,hI',A',hv⟩
  obtain⟨s,p1,p2,p3⟩:=ac5 z
  refine⟨v,nT ρ base w.heap.size fp',_,av z,s,rfl,RG hC f9 hG hh hs hfp hfz hI' A',sP _ _ _ _,hv _, ?_,p2,by rw[p3]⟩
  rw[e2];exact p1
def ZT{f k:Nat}{C:List G->Nat->List Nat->World->Prop}{S:FSpec}(hC:∀l,rD (C l))(tR:Sy->List G)(av:Sy->AV)(tm:Sy->List (Nat×Tm))(e2:S.blk= [])(e3:S.gl=none)(af3:∀z,S.pre z->S.post z (aM (tm z)))(ac5:∀z,∃s,fg 0 ((T.leaf:T ABlk).set (base+64) (.obj k (C (tR z)) (tR z))) (S.res z) (S.out z) (av z)=some s/\s.pr/\s.tm=tm z)(ag0:∀(args:Array Value) (w:World),(callFunc f args).run P w= .ok (.enter f args) w)(ai0:∀z,S.pre z->∀(w:World) (ρ:Rho) (vs:List Value),LR ρ (S.argsA z) vs->
  Calls P f vs.toArray w λe w'=>∃v root fp',e= .returned v/\C (tR z) root fp' w'/\Below w.heap.size w w'/\(∀x∈root::fp',w.heap.size<=x/\x<w'.heap.size)/\∀ρ':Rho,ρ'.at_ (base+64) 0=some ⟨root,0,0⟩->VR ρ' (av z) v):Ok P f S:=by
 refine⟨λz=>⟨aM (tm z),af3 z⟩,λz hz w ρ vs hG hl=>?_⟩
 have hH:S.heap z=(T.leaf:T ABlk):=by unfold FSpec.heap;rw[e3,e2];rfl
 rw[hH] at hG
 have f9:base+64+1<2 ^ 64:=by decide
 refine⟨λargs=>ag0 args w,callsIn_wide.2 ((ai0 z hz w ρ vs hl).mono ?_)⟩
 rintro e w' ⟨v,root,fp',rfl,hI,hb,m7,hv⟩
 obtain⟨s,p1,p2,p3⟩:=ac5 z
 have s8:∀b g,ρ.at_ b g=none:=λb g=>by
  cases hr:ρ.at_ b g with
  |none=>rfl
  |some h=>obtain⟨_,x,q⟩:=hG.dom _ _ _ hr;simp [T.get] at q
 let ρ1:Rho:={at_:=λb g=>if b=base+64/\g=0 then some ⟨root,0,0⟩ else ρ.at_ b g,val:=ρ.val,own:=ρ.own,frz:=ρ.frz,frz0:=ρ.frz0}
 have h1:ρ1.at_ (base+64) 0=some ⟨root,0,0⟩:=by show(if base+64=base+64/\(0:Nat)=0 then some (⟨root,0,0⟩:Home) else ρ.at_ (base+64) 0)=_;exact if_pos ⟨rfl,rfl⟩
 have h1i:∀b g h,ρ1.at_ b g=some h->b=base+64/\g=0/\h=⟨root,0,0⟩:=λb g h hh=>by
  have hh:(if b=base+64/\g=0 then some (⟨root,0,0⟩:Home) else ρ.at_ b g)=some h:=hh;split at hh
  ·rename_i hc;injection hh with hh;exact⟨hc.1,hc.2,hh.symm⟩
  ·rw[s8] at hh;cases hh
 have L':ρ.le ρ1:=⟨(λb g h hh=>by rw[s8] at hh;cases hh),rfl,rfl,λ_ _ h=>h,rfl⟩
 have j0:=sP ρ1 (base+64) w.heap.size fp'
 have hinv:∀b g h,(nT ρ1 (base+64) w.heap.size fp').at_ b g=some h->b=base+64/\h=⟨h.blk,0,0⟩/\h.blk∈root::fp'/\(g=0∨g=h.blk+1):=λb g h hh=>by
  rcases eV hh with a1|⟨a1,a2,a3,a4,a5⟩
  ·obtain⟨q1,q2,rfl⟩:=h1i _ _ _ a1;exact⟨q1,rfl,aan,.inl q2⟩
  ·exact⟨a1,a3,aaj _ a4,.inr a2⟩
 have l6:((T.leaf:T ABlk).set (base+64) (.obj k (C (tR z)) (tR z))).get (base+64)=some (.obj k (C (tR z)) (tR z)):=T.get_set_same _ _ _ f9
 refine⟨v,nT ρ1 (base+64) w.heap.size fp',(T.leaf:T ABlk).set (base+64) (.obj k (C (tR z)) (tR z)),av z,s,rfl, ?_,L'.trans j0,hv _ (j0.at_ _ _ _ h1),by rw[e2];exact p1,p2,by rw[p3]⟩
 refine⟨⟨Kept.of hb,λb x hx=>?_,λb g h2 hh=>?_,λb g a b' g' c hh1 hh2 e=>?_,λb g h2 x hh hx=>?_,λb arr ty hf=>?_,hG.frzB,λb k2 I2 l2 hx g h2 hh=>?_⟩,λx hx=>?_⟩
 ·obtain⟨rfl,rfl⟩:=jF f9 hx;refine⟨hC _,⟨root,0,0⟩,fp',j0.at_ _ _ _ h1,rfl,λy hy=>⟨.inl (m7 y hy).1, ?_⟩,hI⟩;rcases List.mem_cons.1 hy with e|hy
  ·exact⟨0,_,j0.at_ _ _ _ h1,e.symm⟩
  ·refine⟨y+1,_,vK hy (m7 y (aaj _ hy)).1 ?_,rfl⟩;show(if base+64=base+64/\y+1=0 then some (⟨root,0,0⟩:Home) else ρ.at_ (base+64) (y+1))=none;rw[if_neg (by omega)];exact s8 _ _
 ·obtain⟨rfl,_,q3,_⟩:=hinv _ _ _ hh;exact⟨(m7 _ q3).2,_,l6⟩
 ·obtain⟨q1,q2,_,_⟩:=hinv _ _ _ hh1;obtain⟨r1,r2,_,_⟩:=hinv _ _ _ hh2;exact⟨q1.trans r1.symm,by rw[q2,r2,e]⟩
 ·obtain⟨rfl,rfl⟩:=jF f9 hx;trivial
 ·obtain⟨⟨fr,q1⟩,_⟩:=hG.frz _ _ _ hf;have c8:b<w.heap.size:=(Array.getElem?_eq_some_iff.1 q1).1;refine⟨⟨fr,(hb.block b c8).trans q1⟩,λb' g h2 hh e=>?_⟩;obtain⟨_,_,q3,_⟩:=hinv _ _ _ hh;have:=(m7 _ q3).1;omega
 ·obtain⟨_,_,q3,q4⟩:=hinv _ _ _ hh;exact⟨.inl (m7 _ q3).1,q4⟩
 ·obtain⟨b,g,h2,q1,q2,q3⟩:=hG.ownB x hx;rw[s8] at q2;cases q2
end
end Go.Sym
