/- Part 5: SymLo, SymLk, SymTb, SymPk, SymIn, SymGl. Names and spaces are cut short by program. -/
import Derived.ChangeArms
import Derived.DataReads
import GoSem.ClaimJoined
import Derived.Test.YtojibgjadakamaaGreatDoorP4
set_option linter.all false
namespace Go.Sym
open Go.RowKit (Below)
noncomputable section
def bE:Code->List Nat
 | .block j a=>j::bE a
 | .seq a b=>bE a++bE b
 | .cond _ a b=>bE a++bE b
 | .loop a=>bE a
 |_=>[]
def bw(id:Nat):Code->Option Code
 | .block j a=>ac (Nat.beq j id) (some a) (bw id a)
 | .seq a b=>Option.rec (motive:=fun _=>Option Code) (bw id b) some (bw id a)
 | .cond _ a b=>Option.rec (motive:=fun _=>Option Code) (bw id b) some (bw id a)
 | .loop a=>bw id a
 |_=>none
def Ov(n:Nat)(l:List Nat):Bool:=List.rec (motive:=fun _=>Bool) false (fun x _ ih=>ac (Nat.beq x n) true ih) l
def qC:List Nat->Bool
 | []=>true
 |x::l=>ac (Ov x l) false (qC l)
theorem JZ{n:Nat}:∀{l:List Nat},Ov n l=true↔n∈l:=by
 intro l
 induction l with
 |nil=>exact⟨fun h=>(by cases h),fun h=>(by cases h)⟩
 |cons x l ih=>
  show ac (Nat.beq x n) true (Ov n l)=true↔_
  rw[ax]
  split
  ·rename_i e;have:=aad e;subst this;simp
  ·rename_i e
   rw[ih]
   exact⟨fun h=>by simp [h],fun h=>by rcases List.mem_cons.1 h with h|h;exact absurd (by rw[h];exact Nat.beq_refl _) e;exact h⟩
theorem Gw:∀{l:List Nat},qC l=true->l.Nodup:=by
 intro l
 induction l with
 |nil=>intro _;exact List.nodup_nil
 |cons x l ih=>
  intro h
  have h:ac (Ov x l) false (qC l)=true:=h
  obtain⟨h1,h2⟩:=A6 h
  refine List.nodup_cons.2 ⟨fun hm=>?_,ih h2⟩
  rw[JZ.2 hm] at h1;cases h1
theorem BP{id:Nat}:∀{c:Code},id∈bE c->∃d,bw id c=some d:=by
 intro c
 induction c with
 |block j a ih=>
  intro h
  show ∃d,ac (Nat.beq j id) (some a) (bw id a)=some d
  rw[ax]
  split
  ·exact⟨_,rfl⟩
  ·rename_i e
   rcases List.mem_cons.1 h with h|h
   ·exact absurd (by rw[h];exact Nat.beq_refl _) e
   ·exact ih h
 |seq a b iha ihb=>
  intro h
  show ∃d,Option.rec (motive:=fun _=>Option Code) (bw id b) some (bw id a)=some d
  cases ha:bw id a with
  |some d=>exact⟨d,rfl⟩
  |none=>
   rcases List.mem_append.1 h with h|h
   ·obtain⟨d,e⟩:=iha h;rw[ha] at e;cases e
   ·exact ihb h
 |cond x a b iha ihb=>
  intro h
  show ∃d,Option.rec (motive:=fun _=>Option Code) (bw id b) some (bw id a)=some d
  cases ha:bw id a with
  |some d=>exact⟨d,rfl⟩
  |none=>
   rcases List.mem_append.1 h with h|h
   ·obtain⟨d,e⟩:=iha h;rw[ha] at e;cases e
   ·exact ihb h
 |loop a ih=>intro h;exact ih h
 |_=>intro h;cases h
theorem BQ{id:Nat}:∀{c:Code},id∉bE c->bw id c=none:=by
 intro c
 induction c with
 |block j a ih=>
  intro h
  show ac (Nat.beq j id) (some a) (bw id a)=none
  rw[ax,if_neg (fun e=>h (by have:=aad e;subst this;exact aay))]
  exact ih fun hm=>h (aaw _ hm)
 |seq a b iha ihb=>
  intro h
  show Option.rec (motive:=fun _=>Option Code) (bw id b) some (bw id a)=none
  rw[iha fun hm=>h (List.mem_append.2 (.inl hm))]
  exact ihb fun hm=>h (List.mem_append.2 (.inr hm))
 |cond x a b iha ihb=>
  intro h
  show Option.rec (motive:=fun _=>Option Code) (bw id b) some (bw id a)=none
  rw[iha fun hm=>h (List.mem_append.2 (.inl hm))]
  exact ihb fun hm=>h (List.mem_append.2 (.inr hm))
 |loop a ih=>intro h;exact ih h
 |_=>intro h;rfl
theorem kn{id:Nat}{a b:Code}{f:Code}(hf:bw id f=Option.rec (motive:=fun _=>Option Code) (bw id b) some (bw id a))(hn:(bE a++bE b).Nodup):
  (id∈bE a->bw id f=bw id a)/\(id∈bE b->bw id f=bw id b):=by
 refine⟨fun h=>?_,fun h=>?_⟩
 ·obtain⟨d,e⟩:=BP h
  rw[hf,e]
 ·have:id∉bE a:=fun ha=>(List.nodup_append.1 hn).2.2 id ha id h rfl
  rw[hf,BQ this]
theorem Gx{d c:Code}(h:SubC d c)(hn:(bE c).Nodup):(bE d).Nodup/\∀id,id∈bE d->bw id c=bw id d:=by
 induction h with
 |refl c=>exact⟨hn,fun _ _=>rfl⟩
 | @seqL a b c h ih=>
  obtain⟨h1,h2⟩:=ih hn
  have h1:(bE a++bE b).Nodup:=h1
  exact⟨(List.nodup_append.1 h1).1,fun id hm=>(h2 id (List.mem_append.2 (.inl hm))).trans ((kn (f:=.seq a b) rfl h1).1 hm)⟩
 | @seqR a b c h ih=>
  obtain⟨h1,h2⟩:=ih hn
  have h1:(bE a++bE b).Nodup:=h1
  exact⟨(List.nodup_append.1 h1).2.1,fun id hm=>(h2 id (List.mem_append.2 (.inr hm))).trans ((kn (f:=.seq a b) rfl h1).2 hm)⟩
 | @condL x a b c h ih=>
  obtain⟨h1,h2⟩:=ih hn
  have h1:(bE a++bE b).Nodup:=h1
  exact⟨(List.nodup_append.1 h1).1,fun id hm=>(h2 id (List.mem_append.2 (.inl hm))).trans ((kn (f:=.cond x a b) rfl h1).1 hm)⟩
 | @condR x a b c h ih=>
  obtain⟨h1,h2⟩:=ih hn
  have h1:(bE a++bE b).Nodup:=h1
  exact⟨(List.nodup_append.1 h1).2.1,fun id hm=>(h2 id (List.mem_append.2 (.inr hm))).trans ((kn (f:=.cond x a b) rfl h1).2 hm)⟩
 | @block YR a c h ih=>
  obtain⟨h1,h2⟩:=ih hn
  have h1:(YR::bE a).Nodup:=h1
  obtain⟨g1,g2⟩:=List.nodup_cons.1 h1
  refine⟨g2,fun id hm=>(h2 id (aaw _ hm)).trans ?_⟩
  show ac (Nat.beq YR id) (some a) (bw id a)=_
  rw[ax,if_neg (fun e=>g1 (by have:=aad e;subst this;exact hm))]
 | @loop a c h ih=>
  obtain⟨h1,h2⟩:=ih hn
  exact⟨h1,fun id hm=>h2 id hm⟩
def qD(P:Program)(fn id:Nat):Option (Code×Nat):=match P.funcs[fn]? with
 |some f=>(match f.body with
  |some b=>ac (qC (bE b)) (match bw id b with|some (.loop c)=>some (c,f.ntmps)|_=>none) none
  |none=>none)
 |none=>none
def jH(P:Program)(fn id:Nat):Code:=match qD P fn id with|some (c,_)=>c|none=>.skip
def gZ(P:Program)(fn id:Nat):Nat:=match qD P fn id with|some (_,n)=>n|none=>0
def fa(P:Program)(fn id:Nat):Bool:=match qD P fn id with|some _=>true|none=>false
theorem zj{P:Program}{fn id:Nat}{c:Code}(hl:fa P fn id=true)(h:∃f b,P.funcs[fn]? =some f/\f.body=some b/\SubC (.block id c) b):c= .loop (jH P fn id):=by
 obtain⟨f,b,h1,h2,h3⟩:=h
 unfold fa at hl
 unfold jH
 unfold qD at hl⊢
 simp only [h1,h2] at hl⊢
 cases hn:qC (bE b) with
 |false=>rw[hn] at hl;cases hl
 |true=>
  rw[hn] at hl
  obtain⟨_,q⟩:=Gx h3 (Gw hn)
  have e:bw id b=some c:=by
   rw[q id aay]
   show ac (Nat.beq id id) (some c) (bw id c)=some c
   rw[ax,if_pos (Nat.beq_refl id)]
  rw[e] at hl⊢
  cases c <;> first|(cases hl;done)|rfl
structure Alt where
 ex:AEx
 tmps:List (Nat×Sa)
 out:List BSh
structure LSpec where
 tmps:List (Nat×Sa)
 blk:List BSh
 inv:Sy->Prop
 mu:Sy->Nat
 alts:List Alt
 post:Sy->Sy->Prop
 gl:Option (Nat×Nat×List Nat):=none
 keep:List Nat:=[]
def J0(l:List (Nat×Sa)):List Sa:=List.rec (motive:=fun _=>List Sa) [] (fun x _ ih=>x.2::ih) l
def oJ(l:List (Nat×Sa))(env:T AV)(k:List AV->Tr):Tr:=List.rec (motive:=fun _=>(List AV->Tr)->Tr) (fun k=>k []) (fun x _ ih k=>T.getK env x.1 .fail fun a=>ih fun l=>k (a::l)) l k
def tB(γ:kz)(y:Sy)(l:List (Nat×Sa))(t:T AV)(k:T AV->Tr):Tr:=List.rec (motive:=fun _=>T AV->(T AV->Tr)->Tr) (fun t k=>k t) (fun x _ ih t k=>T.setK t x.1 (iD γ y x.2) fun t=>ih t k) l t k
def zk(γ:kz)(y:Sy)(l:List (Nat×Sa))(t:T AV):T AV:=List.rec (motive:=fun _=>T AV->T AV) (fun t=>t) (fun x _ ih t=>ih (t.set x.1 (iD γ y x.2))) l t
theorem zm(γ:kz)(y:Sy):∀(l:List (Nat×Sa)) (t:T AV) (k:T AV->Tr),tB γ y l t k=k (zk γ y l t):=by
 intro l
 induction l with
 |nil=>intro t k;rfl
 |cons x l ih=>intro t k;show T.setK t x.1 (iD γ y x.2) (fun t=>tB γ y l t k)=_;rw[T.setK_eq,ih];rfl
def R1(l:List Nat)(t:T AV)(k:T AV->Tr):Tr:=List.rec (motive:=fun _=>T AV->(T AV->Tr)->Tr) (fun t k=>k t) (fun n _ ih t k=>T.setK t n (.opq n) fun t=>ih t k) l t k
def R2(l:List Nat)(t:T AV):T AV:=List.rec (motive:=fun _=>T AV->T AV) (fun t=>t) (fun n _ ih t=>ih (t.set n (.opq n))) l t
theorem Ow:∀(l:List Nat) (t:T AV) (k:T AV->Tr),R1 l t k=k (R2 l t):=by
 intro l
 induction l with
 |nil=>intro t k;rfl
 |cons x l ih=>intro t k;show T.setK t x (.opq x) (fun t=>R1 l t k)=_;rw[T.setK_eq,ih];rfl
theorem zn:∀{l:List Nat} {t:T AV} {b:Nat} {a:AV},(R2 l t).get b=some a->(b∈l/\a= .opq b)∨t.get b=some a:=by
 intro l
 induction l with
 |nil=>intro t b a h;exact .inr h
 |cons x l ih=>
  intro t b a h
  rcases ih (t:=t.set x (.opq x)) h with⟨h1,h2⟩|h
  ·exact .inl ⟨aaw _ h1,h2⟩
  ·by_cases e:b=x
   ·subst e
    exact .inl ⟨aay,T.get_set_some _ _ h⟩
   ·rw[T.get_set_ne _ e] at h
    exact .inr h
def Gy(l:List Nat)(env:T AV)(k:Tr):Tr:=List.rec (motive:=fun _=>Tr) k (fun n _ ih=>T.getK env n .fail fun a=>match a with | .opq m=>ac (Nat.beq m n) ih .fail|_=>.fail) l
theorem zo{σ:St}{K:Fin}{env:T AV}{k:Tr}:∀{l:List Nat},run (Gy l env k) σ K=true->run k σ K=true/\∀n∈l,env.get n=some (.opq n):=by
 intro l
 induction l with
 |nil=>intro h;exact⟨h,fun n hn=>by cases hn⟩
 |cons x l ih=>
  intro h
  obtain⟨a,ha,h⟩:=nl (show run (T.getK env x .fail fun a=>match a with | .opq m=>ac (Nat.beq m x) (Gy l env k) .fail|_=>.fail) σ K=true from h)
  split at h
  ·obtain⟨e,h'⟩:=ar h
   have e:=aR e
   subst e
   obtain⟨h1,h2⟩:=ih h'
   exact⟨h1,fun n hn=>by
    rcases List.mem_cons.1 hn with rfl|hn
    ·exact ha
    ·exact h2 n hn⟩
  ·exact(ak h).elim
def tC(l:List Nat)(env t:T AV)(k:T AV->Tr):Tr:=List.rec (motive:=fun _=>T AV->(T AV->Tr)->Tr) (fun t k=>k t) (fun n _ ih t k=>T.getK env n (ih t k) fun a=>T.setK t n a fun t=>ih t k) l t k
def oK(l:List Nat)(env t:T AV):T AV:=List.rec (motive:=fun _=>T AV->T AV) (fun t=>t) (fun n _ ih t=>match env.get n with|none=>ih t|some a=>ih (t.set n a)) l t
theorem J1:∀(l:List Nat) (env t:T AV) (k:T AV->Tr),tC l env t k=k (oK l env t):=by
 intro l env
 induction l with
 |nil=>intro t k;rfl
 |cons x l ih=>
  intro t k
  show T.getK env x (tC l env t k) (fun a=>T.setK t x a fun t=>tC l env t k)=k (match env.get x with|none=>oK l env t|some a=>oK l env (t.set x a))
  rw[T.getK_eq]
  cases env.get x with
  |none=>exact ih t k
  |some a=>show T.setK t x a (fun t=>tC l env t k)=_;rw[T.setK_eq];exact ih _ k
theorem Gz{env:T AV}:∀{l:List Nat} {t:T AV} {b:Nat} {a:AV},(oK l env t).get b=some a->(b∈l/\env.get b=some a)∨t.get b=some a:=by
 intro l
 induction l with
 |nil=>intro t b a h;exact .inr h
 |cons x l ih=>
  intro t b a h
  have h:(match env.get x with|none=>oK l env t|some a=>oK l env (t.set x a)).get b=some a:=h
  cases he:env.get x with
  |none=>
   rw[he] at h
   rcases ih h with⟨h1,h2⟩|h
   ·exact .inl ⟨aaw _ h1,h2⟩
   ·exact .inr h
  |some v=>
   rw[he] at h
   rcases ih (t:=t.set x v) h with⟨h1,h2⟩|h
   ·exact .inl ⟨aaw _ h1,h2⟩
   ·by_cases e:b=x
    ·subst e
     have:=T.get_set_some _ _ h
     exact .inl ⟨aay,by rw[he,this]⟩
    ·rw[T.get_set_ne _ e] at h
     exact .inr h
def vj(a b:AEx):Bool:=match a,b with
 | .normal,.normal=>true
 | .ret,.ret=>true
 | .exit i,.exit j=>Nat.beq i j
 |_,_=>false
theorem GA{a b:AEx}(h:vj a b=true):a=b:=by
 unfold vj at h
 split at h
 ·rfl
 ·rfl
 ·have:=aad h;subst this;rfl
 ·cases h
def jI(l:List Alt)(i:Nat)(ex:AEx)(env:T AV):Tr:=
 List.rec (motive:=fun _=>Nat->Tr) (fun _=>.fail) (fun a _ ih i=>ac (vj a.ex ex) (oJ a.tmps env fun as=>.ret (.tup [.int .i64 (.ofNat i),.tup as])) (ih (Nat.succ i))) l i
def J2(S:LSpec):XK:=fun ex env df=>match df with
 | []=>(match ex with
  | .normal=>Gy S.keep env (oJ S.tmps env fun as=>.ret (.tup [.int .i64 0,.tup as]))
  |ex=>Gy S.keep env (jI S.alts 1 ex env))
 |_=>.fail
def tD(H:T ABlk)(tm:List (Nat×Tm))(l:List Sa)(blk:List BSh)(as:List AV):Option PS:=
 bz (gC H blk l as {iZ with tm:=tm}) fun s=>bz (Gq H blk 0 s) fun s=>bz (Gp H blk blk 0 s) fun s=>bz (kN blk s.ln s) fun s=>ac (ac (my [] (List.length blk) s.loc) (qr s.fz s.loc) false) (ac (kO (List.length blk) s.loc) (some s) none) none
def oL(l:List Alt)(i:Nat):Option Alt:=List.rec (motive:=fun _=>Nat->Option Alt) (fun _=>none) (fun a _ ih i=>Nat.rec (motive:=fun _=>Option Alt) (some a) (fun i _=>ih i) i) l i
def QW(S:LSpec)(z:Sy):Lf:=fun a σ _=>match a with
 | .tup [.int .i64 (.ofNat i),.tup as]=>(match i with
  |0=>(match tD σ.h [] (J0 S.tmps) S.blk as with
   |some s=>.an s.pr (.at (S.inv (aX s.tm)/\S.mu (aX s.tm)<S.mu z/\∀y,S.post (aX s.tm) y->S.post z y))
   |none=>.ff)
  |i+1=>(match oL S.alts i with
   |some alt=>(match tD σ.h [(999,.i (.ofNat i))] (J0 alt.tmps) alt.out as with
    |some s=>.an s.pr (.at (S.post z (aX s.tm)))
    |none=>.ff)
   |none=>.ff))
 |_=>.ff
def LSpec.env(S:LSpec)(z:Sy):T AV:=R2 S.keep (zk bL z S.tmps .leaf)
def LSpec.heap(S:LSpec)(z:Sy):T ABlk:=addTab S.gl (ef bL z S.blk 0 .leaf)
def LSpec.roundFm(S:LSpec)(P:Program)(M:Tab)(n fn id:Nat)(z:Sy)(h:Hn):Fm:=
 BI (tB bL z S.tmps .leaf fun env=>R1 S.keep env fun env=>Bl P M n (jH P fn id) env (gZ P fn id) fn none [] (J2 S)) (start (S.heap z) (base+64)) (QW S z) h
def J3(n:Nat)(S:LSpec):Bool:=ac (S.keep.all fun t=>Nat.ble (Nat.succ t) n) (S.alts.all fun a=>ac (oI S.blk a.out) (Nat.beq a.out.length S.blk.length) false) false
theorem GB{id:Nat}{t:Code}:∀{c d:Code},bw id c=some d->SubC c t->SubC (.block id d) t:=by
 intro c
 induction c with
 |block j a ih=>
  intro d h hs
  replace h:ac (Nat.beq j id) (some a) (bw id a)=some d:=h
  rw[ax] at h
  split at h
  ·rename_i e
   injection h with h
   have:=aad e
   subst this
   subst h
   exact hs
  ·exact ih h (.block hs)
 |seq a b iha ihb=>
  intro d h hs
  have h:Option.rec (motive:=fun _=>Option Code) (bw id b) some (bw id a)=some d:=h
  cases ha:bw id a with
  |some d'=>rw[ha] at h;injection h with h;subst h;exact iha ha (.seqL hs)
  |none=>rw[ha] at h;exact ihb h (.seqR hs)
 |cond x a b iha ihb=>
  intro d h hs
  have h:Option.rec (motive:=fun _=>Option Code) (bw id b) some (bw id a)=some d:=h
  cases ha:bw id a with
  |some d'=>rw[ha] at h;injection h with h;subst h;exact iha ha (.condL hs)
  |none=>rw[ha] at h;exact ihb h (.condR hs)
 |loop a ih=>intro d h hs;exact ih h (.loop hs)
 |_=>intro d h;cases h
theorem J4{P:Program}{fn id:Nat}(hl:fa P fn id=true):InF P fn none (jH P fn id):=fun _=>by
 unfold fa at hl
 unfold jH
 unfold qD at hl⊢
 split at hl <;> try (cases hl;done)
 rename_i x cn hc
 split at hc <;> try (cases hc;done)
 rename_i f hf
 split at hc <;> try (cases hc;done)
 rename_i b hb
 obtain⟨hn,hc⟩:=bh hc
 split at hc <;> try (cases hc;done)
 rename_i c B'
 simp only [hn]
 exact .inr ⟨f,b,hf,hb,.loop (.block (GB B' (.refl b)))⟩
def T_(ρ:Rho)(l:List (Nat×Sa))(as:List AV)(tmps:Array Value):Prop:=All2 (fun(x:Nat×Sa) a=>∃v,tmps[x.1]? =some v/\VR ρ a v) l as
section
variable{P:Program}{σ:St}{K:Fin}{ρ:Rho}
theorem g_{env:T AV}{k:List AV->Tr}:∀{l:List (Nat×Sa)},run (oJ l env k) σ K=true->∃as,run (k as) σ K=true/\All2 (fun(x:Nat×Sa) a=>env.get x.1=some a) l as
 | [],h=>⟨[],h,trivial⟩
 |x::l,h=>by
  obtain⟨a,ha,h⟩:=nl (show run (T.getK env x.1 .fail fun a=>oJ l env fun l=>k (a::l)) σ K=true from h)
  obtain⟨as,h1,h2⟩:=g_ (k:=fun l=>k (a::l)) h
  exact⟨a::as,h1,ha,h2⟩
theorem J5{nt:Nat}{env:T AV}{tmps:Array Value}(hE:ER ρ nt env tmps):∀{l:List (Nat×Sa)} {as:List AV},All2 (fun(x:Nat×Sa) a=>env.get x.1=some a) l as->T_ ρ l as tmps
 | [],[],_=>trivial
 |x::l,a::as,⟨h1,h2⟩=>⟨hE.val _ _ h1,J5 hE h2⟩
 | [],_::_,h=>h.elim
 |_::_,[],h=>h.elim
theorem nH{γ:kz}{y:Sy}:∀{l:List (Nat×Sa)} {t:T AV} {b:Nat} {a:AV},(zk γ y l t).get b=some a->(∃x,x∈l/\x.1=b/\a=iD γ y x.2)∨t.get b=some a:=by
 intro l
 induction l with
 |nil=>intro t b a h;exact .inr h
 |cons x l ih=>
  intro t b a h
  rcases ih (t:=t.set x.1 (iD γ y x.2)) h with⟨z,h1,h2,h3⟩|h
  ·exact .inl ⟨z,aaw _ h1,h2,h3⟩
  ·by_cases e:b=x.1
   ·subst e
    exact .inl ⟨x,aay,rfl,T.get_set_some _ _ h⟩
   ·rw[T.get_set_ne _ e] at h
    exact .inr h
theorem vm{env:T AV}{ex:AEx}{A:AV}{σf:St}:∀{l:List Alt} {i:Nat},run (jI l i ex env) σ (fun a s=>dP (a=A/\s=σf))=true->
  ∃j alt as,oL l j=some alt/\alt.ex=ex/\All2 (fun(x:Nat×Sa) a=>env.get x.1=some a) alt.tmps as/\A= .tup [.int .i64 (.ofNat (i+j)),.tup as]/\σ=σf:=by
 intro l
 induction l with
 |nil=>intro i h;exact(ak h).elim
 |cons a l ih=>
  intro i h
  have h:run (ac (vj a.ex ex) (oJ a.tmps env fun as=>.ret (.tup [.int .i64 (.ofNat i),.tup as])) (jI l (Nat.succ i) ex env)) σ (fun a s=>dP (a=A/\s=σf))=true:=h
  rcases bG h with⟨e,h⟩|⟨e,h⟩
  ·obtain⟨as,h1,h2⟩:=g_ h
   obtain⟨e1,e2⟩:=dX.1 (show dP (AV.tup [.int .i64 (.ofNat i),.tup as]=A/\σ=σf)=true from h1)
   exact⟨0,a,as,rfl,GA e,h2,e1.symm,e2⟩
  ·obtain⟨j,alt,as,h1,h2,h3,h4,h5⟩:=ih h
   exact⟨j+1,alt,as,h1,h2,h3,by rw[h4,show Nat.succ i+j=i+(j+1) by omega],h5⟩
theorem zp{H:T ABlk}{tm:List (Nat×Tm)}{l:List Sa}{blk:List BSh}{as:List AV}{s:PS}(h:tD H tm l blk as=some s)(hp:s.pr):
  All2 (TvA (lO s H) blk s.L (aX s.tm)) l as/\(∀j x,blk[j]? =some x->∃b g,s.L j=some (b,g)/\∃q,H.get b=some q/\BT ρ (lO s H) blk s.L (aX s.tm) x q g)/\Fin2 [] blk.length s blk.length:=by
 obtain⟨s1,h1,h⟩:=aN h
 obtain⟨s2,h2,h⟩:=aN h
 obtain⟨s3,h3,h⟩:=aN h
 obtain⟨s4,h4,h⟩:=aN h
 obtain⟨h5,h⟩:=bh h
 obtain⟨h6,h⟩:=bh h
 injection h with h
 subst h
 obtain⟨h5,h7⟩:=aM h5
 have YK:=ki h4 hp
 obtain⟨f1,_,_,_,_⟩:=eS h4
 obtain⟨p1,p2⟩:=fx (blk:=blk) h1
 obtain⟨st,_,_⟩:=u_ h2
 obtain⟨b1,b2⟩:=vg (ρ:=ρ) h3
 refine⟨p2 s4 (st.trans (b1.trans f1)) hp YK,fun j x hx=>?_,Eh h5 h6 h7⟩
 obtain⟨b,g,q1,q2⟩:=b2 s4 f1 hp YK j x hx
 exact⟨b,g,by rw[aak] at q1;exact q1,q2⟩
def lu(P:Program)(fn id:Nat)(S:LSpec)(z y:Sy):Prop:=
 ∀(w:World) (ρ:Rho) (a:Act) (Q:Exit->Act->World->Prop),Good w ρ (S.heap z) w->OwnOk ρ->ρ.frz0=ρ.frz->ER ρ (gZ P fn id) (S.env z) a.tmps->a.defers= []->
  (∀(ρ':Rho) (wx w':World) (H':T ABlk) (a':Act) (i:Nat) (alt:Alt) (as:List AV) (s:PS),FinRel S.blk ρ w ρ' wx->Good wx ρ' H' w'->oL S.alts i=some alt->a'.tmps.size=gZ P fn id->a'.defers= []->
   T_ ρ' alt.tmps as a'.tmps->tD H' [(999,.i (.ofNat i))] (J0 alt.tmps) alt.out as=some s->s.pr->y=aX s.tm->(∀t∈S.keep,a'.tmps[t]? =some (ρ.val t))->Q (T9 alt.ex) a' w')->iC P none (jH P fn id) Q a w
theorem qE{R:Sa->AV->Prop}:∀{l:List (Nat×Sa)} {as:List AV},All2 R (J0 l) as->All2 (fun(x:Nat×Sa) a=>R x.2 a) l as
 | [],[],_=>trivial
 |x::l,a::as,h=>⟨h.1,qE h.2⟩
 | [],_::_,h=>h.elim
 |_::_,[],h=>h.elim
theorem qF{α β:Type}{R:α->β->Prop}:∀{l:List α} {m:List β} {x:α},All2 R l m->x∈l->∃b,R x b
 | [],[],x,_,h=>by cases h
 |a::l,b::m,x,⟨h1,h2⟩,h=>by
  rcases List.mem_cons.1 h with e|h
  ·subst e;exact⟨b,h1⟩
  ·exact qF h2 h
 | [],_::_,_,h,_=>h.elim
 |_::_,[],_,h,_=>h.elim
theorem qG{α β:Type}{R S:α->β->Prop}:∀{l:List α} {m:List β},All2 R l m->All2 S l m->All2 (fun a b=>R a b/\S a b) l m
 | [],[],_,_=>trivial
 |_::_,_::_,⟨h1,h2⟩,⟨h3,h4⟩=>⟨⟨h1,h3⟩,qG h2 h4⟩
 | [],_::_,h,_=>h.elim
 |_::_,[],h,_=>h.elim
theorem tE{vl:Nat->Value}{w w':World}{ρ ρ':Rho}{H':T ABlk}{S:LSpec}{as:List AV}{s:PS}{a':Act}{nt:Nat}(ho:OwnOk ρ)(YL:ρ.frz0=ρ.frz)(i6:Good w ρ' H' w')(hle:ρ.le ρ')(hs:tD H' [] (J0 S.tmps) S.blk as=some s)(hp:s.pr)(u0:a'.tmps.size=nt)(q9:T_ ρ' S.tmps as a'.tmps)(d8:S.blk.length<=64)(Zd:TabIn ρ S.gl)(htk:∀t∈S.keep,a'.tmps[t]? =some (vl t)):
  ∃ρ2:Rho,ρ2.val=vl/\Good w' ρ2 (S.heap (aX s.tm)) w'/\OwnOk ρ2/\ρ2.frz0=ρ2.frz/\ER ρ2 nt (S.env (aX s.tm)) a'.tmps/\∀ρf wx,FinRel S.blk ρ2 w' ρf wx->FinRel S.blk ρ w ρf wx:=by
 obtain⟨t1,t2,t3⟩:=zp (ρ:=ρ') hs hp
 have hm:MvHyp w ρ' H' (lO s H') w' w w' s.L bL S.blk (aX s.tm) (zg w ρ' H' s.L) (jD w.heap.size ρ' H' w' w s.L):=
  {good:=i6,hb:=t2,dom:=fun j p h=>(t3.t3 j p.1 p.2 h).1,linj:=t3.t4,
   ginj:=fun a b _ _ e=>by have e:base+a=base+b:=e;omega,g64:=fun j hj=>by have:=Ej;show base+j+1<_;omega,
   g0:=fun _ _ _ _=>rfl,kept:=Kept.refl _ _ _,owns:=fun j h h1 h2=>.inr ⟨j,h,h1,rfl,h2⟩,
   frF:=fun b x hb hF=>⟨(gY hF).1,t3.t5 b (gY hF).2,fun g h hh x7=>by
     rcases x7 with x7|x7
     ·exact x7
     ·rw[hle.own] at x7
      obtain⟨j,g0,h0,q1,q2,q3⟩:=ho _ x7
      have:=(i6.inj _ _ _ _ _ _ (hle.at_ _ _ _ q2) hh q1).1
      omega⟩,
   frz:=fun b x h _=>h}
 have ac3:OwnOk (kA w.heap.size ρ' H' w' w s.L bL S.blk.length (zg w ρ' H' s.L) (jD w.heap.size ρ' H' w' w s.L) vl):=fun x hx=>by
  obtain⟨j,h,q1,q2,q3⟩:=hx
  obtain⟨b,g,_,e,_⟩:=cQ q1
  have hj:=(t3.t3 _ _ _ e).1
  obtain⟨g',YA⟩:=zi hm q1 (by rw[q2];exact q3) hj
  exact⟨j,g',h,q2,YA,abb hj d8⟩
 have Ym:∀j x,S.blk[j]? =some x->gW x=true->∃q,s.L j=some (base+j,0)/\H'.get (base+j)=some q/\BT ρ' (lO s H') S.blk s.L (aX s.tm) x q 0/\j<S.blk.length:=fun j x hx s8=>by
  obtain⟨b,g,e1,q,e2,e3⟩:=t2 j _ hx
  have:=(gp e3).1 s8
  subst this
  have hj:=(t3.t3 _ _ _ e1).1
  have:=t3.at0 e1 hj
  subst this
  exact⟨q,e1,e2,e3,hj⟩
 have XJ:∀j g h,Ei S.blk j->ρ'.at_ (base+j) g=some h->(kA w.heap.size ρ' H' w' w s.L bL S.blk.length (zg w ρ' H' s.L) (jD w.heap.size ρ' H' w' w s.L) vl).at_ (base+j) g=some h:=fun j g h hc h1=>by
  obtain⟨k,C,t,hx⟩:=hc
  obtain⟨q,e1,e2,e3,hj⟩:=Ym j _ hx rfl
  obtain⟨_,e⟩:=e3
  subst e
  exact iG hm hj ⟨_,_,_,_,_,e1,e2⟩ e1 h1 (i6.objO _ _ _ _ e2 _ _ h1)
 refine⟨_,rfl,Good.addTab ⟨hm.to0,ac3.B⟩ (Zd.mono fun b x h=>dO (hle.frz _ _ h)),ac3,rfl,⟨u0,fun t a ha=>?_⟩,fun ρf wx hF=>?_⟩
 ·rcases zn ha with⟨h1,h2⟩|ha
  ·subst h2
   exact⟨_,htk _ h1,.opq _⟩
  rcases nH ha with⟨x,h1,h2,h3⟩|h
  ·subst h3
   obtain⟨b,⟨v,hv,hr⟩,htv⟩:=qF (qG q9 (qE t1)) h1
   exact⟨v,by rw[←h2];exact hv,TvA.vr hm htv hr⟩
  ·simp [T.get] at h
 ·have ak6:=i6.below.size
  refine⟨?_,fun b x hx=>hF.frz _ _ (dO (hle.frz _ _ hx)),fun b x hx f7=>?_,fun x hx=>?_,fun j h hc hh=>?_,fun j g h hc hh=>hF.objs j g h hc (XJ j g h hc (hle.at_ _ _ _ hh))⟩
  ·have hk:=i6.below
   rw[hle.own] at hk
   refine hk.trans ⟨hF.kept.os,hF.kept.tape,hF.kept.output,hF.kept.size,fun x hx G'=>hF.kept.block x (by omega) fun hpo=>?_⟩
   obtain⟨_,_,_,_,q⟩:=hpo
   rcases q with q|q
   ·omega
   ·rw[hle.own] at q;exact G' q
  ·have h1:=hF.frzB b x hx (by omega)
   have h1:jD w.heap.size ρ' H' w' w s.L b=some x:=h1
   unfold jD at h1
   split at h1
   ·rename_i x' Xz
    injection h1 with h1
    subst h1
    have:=i6.frzB b _ Xz f7
    rw[hle.frz0,YL] at this
    exact this
   ·split at h1
    ·rename_i hc;omega
    ·cases h1
  ·obtain⟨j,g,h,q1,q2,q3,q4⟩:=hF.ownx x hx
   refine⟨j,g,h,q1,q2,q3, ?_⟩
   rcases q4 with q4|⟨q4,g',q5⟩
   ·exact .inl (by omega)
   ·obtain⟨_,_,_,_,q6⟩:=q4
    rcases q6 with q6|q6
    ·exact .inl q6
    ·rw[hle.own] at q6
     refine .inr ⟨q6, ?_⟩
     obtain⟨j',hj',e1,hGj⟩:=dN (show yT w.heap.size ρ' H' s.L bL S.blk.length (base+j) g'=some h from q5)
     have e1:base+j'=base+j:=e1
     have:j'=j:=by omega
     subst this
     obtain⟨b,g1,g2,e3,e4⟩:=cQ (dL hGj).1
     have:=t3.at0 e3 hj'
     subst this
     obtain⟨j2,g3,h2,r1,r2,r3⟩:=ho _ q6
     obtain⟨u1,u2⟩:=i6.inj _ _ _ _ _ _ (hle.at_ _ _ _ r2) e4 (by rw[r1,q1])
     have:j2=j':=by omega
     subst this
     subst u2
     exact⟨g3,r2⟩
  ·have h1:=hle.at_ _ _ _ hh
   obtain⟨x,hx,s8⟩:=hc
   refine hF.stb j h ⟨x,hx,s8⟩ ?_
   by_cases hob:Ei S.blk j
   ·exact XJ j 0 h hob h1
   ·obtain⟨q,e1,e2,e3,hj⟩:=Ym j x hx s8
    have G':¬xz H' s.L j:=fun⟨b2,g2,k,I,l,f1,f2⟩=>by
     rw[e1] at f1;injection f1 with f1;injection f1 with f1 _
     subst f1
     rw[e2] at f2;injection f2 with f2
     obtain⟨k,C,t,e⟩:=(gp e3).2.1.2 ⟨k,I,l,f2⟩
     exact hob ⟨k,C,t,by rw[hx,e]⟩
    refine(dM hm hj G').trans ?_
    unfold bv
    rw[e1]
    have:∀c g ty,q= .grow c g ty->¬c.len=0:=fun c g ty e=>by
     subst e
     cases x with
     |cells ty l=>obtain⟨_,c,as,e,_⟩:=e3;cases e
     |sm m t=>obtain⟨_,e|⟨c,e,_⟩⟩:=e3 <;> cases e
     |arr m ty t=>
      obtain⟨_,e,j4⟩:=e3
      injection e with e
      subst e
      intro h0
      have h0:List.length _=0:=h0
      omega
     |arb ty t=>
      obtain⟨_,e,j4⟩:=e3
      injection e with e
      subst e
      intro h0
      have h0:List.length _=0:=h0
      omega
     |obj k C t=>obtain⟨_,e⟩:=e3;cases e
     |_=>cases s8
    simp only [e2]
    split
    ·rename_i e;injection e with e;rw[if_neg (this _ _ _ e)];exact h1
    ·exact h1
theorem pn{i j:Int}{as bs:List AV}(h:AV.tup [.int .i64 i,.tup as]= .tup [.int .i64 j,.tup bs]):i=j/\as=bs:=by
 injection h with h
 injection h with h1 h2
 injection h1 with _ h1
 injection h2 with h2 _
 injection h2 with h2
 exact⟨h1,h2⟩
theorem Ox{M:Tab}(hM:TabOk P M){n fn id:Nat}{S:LSpec}(hl:fa P fn id=true)(d8:S.blk.length<=64)(hgl:∀g ty l,S.gl=some (g,ty,l)->g<1048576)(h:∀z,S.inv z->∃hn,(S.roundFm P M n fn id z hn).den):
  ∀(m:Nat) (z:Sy),S.mu z=m->S.inv z->∃y,S.post z y/\lu P fn id S z y:=by
 intro m
 induction m using Nat.strongRecOn with
 |_ m ih=>
 intro z hm hz
 obtain⟨hn,hd⟩:=h z hz
 obtain⟨A,σf,e,Yi,s9⟩:=JL _ _ _ _ hd
 replace e:∀K,run (Bl P M n (jH P fn id) (S.env z) (gZ P fn id) fn none [] (J2 S)) (start (S.heap z) (base+64)) K=K A σf:=fun K=>by
  rw[←e K,zm,Ow];rfl
 have round:∀(w:World) (ρ:Rho) (a:Act) (Q:Exit->Act->World->Prop),Good w ρ (S.heap z) w->ER ρ (gZ P fn id) (S.env z) a.tmps->a.defers= []->
   (∀(ρ':Rho) (w':World) (a':Act) (ex:AEx) (as:List AV),ρ.le ρ'->Good w ρ' σf.h w'->a'.tmps.size=gZ P fn id->a'.defers= []->(∀t∈S.keep,a'.tmps[t]? =some (ρ.val t))->
    ((ex= .normal/\A= .tup [.int .i64 0,.tup as]/\T_ ρ' S.tmps as a'.tmps)∨(ex≠ .normal/\∃i alt,oL S.alts i=some alt/\alt.ex=ex/\A= .tup [.int .i64 (.ofNat (i+1)),.tup as]/\T_ ρ' alt.tmps as a'.tmps))->
    (match T9 ex with | .normal=>iC P none (jH P fn id) Q a' w'|e=>Q e a' w'))->iC P none (jH P fn id) Q a w:=by
  intro w ρ a Q hG hE hdf YD
  refine Gk ((uT P hM w n).1 (jH P fn id) (S.env z) (gZ P fn id) fn [] (J2 S) (start (S.heap z) (base+64)) (fun a' s'=>dP (a'=A/\s'=σf)) ρ w a _ none none rfl (qn (by decide) (by decide)) hG hE (by rw[hdf];trivial) (by rw[e];exact dX.2 ⟨rfl,rfl⟩) (fun ex env' XZ c9 ρ' w' a' q1 q2 q3 q4 q5 q6=>?_) (J4 hl))
  cases XZ with
  |cons _ _=>exact(ak q1).elim
  |nil=>
  have XC:a'.defers= []:=by
   cases hd:a'.defers with
   |nil=>rfl
   |cons _ _=>rw[hd] at q6;exact q6.elim
  have toks:(∀n∈S.keep,env'.get n=some (.opq n))->∀t∈S.keep,a'.tmps[t]? =some (ρ.val t):=fun h t ht=>by
   obtain⟨v,h1,h2⟩:=q5.val _ _ (h t ht)
   cases h2
   rw[←q4.val];exact h1
  have alts:run (jI S.alts 1 ex env') c9 (fun a' s'=>dP (a'=A/\s'=σf))=true->∃as,c9=σf/\∃i alt,oL S.alts i=some alt/\alt.ex=ex/\A= .tup [.int .i64 (.ofNat (i+1)),.tup as]/\T_ ρ' alt.tmps as a'.tmps:=fun q=>by
   obtain⟨j,alt,as,r1,r2,r3,r4,r5⟩:=vm q
   exact⟨as,r5,j,alt,r1,r2,by rw[r4,Nat.add_comm],J5 q5 r3⟩
  have other:ex≠ .normal->run (Gy S.keep env' (jI S.alts 1 ex env')) c9 (fun a' s'=>dP (a'=A/\s'=σf))=true->(match T9 ex with | .normal=>iC P none (jH P fn id) Q a' w'|e=>Q e a' w'):=fun o8 q=>by
   obtain⟨q,hk⟩:=zo q
   obtain⟨as,r1,r2⟩:=alts q
   subst r1
   exact YD ρ' w' a' ex as q4 q3 q5.size XC (toks hk) (.inr ⟨o8,r2⟩)
  cases ex with
  |normal=>
   obtain⟨q1,hk⟩:=zo (show run (Gy S.keep env' (oJ S.tmps env' fun as=>.ret (.tup [.int .i64 0,.tup as]))) c9 _=true from q1)
   obtain⟨as,r1,r2⟩:=g_ q1
   obtain⟨e1,e2⟩:=dX.1 (show dP (AV.tup [.int .i64 0,.tup as]=A/\c9=σf)=true from r1)
   subst e2
   exact YD ρ' w' a' .normal as q4 q3 q5.size XC (toks hk) (.inl ⟨rfl,e1.symm,J5 q5 r2⟩)
  |exit i=>exact other (fun h=>by cases h) q1
  |goto l=>exact other (fun h=>by cases h) q1
  |ret=>exact other (fun h=>by cases h) q1
 unfold QW at s9
 split at s9
 case h_2=>exact s9.elim
 rename_i i as
 split at s9
 ·split at s9
  case h_2=>exact s9.elim
  rename_i s hs
  have YO:=s9.1
  obtain⟨k1,k2,k3⟩:=s9.2 s9.1
  obtain⟨y,y1,y2⟩:=ih (S.mu (aX s.tm)) (by omega) (aX s.tm) rfl k1
  refine⟨y,k3 y y1,fun w ρ a Q hG ho YL hE hdf hQ=>round w ρ a Q hG hE hdf fun ρ' w' a' ex o7 hle i6 u0 XC htk Zc=>?_⟩
  rcases Zc with⟨r1,r2,r3⟩|⟨_,i,alt,_,_,r2,_⟩
  ·subst r1
   obtain⟨_,r2⟩:=pn r2
   subst r2
   obtain⟨ρ2,g0,g1,g2,g3,g4,g5⟩:=tE (a':=a') ho YL i6 hle hs YO u0 r3 d8 (Good.tabIn (z:=z) hgl hG) htk
   exact y2 w' ρ2 a' Q g1 g2 g3 g4 XC fun ρf wx wf Hf af j alt asf sf hF h1 h2 h3 h4 h5 h6 h7 h8 h9=>hQ ρf wx wf Hf af j alt asf sf (g5 ρf wx hF) h1 h2 h3 h4 h5 h6 h7 h8 (by rw[←g0];exact h9)
  ·obtain⟨r2,_⟩:=pn r2
   have r2:((0:Nat):Int)=((i+1:Nat):Int):=r2
   omega
 ·rename_i j
  split at s9
  case h_2=>exact s9.elim
  rename_i alt halt
  split at s9
  case h_2=>exact s9.elim
  rename_i s hs
  have YO:=s9.1
  have k1:=s9.2 s9.1
  refine⟨aX s.tm,k1,fun w ρ a Q hG ho YL hE hdf hQ=>round w ρ a Q hG hE hdf fun ρ' w' a' ex o7 hle i6 u0 XC htk Zc=>?_⟩
  rcases Zc with⟨r1,r2,r3⟩|⟨o8,i,ak7,r1,r1',r2,r3⟩
  ·obtain⟨r2,_⟩:=pn r2
   have r2:((j+1:Nat):Int)=0:=r2
   omega
  ·obtain⟨r2,r4⟩:=pn r2
   have r2:((j+1:Nat):Int)=((i+1:Nat):Int):=r2
   have r2:j=i:=by omega
   subst r2;subst r4
   rw[halt] at r1;injection r1 with r1;subst r1
   have hq:=hQ ρ' w w' σf.h a' j alt as s (FinRel.of_le hle ho YL) i6 halt u0 XC r3 hs YO rfl htk
   rw[r1'] at hq
   cases ex with
   |normal=>exact absurd rfl o8
   |_=>exact hq
end
noncomputable section
structure LTab where
 ptm:List (Nat×Sa)
 S:Sy->LSpec
def En(e0:T AV)(id:Nat)(γ:kz)(y:Sy)(l:List Alt)(i:Nat)(k:AEx->T AV->Tr):Tr:=
 List.rec (motive:=fun _=>Nat->Tr) (fun _=>.fail) (fun a l ih i=>
  let go:Tr:=RV γ y a.out 0 (tB γ y a.tmps e0 fun env=>match a.ex with
   | .exit j=>ac (Nat.beq j id) (k .normal env) (k (.exit j) env)
   |ex=>k ex env)
  List.rec (motive:=fun _=>Tr) go (fun _ _ _=>.ask (y.i 999=(i:Int)) go (ih (Nat.succ i))) l) l i
def R3(ptm:List (Nat×Sa))(LS:Sy->LSpec)(zf:(p z:Sy)->{y:Sy // (LS p).inv z->(LS p).post z y})(n id:Nat)(nt:Nat)(env:T AV)(k:AEx->T AV->Tr):Tr:=
 ac (Nat.beq nt n) (oJ ptm env fun pas=>iF [] [] (J0 ptm) pas fun pas=>cE (gC .leaf [] (J0 ptm) pas iZ) .fail fun ps=>
  Oi (LS (aX ps.tm)).gl <| oJ (LS (aX ps.tm)).tmps env fun as=>iF [] (LS (aX ps.tm)).blk (J0 (LS (aX ps.tm)).tmps) as fun as=>cE (gC .leaf (LS (aX ps.tm)).blk (J0 (LS (aX ps.tm)).tmps) as iZ) .fail fun s=>
   tp (LS (aX ps.tm)).blk (LS (aX ps.tm)).blk 0 s fun s=>cE (kN (LS (aX ps.tm)).blk s.ln s) .fail fun s=>
    ac (ac (J3 n (LS (aX ps.tm))) (kO (List.length (LS (aX ps.tm)).blk) s.loc) false) (.req (s.pr/\(LS (aX ps.tm)).inv (aX s.tm))
     (.sk (fun y=>(LS (aX ps.tm)).inv (aX s.tm)->(LS (aX ps.tm)).post (aX s.tm) y) (zf (aX ps.tm) (aX s.tm)) fun y=>tC (LS (aX ps.tm)).keep env .leaf fun e0=>En e0 id (oU (LS (aX ps.tm)).blk (nE s)) y (LS (aX ps.tm)).alts 0 k)) .fail) .fail
end
section
variable{P:Program}{w0:World}{σ:St}{K:Fin}{ρ:Rho}
theorem J6{e0:T AV}{id:Nat}{γ:kz}{y:Sy}{k:AEx->T AV->Tr}{i0:Nat}(hi:y.i 999=(i0:Int)):∀{l:List Alt} {i:Nat} {alt:Alt} {j:Nat},oL l j=some alt->i+j=i0->run (En e0 id γ y l i k) σ K=true->
  run (RV γ y alt.out 0 (tB γ y alt.tmps e0 fun env=>match alt.ex with
   | .exit j=>ac (Nat.beq j id) (k .normal env) (k (.exit j) env)
   |ex=>k ex env)) σ K=true:=by
 intro l
 induction l with
 |nil=>intro i alt j h;cases h
 |cons a l ih=>
  intro i alt j h e hr
  cases l with
  |nil=>
   cases j with
   |zero=>injection h with h;subst h;exact hr
   |succ j=>cases h
  |cons b l=>
   rcases cO (show run (.ask (y.i 999=(i:Int)) (RV γ y a.out 0 (tB γ y a.tmps e0 fun env=>match a.ex with
    | .exit j=>ac (Nat.beq j id) (k .normal env) (k (.exit j) env)
    |ex=>k ex env)) (En e0 id γ y (b::l) (Nat.succ i) k)) σ K=true from hr) with⟨hp,hr⟩|⟨hp,hr⟩
   ·have:j=0:=by omega
    subst this
    injection h with h;subst h;exact hr
   ·cases j with
    |zero=>exact absurd (by rw[hi];congr 1;omega) hp
    |succ j=>exact ih h (by omega) hr
theorem GC{n:Nat}{S:LSpec}(h:J3 n S=true):∀{i:Nat} {alt:Alt},oL S.alts i=some alt->oI S.blk alt.out=true/\alt.out.length=S.blk.length:=by
 have h:S.alts.all (fun a=>ac (oI S.blk a.out) (Nat.beq a.out.length S.blk.length) false)=true:=(aM h).2
 have key:∀{l:List Alt} {i:Nat} {alt:Alt},oL l i=some alt->alt∈l:=by
  intro l
  induction l with
  |nil=>intro i alt h;cases h
  |cons a l ih=>
   intro i alt h
   cases i with
   |zero=>injection h with h;rw[h];exact aay
   |succ i=>exact aaw _ (ih h)
 intro i alt ha
 obtain⟨h1,h2⟩:=aM ((List.all_eq_true.1 h) alt (key ha))
 exact⟨h1,aad h2⟩
theorem GD{H:T ABlk}{n:Int}{l:List Sa}{blk:List BSh}{as:List AV}{s:PS}(h:tD H [(999,.i n)] l blk as=some s):(aX s.tm).i 999=n:=by
 obtain⟨s1,h1,h⟩:=aN h
 obtain⟨s2,h2,h⟩:=aN h
 obtain⟨s3,h3,h⟩:=aN h
 obtain⟨s4,h4,h⟩:=aN h
 obtain⟨h5,h⟩:=bh h
 obtain⟨h6,h⟩:=bh h
 injection h with h
 subst h
 obtain⟨f1,_⟩:=eS h4
 obtain⟨p1,_⟩:=fx (blk:=blk) h1
 obtain⟨st,_,_⟩:=u_ h2
 obtain⟨b1,_⟩:=vg (ρ:=⟨fun _ _=>none,fun _=>undef,fun _=>False,fun _=>none,fun _=>none⟩) h3
 exact JP ((p1.trans (st.trans (b1.trans f1))).tm 999 (.i n) rfl)
theorem R4{fn id:Nat}{ptm:List (Nat×Sa)}{LS:Sy->LSpec}{zf:(p z:Sy)->{y:Sy // (LS p).inv z->(LS p).post z y}}(hl:fa P fn id=true)(d8:∀p,(LS p).blk.length<=64)(hC:∀p z,(LS p).inv z->lu P fn id (LS p) z (zf p z).1)(w0:World):
  QR P w0 fn id (R3 ptm LS zf (gZ P fn id) id):=by
 intro c env nt k σ0 K ρ0 w a Q hS0 ZN hE0 hdf h hQ0 ab1
 have hc:=zj hl ab1
 subst hc
 obtain⟨hnt,z0⟩:=ar h
 have hnt:=aR hnt
 obtain⟨ak8,z00,aj3⟩:=g_ z0
 have ae0:∀{l:List (Nat×Sa)} {as:List AV},All2 (fun(x:Nat×Sa) a=>env.get x.1=some a) l as->∃vs,LR ρ0 as vs:=by
  intro l
  induction l with
  |nil=>intro as h;cases as with|nil=>exact⟨[],LR.nil _⟩|cons _ _=>exact h.elim
  |cons x l ih=>
   intro as h
   cases as with
   |nil=>exact h.elim
   |cons b as=>
    obtain⟨v,hv,hr⟩:=hE0.val _ _ h.1
    obtain⟨vs,h1⟩:=ih h.2
    exact⟨v::vs,LR.cons hr h1⟩
 obtain⟨pvs,aj4⟩:=ae0 aj3
 obtain⟨pas,σ,ρ,z1,hS,hG,ah0,_,_⟩:=gX hS0 ZN aj4 z00
 have hE:ER ρ nt env a.tmps:=hE0.mono ah0
 have hQ:JH w0 ρ K nt k Q:=fun ex env' XZ c9 ρ' w' a' q1 q2 q3 q4 q5 q6=>hQ0 ex env' XZ c9 ρ' w' a' q1 q2 q3 (ah0.trans q4) q5 q6
 obtain⟨ps,Ae,z2⟩:=bO z1
 obtain⟨p,hp⟩:∃p,p=aX ps.tm:=⟨_,rfl⟩
 rw[←hp] at z2
 obtain⟨σt,eh,hSt,z2t,Zd⟩:=vh hS hG z2
 have hGt:Good w0 ρ σt.h w:=by rw[eh];exact hG
 obtain⟨as,z3,has⟩:=g_ z2t
 have ah1:∀{l:List (Nat×Sa)} {as:List AV},All2 (fun(x:Nat×Sa) a=>env.get x.1=some a) l as->∃vs,LR ρ as vs/\All2 (fun(x:Nat×Sa) v=>a.tmps[x.1]? =some v) l vs:=by
  intro l
  induction l with
  |nil=>intro as h;cases as with|nil=>exact⟨[],LR.nil _,trivial⟩|cons _ _=>exact h.elim
  |cons x l ih=>
   intro as h
   cases as with
   |nil=>exact h.elim
   |cons b as=>
    obtain⟨v,hv,hr⟩:=hE.val _ _ h.1
    obtain⟨vs,h1,h2⟩:=ih h.2
    exact⟨v::vs,LR.cons hr h1,hv,h2⟩
 obtain⟨vs,aj5,htv⟩:=ah1 has
 obtain⟨o7,d6,XX,z4,d5,d7,t9,hlen,hlr⟩:=gX hSt hGt aj5 z3
 obtain⟨s0,Ya,z5⟩:=bO z4
 obtain⟨s1,f9,ρ2,z6,i5,i7,j9,ad8,_,w9⟩:=yY d5 d7 z5
 obtain⟨s2,Z0,z7⟩:=bO z6
 obtain⟨Z7,z8⟩:=ar z7
 obtain⟨⟨Z8,XU⟩,z9⟩:=aW z8
 clear h z0 z00 z1 z2 z3 z4 z5 z6 z7 z8
 obtain⟨hcA,hcL⟩:=aM Z7
 obtain⟨p1,p2⟩:=fx (blk:=(LS p).blk) Ya
 obtain⟨f1,f2,f3,f4,_⟩:=eS Z0
 have YK:=ki Z0 Z8
 have E':LR ρ2 o7 vs:=(hlr (by rw[←hlen];exact ls Ya)).mono j9
 have j6:=p2 s2 (ad8.trans f1) Z8 YK
 rw[jF] at j6
 have hL:=Ek i7 Z0 Z8 w9 (d8 p) hcL
 obtain⟨z,hz⟩:∃z,z=aX s2.tm:=⟨_,rfl⟩
 rw[←hz] at XU z9 j6 hL
 have z9:run (tC (LS p).keep env .leaf fun e0=>En e0 id (oU (LS p).blk (nE s2)) (zf p z).1 (LS p).alts 0 (fun ex env=>k ex env [])) f9 K=true:=z9
 rw[J1] at z9
 obtain⟨vl,hvl⟩:∃vl:Nat->Value,vl=fun t=>(a.tmps[t]?).getD undef:=⟨_,rfl⟩
 have hkp:∀t∈(LS p).keep,a.tmps[t]? =some (vl t):=fun t ht=>by
  have f7:=aas (List.all_eq_true.1 (aM hcA).1 t ht)
  have e1:=aaJ (xs:=a.tmps) (i:=t) (by rw[hE.size,hnt];exact f7)
  rw[hvl]
  show a.tmps[t]? =some ((a.tmps[t]?).getD undef)
  rw[e1];rfl
 have hLb:=TvAs.lr (vl:=vl) hL.mv j6 E'
 have hER:ER (zh w0 ρ2 f9.h w s2.L (LS p).blk vl) nt ((LS p).env z) a.tmps:=by
  refine⟨hE.size,fun t b hb=>?_⟩
  rcases zn hb with⟨h1,h2⟩|hb
  ·subst h2
   exact⟨_,hkp _ h1,.opq _⟩
  rcases nH hb with⟨x,h1,h2,h3⟩|h
  ·subst h3
   have key:∀{l:List (Nat×Sa)} {vs:List Value},All2 (fun(x:Nat×Sa) v=>a.tmps[x.1]? =some v) l vs->LR (zh w0 ρ2 f9.h w s2.L (LS p).blk vl) (qp bL z (J0 l)) vs->∀x∈l,∃v,a.tmps[x.1]? =some v/\VR (zh w0 ρ2 f9.h w s2.L (LS p).blk vl) (iD bL z x.2) v:=by
    intro l
    induction l with
    |nil=>intro vs _ _ x hx;cases hx
    |cons q l ih=>
     intro vs h1 h2 x hx
     cases vs with
     |nil=>exact h1.elim
     |cons v vs=>
      obtain⟨v',C',e,hv,p7⟩:=LR.cons_inv (show LR _ (iD bL z q.2::qp bL z (J0 l)) (v::vs) from h2)
      injection e with e1 e2
      subst e1;subst e2
      rcases List.mem_cons.1 hx with e|hx
      ·subst e;exact⟨v,h1.1,hv⟩
      ·exact ih h1.2 p7 x hx
   obtain⟨v,r1,r2⟩:=key htv hLb x h1
   exact⟨v,by rw[←h2];exact r1,r2⟩
  ·simp [T.get] at h
 subst hnt
 refine wpIn_block (Ed (hC p z XU w _ a _ ((hL.to (vl:=vl)).addTab ((Zd.mono (t9.trans j9).frz).mono fun b x h=>dO h)) hL.ownOk (frzE _ _ _ _ _ _ _).symm hER hdf fun ρ' wx w' H' a' i alt asf s hF i6 halt u0 XC q9 hpt YO hy htk=>?_))
 have ah2:=GD hpt
 obtain⟨t1,t2,t3⟩:=zp (ρ:=ρ') hpt YO
 rw[←hy] at t1 t2 ah2
 have z10:=J6 (i0:=i) ah2 halt (aak _) z9
 obtain⟨X5,z11,Yh,e3,aj6⟩:=JV i5 z10
 obtain⟨hsk,ac4⟩:=GC hcA halt
 obtain⟨ρ3,m1,m2,m3,_⟩:=QV (F:=lO s H') hL hsk (fun j x b g hx hl=>El hx hl) (fun j h1 h2=>by omega) (fun i hi=>by have:=aj6 i hi;rwa [aak] at this) i6 hF (fun b x hF=>⟨(gY hF).1,t3.t5 b (gY hF).2⟩) t2 (fun j b g h=>by
  obtain⟨q1,_,q3⟩:=t3.t3 j b g h
  have q2:j<alt.out.length->b=base+j:=fun hj=>t3.at0 h hj
  rw[ac4] at q1 q2 q3
  exact⟨by rw[ac4];exact q1,fun hj=>.inl (q2 hj),q3⟩) t3.t4
 rw[zm] at z11
 have hE2:ER ρ3 (gZ P fn id) (zk (oU (LS p).blk (nE s2)) (zf p z).1 alt.tmps (oK (LS p).keep env .leaf)) a'.tmps:=by
  refine⟨u0,fun t b hb=>?_⟩
  rcases nH hb with⟨x,h1,h2,h3⟩|h
  ·subst h3
   obtain⟨b,⟨v,hv,hr⟩,htv⟩:=qF (qG q9 (qE t1)) h1
   exact⟨v,by rw[←h2];exact hv,m3 _ _ _ htv hr⟩
  ·rcases Gz h with⟨h1,h2⟩|h
   ·obtain⟨v,h3,h4⟩:=hE.val _ _ h2
    rw[hkp _ h1] at h3
    injection h3 with h3
    exact⟨v,by rw[←h3];exact htk _ h1,h4.mono ((t9.trans j9).trans m2)⟩
   ·simp [T.get] at h
 have hDR:DR ρ3 [] a'.defers:=by rw[XC];trivial
 have XD:Good w0 ρ3 X5.h w':=by rw[e3];exact m1
 have fin:∀ex,run (k ex (zk (oU (LS p).blk (nE s2)) (zf p z).1 alt.tmps (oK (LS p).keep env .leaf)) []) X5 K=true->Q (T9 ex) a' w':=fun ex hr=>hQ ex _ [] X5 ρ3 w' a' hr Yh XD ((t9.trans j9).trans m2) hE2 hDR
 generalize alt.ex=ex at z11
 cases ex with
 |normal=>exact fin .normal z11
 |exit j=>
  rcases bG z11 with⟨e,hr⟩|⟨e,hr⟩
  ·have e:=aR e
   show(if j=id then Q .normal a' w' else Q (.exit j) a' w')
   rw[if_pos e]
   exact fin .normal hr
  ·show(if j=id then Q .normal a' w' else Q (.exit j) a' w')
   rw[if_neg (fun e'=>by subst e';simp at e)]
   exact fin (.exit j) hr
 |goto l=>exact fin (.goto l) z11
 |ret=>exact fin .ret z11
end
end
end Go.Sym
namespace Go.Sym
open Go.RowKit (Below)
noncomputable section
def tF(x:Sh)(a:AV)(k:AV->Tr):Tr:=match x with
 | .v _ _=>(match a with
  | .gsl b g n es=>.rd b fun q=>(match q with | .grow ct gen _=>ac (Nat.beq g gen) (.req (ct.len=n) (k (.cv ct))) .fail | .froz ct gen=>ac (Nat.beq g gen) (ac (Nat.beq ct.es es) (.req (ct.len=n) (k (.cv ct))) .fail) .fail|_=>.fail)
  |a=>k a)
 | .vb _=>(match a with
  | .gsl b g n es=>.rd b fun q=>(match q with | .grow ct gen _=>ac (Nat.beq g gen) (.req (ct.len=n) (k (.cv ct))) .fail | .froz ct gen=>ac (Nat.beq g gen) (ac (Nat.beq ct.es es) (.req (ct.len=n) (k (.cv ct))) .fail) .fail|_=>.fail)
  | .slc b g o len cap es=>ac (Nat.beq 1 es) (NQ [] b g o len cap 1 pJ fun ct _=>k (.cv ct)) .fail
  |a=>k a)
 |_=>k a
def BS(l:List Sh)(as:List AV)(k:List AV->Tr):Tr:=
 List.rec (motive:=fun _=>List AV->(List AV->Tr)->Tr) (fun as k=>k as) (fun x _ ih as k=>match as with
  | []=>k []
  |a::as=>tF x a fun a=>ih as fun as=>k (a::as)) l as k
def QX(l:List Sh)(b g:Nat)(k:AV->Tr):Tr:=.rd b fun q=>match q with
 | .cells c gen _ _ _ _ _ _=>ac (Nat.ble g gen) (ac (Nat.ble 1 (List.length l)) (cE (NH c g (List.length l) 0) .fail fun as=>BS l as fun as=>k (.cptr as)) .fail) .fail
 |_=>.fail
def J7(x:Sa)(a:AV)(k:AV->Tr):Tr:=match x with
 | .c x=>tF x a k
 | .ag _=>k a
 | .cp l=>(match a with
  | .ptr b g o=>ac (Nat.beq o 0) (QX l b g k) .fail
  |a=>k a)
def qH(l:List Sa)(as:List AV)(k:List AV->Tr):Tr:=
 List.rec (motive:=fun _=>List AV->(List AV->Tr)->Tr) (fun as k=>k as) (fun x _ ih as k=>match as with
  | []=>k []
  |a::as=>J7 x a fun a=>ih as fun as=>k (a::as)) l as k
def vo(x:Sh):Bool:=match x with
 | .i _ _=>true | .b _=>true | .s _=>true | .o=>true | .pi _ _=>true | .pb _=>true | .ps _=>true | .np=>true | .li _ _=>true | .nz=>true
 |_=>false
def vq(l:List Sh):Bool:=List.rec (motive:=fun _=>Bool) true (fun x _ ih=>ac (vo x) ih false) l
def vu(x:Sa):Bool:=match x with | .c x=>vo x | .ag l=>vq l | .cp _=>false
def vw(l:List Sa):Bool:=List.rec (motive:=fun _=>Bool) true (fun x _ ih=>ac (vu x) ih false) l
def J8(r:Sr):Bool:=match r with | .one a=>vu a | .tu l=>vw l
def J9{α:Type}(l:List α):Bool:=match l with | []=>true|_=>false
def J_(S:FSpec)(zf:(z:Sy)->{y:Sy // S.pre z->S.post z y})(args:List AV)(k:AV->Tr):Tr:=
 Oi S.gl <| qH S.args args fun args=>cE (gC .leaf [] S.args args iZ) .fail fun s=>cE (kN [] s.ln s) .fail fun s=>
  ac (ac (J9 S.blk) (ac (J9 (S.out (aX s.tm))) (J8 (S.res (aX s.tm))) false) false) (.req (s.pr/\S.pre (aX s.tm))
   (.sk (fun y=>S.pre (aX s.tm)->S.post (aX s.tm) y) (zf (aX s.tm)) fun y=>k (BJ bL y (S.res (aX s.tm))))) .fail
end
section
variable{P:Program}{w0:World}{ρ:Rho}{w:World}{σ:St}{K:Fin}
open Classical in
noncomputable def sv(ρ:Rho)(w:World)(b:Nat):Option (Array Value×TypeId):=match ρ.frz b with
 |some x=>some x
 |none=>(match w.heap[b]? with|some (.cells arr ty _)=>some (arr,ty)|_=>none)
noncomputable def qI(ρ:Rho)(w:World):Rho:=⟨fun _ _=>none,ρ.val,fun _=>False,sv ρ w,sv ρ w⟩
theorem BU{H:T ABlk}(hG:Good w0 ρ H w){b:Nat}{arr:Array Value}{ty:TypeId}(hf:sv ρ w b=some (arr,ty)):∃fr,w.heap[b]? =some (.cells arr ty fr):=by
 unfold sv at hf
 split at hf
 ·rename_i x hx
  injection hf with hf
  subst hf
  exact(hG.frz _ _ _ hx).1
 ·split at hf
  ·rename_i m7 XI fr hw
   injection hf with hf
   injection hf with e1 e2
   subst e1;subst e2
   exact⟨fr,hw⟩
  ·cases hf
theorem UL{H:T ABlk}(hG:Good w0 ρ H w):Good w (qI ρ w) .leaf w:=
 ⟨⟨Kept.refl _ _ _,(fun b x h=>by simp [T.get] at h),(fun b g h hh=>by cases hh),(fun b g h b' g' h' hh=>by cases hh),(fun b g h x hh=>by cases hh),fun b arr ty hf=>⟨BU hG hf,fun b' g h hh=>by cases hh⟩,fun b x hf _=>hf,(fun b k I l h=>by simp [T.get] at h)⟩,fun x h=>h.elim⟩
theorem mA{b:Nat}{x:Array Value×TypeId}(h:ρ.frz b=some x):(qI ρ w).frz b=some x:=by
 show sv ρ w b=_
 unfold sv;rw[h]
def Cn(ρ:Rho)(w:World)(a':AV)(v:Value):Prop:=VR ρ a' v∨∃ct,a'= .cv ct/\VR (qI ρ w) (.cv ct) v
theorem Eo{H:T ABlk}(hG:Good w0 ρ H w){b g n es ty:Nat}{ct:Ct}{v:Value}(hq:H.get b=some (.grow ct g ty))(hn:ct.len=n)(hv:VR ρ (.gsl b g n es) v):Cn ρ w (.cv ct) v:=by
 refine .inr ⟨ct,rfl, ?_⟩
 cases hv with
 |gnil _ _ _=>exact .cvnil _ hn
 |gempty _ _ _ a=>exact .cvempty _ a hn
 |gsl _ _ _ _ hm c Y5 hh hs hc hz=>
  subst hn
  rcases hG.blk _ _ hq with h0|⟨x8,r1,r2,r3,arr,fr,r4,r5,r6,r7,r8⟩
  ·omega
  rw[hh] at r1;injection r1 with r1;subst r1
  refine .cv ct hm.blk 0 c arr ty ?_ hc (by omega) fun i j a v hi ha hv=>?_
  ·show sv ρ w hm.blk=_
   unfold sv
   cases hf:ρ.frz hm.blk with
   |some x=>exact absurd rfl (hG.frzE (show ρ.frz hm.blk=some (x.1,x.2) from hf) hh hq (fun h=>h))
   |none=>simp only [r4]
  ·obtain⟨u,u1,u2⟩:=r8 i hi j a ha
   rw[aak,u1] at hv
   injection hv with hv
   subst hv
   exact cV (fun b x h=>mA h) u2 (lq ha)
theorem zq{b g n es:Nat}{k:AV->Tr}{v:Value}(hS:SI σ)(hG:Good w0 ρ σ.h w)(hv:VR ρ (.gsl b g n es) v)
  (h:run (.rd b fun q=>(match q with | .grow ct gen _=>ac (Nat.beq g gen) (.req (ct.len=n) (k (.cv ct))) .fail | .froz ct gen=>ac (Nat.beq g gen) (ac (Nat.beq ct.es es) (.req (ct.len=n) (k (.cv ct))) .fail) .fail|_=>.fail)) σ K=true):
  ∃a' c9,run (k a') c9 K=true/\SI c9/\Good w0 ρ c9.h w/\Cn ρ w a' v:=by
 obtain⟨q,d6,hq,e1,d5,h⟩:=bm hS h
 have d7:Good w0 ρ d6.h w:=by rw[e1];exact hG
 cases q with
 |grow ct gen ty=>
  obtain⟨hg,z1⟩:=ar h
  obtain⟨hn,z2⟩:=aW z1
  have hg:=aR hg
  subst hg
  exact⟨_,d6,z2,d5,d7,Eo hG hq hn hv⟩
 |froz ct gen=>
  obtain⟨hg,z1⟩:=ar h
  obtain⟨he,z1⟩:=ar z1
  obtain⟨hn,z2⟩:=aW z1
  have hg:=aR hg
  have he:=aR he
  subst hg;subst he;subst hn
  exact⟨_,d6,z2,d5,d7,.inl (iv (hG.blk _ _ hq) hv)⟩
 |_=>exact(ak h).elim
theorem Ka{b g o len es:Nat}{cap:Option Nat}{k:AV->Tr}{v:Value}(hS:SI σ)(hG:Good w0 ρ σ.h w)(hv:VR ρ (.slc b g o len cap es) v)
  (h:run (ac (Nat.beq 1 es) (NQ [] b g o len cap 1 pJ fun ct _=>k (.cv ct)) .fail) σ K=true):
  ∃a' c9,run (k a') c9 K=true/\SI c9/\Good w0 ρ c9.h w/\Cn ρ w a' v:=by
 obtain⟨he,h⟩:=ar h
 have he:=aR he
 subst he
 obtain⟨ct,ty,d6,h1,d5,e1,d8,_,hl,_,i7,hvv⟩:=D0 hS hG jw h
 exact⟨_,d6,h1,d5,by rw[e1];exact hG,Eo i7 (T.get_set_same _ _ _ d8) hl (hvv ρ (.refl _) v hv)⟩
theorem zr{x:Sh}{a:AV}{k:AV->Tr}{v:Value}(hS:SI σ)(hG:Good w0 ρ σ.h w)(hv:VR ρ a v)(h:run (tF x a k) σ K=true):
  ∃a' c9,run (k a') c9 K=true/\SI c9/\Good w0 ρ c9.h w/\Cn ρ w a' v:=by
 have same:run (k a) σ K=true->∃a' c9,run (k a') c9 K=true/\SI c9/\Good w0 ρ c9.h w/\Cn ρ w a' v:=fun h=>⟨a,σ,h,hS,hG,.inl hv⟩
 unfold tF at h
 cases x with
 |v m t=>
  simp only at h
  split at h
  ·exact zq hS hG hv h
  ·exact same h
 |vb t=>
  simp only at h
  split at h
  ·exact zq hS hG hv h
  ·exact Ka hS hG hv h
  ·exact same h
 |_=>exact same h
theorem GE:∀{l:List Sh} {as:List AV} {k:List AV->Tr} {σ:St} {vs:List Value},SI σ->Good w0 ρ σ.h w->LR ρ as vs->run (BS l as k) σ K=true->
  ∃o7 c9,run (k o7) c9 K=true/\SI c9/\Good w0 ρ c9.h w/\(l.length=as.length->All2 (fun a v=>Cn ρ w a v) o7 vs/\o7.length=as.length):=by
 intro l
 induction l with
 |nil=>intro as k σ vs hS hG hl h;exact⟨as,σ,h,hS,hG,fun e=>by cases as with|nil=>rw[hl.nil_inv];exact⟨trivial,rfl⟩|cons _ _=>simp at e⟩
 |cons x l ih=>
  intro as k σ vs hS hG hl h
  cases as with
  |nil=>exact⟨[],σ,h,hS,hG,fun e=>by simp at e⟩
  |cons a as=>
   obtain⟨v,C',rfl,hv,p7⟩:=hl.cons_inv
   obtain⟨a',d6,h1,h2,h3,h5⟩:=zr hS hG hv (show run (tF x a fun a=>BS l as fun as=>k (a::as)) σ K=true from h)
   obtain⟨o7,f9,q1,q2,q3,q4⟩:=ih h2 h3 p7 h1
   exact⟨a'::o7,f9,q1,q2,q3,fun e=>⟨⟨h5,(q4 (by simpa using e)).1⟩,by simp [(q4 (by simpa using e)).2]⟩⟩
def Cp(ρ:Rho)(w:World)(a':AV)(v:Value):Prop:=∃o7 blk arr ty,a'= .cptr o7/\v= .pointer (some ⟨blk,0,none⟩)/\sv ρ w blk=some (arr,ty)/\o7.length<=arr.size/\All2 (fun a v=>Cn ρ w a v) o7 (arr.toList.take o7.length)
def UM(ρ:Rho)(w:World)(a':AV)(v:Value):Prop:=Cn ρ w a' v∨Cp ρ w a' v
theorem Kb{l:List Sh}{b g:Nat}{k:AV->Tr}{v:Value}(hS:SI σ)(hG:Good w0 ρ σ.h w)(hv:VR ρ (.ptr b g 0) v)(h:run (QX l b g k) σ K=true):
  ∃a' c9,run (k a') c9 K=true/\SI c9/\Good w0 ρ c9.h w/\UM ρ w a' v:=by
 obtain⟨q,d6,hq,e1,d5,h⟩:=bm hS h
 have d7:Good w0 ρ d6.h w:=by rw[e1];exact hG
 cases q with
 |cells c gen lo hi fl fh ro ty=>
  obtain⟨k1,z1⟩:=ar h
  obtain⟨k2,z2⟩:=ar z1
  obtain⟨as,hl,z3⟩:=bO z2
  have k1:=bu k1
  have k2:=bu k2
  obtain⟨hm,r1,r2,_,arr,fr,r3,r4,r5,r6⟩:=(hG.blk _ _ hq).2 g k1
  obtain⟨l1,l2⟩:=pW hl
  cases hv with
  |ptr _ _ _ h0 hh ho=>
   rw[hh] at r1;injection r1 with r1;subst r1
   have Ya:h0.shift=0:=by omega
   have i9:∀j a,as[j]? =some a->∃u,arr[j]? =some u/\VR ρ a u:=fun j a ha=>by
    obtain⟨tag,t1,t2⟩:=l2 j _ ha
    rw[aak] at t1
    obtain⟨s1,u,s2,s3⟩:=r6 _ _ _ t1 t2
    rw[Ya,abg] at s2
    exact⟨u,s2,s3⟩
   have u0:as.length<=arr.size:=by
    rcases aaf arr.size as.length with h'|h'
    ·obtain⟨u,hu,_⟩:=i9 arr.size _ (aah h')
     rw[aaN (aaa _)] at hu;cases hu
    ·exact h'
   have hLR:LR ρ as (arr.toList.take as.length):=by
    refine⟨by rw[aam,aaH (xs:=arr)];omega,fun j a u ha hu=>?_⟩
    obtain⟨u',h1,h2⟩:=i9 j a ha
    have hj:j<as.length:=by
     rcases aaf j as.length with h'|h'
     ·exact h'
     ·rw[aaj h'] at ha;cases ha
    rw[aar hj,aaP,h1] at hu
    injection hu with hu
    rw[←hu];exact h2
   obtain⟨o7,f9,q1,q2,q3,q4⟩:=GE d5 d7 hLR z3
   obtain⟨q5,q6⟩:=q4 l1.symm
   refine⟨_,f9,q1,q2,q3,.inr ⟨o7,h0.blk,arr,ty,rfl,by rw[Ya], ?_,by omega,by rw[q6];exact q5⟩⟩
   unfold sv
   cases hf:ρ.frz h0.blk with
   |some x=>exact absurd rfl (hG.frzE (show ρ.frz h0.blk=some (x.1,x.2) from hf) hh hq (fun h=>h))
   |none=>simp only [r3]
 |_=>exact(ak h).elim
theorem GF:∀{l:List Sa} {as:List AV} {k:List AV->Tr} {σ:St} {vs:List Value},SI σ->Good w0 ρ σ.h w->LR ρ as vs->run (qH l as k) σ K=true->
  ∃o7 c9,run (k o7) c9 K=true/\SI c9/\Good w0 ρ c9.h w/\(l.length=o7.length->All2 (fun a v=>UM ρ w a v) o7 vs/\o7.length=as.length):=by
 intro l
 induction l with
 |nil=>intro as k σ vs hS hG hl h;exact⟨as,σ,h,hS,hG,fun e=>by cases as with|nil=>rw[hl.nil_inv];exact⟨trivial,rfl⟩|cons _ _=>simp at e⟩
 |cons x l ih=>
  intro as k σ vs hS hG hl h
  cases as with
  |nil=>exact⟨[],σ,h,hS,hG,fun e=>by simp at e⟩
  |cons a as=>
   obtain⟨v,C',rfl,hv,p7⟩:=hl.cons_inv
   have h:run (J7 x a fun a=>qH l as fun as=>k (a::as)) σ K=true:=h
   have:∃a' c9,run (qH l as fun as=>k (a'::as)) c9 K=true/\SI c9/\Good w0 ρ c9.h w/\UM ρ w a' v:=by
    cases x with
    |c x=>
     obtain⟨a',c9,q1,q2,q3,q4⟩:=zr hS hG hv (show run (tF x a fun a=>qH l as fun as=>k (a::as)) σ K=true from h)
     exact⟨a',c9,q1,q2,q3,.inl q4⟩
    |ag l=>exact⟨a,σ,h,hS,hG,.inl (.inl hv)⟩
    |cp l'=>
     unfold J7 at h
     simp only at h
     split at h
     ·rename_i b g o
      obtain⟨e,h⟩:=ar h
      have e:=aR e
      subst e
      exact Kb hS hG hv h
     ·exact⟨a,σ,h,hS,hG,.inl (.inl hv)⟩
   obtain⟨a',d6,h1,h2,h3,h5⟩:=this
   obtain⟨o7,f9,q1,q2,q3,q4⟩:=ih h2 h3 p7 h1
   exact⟨a'::o7,f9,q1,q2,q3,fun e=>⟨⟨h5,(q4 (by simpa using e)).1⟩,by simp [(q4 (by simpa using e)).2]⟩⟩
theorem RdC.look{ct:Ct}{a:AV}{v:Value}(h:RdC (fun _=>none) ct a)(hv:Cn ρ w a v):VR (qI ρ w) (.cv ct) v:=by
 rcases h with⟨e,h0⟩|e|⟨b,g,es,ty,_,_,hF⟩|⟨b,g,o,cap,c,gen,lo,hi,fl,fh,ty,as,_,_,hF,_⟩|⟨b,g,_,_,hF⟩
 ·subst e
  rcases hv with hv|⟨_,e,_⟩
  ·cases hv;exact .cvnil _ h0
  ·cases e
 ·subst e
  rcases hv with hv|⟨_,e,hv⟩
  ·exact cV (fun b x h=>mA h) hv rfl
  ·injection e with e;subst e;exact hv
 ·cases hF
 ·cases hF
 ·cases hF
theorem RdC.nocp{ct:Ct}{l:List AV}(h:RdC (fun _=>none) ct (.cptr l)):False:=by
 rcases h with⟨e,h0⟩|e|⟨b,g,es,ty,_,_,hF⟩|⟨b,g,o,cap,c,gen,lo,hi,fl,fh,ty,as,_,_,hF,_⟩|⟨b,g,_,_,hF⟩
 ·cases e
 ·cases e
 ·cases hF
 ·cases hF
 ·cases hF
theorem Tv.look{L:Nat->Option (Nat×Nat)}{z:Sy}{x:Sh}{a:AV}{v:Value}(h:Tv (fun _=>none) [] L z x a)(hv:Cn ρ w a v):VR (qI ρ w) (put bL z x) v:=by
 have num:∀{k n},cz a=some (k,n)->v= .int k n:=fun hn=>by
  rcases hv with hv|⟨_,e,_⟩
  ·exact bo hv hn
  ·subst e;cases hn
 have pr:∀{q},dA a=some q->∃b,v= .bool b/\(b=true↔q):=fun hn=>by
  rcases hv with hv|⟨_,e,_⟩
  ·exact dZ hv hn
  ·subst e;cases hn
 have st:∀{l},fF a=some l->∃s,v= .string s/\l=bytesOf s:=fun hn=>by
  rcases hv with hv|⟨_,e,_⟩
  ·exact di hv hn
  ·subst e;cases hn
 cases x with
 |i k t=>have h:cz a=some (k,z.i t):=h;rw[num h];exact .sI _ _
 |b t=>
  have h:dA a=some (z.p t):=h
  obtain⟨b,e,hb⟩:=pr h
  rw[e];exact .sB _ b hb
 |s t=>
  have h:fF a=some (z.s t):=h
  obtain⟨s,e,hs⟩:=st h
  rw[e]
  show VR _ (.sS (z.s t)) _
  rw[hs];exact .sS s
 |o=>
  rcases hv with hv|⟨_,e,hv⟩
  ·exact .any1 v (il hv h)
  ·exact .any1 v (il hv rfl)
 |v m t=>exact RdC.look h hv
 |vb t=>exact RdC.look h hv
 |pi k n=>have h:cz a=some (k,n):=h;rw[num h];exact .sI _ _
 |pb q=>
  obtain⟨q',h1,h2⟩:=h
  obtain⟨b,e,hb⟩:=pr h1
  rw[e];exact .sB _ b (hb.trans h2)
 |ps l=>
  have h:fF a=some l:=h
  obtain⟨s,e,hs⟩:=st h
  rw[e]
  show VR _ (.sS l) _
  rw[hs];exact .sS s
 |pv m l=>exact RdC.look h hv
 |pvb l=>exact RdC.look h hv
 |np=>
  have h:a= .nilp:=h
  subst h
  rcases hv with hv|⟨_,e,_⟩
  ·cases hv;exact .nilp
  ·cases e
 |li k n=>
  have h:a= .int k n:=h
  subst h
  rcases hv with hv|⟨_,e,_⟩
  ·cases hv;exact .int _ _
  ·cases e
 |nz=>
  have h:a= .nils:=h
  subst h
  rcases hv with hv|⟨_,e,_⟩
  ·cases hv;exact .nils
  ·cases e
 |p j=>obtain⟨_,_,_,hc⟩:=h;cases hc
 |m j=>obtain⟨_,_,_,hc⟩:=h;cases hc
 |fn f j=>obtain⟨_,_,_,hc⟩:=h;cases hc
 |g j es t=>obtain⟨_,_,_,_,_,_,hc⟩:=h;simp at hc
 |gb j t=>obtain⟨_,_,_,_,_,hc⟩:=h;simp at hc
theorem nI{α:Type}{C:AV->Value->Prop}{R:α->AV->Prop}{f:α->AV}{fs:List α->List AV}(YL:fs []= [])(Zh:∀x l,fs (x::l)=f x::fs l)(hR:∀x a v,R x a->C a v->VR (qI ρ w) (f x) v):
  ∀{l:List α} {as:List AV} {vs:List Value},All2 R l as->All2 C as vs->LR (qI ρ w) (fs l) vs
 | [],[],[],_,_=>by rw[YL];exact LR.nil _
 |x::l,a::as,v::vs,⟨h1,h2⟩,⟨h3,h4⟩=>by rw[Zh];exact LR.cons (hR x a v h1 h3) (nI YL Zh hR h2 h4)
 | [],_::_,_,h,_=>h.elim
 |_::_,[],_,h,_=>h.elim
 | [],[],_::_,_,h=>h.elim
 |_::_,_::_,[],_,h=>h.elim
theorem LR.cn:∀{as:List AV} {vs:List Value},LR ρ as vs->All2 (fun a v=>Cn ρ w a v) as vs:=by
 intro as
 induction as with
 |nil=>intro vs h;rw[h.nil_inv];trivial
 |cons a as ih=>intro vs h;obtain⟨v,C',rfl,hv,h'⟩:=h.cons_inv;exact⟨.inl hv,ih h'⟩
theorem Tvs.look{L:Nat->Option (Nat×Nat)}{z:Sy}{l:List Sh}{as:List AV}{vs:List Value}(ha:All2 (Tv (fun _=>none) [] L z) l as)(h:All2 (fun a v=>Cn ρ w a v) as vs):LR (qI ρ w) (oT bL z l) vs:=
 nI (C:=fun a v=>Cn ρ w a v) (fs:=oT bL z) rfl (fun _ _=>rfl) (fun _ _ _ h hv=>Tv.look h hv) ha h
theorem TvA.look{L:Nat->Option (Nat×Nat)}{z:Sy}{x:Sa}{a:AV}{v:Value}(h:TvA (fun _=>none) [] L z x a)(hv:UM ρ w a v):VR (qI ρ w) (iD bL z x) v:=by
 cases x with
 |c x=>
  rcases hv with hv|⟨o7,_,_,_,e,ev⟩
  ·exact Tv.look h hv
  ·subst e
   have h:Tv (fun _=>none) [] L z x (.cptr o7):=h
   cases x with
   |i k t=>have h:cz (.cptr o7)=some (k,z.i t):=h;cases h
   |b t=>have h:dA (.cptr o7)=some (z.p t):=h;cases h
   |s t=>have h:fF (.cptr o7)=some (z.s t):=h;cases h
   |o=>exact .any1 v (by rw[ev.1];rfl)
   |v m t=>exact(RdC.nocp h).elim
   |vb t=>exact(RdC.nocp h).elim
   |pi k n=>have h:cz (.cptr o7)=some (k,n):=h;cases h
   |pb q=>obtain⟨q',h1,_⟩:=h;cases h1
   |ps l=>have h:fF (.cptr o7)=some l:=h;cases h
   |pv m l=>exact(RdC.nocp h).elim
   |pvb l=>exact(RdC.nocp h).elim
   |np=>have h:AV.cptr o7= .nilp:=h;cases h
   |li k n=>have h:AV.cptr o7= .int k n:=h;cases h
   |nz=>have h:AV.cptr o7= .nils:=h;cases h
   |p j=>obtain⟨_,_,_,hc⟩:=h;cases hc
   |m j=>obtain⟨_,_,_,hc⟩:=h;cases hc
   |fn f j=>obtain⟨_,_,_,hc⟩:=h;cases hc
   |g j es t=>obtain⟨_,_,_,_,_,_,hc⟩:=h;simp at hc
   |gb j t=>obtain⟨_,_,_,_,_,hc⟩:=h;simp at hc
 |ag l=>
  obtain⟨as,e,ha⟩:=h
  subst e
  rcases hv with(hv|⟨_,e,_⟩)|⟨_,_,_,_,e,_⟩
  ·cases hv with
   |agg _ cs h1 h2=>
    obtain⟨q1,q2⟩:=(Tvs.look ha (LR.of_arr h1 h2).cn).arr
    exact .agg _ cs q1 q2
  ·cases e
  ·cases e
 |cp l=>
  obtain⟨as,e,ha⟩:=h
  subst e
  rcases hv with(hv|⟨_,e,_⟩)|⟨o7,blk,arr,ty,e,ev,hf,u0,hc⟩
  ·cases hv with
   |cptr _ bl off arr ty hf hb r=>exact tv hf (mA hf) hb r fun vs hl=>Tvs.look ha hl.cn
  ·cases e
  ·injection e with e
   subst e;subst ev
   obtain⟨e2,hr⟩:=Tvs.look ha hc
   rw[aam,aaH (xs:=arr)] at e2
   refine .cptr _ blk 0 arr ty hf (by omega) fun j a u ha2 hu=>hr j a u ha2 ?_
   have hj:j<(oT bL z l).length:=by
    rcases aaf j (oT bL z l).length with h'|h'
    ·exact h'
    ·rw[aaj h'] at ha2;cases ha2
   rw[aar (by omega),aaP]
   rw[aak] at hu;exact hu
theorem zs{XX ρ2:Rho}{F:Nat->Option ABlk}{blk:List BSh}{L:Nat->Option (Nat×Nat)}{y:Sy}{x:Sh}{a:AV}{v:Value}(hp:vo x=true)(h:Tv F blk L y x a)(hv:VR XX a v):VR ρ2 (put bL y x) v:=by
 cases x with
 |i k t=>have h:cz a=some (k,y.i t):=h;rw[bo hv h];exact .sI _ _
 |b t=>
  have h:dA a=some (y.p t):=h
  obtain⟨b,e,hb⟩:=dZ hv h
  rw[e];exact .sB _ b hb
 |s t=>
  have h:fF a=some (y.s t):=h
  obtain⟨s,e,hs⟩:=di hv h
  rw[e]
  show VR _ (.sS (y.s t)) _
  rw[hs];exact .sS s
 |o=>exact .any1 v (il hv h)
 |pi k n=>have h:cz a=some (k,n):=h;rw[bo hv h];exact .sI _ _
 |pb q=>
  obtain⟨q',h1,h2⟩:=h
  obtain⟨b,e,hb⟩:=dZ hv h1
  rw[e];exact .sB _ b (hb.trans h2)
 |ps l=>
  have h:fF a=some l:=h
  obtain⟨s,e,hs⟩:=di hv h
  rw[e]
  show VR _ (.sS l) _
  rw[hs];exact .sS s
 |np=>have h:a= .nilp:=h;subst h;cases hv;exact .nilp
 |li k n=>have h:a= .int k n:=h;subst h;cases hv;exact .int _ _
 |nz=>have h:a= .nils:=h;subst h;cases hv;exact .nils
 |_=>cases hp
theorem tG{XX ρ2:Rho}{F:Nat->Option ABlk}{blk:List BSh}{L:Nat->Option (Nat×Nat)}{y:Sy}:∀{l:List Sh} {as:List AV} {vs:List Value},vq l=true->All2 (Tv F blk L y) l as->LR XX as vs->LR ρ2 (oT bL y l) vs
 | [],[],vs,_,_,h=>by rw[h.nil_inv];exact LR.nil _
 |x::l,a::as,vs,hp,⟨h1,h2⟩,h=>by
  obtain⟨v,C',rfl,hv,h'⟩:=h.cons_inv
  obtain⟨p1,p2⟩:=aM (show ac (vo x) (vq l) false=true from hp)
  exact LR.cons (zs p1 h1 hv) (tG p2 h2 h')
 | [],_::_,_,_,h,_=>h.elim
 |_::_,[],_,_,h,_=>h.elim
theorem tH{XX ρ2:Rho}{F:Nat->Option ABlk}{blk:List BSh}{L:Nat->Option (Nat×Nat)}{y:Sy}{x:Sa}{a:AV}{v:Value}(hp:vu x=true)(h:TvA F blk L y x a)(hv:VR XX a v):VR ρ2 (iD bL y x) v:=by
 cases x with
 |c x=>exact zs hp h hv
 |ag l=>
  obtain⟨as,e,ha⟩:=h
  subst e
  cases hv with
  |agg _ cs h1 h2=>
   obtain⟨q1,q2⟩:=(tG (ρ2:=ρ2) hp ha (LR.of_arr h1 h2)).arr
   exact .agg _ cs q1 q2
 |cp l=>cases hp
theorem qJ{XX ρ2:Rho}{F:Nat->Option ABlk}{blk:List BSh}{L:Nat->Option (Nat×Nat)}{y:Sy}:∀{l:List Sa} {as:List AV} {vs:List Value},vw l=true->All2 (TvA F blk L y) l as->LR XX as vs->LR ρ2 (qp bL y l) vs
 | [],[],vs,_,_,h=>by rw[h.nil_inv];exact LR.nil _
 |x::l,a::as,vs,hp,⟨h1,h2⟩,h=>by
  obtain⟨v,C',rfl,hv,h'⟩:=h.cons_inv
  obtain⟨p1,p2⟩:=aM (show ac (vu x) (vw l) false=true from hp)
  exact LR.cons (tH p1 h1 hv) (qJ p2 h2 h')
 | [],_::_,_,_,h,_=>h.elim
 |_::_,[],_,_,h,_=>h.elim
theorem GG{XX ρ2:Rho}{F:Nat->Option ABlk}{blk:List BSh}{L:Nat->Option (Nat×Nat)}{y:Sy}{x:Sr}{a:AV}{v:Value}(hp:J8 x=true)(h:TvR F blk L y x a)(hv:VR XX a v):VR ρ2 (BJ bL y x) v:=by
 cases x with
 |one x=>exact tH hp h hv
 |tu l=>
  obtain⟨as,e,ha⟩:=h
  subst e
  cases hv with
  |tup _ cs h1 h2=>
   obtain⟨q1,q2⟩:=(qJ (ρ2:=ρ2) hp ha (LR.of_arr h1 h2)).arr
   exact .tup _ cs q1 q2
theorem Oy{f:Nat}{S:FSpec}{zf:(z:Sy)->{y:Sy // S.pre z->S.post z y}}(hC:jG P f S zf)(w0:World)(l:List AV):RU P w0 f l (J_ S zf l):=by
 intro vs k σ0 K ρ w R hS0 ZN hl h0 hR
 obtain⟨σ,eh,hS,h,Zd⟩:=vh hS0 ZN h0
 have hG:Good w0 ρ σ.h w:=by rw[eh];exact ZN
 clear h0 ZN hS0
 obtain⟨l',d6,z1,d5,d7,hcn⟩:=GF hS hG hl h
 obtain⟨s0,Ya,z2⟩:=bO z1
 obtain⟨s2,Z0,z4⟩:=bO z2
 obtain⟨Z7,z5⟩:=ar z4
 obtain⟨⟨Z8,XU⟩,z6⟩:=aW z5
 clear h z1 z2 z4 z5
 obtain⟨hc1,hc2⟩:=aM Z7
 obtain⟨hc3,hc4⟩:=aM hc2
 obtain⟨p1,p2⟩:=fx (blk:=[]) Ya
 obtain⟨f1,_⟩:=eS Z0
 have YK:=ki Z0 Z8
 have j6:=p2 s2 f1 Z8 YK
 rw[jF] at j6
 have hcv:=(hcn (ls Ya)).1
 obtain⟨z,hz⟩:∃z,z=aX s2.tm:=⟨_,rfl⟩
 rw[←hz] at XU z6 j6 hc3 hc4
 have z6:run (k (BJ bL (zf z).1 (S.res z))) d6 K=true:=z6
 have hLb:=nI (C:=fun a v=>UM ρ w a v) (fs:=qp bL z) rfl (fun _ _=>rfl) (fun _ _ _ h hv=>TvA.look h hv) j6 hcv
 have Y0:S.blk= []:=by cases hb:S.blk with|nil=>rfl|cons _ _=>rw[hb] at hc1;cases hc1
 have hgz:Good w (qI ρ w) (S.heap z) w:=by
  unfold FSpec.heap
  rw[Y0]
  exact(UL d7).addTab (z:=z) (blk:=[]) (Zd.mono fun b x h=>mA h)
 obtain⟨hcf,Ze⟩:=hC z XU w (qI ρ w) vs hgz hLb
 refine⟨hcf,Ze.mono fun e w' he=>?_⟩
 obtain⟨v,ρ',H',a,s,rfl,i6,Yp,hva,YD,ad_,hzf⟩:=he
 obtain⟨t1,_,_⟩:=qB (ρ:=ρ') YD ad_
 rw[←hzf] at t1
 have ae1:Below w.heap.size w w':=i6.below.below fun x=>by rw[Yp.own];exact fun h=>h
 exact hR _ v d6 ρ w' z6 d5 (d7.later ae1) (Rho.le.refl ρ) (GG hc4 t1 hva)
end
end Go.Sym
namespace Go.Sym
theorem ai(s:List Nat):(kV s).length=s.length:=aaO ..
theorem am{a:List Nat}(h:¬a= []):0<a.length:=List.length_pos_iff.2 h
theorem nJ(n:Int):IntKind.wrap .u64 n=n%18446744073709551616:=rfl
theorem qK(n:Int):IntKind.wrap .u8 n=n%256:=rfl
noncomputable section
theorem Fm.ana_den{a q:Prop}{r:Sy->Prop}{f:Sy->Fm}(h1:a/\q)(h2:a/\q->∀y,r y->(f y).den):(Fm.an (a/\q) (Fm.al (fun y=>q->r y) f)).den:=⟨h1,fun h y hy=>h2 h y (hy h1.2)⟩
theorem aV{a q:Prop}{r:Sy->Prop}{f:Sy->Fm}(h1:a/\q)(h2:a/\q->∀y,r y->(f y).den):(Fm.an (a/\q) (Fm.al (fun y=>q->r y) f)).den:=Fm.ana_den h1 h2
theorem aZ{p:Prop}{f g:Fm}(h1:p->f.den)(h2:¬p->g.den):(Fm.two p f g).den:=⟨h1,h2⟩
theorem aT{p:Prop}{f:Fm}(h1:p)(h2:p->f.den):(Fm.an p f).den:=⟨h1,h2⟩
theorem bf{p:Sy->Prop}{f:Sy->Fm}(h:∀y,p y->(f y).den):(Fm.al p f).den:=h
theorem ba{p:Prop}(h:p):(Fm.at p).den:=h
abbrev Zf(S:FSpec):=(z:Sy)->{y:Sy // S.pre z->S.post z y}
abbrev WC(LS:Sy->LSpec):=(p z:Sy)->{y:Sy // (LS p).inv z->(LS p).post z y}
structure Ent where
 f:Nat
 S:FSpec
 zf:(z:Sy)->{y:Sy // S.pre z->S.post z y}
 look:Bool:=false
structure LEnt where
 fn:Nat
 id:Nat
 n:Nat
 ptm:List (Nat×Sa)
 LS:Sy->LSpec
 zf:(p z:Sy)->{y:Sy // (LS p).inv z->(LS p).post z y}
def R5(l:List Ent)(f:Nat)(args:List AV):Option ((AV->Tr)->Tr):=
 List.rec (motive:=fun _=>Option ((AV->Tr)->Tr)) none (fun e _ ih=>ac (Nat.beq e.f f) (some (ac e.look (J_ e.S e.zf args) (RX e.S e.zf args))) ih) l
def R6(l:List LEnt)(fn id:Nat):Option (Nat->T AV->(AEx->T AV->Tr)->Tr):=
 List.rec (motive:=fun _=>Option (Nat->T AV->(AEx->T AV->Tr)->Tr)) none (fun e _ ih=>ac (ac (Nat.beq e.fn fn) (Nat.beq e.id id) false) (some (R3 e.ptm e.LS e.zf e.n e.id)) ih) l
def Ep(m:List Memo)(c:List Ent)(l:List LEnt):Tab:=⟨m,R5 c,R6 l⟩
def iY(P:Program)(e:Ent):Prop:=jG P e.f e.S e.zf
def gD(P:Program)(e:LEnt):Prop:=fa P e.fn e.id=true/\e.n=gZ P e.fn e.id/\(∀p,(e.LS p).blk.length<=64)/\∀p z,(e.LS p).inv z->lu P e.fn e.id (e.LS p) z (e.zf p z).1
end
def Ok(P:Program)(f:Nat)(S:FSpec):Prop:=∃zf,jG P f S zf
def dU(P:Program)(fn id:Nat)(LS:Sy->LSpec):Prop:=∃zf:WC LS,fa P fn id=true/\(∀p,(LS p).blk.length<=64)/\∀p z,(LS p).inv z->lu P fn id (LS p) z (zf p z).1
theorem qL{P:Program}{m:List Memo}{c:List Ent}{l:List LEnt}(hm:∀x∈m,lj P x)(hc:∀e∈c,iY P e)(hl:∀e∈l,gD P e):TabOk P (Ep m c l) where
 memos:=hm
 con:=fun w0 f args t h=>by
  replace h:R5 c f args=some t:=h
  clear hl hm
  induction c with
  |nil=>cases h
  |cons e c ih=>
   replace h:ac (Nat.beq e.f f) (some (ac e.look (J_ e.S e.zf args) (RX e.S e.zf args))) (R5 c f args)=some t:=h
   rw[ax] at h
   split at h
   ·rename_i hf
    have hf:=aad hf
    injection h with h
    subst hf;subst h
    cases hlk:e.look with
    |true=>exact Oy (hc e aay) w0 args
    |false=>exact R0 (hc e aay) w0 args
   ·exact ih (fun e he=>hc e (aaw _ he)) h
 blk:=fun w0 fn id t h=>by
  replace h:R6 l fn id=some t:=h
  clear hc hm
  induction l with
  |nil=>cases h
  |cons e l ih=>
   replace h:ac (ac (Nat.beq e.fn fn) (Nat.beq e.id id) false) (some (R3 e.ptm e.LS e.zf e.n e.id)) (R6 l fn id)=some t:=h
   rw[ax] at h
   split at h
   ·rename_i hf
    obtain⟨h1,h2⟩:=aM hf
    have h1:=aad h1
    have h2:=aad h2
    injection h with h
    subst h1;subst h2;subst h
    obtain⟨q1,q2,q3,q4⟩:=hl e aay
    rw[q2]
    exact R4 q1 q3 q4 w0
   ·exact ih (fun e he=>hl e (aaw _ he)) h
theorem R7{P:Program}{M:Tab}(hM:TabOk P M){n fn id:Nat}{LS:Sy->LSpec}(hl:fa P fn id=true)(d8:∀p,(LS p).blk.length<=64)(h:∀p z,(LS p).inv z->∃hn,((LS p).roundFm P M n fn id z hn).den)(hgl:∀p g ty l,(LS p).gl=some (g,ty,l)->g<1048576:=by intro p g ty l h;cases h):dU P fn id LS:=by
 have key:∀p z,∃y:{y:Sy // (LS p).inv z->(LS p).post z y},(LS p).inv z->lu P fn id (LS p) z y.1:=fun p z=>by
  by_cases hz:(LS p).inv z
  ·obtain⟨y,h1,h2⟩:=Ox hM hl (d8 p) (hgl p) (h p) _ z rfl hz
   exact⟨⟨y,fun _=>h1⟩,fun _=>h2⟩
  ·exact⟨⟨⟨fun _=>0,fun _=>[],fun _=>False,fun _=>[]⟩,fun h=>absurd h hz⟩,fun h=>absurd h hz⟩
 exact⟨fun p z=>Classical.choose (key p z),hl,d8,fun p z hz=>aa6 (key p z) hz⟩
theorem Kc{P:Program}{f:Nat}{S:FSpec}{zf:Zf S}{look:Bool}(h:jG P f S zf):iY P ⟨f,S,zf,look⟩:=h
theorem GH{P:Program}{fn id:Nat}{ptm:List (Nat×Sa)}{LS:Sy->LSpec}{zf:WC LS}(h:fa P fn id=true/\(∀p,(LS p).blk.length<=64)/\∀p z,(LS p).inv z->lu P fn id (LS p) z (zf p z).1):gD P ⟨fn,id,gZ P fn id,ptm,LS,zf⟩:=⟨h.1,rfl,h.2.1,h.2.2⟩
theorem mN{P:Program}:∀x∈([]:List Memo),lj P x:=fun _ h=>by cases h
theorem eN{P:Program}:∀e∈([]:List Ent),iY P e:=fun _ h=>by cases h
theorem lN{P:Program}:∀e∈([]:List LEnt),gD P e:=fun _ h=>by cases h
theorem eC{P:Program}{f:Nat}{S:FSpec}{zf:Zf S}{look:Bool}{l:List Ent}(h:jG P f S zf)(hl:∀e∈l,iY P e):∀e∈(⟨f,S,zf,look⟩:Ent)::l,iY P e:=fun e he=>by
 rcases List.mem_cons.1 he with rfl|he
 ·exact Kc h
 ·exact hl e he
theorem lC{P:Program}{fn id:Nat}{ptm:List (Nat×Sa)}{LS:Sy->LSpec}{zf:WC LS}{l:List LEnt}(h:fa P fn id=true/\(∀p,(LS p).blk.length<=64)/\∀p z,(LS p).inv z->lu P fn id (LS p) z (zf p z).1)(hl:∀e∈l,gD P e):∀e∈(⟨fn,id,gZ P fn id,ptm,LS,zf⟩:LEnt)::l,gD P e:=fun e he=>by
 rcases List.mem_cons.1 he with rfl|he
 ·exact GH h
 ·exact hl e he
end Go.Sym
namespace Go.Sym
noncomputable section
def R8(n:Nat)(_:Nat->Tr)(ih:Nat->St->Lf->Hn->Fm)(σ:St)(K:Lf)(hn:Hn):Fm:=
 ac (Nat.ble n 1) (ih 0 σ K hn) (St.rec (motive:=fun _=>Fm) (fun _ _ fs _ _=>ac (ac (Nat.beq n 2) (Nat.beq fs 0) false) (.al (fun _=>True) fun y=>Gm (y.p 0) .fail .fail (ih 0) (ih 1) σ K hn) .ff) σ)
def Eq(t:Tr):St->Lf->Hn->Fm:=Tr.rec (motive:=fun _=>St->Lf->Hn->Fm) QS UB W3 W4 UC R8 UE Gm UF W5 t
def EvM(r:Fin->Bool)(Φ:AV->St->Prop):Prop:=∀K:Fin,(∀a σ,Φ a σ->K a σ=true)->r K=true
theorem EvM.congr{r r':Fin->Bool}{Φ:AV->St->Prop}(h:∀K,r K=r' K)(he:EvM r' Φ):EvM r Φ:=fun K hK=>(h K).trans (he K hK)
theorem R9{p:Prop}{t e:Tr}{it ie:St->Lf->Hn->Fm}{σ:St}{K:Lf}{hn:Hn}(h:(Gm p t e it ie σ K hn).den):(p->∃a,(it σ K a).den)/\(¬p->∃a,(ie σ K a).den):=by
 have both:∀a b,(Fm.two p (it σ K a) (ie σ K b)).den->(p->∃a,(it σ K a).den)/\(¬p->∃a,(ie σ K a).den):=fun a b h=>⟨fun q=>⟨a,h.1 q⟩,fun q=>⟨b,h.2 q⟩⟩
 cases hn with
 |nil=>exact both _ _ h
 |both a b=>exact both _ _ h
 |yes a=>
  have h:(Fm.an p (it σ K a)).den:=h
  exact⟨fun _=>⟨a,h.2 h.1⟩,fun q=>absurd h.1 q⟩
 |no a=>
  have h:(Fm.an (¬p) (ie σ K a)).den:=h
  exact⟨fun q=>absurd q h.1,fun _=>⟨a,h.2 h.1⟩⟩
theorem R_:∀(t:Tr) (σ:St) (K:Lf) (hn:Hn),(Eq t σ K hn).den->EvM (run t σ) fun a c9=>∃Yi,(K a c9 Yi).den:=by
 intro t
 induction t with
 |fail=>intro σ K hn h;exact h.elim
 |ret a=>intro σ K hn h Q hQ;exact hQ _ _ ⟨hn,h⟩
 |rd b k ih=>
  intro σ K hn h
  cases σ with
  |mk H n fs t w=>
   have h:(ac (Nat.ble (Nat.succ b) n) (T.getK H b Fm.ff fun x=>kM fs b t fun t=>Eq (k x) (.mk H n fs t w) K hn) .ff).den:=h
   rw[ax] at h
   split at h
   ·rename_i hb
    have hb:=aas hb
    rw[T.getK_eq] at h
    split at h
    ·exact h.elim
    ·rename_i x hx
     rw[jC] at h
     refine(ih x _ K hn h).congr fun K=>?_
     rw[gA,if_pos (show b<n from hb),hx]
   ·exact h.elim
 |wr b x k ih=>
  intro σ K hn h
  cases σ with
  |mk H n fs t w=>
   have h:(ac (Nat.ble (Nat.succ b) n) (T.getK H b Fm.ff fun _=>T.setK H b x fun H=>kM fs b t fun t=>ll fs b w fun w=>Eq k (.mk H n fs t w) K hn) .ff).den:=h
   rw[ax] at h
   split at h
   ·rename_i hb
    have hb:=aas hb
    rw[T.getK_eq] at h
    split at h
    ·exact h.elim
    ·rename_i y hy
     rw[T.setK_eq,jC,nC] at h
     refine(ih _ K hn h).congr fun K=>?_
     rw[jf,if_pos (show b<n from hb),hy]
   ·exact h.elim
 |new x k ih=>
  intro σ K hn h
  cases σ with
  |mk H n fs t w=>
   have h:(ac (Nat.ble n 1000000000) (T.getK H n (T.setK H n x fun H=>fN (Nat.succ n) fun m=>Eq (k n) (.mk H m fs t w) K hn) fun _=>Fm.ff) .ff).den:=h
   rw[ax] at h
   split at h
   ·rename_i hb
    have hb:=aas hb
    rw[T.getK_eq] at h
    split at h
    ·rename_i hx
     rw[T.setK_eq,je] at h
     refine(ih n _ K hn h).congr fun K=>?_
     rw[ge,if_pos hb,hx]
    ·exact h.elim
   ·exact h.elim
 |pick n k ih=>
  intro σ K hn h
  have h:(ac (Nat.ble n 1) (Eq (k 0) σ K hn) (St.rec (motive:=fun _=>Fm) (fun _ _ fs _ _=>ac (ac (Nat.beq n 2) (Nat.beq fs 0) false) (.al (fun _=>True) fun y=>Gm (y.p 0) .fail .fail (Eq (k 0)) (Eq (k 1)) σ K hn) .ff) σ)).den:=h
  rw[ax] at h
  split at h
  ·rename_i hb
   refine(ih 0 σ K hn h).congr fun K=>?_
   show ac (Nat.ble n 1) (run (k 0) σ K) _=_
   rw[ax,if_pos hb]
  ·cases σ with
   |mk H m fs t w=>
    have h:(ac (ac (Nat.beq n 2) (Nat.beq fs 0) false) (Fm.al (fun _=>True) fun y=>Gm (y.p 0) .fail .fail (Eq (k 0)) (Eq (k 1)) (.mk H m fs t w) K hn) .ff).den:=h
    rw[ax] at h
    split at h
    ·rename_i hc
     rw[ax] at hc
     split at hc
     ·rename_i h2
      have h2:=aad h2
      have Zh:=aad hc
      subst h2;subst Zh
      obtain⟨a,ha⟩:=(R9 (h ⟨fun _=>0,fun _=>[],fun _=>True,fun _=>[]⟩ trivial)).1 trivial
      obtain⟨b,hb⟩:=(R9 (h ⟨fun _=>0,fun _=>[],fun _=>False,fun _=>[]⟩ trivial)).2 id
      intro Q hQ
      have e1:=ih 0 _ K a ha Q hQ
      have e2:=ih 1 _ K b hb Q hQ
      show gM (fun i=>run (k i) (.mk H m 0 t w) Q) 2=true
      refine lU.mpr fun i hi=>?_
      match i,hi with
      |0,_=>exact e1
      |1,_=>exact e2
     ·cases hc
    ·exact h.elim
 |sub t k iht ihk=>
  intro σ K hn h
  cases σ with
  |mk H n fs tc w=>
   intro Q hQ
   rw[gf]
   refine iht _ _ _ h _ fun a c9 ⟨Yi,h2⟩=>?_
   cases c9 with
   |mk h' n' f' t' w'=>
    have h2:(ac (Nat.beq fs 0) (Eq (k a n n' t' w') (.mk h' n' fs tc w) K Yi)
     (jA fs (T.keys t' id []) tc fun t2=>gV fs w' w fun w2=>Eq (k a n n' t' w') (.mk h' n' fs t2 w2) K Yi)).den:=h2
    rw[ax,oH,mr] at h2
    by_cases hf:fs=0
    ·subst hf
     rw[if_pos (show Nat.beq 0 0=true from rfl)] at h2
     exact ihk a n n' t' w' _ K Yi h2 Q hQ
    ·have:¬Nat.beq fs 0=true:=fun hb=>hf (aad hb)
     rw[if_neg this] at h2
     simp only [if_neg hf]
     exact ihk a n n' t' w' _ K Yi h2 Q hQ
 |ask p t e iht ihe=>
  intro σ K hn h
  obtain⟨h1,h2⟩:=R9 (t:=t) (e:=e) h
  by_cases hp:p
  ·obtain⟨a,h1⟩:=h1 hp
   exact(iht σ K a h1).congr fun K=>eO _ _ _ _ hp
  ·obtain⟨a,h2⟩:=h2 hp
   exact(ihe σ K a h2).congr fun K=>eP _ _ _ _ hp
 |req p t ih=>
  intro σ K hn h
  have h:(Fm.an p (Eq t σ K hn)).den:=h
  exact(ih σ K hn (h.2 h.1)).congr fun K=>eQ _ _ _ h.1
 |sk p z k ih=>
  intro σ K hn h
  have h:(Fm.al p fun y=>Eq (k y) σ K hn).den:=h
  exact ih z.1 σ K hn (h z.1 z.2)
def UN(x D:Tm):Fm:=match x,D with | .g l,.g m=>.at (l=m) | .s l,.s m=>.at (l=m)|_,_=>.ff
theorem Oz{x D:Tm}(h:(UN x D).den):x=D:=by
 cases x <;> cases D <;> first|exact h.elim|exact congrArg _ h
def Er(n:Nat)(r:Sr)(l:List BSh)(t0:Nat)(D:Tm):Lf:=fun a σ _=>match gm n σ.h r l a with
 |some s=>.an s.pr (match s.tm with | [(t,x)]=>ac (Nat.beq t t0) (UN x D) .ff|_=>.ff)
 |none=>.ff
def FSpec.callFmP(S:FSpec)(t0:Nat)(D:Sy->Tm)(P:Program)(M:Tab)(n f:Nat)(z:Sy)(h:Hn):Fm:=
 Eq (pP P (Bl P M n) f (S.argsA z) fun a=>BM (S.out z) (S.res z) a .ret) (start (S.heap z) (base+64)) (Er (List.length S.blk) (S.res z) (S.out z) t0 (D z)) h
theorem Kd{P:Program}{M:Tab}(hM:TabOk P M){n f:Nat}{S:FSpec}{t0:Nat}{D:Sy->Tm}(hp:∀z,S.pre z->S.post z (aX [(t0,D z)]))(h:∀z,S.pre z->∃hn,(S.callFmP t0 D P M n f z hn).den):Ok P f S:=by
 refine⟨fun z=>⟨aX [(t0,D z)],hp z⟩,fun z hz w ρ vs hG hl=>?_⟩
 obtain⟨hn,hd⟩:=h z hz
 refine jz (uT P hM w n).1 f (S.argsA z) vs (fun a=>BM (S.out z) (S.res z) a .ret) (start (S.heap z) (base+64)) (fun a s=>dP (∃Yi,(Er (List.length S.blk) (S.res z) (S.out z) t0 (D z) a s Yi).den)) ρ w _ (qn (by decide) (by decide)) hG hl (R_ _ _ _ _ hd _ fun a σ hd=>dX.2 hd) fun av v c9 ρ' w' q1 q2 q3 q4 q5=>?_
 obtain⟨a',f9,ρ2,q1,q2,q3,q4',q5⟩:=Em q2 q3 q5 q1
 obtain⟨Yi,XC⟩:=dX.1 (show dP (∃Yi,(Er (List.length S.blk) (S.res z) (S.out z) t0 (D z) a' f9 Yi).den)=true from q1)
 unfold Er at XC
 split at XC
 ·rename_i s hs
  obtain⟨h1,h2⟩:=XC
  replace h2:=h2 h1
  split at h2
  ·rename_i t l htm
   rw[ax] at h2
   split at h2
   ·rename_i ht
    have ht:=aad ht
    have h3:l=D z:=Oz h2
    subst ht
    exact⟨v,ρ2,_,_,s,rfl,q3,q4.trans q4',q5,hs,h1,by rw[htm,h3]⟩
   ·exact h2.elim
  ·exact h2.elim
 ·exact XC.elim
end
end Go.Sym
namespace Go.Sym
noncomputable section
variable{H:Type}{enc:TypeId×Value->H}{P:Program}{W:World}
def kB(W:World):Rho:=⟨fun _ _=>none,fun _=>undef,fun _=>False,fun b=>match W.heap[b]? with|some (.cells c t _)=>some (c,t)|_=>none,fun b=>match W.heap[b]? with|some (.cells c t _)=>some (c,t)|_=>none⟩
theorem zt{b:Nat}{c:Array Value}{t:TypeId}{fr:_}(h:W.heap[b]? =some (.cells c t fr)):(kB W).frz b=some (c,t):=by show(match W.heap[b]? with|some (.cells c t _)=>some (c,t)|_=>none)=_;rw[h]
theorem UO(W:World){T:T ABlk}(hT:∀b x,T.get b=some x->BR (kB W) W.heap.size W b x)(hO:∀b k I l,¬T.get b=some (.obj k I l)):Good W (kB W) T W:=
 ⟨⟨Kept.refl _ _ _,hT,(fun b g h hh=>by cases hh),(fun b g h b' g' h' hh=>by cases hh),(fun b g h x hh=>by cases hh),(fun b arr ty hh=>by
  have hh:(match W.heap[b]? with|some (.cells c t _)=>some (c,t)|_=>none)=some (arr,ty):=hh
  split at hh
  ·rename_i c t fr e
   injection hh with hh;injection hh with h1 h2;subst h1;subst h2
   exact⟨⟨fr,e⟩,fun b' g h hh=>by cases hh⟩
  ·cases hh),(fun b x hh _=>hh),(fun b k I l h=>absurd h (hO b k I l))⟩,fun x h=>h.elim⟩
theorem nK{base n:Nat}{a:Addr}{cs:List Value}(h:W.cells? base a n=some cs)(hn:0<n):cs.length=n/\∃arr t fr,W.heap[a.block]? =some (.cells arr t fr)/\a.spot=none/\a.off+n<=arr.size/\∀j,j<n->arr[a.off+j]? =cs[j]? :=by
 obtain⟨h1,h2,h3⟩:=World.cells?_some h
 refine⟨h2, ?_⟩
 have c0:=h3 0 hn
 have j8:∀j,j<n->∃v,W.cell? (a.add j)=some v/\cs[j]? =some v:=fun j hj=>by
  have:=h3 j hj
  rw[aah (by omega)] at this
  exact⟨_,this,aah (by omega)⟩
 obtain⟨v0,e0,_⟩:=j8 0 hn
 unfold World.cell? Addr.add at e0
 rw[if_pos rfl] at e0
 split at e0
 ·rename_i arr t fr hb
  have hs:a.spot=none:=by
   cases hs:a.spot with
   |none=>rfl
   |some x=>rw[hs] at e0;cases e0
  have key:∀j,j<n->arr[a.off+j]? =cs[j]? :=fun j hj=>by
   obtain⟨v,e1,e2⟩:=j8 j hj
   rw[e2, ←e1]
   unfold World.cell? Addr.add
   by_cases hj0:j=0
   ·subst hj0
    rw[if_pos rfl,hb]
    simp [hs]
   ·rw[if_neg hj0]
    show _=(match W.heap[a.block]? with|some (.cells c _ _)=>_|_=>none)
    rw[hb];rfl
  refine⟨arr,t,fr,hb,hs, ?_,key⟩
  obtain⟨v,_,e2⟩:=j8 (n-1) (by omega)
  have:=key (n-1) (by omega)
  rw[e2] at this
  have:=(Array.getElem?_eq_some_iff.1 this).1
  omega
 ·cases e0
theorem GI(a:Addr)(k:Nat):(a.add k).block=a.block:=by unfold Addr.add;split <;> rfl
theorem OA(a:Addr)(k:Nat):(a.add k).off=a.off+k:=by
 unfold Addr.add;split
 ·rename_i h;rw[h];rfl
 ·rfl
theorem oM{e:TypeId}{N:Nat}:∀{l:List (DataW H)},(∀k∈DataW.weightsAll P e l,k<=N)->∀d∈l,∀k∈d.weights P e,k<=N
 |d::l,h,x,hx,k,hk=>by
  rw[DataW.weightsAll] at h
  rcases List.mem_cons.1 hx with rfl|hx
  ·exact h k (abs _ hk)
  ·exact oM (fun k hk=>h k (List.mem_append_right _ hk)) x hx k hk
theorem fm{N:Nat}:∀{ts:List TypeId} {l:List (DataW H)},(∀k∈DataW.weightsEach P ts l,k<=N)->∀(i:Nat) (t:TypeId) (d:DataW H),ts[i]? =some t->l[i]? =some d->∀k∈d.weights P t,k<=N
 | [],_,_,_,_,_,ht,_,_,_=>by cases ht
 |_::_,[],_,_,_,_,_,hd,_,_=>by cases hd
 |u::ts,x::l,h,0,t,d,ht,hd,k,hk=>by
  rw[DataW.weightsEach] at h
  injection ht with ht;injection hd with hd;subst ht;subst hd
  exact h k (abs _ hk)
 |u::ts,x::l,h,i+1,t,d,ht,hd,k,hk=>by
  rw[DataW.weightsEach] at h
  exact fm (ts:=ts) (l:=l) (fun k hk=>h k (List.mem_append_right _ hk)) i t d ht hd k hk
theorem qM{sp:Nat->Bool}{held:Bool}{t e:TypeId}{m N:Nat}(YO:∀b,sp b=true)(ht:P.underlying t=some (.slice e))(p8:P.cellsOf e=bp (cK m))(j4:0<bp (cK m))(hbe:0<P.bytesOf e)(Q:G->Prop)
  {n:Nat} (hel:∀cs x,DataW.trod enc P W 0 sp held n e cs=some x->(∀k∈x.1.weights P e,k<=N)->∃g,Q g/\LR (kB W) (bx (cK m) g 0) cs)
  {cs:List Value} {x:DataW H×List MemPlace} (h:DataW.trod enc P W 0 sp held (n+1) t cs=some x) (hw:∀k∈x.1.weights P t,k<=N):
  ∃v l,cs= [v]/\VR (kB W) (.cv (.rows m l)) v/\(∀g∈l,Q g)/\l.length<=N:=by
 rcases DataW.trod_slice ht h with⟨rfl,rfl⟩|⟨a,len,cap,elems,rest,n',hn,rfl,rfl,hb,XR,hcm,hll,hi,hr,_⟩
 ·exact⟨_,[],rfl,.cvnil _ rfl,(fun _ hg=>absurd hg List.not_mem_nil),aal _⟩
 ·injection hn with hn
  subst hn
  rw[p8] at hi hr
  obtain⟨hr1,hr2⟩:=hr (YO _)
  have hw':∀k∈((elems.map (·.1)).length * P.bytesOf e+(rest.map (·.1)).length * P.bytesOf e)::(DataW.weightsAll P e (elems.map (·.1))++DataW.weightsAll P e (rest.map (·.1))),k<=N:=by
   have:=hw
   simp only [DataW.weights,ht,aav] at this
   exact this
  have hlN:len<=N:=by
   have:=hw' _ aay
   rw[aaO,hll] at this
   have h2:len * 1<=len * P.bytesOf e:=Nat.mul_le_mul_left _ hbe
   omega
  have hwe:∀d∈elems.map (·.1),∀k∈d.weights P e,k<=N:=oM fun k hk=>hw' k (aaw _ (abs _ hk))
  have each:∀i,i<len->∃g YP,Q g/\W.cells? 0 (a.add (i * bp (cK m))) (bp (cK m))=some YP/\LR (kB W) (bx (cK m) g 0) YP:=fun i hl=>by
   have e1:=hi i hl
   rw[aah (by omega)] at e1
   obtain⟨YP,e2,e3⟩:=Option.bind_eq_some_iff.1 e1
   obtain⟨g,g1,g2⟩:=hel YP _ e3 (hwe _ (List.mem_map_of_mem (f:=fun y:DataW H×List MemPlace=>y.1) (abe _)))
   exact⟨g,YP,g1,e2,g2⟩
  by_cases hc0:cap=0
  ·have:len=0:=by omega
   subst hc0;subst this
   exact⟨_,[],rfl,.cvempty _ a rfl,(fun _ hg=>absurd hg List.not_mem_nil),aal _⟩
  ·have first:∃arr ty fr,W.heap[a.block]? =some (.cells arr ty fr)/\a.spot=none/\a.off<=arr.size:=by
    by_cases hl:0<len
    ·obtain⟨g,YP,_,e2,_⟩:=each 0 hl
     obtain⟨_,arr,ty,fr,q1,q2,q3,_⟩:=nK e2 j4
     rw[aa8] at q1 q2 q3
     exact⟨arr,ty,fr,q1,q2,by have:(a.add 0).off=a.off:=rfl;omega⟩
    ·have e1:=hr2 0 (by omega)
     have h0:len=0:=by omega
     rw[show len+0=0 by omega,aa8,aah (by omega)] at e1
     obtain⟨YP,e2,_⟩:=Option.bind_eq_some_iff.1 e1
     obtain⟨_,arr,ty,fr,q1,q2,q3,_⟩:=nK e2 j4
     exact⟨arr,ty,fr,q1,q2,by have:(a.add 0).off=a.off:=rfl;omega⟩
   obtain⟨arr,ty,fr,hH,hS,hO⟩:=first
   have fr2:∀i,i<len->∃g YP,Q g/\LR (kB W) (bx (cK m) g 0) YP/\a.off+i * bp (cK m)+bp (cK m)<=arr.size/\∀j,j<bp (cK m)->arr[a.off+i * bp (cK m)+j]? =YP[j]? :=fun i hl=>by
    obtain⟨g,YP,g1,e2,g2⟩:=each i hl
    obtain⟨_,m7,XI,fr',q1,_,q3,q4⟩:=nK e2 j4
    rw[GI,hH] at q1
    injection q1 with q1;injection q1 with q1
    subst q1
    rw[OA] at q3 q4
    exact⟨g,YP,g1,g2,q3,q4⟩
   let f:_root_.Fin len->G:=fun i=>Classical.choose (fr2 i.1 i.2)
   have hf:∀i:_root_.Fin len,∃YP,Q (f i)/\LR (kB W) (bx (cK m) (f i) 0) YP/\a.off+i.1 * bp (cK m)+bp (cK m)<=arr.size/\∀j,j<bp (cK m)->arr[a.off+i.1 * bp (cK m)+j]? =YP[j]? :=fun i=>aa6 (fr2 i.1 i.2)
   refine⟨_,List.ofFn f,rfl, ?_,fun g hg=>?_,by rw[List.length_ofFn];exact hlN⟩
   ·obtain⟨bl,off,spot⟩:=a
    have hS:spot=none:=hS
    subst hS
    have hlen:(Ct.rows m (List.ofFn f)).len=len:=List.length_ofFn
    have hr0:VR (kB W) (.cv (.rows m (List.ofFn f))) (.slice (some ⟨bl,off,none⟩) (Ct.rows m (List.ofFn f)).len cap):=by
     refine .cv (.rows m (List.ofFn f)) bl off cap arr ty (zt hH) (by rw[hlen];exact XR) ?_ fun i j av v hi' hav hv=>?_
     ·rw[hlen]
      show off+len * bp (cK m)<=arr.size
      by_cases hl:0<len
      ·obtain⟨_,_,_,q,_⟩:=hf ⟨len-1,by omega⟩
       have q:off+(len-1) * bp (cK m)+bp (cK m)<=arr.size:=q
       have e:len * bp (cK m)=(len-1) * bp (cK m)+bp (cK m):=by
        have:len=(len-1)+1:=by omega
        conv=>lhs;rw[this,aav,Nat.one_mul]
       omega
      ·have:len=0:=by omega
       rw[this,aa8];exact hO
     ·rw[hlen] at hi'
      obtain⟨YP,_,hL,_,q⟩:=hf ⟨i,hi'⟩
      have hgi:aq (List.ofFn f) i=f ⟨i,hi'⟩:=by
       unfold aq
       rw[aag,aah (by rw[List.length_ofFn];exact hi'),List.getElem_ofFn];rfl
      have hav:(bx (cK m) (aq (List.ofFn f) i) 0)[j]? =some av:=hav
      rw[hgi] at hav
      have hj:j<bp (cK m):=by
       have:=(List.getElem?_eq_some_iff.1 hav).1
       rwa [pD] at this
      have hv:arr[off+i * bp (cK m)+j]? =some v:=hv
      have q:arr[off+i * bp (cK m)+j]? =YP[j]? :=q j hj
      rw[q] at hv
      exact hL.2 j av v hav hv
    rw[hlen] at hr0
    exact hr0
   ·obtain⟨i,rfl⟩:=List.mem_ofFn.1 hg
    exact(hf i).choose_spec.1
end
end Go.Sym
namespace Go.Sym
theorem NM{P:Program}{f:Nat}{S:FSpec}(h:∀z,¬S.pre z):Ok P f S:=⟨fun z=>⟨⟨fun _=>0,fun _=>[],fun _=>False,fun _=>[]⟩,fun hp=>absurd hp (h z)⟩,fun z hz=>absurd hz (h z)⟩
theorem eK{P:Program}{f:Nat}{S:FSpec}{l:List Ent}(h:Ok P f S)(hl:∀e∈l,iY P e):∀e∈(⟨f,S,Classical.choose h,false⟩:Ent)::l,iY P e:=eC (aa6 h) hl
theorem lK{P:Program}{f:Nat}{S:FSpec}{l:List Ent}(h:Ok P f S)(hl:∀e∈l,iY P e):∀e∈(⟨f,S,Classical.choose h,true⟩:Ent)::l,iY P e:=eC (aa6 h) hl
theorem eL{P:Program}{fn id:Nat}{ptm:List (Nat×Sa)}{LS:Sy->LSpec}{l:List LEnt}(h:dU P fn id LS)(hl:∀e∈l,gD P e):∀e∈(⟨fn,id,gZ P fn id,ptm,LS,Classical.choose h⟩:LEnt)::l,gD P e:=lC (aa6 h) hl
theorem bS{P:Program}{m:List Memo}{c:List Ent}{l:List LEnt}{f:Nat}{S:FSpec}{T:Sy->Fm}{hn:Hn}(n:Nat)(hm:∀x∈m,lj P x)(hc:∀e∈c,iY P e)(hl:∀e∈l,gD P e)(hd:∀z,S.pre z->(T z).den)(he:∀z,S.callFm P (Ep m c l) n f z hn=T z:=by intro _;kernel_rfl):Ok P f S:=Ou (qL hm hc hl) fun z hz=>⟨hn,by rw[he];exact hd z hz⟩
theorem WD{P:Program}{m:List Memo}{c:List Ent}{l:List LEnt}{f:Nat}{S:FSpec}{T:Sy->Fm}{hn:Hn}{t0:Nat}{D:Sy->Tm}(n:Nat)(hm:∀x∈m,lj P x)(hc:∀e∈c,iY P e)(hl:∀e∈l,gD P e)(hd:∀z,S.pre z->(T z).den)(hp:∀z,S.pre z->S.post z (aX [(t0,D z)]):=by intro _ _;rfl)(he:∀z,S.callFmP t0 D P (Ep m c l) n f z hn=T z:=by intro _;kernel_rfl):Ok P f S:=Kd (qL hm hc hl) hp fun z hz=>⟨hn,by rw[he];exact hd z hz⟩
theorem bH{P:Program}{m:List Memo}{c:List Ent}{l:List LEnt}{fn id:Nat}{LS:Sy->LSpec}{T:Sy->Sy->Fm}{hn:Hn}(n:Nat)(hm:∀x∈m,lj P x)(hc:∀e∈c,iY P e)(hl:∀e∈l,gD P e)(hd:∀p z,(LS p).inv z->(T p z).den)(he:∀p z,(LS p).roundFm P (Ep m c l) n fn id z hn=T p z:=by intro _ _;kernel_rfl)(hi:fa P fn id=true:=by kernel_rfl)(d8:∀p,Nat.ble (LS p).blk.length 64=true:=by intro _;rfl)(hgl:∀p g ty l,(LS p).gl=some (g,ty,l)->g<1048576:=by intro p g ty l h;cases h):dU P fn id LS:=R7 (qL hm hc hl) hi (fun p=>aas (d8 p)) (fun p z hz=>⟨hn,by rw[he];exact hd p z hz⟩) hgl
def hD:Nat->Nat->Hn×Nat
 |0,n=>(.nil,n)
 |k+1,n=>match n%4 with
  |0=>(.nil,n/4)
  |1=>(.both (hD k (n/4)).1 (hD k (hD k (n/4)).2).1,(hD k (hD k (n/4)).2).2)
  |2=>(.yes (hD k (n/4)).1,(hD k (n/4)).2)
  |_=>(.no (hD k (n/4)).1,(hD k (n/4)).2)
def hC(k n:Nat):Hn:=(hD k n).1
abbrev Fm.ax(q:Prop):Fm:=.an True (.at q)
abbrev Fm.ct(q:Prop)(r:Sy->Prop)(f:Sy->Fm):Fm:=.an (True/\q) (.al (fun y=>q->r y) f)
abbrev Fm.cl(a q:Prop)(r:Sy->Prop)(f:Sy->Fm):Fm:=.an (a/\q) (.al (fun y=>q->r y) f)
end Go.Sym
