/- Part 4. -/
import Derived.ChangeArms
import Derived.DataReads
import GoSem.ClaimJoined
import Derived.Test.YtomfobckhogpnaaGreatDoorP3
set_option linter.all false
namespace Go.Sym
open Go.RowKit (Below)
def Y9:AEx->Exit
 | .normal=>.normal
 | .exit id=>.exit id
 | .goto l=>.goto l
 | .ret=>.ret
def L0(w0:World)(ρ:Rho)(K:Fin)(nt:Nat)(k:XK)(Q:Exit->Act->World->Prop):Prop:=
 ∀ex env' df' a9 ρ' w' a',run (k ex env' df') a9 K=true->SI a9->Good w0 ρ' a9.h w'->ρ.le ρ'->ER ρ' nt env' a'.tmps->DR ρ' df' a'.defers->Q (Y9 ex) a' w'
def RW(ρ:Rho):Option Nat->Option Nat->Prop
 |none,r=>r=none
 |some l,r=>∃h,ρ.at_ l 0=some h/\r=some h.blk
def RW.mono{ρ ρ':Rho}(hle:ρ.le ρ'){eK rd:Option Nat}(h:RW ρ eK rd):RW ρ' eK rd:=by
 cases eK with
 |none=>exact h
 |some l=>obtain⟨x,h1,h2⟩:=h;exact⟨x,hle.at_ _ _ _ h1,h2⟩
inductive SubC:Code->Code->Prop where
 |refl (c:Code):SubC c c
 |seqL {a b c:Code} (h:SubC (.seq a b) c):SubC a c
 |seqR {a b c:Code} (h:SubC (.seq a b) c):SubC b c
 |condL {x:Operand} {a b c:Code} (h:SubC (.cond x a b) c):SubC a c
 |condR {x:Operand} {a b c:Code} (h:SubC (.cond x a b) c):SubC b c
 |block {id:Nat} {a c:Code} (h:SubC (.block id a) c):SubC a c
 |loop {a c:Code} (h:SubC (.loop a) c):SubC a c
def InF(P:Program)(f:Nat)(eK:Option Nat)(c:Code):Prop:=eK=none->zU c=true∨∃fn b,P.funcs[f]? =some fn/\fn.body=some b/\SubC c b
def InF.sub{P:Program}{f:Nat}{eK:Option Nat}{c d:Code}(h:InF P f eK c)(hs:∀b,SubC c b->SubC d b)(hj:zU c=false):InF P f eK d:=λhr=>by
 rcases h hr with h|⟨fn,b,h1,h2,h3⟩
 ·rw[hj] at h;cases h
 ·exact .inr ⟨fn,b,h1,h2,hs b h3⟩
def InF.round{P:Program}{f l:Nat}{c:Code}:InF P f (some l) c:=λh=>by cases h
def Dl(P:Program)(w0:World)(x:X):Prop:=
 ∀(c:Code) (env:T AV) (nt f:Nat) (df:List Nat) (k:XK) (σ:St) (K:Fin) (ρ:Rho) (w:World) (a:Act) (Q:Exit->Act->World->Prop) (eK rd:Option Nat),RW ρ eK rd->SI σ->Good w0 ρ σ.h w->ER ρ nt env a.tmps->DR ρ df a.defers->
  run (x c env nt f eK df k) σ K=true->L0 w0 ρ K nt k Q->InF P f eK c->c.wpIn (fR rd) 0 P Q a w
def jx(P:Program)(rd:Option Nat)(c:Code)(Q:Exit->Act->World->Prop)(a:Act)(w:World):Prop:=
 ∀(b:Frame) (k:List Item) (cs:List Frame),b.roundOf=(fR rd).round->(fR rd).fn b.fn->(fR rd).room (cs.length+1+0)->
  ∃e a' w',Q e a' w'/\ArrivesIn (Machine.fenced P (fR rd)) P (lone (b.atR a (.code c:: .inLoop c::k)) cs w) b k cs e a' w'
def Rr(P:Program)(w0:World)(x:X):Prop:=
 ∀(c:Code) (env:T AV) (nt f:Nat) (df:List Nat) (k:XK) (σ:St) (K:Fin) (ρ:Rho) (w:World) (a:Act) (Q:Exit->Act->World->Prop) (eK rd:Option Nat),RW ρ eK rd->SI σ->Good w0 ρ σ.h w->ER ρ nt env a.tmps->DR ρ df a.defers->
  run (x (.loop c) env nt f eK df k) σ K=true->L0 w0 ρ K nt k Q->InF P f eK (.loop c)->jx P rd c Q a w
section
variable{P:Program}{w0:World}{ρ:Rho}{w:World}{σ:St}{K:Fin}{nt:Nat}{env:T AV}{a:Act}
def IV{k:T AV->Tr}:∀(l:List AV) (i:Nat) (t:T AV),run (K7 l i t k) σ K=true->
 ∃c,run (k c) σ K=true/\∀o x,c.get o=some x->(∃(j:Nat),o=i+j/\l[j]? =some x)∨(t.get o=some x/\(o<i∨i+l.length<=o)):=by
 intro l
 induction l with
 |nil=>intro i t h;exact⟨t,h,λo x hx=>.inr ⟨hx,by simp;omega⟩⟩
 |cons a l ih=>
  intro i t h
  have h:run (T.setK t i a λt=>fN (Nat.succ i) λi=>K7 l i t k) σ K=true:=h
  rw[T.setK_eq] at h
  obtain⟨c,h1,h2⟩:=ih _ _ (ke h)
  refine⟨c,h1,λo x hx=>?_⟩
  rcases h2 o x hx with⟨j,e,hb⟩|⟨hx',ho⟩
  ·exact .inl ⟨j+1,by omega,by simpa using hb⟩
  ·by_cases e:o=i
   ·subst e;have:=T.get_set_some _ _ hx';exact .inl ⟨0,by omega,by rw[this];rfl⟩
   ·rw[T.get_set_ne _ e] at hx';exact .inr ⟨hx',by simp at ho⊢;omega⟩
def Rs{l:List AV}{vs:List Value}{n:Nat}{c:T AV}(hl:LR ρ l vs)(hn:l.length<=n)(hc:∀o x,c.get o=some x->(∃(j:Nat),o=0+j/\l[j]? =some x)∨((T.leaf:T AV).get o=some x/\(o<0∨0+l.length<=o))):
 ER ρ n c (vs.toArray++Array.replicate (n-vs.toArray.size) undef):=by
 refine⟨by simp [hl.1];omega,λt x hx=>?_⟩
 rcases hc t x hx with⟨j,e,hj⟩|⟨h,_⟩
 ·have:t=j:=by omega
  subst this;obtain⟨v,hv,hr⟩:=hl.get hj;refine⟨v, ?_,hr⟩;have c9:t<vs.length:=by
   rcases aah t vs.length with h'|h'
   ·exact h'
   ·rw[aam h'] at hv;cases hv
  rw[Array.getElem?_append_left (by simpa using c9)];simpa using hv
 ·simp [T.get] at h
def ZJ(k:AV->Tr):List AV->Tr
 | [v]=>k v
 |l=>k (.tup l)
def ZK{l:List AV}{vs:List Value}{k:AV->Tr}(hl:LR ρ l vs)(h:run (ZJ k l) σ K=true):∃av,run (k av) σ K=true/\VR ρ av (IS vs):=by
 have tup:∀(l:List AV) (vs:List Value),LR ρ l vs->VR ρ (.tup l) (.tuple vs.toArray):=λl vs hl=>by
  have:LR ρ l vs.toArray.toList:=by simpa using hl
  exact .tup _ _ this.arr.1 this.arr.2
 cases l with
 |nil=>rw[hl.nil_inv];exact⟨_,h,tup _ _ (LR.nil ρ)⟩
 |cons a l=>
  obtain⟨v,vs1,rfl,hv,hl1⟩:=hl.cons_inv
  cases l with
  |nil=>rw[hl1.nil_inv];exact⟨_,h,hv⟩
  |cons b l=>obtain⟨u,vs2,rfl,hu,hl2⟩:=hl1.cons_inv;exact⟨_,h,tup _ _ hl⟩
def iP{x:X}(hx:Dl P w0 x):Ax P w0 (nu P x):=by
 intro f l vs k σ K ρ w R hS hG hl h hR;obtain⟨fn,hf,h⟩:=ce h;obtain⟨c,hb,h⟩:=ce h;obtain⟨ad0,h⟩:=rJ h;have ad0:¬fn.name= "runtime.NumGoroutine" :=by simpa using ad0
 obtain⟨hlen,h⟩:=ay h;have hlen:=bU hlen;obtain⟨env,h,hc⟩:=IV _ _ _ h;have hE:=Rs hl hlen hc;refine⟨λargs=>?_,callsIn_of_wp_marks hf hb trivial ?_⟩
 ·simp [callFunc,hf,ad0,hb]
 ·refine hx c env fn.ntmps f [] _ σ K ρ w _ _ none none rfl hS hG hE trivial h (λex env' df' a9 ρ' w' a' h1 h2 h3 h4 h5 h6=>?_) (λ_=>.inr ⟨fn,c,hf,hb,.refl c⟩)
  have main:run (xd df' (K8 P env' fn.results.toList λl=>(match l with | [v]=>k v|l=>k (.tup l)))) a9 K=true->LeavesInM Fence.wide 0 P fn a'.tmps R a'.defers .returning w':=λh=>by refine WD (λd8 w2 g1 g2 g3=>?_) _ _ _ _ h h2 h3 h6;obtain⟨avs,vs,σ3,q1,q2,q3,q4,q5⟩:=resT (P:=P) h5 _ _ _ g1 g2 g3;have q1:run (ZJ k avs) σ3 K=true:=q1;obtain⟨av,r1,r2⟩:=ZK q4 q1;exact⟨IS vs,Ay q5,hR av _ σ3 ρ' w2 r1 q2 q3 h4 r2⟩
  cases ex with
  |normal=>exact main h1
  |ret=>exact main h1
  |exit id=>exact(ah h1).elim
  |goto l=>exact(ah h1).elim
def UC(P:Program)(f:Nat)(arg:List Nat)(res:AV):Prop:=
 ∀(s:ByteArray) (w:World),bytesOf s=arg->Calls P f #[.string s] w λe w'=>∃v,e= .returned v/\(∀ρ,VR ρ res v)/\Below w.heap.size w w'
def UD(P:Program)(f ty:Nat)(arg:List Nat)(res:AV):Prop:=
 ∀(blk:Nat) (arr:Array Value) (fr:Nat×Nat) (c:Nat) (w:World),w.heap[blk]? =some (.cells arr ty fr)->(∀(i n:Nat),arg[i]? =some n->arr[i]? =some (Value.int .u8 (n:Nat)))->arg.length<=c->c<=arr.size->
  Calls P f #[.slice (some ⟨blk,0,none⟩) arg.length c] w λe w'=>∃v,e= .returned v/\(∀ρ,VR ρ res v)/\Below w.heap.size w w'
def UE(P:Program)(f:Nat)(res:AV):Prop:=
 ∀(w:World),Calls P f #[] w λe w'=>∃v,e= .returned v/\(∀ρ,VR ρ res v)/\Below w.heap.size w w'
def my(P:Program):Memo->Prop
 | .mk f none arg res=>UC P f arg res
 | .mk f (some _) [] res=>UE P f res
 | .mk f (some ty) (a::arg) res=>UD P f ty (a::arg) res
def IW{a b:Option Nat}(h:C2 a b=true):a=b:=by cases a <;> cases b <;> first|rfl|(cases h;done)|(have:=aM h;subst this;rfl)
def mz{f:Nat}{ty:Option Nat}{arg:List Nat}{r:AV}:∀{l:List Memo},dX f ty arg l=some r->Memo.mk f ty arg r∈l:=by
 intro l
 induction l with
 |nil=>intro h;cases h
 |cons m l ih=>
  intro h
  cases m with
  |mk g u a q=>
   have h:ac (Nat.beq f g) (ac (C2 ty u) (ac (Ik arg a) (some q) (dX f ty arg l)) (dX f ty arg l)) (dX f ty arg l)=some r:=h;rw[ar,ar,ar] at h;split at h
   ·rename_i h1;split at h
    ·rename_i h2;split at h
     ·rename_i h3;injection h with h5;have e1:=aM h1;have e2:=IW h2;have e3:=(xi _ _).1 h3;rw[e1,e2,e3,h5];exact aan
     ·exact aal _ (ih h)
    ·exact aal _ (ih h)
   ·exact aal _ (ih h)
def IX{f:Nat}(h:lU P f=true)(args:Array Value):(callFunc f args).run P w= .ok (.enter f args) w:=by
 unfold lU at h;split at h
 ·rename_i fn hf;split at h
  ·rename_i c hb;have hn:¬fn.name= "runtime.NumGoroutine" :=by simpa using h
   simp [callFunc,hf,hn,hb]
  ·cases h
 ·cases h
def Good.later{H:T ABlk}{w':World}(hG:Good w0 ρ H w)(hb:Below w.heap.size w w'):Good w0 ρ H w':=
 ⟨⟨hG.below.trans (Kept.of (hb.mono hG.below.size)),λb x hx=>(hG.blk b x hx).keep (Rho.le.refl ρ) λg h hh=>hb.block _ (hG.dom _ _ _ hh).1,λb g h hh=>by
  obtain⟨q1,q2⟩:=hG.dom b g h hh;exact⟨aa4 q1 hb.size,q2⟩,hG.inj,hG.gens,λb arr ty hf=>by
  obtain⟨⟨fr,q1⟩,q2⟩:=hG.frz b arr ty hf;have c9:b<w.heap.size:=by
   rcases aah b w.heap.size with h'|h'
   ·exact h'
   ·rw[aaV h'] at q1;cases q1
  exact⟨⟨fr,by rw[hb.block b c9];exact q1⟩,q2⟩,hG.frzB,hG.objO⟩,hG.ownB⟩
def L2{M:List Memo}(hM:∀m∈M,my P m){en:c_}(hen:Ax P w0 en):Ax P w0 (K9 P M en):=by
 intro f l vs k σ K ρ w R hS hG hl h hR
 have hit:∀(b7:St) (r:AV),run (ac (lU P f) (k r) .fail) b7 K=true->SI b7->Good w0 ρ b7.h w->(Calls P f vs.toArray w λe w'=>∃v,e= .returned v/\(∀ρ,VR ρ r v)/\Below w.heap.size w w')->
  (∀args:Array Value,(callFunc f args).run P w= .ok (.enter f args) w)/\CallsIn Fence.wide 0 P f vs.toArray w R:=by
  intro b7 r h b6 b9 hc
  obtain⟨ht,h⟩:=ay h
  refine⟨IX ht,(callsIn_wide.2 hc).mono λe w' he=>?_⟩
  obtain⟨v,rfl,hv,hb⟩:=he
  exact hR r v b7 ρ w' h b6 (b9.later hb) (Rho.le.refl ρ) (hv ρ)
 rcases bT h with⟨_,h⟩|⟨_,h⟩
 case inr=>exact hen f l vs k σ K ρ w R hS hG hl h hR
 have other:∀b7,SI b7->b7.h=σ.h->run (en f l k) b7 K=true->(∀args:Array Value,(callFunc f args).run P w= .ok (.enter f args) w)/\CallsIn Fence.wide 0 P f vs.toArray w R:=λb7 b6 e1 h=>
  hen f l vs k b7 K ρ w R b6 (by rw[e1];exact hG) hl h hR
 cases l with
 |nil=>
  have hv:=hl.nil_inv
  subst hv
  have h:run (du (dX f (some 0) [] M) (en f [] k) λr=>ac (lU P f) (k r) .fail) σ K=true:=h
  cases hr:dX f (some 0) [] M with
  |none=>rw[hr] at h;exact other σ hS rfl h
  |some r=>rw[hr] at h;have hm:UE P f r:=hM _ (mz hr);exact hit σ r h hS hG (hm w)
 |cons a l=>
  cases l with
  |cons a2 l=>exact other σ hS rfl h
  |nil=>
   have h:run (ZA P M f a k (en f [a] k)) σ K=true:=h
   obtain⟨v,E',rfl,hv,q9⟩:=hl.cons_inv
   have:=q9.nil_inv
   subst this
   cases hv with
   |str s=>
    have h:run (du (dX f none (bytesOf s) M) (en f [.str (bytesOf s)] k) λr=>ac (lU P f) (k r) .fail) σ K=true:=h
    cases hr:dX f none (bytesOf s) M with
    |none=>rw[hr] at h;exact other σ hS rfl h
    |some r=>rw[hr] at h;have hm:UC P f (bytesOf s) r:=hM _ (mz hr);exact hit σ r h hS hG (hm s w rfl)
   |slc b g o n cap es a cc V'=>
    cases cap with
    |some _=>exact other σ hS rfl h
    |none=>
     rcases bT h with⟨ho,h⟩|⟨_,h⟩
     case inr=>exact other σ hS rfl h
     rcases bT h with⟨B',h⟩|⟨_,h⟩
     case inr=>exact other σ hS rfl h
     have ho:=aM ho
     have B':=aM B'
     obtain⟨q,b7,hq,e1,b6,h⟩:=bE hS h
     have b9:Good w0 ρ b7.h w:=by rw[e1];exact hG
     cases q with
     |cells c gen lo hi fl fh ro ty=>
      obtain⟨k1,z1⟩:=ay h
      obtain⟨k2,z2⟩:=ay z1
      obtain⟨k3,z3⟩:=ay z2
      have k1:=aM k1
      have k2:=bU k2
      have k3:=bU k3
      obtain⟨av,z4,hlen,l6⟩:=ZF z3
      obtain⟨bs,hbs,z5⟩:=ce z4
      cases hr:dX f (some ty) bs M with
      |none=>have z6:run (du (dX f (some ty) bs M) (en f [.slc b g o n none es] k) λr=>ac (lU P f) (k r) .fail) b7 K=true:=z5;rw[hr] at z6;exact other b7 b6 e1 z6
      |some r=>
       have z6:run (du (dX f (some ty) bs M) (en f [.slc b g o n none es] k) λr=>ac (lU P f) (k r) .fail) b7 K=true:=z5;rw[hr] at z6;obtain⟨hlc,ab4⟩:=V';obtain⟨hm,hh,hos,ea,ac2⟩:=ab4.resolve_left (λhc=>by omega);subst ho;subst B';have hs0:hm.shift=0:=by omega
       have hB:=hG.blk _ _ hq;obtain⟨hm',q1,_,_,arr,fr,q3,q4,q5,q6⟩:=hB.2 g k2;rw[hh] at q1;injection q1 with q1;subst q1;obtain⟨hbl,al2⟩:=IQ (o0:=0) hbs l6 (λo tag a ho ht=>q6 o tag a ho ht) hs0;rw[hlen] at hbl;have hm2:UD P f ty bs r:=by
        have hm3:=hM _ (mz hr)
        cases bs with
        |nil=>simp at hbl;omega
        |cons _ _=>exact hm3
       refine hit b7 r z6 b6 b9 ?_;have:=hm2 hm.blk arr fr cc w q3 (λi m hi=>by have:=al2 i m hi;rwa [aap] at this) (by rw[hbl];exact hlc) (by rw[hs0] at ac2;omega);rw[hbl] at this;rw[ea,hs0];exact this
     |_=>exact(ah h).elim
   |_=>exact other σ hS rfl h
def nF{M:Tab}{x:X}(hx:Dl P w0 x)(hl:Rr P w0 x):Rr P w0 (FX P M x):=by
 intro c env nt f df k σ K ρ w a Q eK rd hW hS hG hE hD h hQ hC b kk cs hro hb hr
 have h:run (x c env nt f eK df λex env df=>(match ex with
  | .normal=>x (.loop c) env nt f eK df k
  |ex=>k ex env df)) σ K=true:=h
 have hc:c.wpIn (fR rd) 0 P (λe a' w'=>match e with | .normal=>jx P rd c Q a' w'|e=>Q e a' w') a w:=by
  refine hx c env nt f df _ σ K ρ w a _ eK rd hW hS hG hE hD h (λex env' df' a9 ρ' w' a' h1 h2 h3 h4 h5 h6=>?_) (hC.sub (λ_=>.loop) rfl)
  cases ex with
  |normal=>exact hl c env' nt f df' k a9 K ρ' w' a' Q eK rd (hW.mono h4) h2 h3 h5 h6 h1 (λex2 ah5 df2 d8 ρ2 w2 a2 g1 g2 g3 g4 g5 g6=>hQ ex2 ah5 df2 d8 ρ2 w2 a2 g1 g2 g3 (h4.trans g4) g5 g6) hC
  |exit id=>exact hQ (.exit id) env' df' a9 ρ' w' a' h1 h2 h3 h4 h5 h6
  |goto l=>exact hQ (.goto l) env' df' a9 ρ' w' a' h1 h2 h3 h4 h5 h6
  |ret=>exact hQ .ret env' df' a9 ρ' w' a' h1 h2 h3 h4 h5 h6
 obtain⟨e,a₁,w₁,hq,ab6⟩:=hc b (.inLoop c::kk) cs hro hb hr
 cases e with
 |normal=>obtain⟨e₂,a₂,w₂,hq₂,harr₂⟩:=hq b kk cs hro hb hr;exact⟨e₂,a₂,w₂,hq₂,.of_steps (StepsIn.trans ab6 (.one (fenced_calm hb hr rfl) stepR_inLoop)) harr₂⟩
 |exit id=>exact⟨_,a₁,w₁,hq,.pass (x:=.inLoop c) rfl (λ_ _=>.inl (by simp)) ab6⟩
 |goto l=>exact⟨_,a₁,w₁,hq,.pass (x:=.inLoop c) rfl (λ_ _=>.inl (by simp)) ab6⟩
 |ret=>exact⟨_,a₁,w₁,hq,.pass (x:=.inLoop c) rfl (λ_ _=>.inl (by simp)) ab6⟩
 |panic ch=>exact⟨_,a₁,w₁,hq,.pass (x:=.inLoop c) rfl (λ_ _=>.inl (by simp)) ab6⟩
 |outgrown=>exact⟨_,a₁,w₁,hq,.pass (x:=.inLoop c) rfl (λ_ _=>.inl (by simp)) ab6⟩
def ZL{av:AV}{v:Value}{t e:Tr}(hv:VR ρ av v)(h:run (Us av t e) σ K=true):∃b,v= .bool b/\(b=true->run t σ K=true)/\(b=false->run e σ K=true):=by
 cases hv with
 |bool b=>
  rcases bT h with⟨e1,h⟩|⟨e1,h⟩
  ·subst e1;exact⟨true,rfl,λ_=>h,(λe=>by cases e)⟩
  ·subst e1;exact⟨false,rfl,(λe=>by cases e),λ_=>h⟩
 |anyB b=>have hp:=E_ (n:=2) h;exact⟨b,rfl,λ_=>hp 0 (.inl rfl) (λ_=>rfl),λ_=>hp 1 (.inr (by omega)) (λh=>absurd h (by omega))⟩
 |sB p b hb=>
  refine⟨b,rfl,λe1=>?_,λe1=>?_⟩
  ·rcases dw h with⟨_,h⟩|⟨hp,_⟩
   ·exact h
   ·exact absurd (hb.1 e1) hp
  ·rcases dw h with⟨hp,_⟩|⟨_,h⟩
   ·exact absurd (hb.2 hp) (by rw[e1];simp)
   ·exact h
 |_=>exact(ah h).elim
def IY{rd:Option Nat}{c:Code}{Q:Exit->Act->World->Prop}(hc:c.wpIn (fR rd) 0 P (λe a' w'=>match e with | .normal=>jx P rd c Q a' w'|e=>Q e a' w') a w):jx P rd c Q a w:=by
 intro b kk cs hro hb hr
 obtain⟨e,a₁,w₁,hq,ab6⟩:=hc b (.inLoop c::kk) cs hro hb hr
 cases e with
 |normal=>obtain⟨e₂,a₂,w₂,hq₂,harr₂⟩:=hq b kk cs hro hb hr;exact⟨e₂,a₂,w₂,hq₂,.of_steps (StepsIn.trans ab6 (.one (fenced_calm hb hr rfl) stepR_inLoop)) harr₂⟩
 |exit id=>exact⟨_,a₁,w₁,hq,.pass (x:=.inLoop c) rfl (λ_ _=>.inl (by simp)) ab6⟩
 |goto l=>exact⟨_,a₁,w₁,hq,.pass (x:=.inLoop c) rfl (λ_ _=>.inl (by simp)) ab6⟩
 |ret=>exact⟨_,a₁,w₁,hq,.pass (x:=.inLoop c) rfl (λ_ _=>.inl (by simp)) ab6⟩
 |panic ch=>exact⟨_,a₁,w₁,hq,.pass (x:=.inLoop c) rfl (λ_ _=>.inl (by simp)) ab6⟩
 |outgrown=>exact⟨_,a₁,w₁,hq,.pass (x:=.inLoop c) rfl (λ_ _=>.inl (by simp)) ab6⟩
def Fr{rd:Option Nat}{c:Code}{Q:Exit->Act->World->Prop}(h:jx P rd c Q a w):(Code.loop c).wpIn (fR rd) 0 P Q a w:=by intro b k cs hro hb hr;obtain⟨e,a',w',hq,ab6⟩:=h b k cs hro hb hr;exact⟨e,a',w',hq,.of_steps (.one (fenced_calm hb hr rfl) stepR_loop) ab6⟩
def AD{l:Nat}{r:Loop}(h:w.heap[l]? =some (.loop r))(hb:r.state≠ .busy):(Instr.endLoop l).run P w= .ok r.pending {w with heap:=w.heap.setIfInBounds l (.loop {r with state:=.exhausted})}:=by
 have Q':(r.state== .busy)=false:=by cases hs:r.state <;> first|rfl|exact absurd hs hb
 simp only [Instr.endLoop,Instr.getLoop,aad,bu h (by simp),aaj,aaf,Q',Bool.false_eq_true,if_false,hY h (by simp)]
def ZM(z:Tr)(go:Code->Tr):Option Code->Tr
 |none=>z
 |some c=>go c
def L3{M:Tab}{x:X}(hx:Dl P w0 x){g:Operand}{ps:Array Tmp}{as bd:Code}{f:Nat}{df:List Nat}{k:XK}{Q:Exit->Act->World->Prop}{eK rd:Option Nat}(hW:RW ρ eK rd)(hS:SI σ)(hG:Good w0 ρ σ.h w)(hE:ER ρ nt env a.tmps)(hD:DR ρ df a.defers)(h:run (FX P M x (.rangeFunc g ps as bd) env nt f eK df k) σ K=true)(hQ:L0 w0 ρ K nt k Q):(Code.rangeFunc g ps as bd).wpIn (fR rd) 0 P Q a w:=by
 cases eK with
 |some _=>exact(ah h).elim
 |none=>
 have hW:rd=none:=hW
 subst hW
 show(Code.rangeFunc g ps as bd).wpIn Fence.wide 0 P Q a w
 have h:run (.new (.dfr true) λd=>.new (.loop .ready none f nt env ps.toList as bd d) λl=>fH env g λg=>
  C1 P x g l id (λc=>ac (zU c) (x c env nt f none (d::df) k) .fail) (k .normal env (d::df))) σ K=true:=h
 obtain⟨d,b7,hn1,ar0,e1,b6,h⟩:=gw hS h
 obtain⟨F',b9⟩:=hG.alloc hn1 ar0 (.dfr true) (.deferred (some [])) 0 0 (λρ' hle o6 _=>⟨_,o6,.new hG.below.size,by simp⟩)
 rw[←e1] at b9
 obtain⟨l,d8,hn2,ar1,e2,f9,h⟩:=gw b6 h
 refine wpIn_rangeFunc λfn' _=>?_
 obtain⟨j6,l7⟩:=b9.alloc hn2 ar1 (.loop .ready none f nt env ps.toList as bd d) (.loop {state:=.ready,pending:=none,fn:=fn',tmps:=a.tmps,params:=ps,assign:=as,body:=bd,defers:=w.heap.size}) 0 0
  (λρ' hle o6 _=>⟨_,o6,.new (by have:=hG.below.size;simp;omega),a.tmps,_,fn',hE.mono (F'.trans hle),hle.at_ _ _ _ (Rho.put_at _ _ _ _),Array.getElem?_push_size⟩)
 rw[←e2] at l7
 obtain⟨av,σ3,e3,hS3,h,hv⟩:=uR (x:=g) f9 l7 (hE.mono (F'.trans j6)) h
 rw[←e3] at l7
 generalize hgv:a.eval g=gv at hv
 cases hv with
 |func fn l1 m1 first captured h1 h2 r1 r2 hf=>
  cases fn with
  |func i=>
   have q1:=LR.of_arr h1 r1
   have q2:=LR.of_arr h2 r2
   have hl:=Rho.put_at (ρ.put d 0 ⟨w.heap.size,0,0⟩) l 0 ⟨(w.heap.push (.deferred (some []))).size,0,0⟩
   have hd:=j6.at_ _ _ _ (Rho.put_at ρ d 0 ⟨w.heap.size,0,0⟩)
   simp only [C1] at h
   have l9:=(q1.append (LR.cons (.yld l _ hl) (LR.nil _))).append q2
   obtain⟨hcf,hci⟩:=iP hx i _ _ _ σ3 K _ _ (rangePost Fence.wide 0 P (w.heap.push (.deferred (some []))).size Q {a with defers:=[{target:=.collected w.heap.size,args:= #[]}]++a.defers}) hS3 l7 l9 h
    (λav v a9 ρ' w' g1 g2 g3 g4 g5=>by
     obtain⟨q,σ4,hq,e4,hS4,g1⟩:=bE g2 g1
     have hG4:Good w0 ρ' σ4.h w':=by rw[e4];exact g3
     cases q with
     |loop st jump fn nt' tmps ps' o9 bd' d'=>
      have q9:=g4.at_ _ _ _ hl
      obtain⟨hm,hh,hB,ac5,hd',fn2,b1,b2,j7⟩:=g3.blk _ _ hq
      rw[q9] at hh;injection hh with hh;subst hh
      have fin:st≠ .busy->run (.wr l (.loop .exhausted jump fn nt' tmps ps' o9 bd' d') (ZM (k .normal env (d::df)) (λc=>ac (zU c) (x c env nt f none (d::df) k) .fail) jump)) σ4 K=true->
       rangePost Fence.wide 0 P (w.heap.push (.deferred (some []))).size Q {a with defers:=[{target:=.collected w.heap.size,args:= #[]}]++a.defers} (.returned v) w':=λhb g1=>by
       obtain⟨x0,σ5,hx0,e5,hS5,c8,g1⟩:=fw hS4 g1
       have hG5:=hG4.setObj (hnf:=nf e4 hq hx0 (λh=>h)) (x:=.loop .exhausted jump fn nt' tmps ps' o9 bd' d') (o':=.loop {state:=.exhausted,pending:=jump,fn:=fn2,tmps:=ac5,params:=ps'.toArray,assign:=o9,body:=bd',defers:=hd'.blk}) hx0 c8 q9 hB j7
        ⟨_,q9,hB,ac5,hd',fn2,b1,b2,nD j7⟩
       rw[←e5] at hG5
       refine⟨jump,_,AD j7 hb, ?_⟩
       have hDD:DR ρ' (d::df) ([{target:=.collected w.heap.size,args:= #[]}]++a.defers):=⟨⟨_,g4.at_ _ _ _ hd,rfl⟩,hD.mono (F'.trans (j6.trans g4))⟩
       have hEE:ER ρ' nt env a.tmps:=hE.mono (F'.trans (j6.trans g4))
       cases jump with
       |none=>exact hQ .normal env (d::df) σ5 ρ' _ {a with defers:=[{target:=.collected w.heap.size,args:= #[]}]++a.defers} g1 hS5 hG5 (F'.trans (j6.trans g4)) hEE hDD
       |some c=>
        obtain⟨hj,g1⟩:=ay g1
        exact hx c env nt f (d::df) k σ5 K ρ' _ {a with defers:=[{target:=.collected w.heap.size,args:= #[]}]++a.defers} Q none none rfl hS5 hG5 hEE hDD g1
         (λex2 ah5 df2 d8 ρ2 w2 a2 c1 c2 c3 c4 c5 c6=>hQ ex2 ah5 df2 d8 ρ2 w2 a2 c1 c2 c3 ((F'.trans (j6.trans g4)).trans c4) c5 c6) (λ_=>.inl hj)
      cases st with
      |busy=>exact(ah g1).elim
      |ready=>exact fin (by simp) (by cases jump <;> exact g1)
      |done=>exact fin (by simp) (by cases jump <;> exact g1)
      |exhausted=>exact fin (by simp) (by cases jump <;> exact g1)
     |_=>exact(ah g1).elim)
   have ea:(first++ #[Value.func (.yield (w.heap.push (.deferred (some []))).size) #[] #[]])++captured=(first.toList++ [Value.func (.yield (w.heap.push (.deferred (some []))).size) #[] #[]]++captured.toList).toArray:=by apply Array.ext';simp
   refine⟨(w.heap.push (.deferred (some []))).size,[{target:=.collected w.heap.size,args:= #[]}],{w with heap:=(w.heap.push (.deferred (some []))).push (.loop {state:=.ready,pending:=none,fn:=fn',tmps:=a.tmps,params:=ps,assign:=as,body:=bd,defers:=w.heap.size})},{target:=.fn (.func i) captured,args:=first++ #[.func (.yield (w.heap.push (.deferred (some []))).size) #[] #[]]},{w with heap:=(w.heap.push (.deferred (some []))).push (.loop {state:=.ready,pending:=none,fn:=fn',tmps:=a.tmps,params:=ps,assign:=as,body:=bd,defers:=w.heap.size})},i,_,_, ?_, ?_,λ_ _=>trivial, ?_,λh=>absurd h (by simp [Fence.wide]),hci⟩
   ·simp only [Instr.enterLoop,Fence.wide,aad,run_newObj,aaj,aaf]
   ·have ar2:∀v,a.eval (.const v)=v:=λ_=>rfl;simp only [resolve,hgv,Deferred.ofValue,List.map_toArray,aax,List.map_nil,ar2,aaf]
   ·show(callFunc i ((first++ #[Value.func (.yield (w.heap.push (.deferred (some []))).size) #[] #[]])++captured)).run P _=_;rw[ea];exact hcf _
  |_=>exact(ah h).elim
 |_=>exact(ah h).elim
def L4{k:T AV->Tr}:∀(ps:List Nat) (as:List AV) (vs:List Value) (t:T AV) (tmps:Array Value),LR ρ as vs->ER ρ nt t tmps->run (E9 ps as nt t k) σ K=true->
 ∃t',run (k t') σ K=true/\ps.length=vs.length/\ER ρ nt t' ((ps.zip vs).foldl (λtmps x=>tmps.setIfInBounds x.1 x.2) tmps):=by
 intro ps
 induction ps with
 |nil=>
  intro as vs t tmps hl hE h
  cases as with
  |nil=>rw[hl.nil_inv];exact⟨t,h,rfl,hE⟩
  |cons _ _=>exact(ah h).elim
 |cons p ps ih=>
  intro as vs t tmps hl hE h
  cases as with
  |nil=>exact(ah h).elim
  |cons av as=>
   obtain⟨v,E',rfl,hv,q9⟩:=hl.cons_inv
   have h:run (ac (Nat.ble (Nat.succ p) nt) (T.setK t p av λt=>E9 ps as nt t k) .fail) σ K=true:=h
   obtain⟨hp,h⟩:=ay h
   have hp:=bU hp
   rw[T.setK_eq] at h
   have hE':ER ρ nt (t.set p av) (tmps.setIfInBounds p v):=by
    refine⟨by rw[abQ];exact hE.size,λi b hb=>?_⟩;by_cases e:i=p
    ·subst e;have:=T.get_set_some _ _ hb;subst this;exact⟨v,by rw[aaK,if_pos rfl,if_pos (by rw[hE.size];omega)],hv⟩
    ·rw[T.get_set_ne _ e] at hb;obtain⟨u,hu,hr⟩:=hE.val i b hb;exact⟨u,by rw[aaK,if_neg (λe'=>e e'.symm)];exact hu,hr⟩
   obtain⟨t',q1,q2,q3⟩:=ih as E' _ _ q9 hE' h
   exact⟨t',q1,by simp [q2],q3⟩
def IZ{l:Nat}{r:Loop}{vs:List Value}(h:w.heap[l]? =some (.loop r))(hn:r.params.size=vs.length):(Instr.yield l vs.toArray).run P w= .ok (.round l r.fn ((r.params.toList.zip vs).foldl (λtmps x=>tmps.setIfInBounds x.1 x.2) r.tmps) r.assign r.body) w:=by
 have e:r.params.zip vs.toArray=(r.params.toList.zip vs).toArray:=by apply Array.ext';simp
 simp only [Instr.yield,Instr.getLoop,aad,bu h (by simp),aaj,aaf,List.size_toArray,hn,ne_eq,not_true_eq_false,if_false,e,List.foldl_toArray']
def sh{l:Nat}{r:Loop}(h:w.heap[l]? =some (.loop r))(hb:r.state= .ready):(Instr.beginRound l).run P w= .ok () {w with heap:=w.heap.setIfInBounds l (.loop {r with state:=.busy})}:=by simp only [Instr.beginRound,Instr.getLoop,aad,bu h (by simp),aaj,aaf,hY h (by simp),hb]
def xw{l:Nat}{r:Loop}(jump:Option Code)(h:w.heap[l]? =some (.loop r)):(Instr.endRound l jump).run P w= .ok (.bool jump.isNone) {w with heap:=w.heap.setIfInBounds l (.loop {r with state:=if jump.isNone then .ready else .done,pending:=jump})}:=by simp only [Instr.endRound,Instr.getLoop,aad,bu h (by simp),aaj,aaf,hY h (by simp)]
def vw{x:X}(hx:Dl P w0 x):Rj P w0 (CZ x):=by
 intro l as vs k σ K ρ w R hS hG hl h hR
 obtain⟨q,b7,hq,e1,b6,h⟩:=bE hS h
 have b9:Good w0 ρ b7.h w:=by rw[e1];exact hG
 cases q with
 |loop st jump fn nt tmps ps asg bd d=>
  obtain⟨hm,hh,hB,ac5,hd,fn',b1,b2,j7⟩:=hG.blk _ _ hq
  obtain⟨env,h,hlen,hE⟩:=L4 _ _ _ _ _ hl b1 h
  refine⟨hm,hh,_,_,_,_,IZ j7 (by simpa using hlen),roundIn_of_wpIn trivial ?_⟩
  refine hx asg env nt fn [] _ b7 K ρ w _ _ (some l) (some hm.blk) ⟨hm,hh,rfl⟩ b6 b9 hE trivial h (λex env' df' a9 ρ' w' a' g1 g2 g3 g4 g5 g6=>?_) .round
  cases ex with
  |normal=>
   cases df' with
   |cons _ _=>exact(ah g1).elim
   |nil=>
    obtain⟨q2,d8,hq2,e2,f9,g1⟩:=bE g2 g1
    have l7:Good w0 ρ' d8.h w':=by rw[e2];exact g3
    cases q2 with
    |loop st2 aj9 fn2 nt2 ao7 ps2 as2 bd2 d2=>
     cases st2 with
     |ready=>
      have j4:=g4.at_ _ _ _ hh
      obtain⟨hm2,hh2,hB2,ah6,hd2,ao8,c1,c2,ac_⟩:=g3.blk _ _ hq2
      rw[j4] at hh2;injection hh2 with hh2;subst hh2
      obtain⟨x0,σ3,hx0,e3,hS3,c8,g1⟩:=fw f9 g1
      have hG3:=l7.setObj (hnf:=nf e2 hq2 hx0 (λh=>h)) (x:=.loop .busy aj9 fn2 nt2 ao7 ps2 as2 bd2 d2) (o':=.loop {state:=.busy,pending:=aj9,fn:=ao8,tmps:=ah6,params:=ps2.toArray,assign:=as2,body:=bd2,defers:=hd2.blk}) hx0 c8 j4 hB2 ac_
       ⟨_,j4,hB2,ah6,hd2,ao8,c1,c2,nD ac_⟩
      rw[←e3] at hG3
      refine⟨_,sh ac_ rfl, ?_⟩
      refine hx bd env' nt fn2 [] _ σ3 K ρ' _ a' _ (some l) (some hm.blk) ⟨hm,j4,rfl⟩ hS3 hG3 g5 g6 g1 (λex3 au5 df3 σ4 ρ4 w4 a4 k1 k2 k3 k4 k5 k6=>?_) .round
      have fin:∀jp,run (iK l jp k) σ4 K=true->∃v w5,(Instr.endRound hm.blk jp).run P w4= .ok v w5/\R (.returned v) w5:=λjp k1=>by
       obtain⟨q3,σ5,hq3,e5,hS5,k1⟩:=bE k2 k1
       have hG5:Good w0 ρ4 σ5.h w4:=by rw[e5];exact k3
       cases q3 with
       |loop st3 at8 fn3 nt3 ag5 ps3 as3 bd3 d3=>
        have hh4:=k4.at_ _ _ _ j4
        obtain⟨hm3,hh3,hB3,ae5,hd3,ai_,c3,c4,ad1⟩:=k3.blk _ _ hq3
        rw[hh4] at hh3;injection hh3 with hh3;subst hh3
        obtain⟨x1,σ6,hx1,e6,hS6,ao9,k1⟩:=fw hS5 k1
        refine⟨_,_,xw jp ad1, ?_⟩
        cases jp with
        |none=>
         have hG6:=hG5.setObj (hnf:=nf e5 hq3 hx1 (λh=>h)) (x:=.loop .ready none fn3 nt3 ag5 ps3 as3 bd3 d3) (o':=.loop {state:=.ready,pending:=none,fn:=ai_,tmps:=ae5,params:=ps3.toArray,assign:=as3,body:=bd3,defers:=hd3.blk}) hx1 ao9 hh4 hB3 ad1
          ⟨_,hh4,hB3,ae5,hd3,ai_,c3,c4,nD ad1⟩
         have e6:σ6.h=σ5.h.set l (.loop .ready none fn3 nt3 ag5 ps3 as3 bd3 d3):=e6;rw[←e6] at hG6;exact hR (.bool true) _ σ6 ρ4 _ k1 hS6 hG6 (g4.trans k4) (.bool true)
        |some jc=>
         have hG6:=hG5.setObj (hnf:=nf e5 hq3 hx1 (λh=>h)) (x:=.loop .done (some jc) fn3 nt3 ag5 ps3 as3 bd3 d3) (o':=.loop {state:=.done,pending:=some jc,fn:=ai_,tmps:=ae5,params:=ps3.toArray,assign:=as3,body:=bd3,defers:=hd3.blk}) hx1 ao9 hh4 hB3 ad1
          ⟨_,hh4,hB3,ae5,hd3,ai_,c3,c4,nD ad1⟩
         have e6:σ6.h=σ5.h.set l (.loop .done (some jc) fn3 nt3 ag5 ps3 as3 bd3 d3):=e6;rw[←e6] at hG6;exact hR (.bool false) _ σ6 ρ4 _ k1 hS6 hG6 (g4.trans k4) (.bool false)
       |_=>exact(ah k1).elim
      cases df3 with
      |cons _ _=>exact(ah k1).elim
      |nil=>
       cases ex3 with
       |normal=>exact fin none k1
       |ret=>exact fin (some .ret) k1
       |exit id=>exact fin (some (.exit id)) k1
       |goto t=>exact fin (some (.goto t)) k1
     |_=>exact(ah g1).elim
    |_=>exact(ah g1).elim
  |_=>exact(ah g1).elim
 |_=>exact(ah h).elim
def WG(P:Program)(w0:World)(f:Nat)(l:List AV)(t:(AV->Tr)->Tr):Prop:=
 ∀(vs:List Value) (k:AV->Tr) (σ:St) (K:Fin) (ρ:Rho) (w:World) (R:Ending->World->Prop),SI σ->Good w0 ρ σ.h w->LR ρ l vs->run (t k) σ K=true->
  (∀av v a9 ρ' w',run (k av) a9 K=true->SI a9->Good w0 ρ' a9.h w'->ρ.le ρ'->VR ρ' av v->R (.returned v) w')->
  (∀args:Array Value,(callFunc f args).run P w= .ok (.enter f args) w)/\CallsIn Fence.wide 0 P f vs.toArray w R
def UF(P:Program)(w0:World)(fn id:Nat)(t:Nat->T AV->(AEx->T AV->Tr)->Tr):Prop:=
 ∀(c:Code) (env:T AV) (nt:Nat) (k:XK) (σ:St) (K:Fin) (ρ:Rho) (w:World) (a:Act) (Q:Exit->Act->World->Prop),SI σ->Good w0 ρ σ.h w->ER ρ nt env a.tmps->a.defers= []->
  run (t nt env λex env=>k ex env []) σ K=true->L0 w0 ρ K nt k Q->(∃f b,P.funcs[fn]? =some f/\f.body=some b/\SubC (.block id c) b)->(Code.block id c).wpIn (fR none) 0 P Q a w
structure TabOk(P:Program)(M:Tab):Prop where
 memos:∀m∈M.memos,my P m
 con:∀w0 f l t,M.con f l=some t->WG P w0 f l t
 blk:∀w0 fn id t,M.blk fn id=some t->UF P w0 fn id t
def AE{M:Tab}(hM:TabOk P M){en:c_}(hen:Ax P w0 en):Ax P w0 (K_ P M en):=by
 intro f l vs k σ K ρ w R hS hG hl h hR
 have h:run (du (M.con f l) (K9 P M.memos en f l k) λt=>t k) σ K=true:=h
 cases hc:M.con f l with
 |none=>rw[hc] at h;exact L2 hM.memos hen f l vs k σ K ρ w R hS hG hl h hR
 |some t=>rw[hc] at h;exact hM.con w0 f l t hc vs k σ K ρ w R hS hG hl h hR
def xx{M:Tab}(hM:TabOk P M){x:X}(hx:Dl P w0 x)(hl:Rr P w0 x):Dl P w0 (FX P M x):=by
 intro c env nt f df k σ K ρ w a Q eK rd hW hS hG hE hD h hQ hC
 have here:∀{ex:AEx},run (k ex env df) σ K=true->Q (Y9 ex) a w:=λh=>hQ _ env df σ ρ w a h hS hG (Rho.le.refl ρ) hE hD
 cases c with
 |skip=>exact wpIn_skip (here (ex:=.normal) h)
 |label l=>exact wpIn_label (here (ex:=.normal) h)
 |ret=>exact wpIn_ret (here (ex:=.ret) h)
 |exit id=>exact wpIn_exit (here (ex:=.exit id) h)
 |goto l=>exact wpIn_goto (here (ex:=.goto l) h)
 |region id ops draw=>
  cases draw with
  |true=>obtain⟨hm,h⟩:=ay h;obtain⟨hnt,h⟩:=ay h;obtain⟨htm,h⟩:=ay h;exact Rq (AE hM (iP hx)) (vw hx) (bU hnt) hm ρ a.defers (λenv' a9 ρ' a' w' h1 h2 h3 h4 h5 h6=>hQ .normal env' df a9 ρ' w' a' h1 h2 h3 h4 h5 (by rw[h6];exact hD.mono h4)) htm h hS hG (Rho.le.refl ρ) hE rfl id
  |false=>refine wpIn_region_list (Rl (AE hM (iP hx)) (vw hx) ρ a.defers (λenv' a9 ρ' a' w' h1 h2 h3 h4 h5 h6=>?_) _ env σ ρ a w h hS hG (Rho.le.refl ρ) hE rfl);exact hQ .normal env' df a9 ρ' w' a' h1 h2 h3 h4 h5 (by rw[h6];exact hD.mono h4)
 |seq c d=>
  refine wpIn_seq (hx c env nt f df _ σ K ρ w a _ eK rd hW hS hG hE hD h (λex env' df' a9 ρ' w' a' h1 h2 h3 h4 h5 h6=>?_) (hC.sub (λ_=>.seqL) rfl))
  cases ex with
  |normal=>exact hx d env' nt f df' k a9 K ρ' w' a' Q eK rd (hW.mono h4) h2 h3 h5 h6 h1 (λex2 ah5 df2 d8 ρ2 w2 a2 g1 g2 g3 g4 g5 g6=>hQ ex2 ah5 df2 d8 ρ2 w2 a2 g1 g2 g3 (h4.trans g4) g5 g6) (hC.sub (λ_=>.seqR) rfl)
  |exit id=>exact hQ (.exit id) env' df' a9 ρ' w' a' h1 h2 h3 h4 h5 h6
  |goto l=>exact hQ (.goto l) env' df' a9 ρ' w' a' h1 h2 h3 h4 h5 h6
  |ret=>exact hQ .ret env' df' a9 ρ' w' a' h1 h2 h3 h4 h5 h6
 |cond x c d=>
  obtain⟨av,b7,e1,b6,h,hv⟩:=uR hS hG hE h
  have b9:Good w0 ρ b7.h w:=by rw[e1];exact hG
  obtain⟨b,hxv,ht,he⟩:=ZL hv h
  refine wpIn_cond hxv ?_
  cases b with
  |true=>exact hx c env nt f df k b7 K ρ w a Q eK rd hW b6 b9 hE hD (ht rfl) hQ (hC.sub (λ_=>.condL) rfl)
  |false=>exact hx d env nt f df k b7 K ρ w a Q eK rd hW b6 b9 hE hD (he rfl) hQ (hC.sub (λ_=>.condR) rfl)
 |block id c=>
  cases hc:(match eK,df with|none,[]=>M.blk f id|_,_=>none) with
  |some t=>
   have h:run (du (match eK,df with|none,[]=>M.blk f id|_,_=>none) (x c env nt f eK df λex env df=>(match ex with
    | .exit id'=>ac (Nat.beq id' id) (k .normal env df) (k (.exit id') env df)
    |ex=>k ex env df)) λt=>t nt env λex env=>k ex env df) σ K=true:=h
   rw[hc] at h
   cases eK with
   |some _=>cases hc
   |none=>
    cases df with
    |cons _ _=>cases hc
    |nil=>
     have hd0:a.defers= []:=by
      cases hd:a.defers with
      |nil=>rfl
      |cons _ _=>rw[hd] at hD;exact hD.elim
     have hW:rd=none:=hW;subst hW;refine hM.blk w0 f id t hc c env nt k σ K ρ w a Q hS hG hE hd0 h hQ ?_;rcases hC rfl with hj|hj
     ·cases hj
     ·exact hj
  |none=>
  have h:run (du (match eK,df with|none,[]=>M.blk f id|_,_=>none) (x c env nt f eK df λex env df=>(match ex with
   | .exit id'=>ac (Nat.beq id' id) (k .normal env df) (k (.exit id') env df)
   |ex=>k ex env df)) λt=>t nt env λex env=>k ex env df) σ K=true:=h
  rw[hc] at h
  refine wpIn_block (hx c env nt f df _ σ K ρ w a _ eK rd hW hS hG hE hD h (λex env' df' a9 ρ' w' a' h1 h2 h3 h4 h5 h6=>?_) (hC.sub (λ_=>.block) rfl))
  cases ex with
  |normal=>exact hQ .normal env' df' a9 ρ' w' a' h1 h2 h3 h4 h5 h6
  |exit id'=>
   rcases bT h1 with⟨e,h1'⟩|⟨e,h1'⟩
   ·have e:=aM e;show(if id'=id then Q .normal a' w' else Q (.exit id') a' w');rw[if_pos e];exact hQ .normal env' df' a9 ρ' w' a' h1' h2 h3 h4 h5 h6
   ·show(if id'=id then Q .normal a' w' else Q (.exit id') a' w');rw[if_neg (λe'=>by subst e';simp at e)];exact hQ (.exit id') env' df' a9 ρ' w' a' h1' h2 h3 h4 h5 h6
  |goto l=>exact hQ (.goto l) env' df' a9 ρ' w' a' h1 h2 h3 h4 h5 h6
  |ret=>exact hQ .ret env' df' a9 ρ' w' a' h1 h2 h3 h4 h5 h6
 |loop c=>exact Fr (nF hx hl c env nt f df k σ K ρ w a Q eK rd hW hS hG hE hD h hQ hC)
 |rangeFunc g ps as bd=>exact L3 hx hW hS hG hE hD h hQ
 |_=>exact(ah h).elim
end
end Go.Sym
namespace Go.Sym
open Go.RowKit (Below)
def qM(P:Program){M:Tab}(hM:TabOk P M)(w0:World):∀n:Nat,Dl P w0 (xf P M n)/\Rr P w0 (xf P M n):=by
 intro n
 induction n with
 |zero=>exact⟨λc env nt f df k σ K ρ w a Q eK rd hW hS hG hE hD h hQ hC=>(ah h).elim,λc env nt f df k σ K ρ w a Q eK rd hW hS hG hE hD h hQ hC=>(ah h).elim⟩
 |succ n ih=>exact⟨xx hM ih.1 ih.2,nF ih.1 ih.2⟩
def nG{H:T ABlk}{next:Nat}(h1:1<=next)(h2:next<=1000000001):SI (start H next):=
 ⟨h1,h2,aaq _,by simp,λy hy=>by simp [T.get] at hy⟩
end Go.Sym
namespace Go.Sym
open Go.RowKit (Below)
def EvTo(r:Fin->Bool)(Φ:AV->St->Prop):Prop:=∃a σ,(∀K,r K=K a σ)/\Φ a σ
def Stop(p:Prop):Prop:=p
end Go.Sym
namespace Go.Sym
noncomputable section
inductive Hn where
 |nil
 |both (a b:Hn)
 |yes (a:Hn)
 |no (a:Hn)
inductive Fm where
 |tt
 |ff
 |at(p:Prop)
 |an (p:Prop) (f:Fm)
 |two (p:Prop) (f g:Fm)
 |al (p:Sy->Prop) (f:Sy->Fm)
def Fm.den:Fm->Prop
 | .tt=>True
 | .ff=>False
 | .at p=>p
 | .an p f=>p/\(p->f.den)
 | .two p f g=>(p->f.den)/\(¬p->g.den)
 | .al p f=>∀y,p y->(f y).den
abbrev Lf:=AV->St->Hn->Fm
def lZ(fs b:Nat)(t:T Unit)(k:T Unit->Fm):Fm:=ac (Nat.ble fs b) (k t) (T.setK t b () k)
def mA(fs b:Nat)(w:List Nat)(k:List Nat->Fm):Fm:=ac (Nat.ble fs b) (k w) (k (b::w))
def kL(fs:Nat):List Nat->T Unit->(T Unit->Fm)->Fm:=λl=>
 List.rec (motive:=λ_=>T Unit->(T Unit->Fm)->Fm) (λt k=>k t) (λb _ ih t k=>lZ fs b t λt=>ih t k) l
def iQ(fs:Nat):List Nat->List Nat->(List Nat->Fm)->Fm:=λl=>
 List.rec (motive:=λ_=>List Nat->(List Nat->Fm)->Fm) (λt k=>k t) (λb _ ih t k=>mA fs b t λt=>ih t k) l
def kM(fs b:Nat)(t:T Unit)(k:T Unit->Fm):lZ fs b t k=k (note fs b t):=by
 unfold lZ note;rw[ar,T.setK_eq];by_cases h:fs<=b
 ·simp [Nat.ble_eq,h]
 ·have:Nat.ble fs b=false:=by
   cases hb:Nat.ble fs b with
   |false=>rfl
   |true=>exact absurd (Nat.ble_eq.mp hb) h
  simp [this,h]
def ph(fs b:Nat)(w:List Nat)(k:List Nat->Fm):mA fs b w k=k (gR fs b w):=by
 unfold mA gR;rw[ar];by_cases h:fs<=b
 ·simp [Nat.ble_eq,h]
 ·have:Nat.ble fs b=false:=by
   cases hb:Nat.ble fs b with
   |false=>rfl
   |true=>exact absurd (Nat.ble_eq.mp hb) h
  simp [this,h]
def pX(fs:Nat):∀(l:List Nat) (t:T Unit) (k:T Unit->Fm),kL fs l t k=k (fT fs l t):=by
 intro l
 induction l with
 |nil=>intro t k;rfl
 |cons b l ih=>intro t k;show lZ fs b t (λt=>kL fs l t k)=_;rw[kM,ih];rfl
def nH(fs:Nat):∀(l:List Nat) (t:List Nat) (k:List Nat->Fm),iQ fs l t k=k (fo fs l t):=by
 intro l
 induction l with
 |nil=>intro t k;rfl
 |cons b l ih=>intro t k;show mA fs b t (λt=>iQ fs l t k)=_;rw[ph,ih];rfl
def UG(_:St)(_:Lf)(_:Hn):Fm:=.ff
def ZN(a:AV)(σ:St)(K:Lf)(h:Hn):Fm:=K a σ h
def eRd(b:Nat)(_:ABlk->Tr)(ih:ABlk->St->Lf->Hn->Fm)(σ:St)(K:Lf)(hn:Hn):Fm:=
 St.rec (motive:=λ_=>Fm) (λh n fs t w=>ac (Nat.ble (Nat.succ b) n) (T.getK h b .ff λx=>lZ fs b t λt=>ih x (.mk h n fs t w) K hn) .ff) σ
def eWr(b:Nat)(x:ABlk)(_:Tr)(ih:St->Lf->Hn->Fm)(σ:St)(K:Lf)(hn:Hn):Fm:=
 St.rec (motive:=λ_=>Fm) (λh n fs t w=>ac (Nat.ble (Nat.succ b) n) (T.getK h b .ff λ_=>T.setK h b x λh=>lZ fs b t λt=>mA fs b w λw=>ih (.mk h n fs t w) K hn) .ff) σ
def ZO(x:ABlk)(_:Nat->Tr)(ih:Nat->St->Lf->Hn->Fm)(σ:St)(K:Lf)(hn:Hn):Fm:=
 St.rec (motive:=λ_=>Fm) (λh n fs t w=>ac (Nat.ble n 1000000000) (T.getK h n (T.setK h n x λh=>fN (Nat.succ n) λm=>ih n (.mk h m fs t w) K hn) λ_=>.ff) .ff) σ
def ZP(n:Nat)(_:Nat->Tr)(ih:Nat->St->Lf->Hn->Fm)(σ:St)(K:Lf)(hn:Hn):Fm:=ac (Nat.ble n 1) (ih 0 σ K hn) .ff
def ZQ(_:Tr)(_:AV->Nat->Nat->T Unit->List Nat->Tr)(it:St->Lf->Hn->Fm)(ik:AV->Nat->Nat->T Unit->List Nat->St->Lf->Hn->Fm)(σ:St)(K:Lf)(hn:Hn):Fm:=
 St.rec (motive:=λ_=>Fm) (λh n fs t w=>it (.mk h n n .leaf []) (λa a9 hn=>
  St.rec (motive:=λ_=>Fm) (λh' n' _ t' w'=>ac (Nat.beq fs 0) (ik a n n' t' w' (.mk h' n' fs t w) K hn)
   (kL fs (T.keys t' id []) t λt2=>iQ fs w' w λw2=>ik a n n' t' w' (.mk h' n' fs t2 w2) K hn)) a9) hn) σ
def I1(p:Prop)(_ _:Tr)(it ie:St->Lf->Hn->Fm)(σ:St)(K:Lf)(hn:Hn):Fm:=
 Hn.rec (motive:=λ_=>Fm) (.two p (it σ K .nil) (ie σ K .nil)) (λa b _ _=>.two p (it σ K a) (ie σ K b)) (λa _=>.an p (it σ K a)) (λa _=>.an (¬p) (ie σ K a)) hn
def ZR(p:Prop)(_:Tr)(it:St->Lf->Hn->Fm)(σ:St)(K:Lf)(hn:Hn):Fm:=.an p (it σ K hn)
def eSk(p:Sy->Prop)(_:{y:Sy // p y})(_:Sy->Tr)(ik:Sy->St->Lf->Hn->Fm)(σ:St)(K:Lf)(hn:Hn):Fm:=.al p λy=>ik y σ K hn
def CF(t:Tr):St->Lf->Hn->Fm:=Tr.rec (motive:=λ_=>St->Lf->Hn->Fm) UG ZN eRd eWr ZO ZP ZQ I1 ZR eSk t
def EvTo.congr{r r':Fin->Bool}{Φ:AV->St->Prop}(h:∀K,r K=r' K)(he:EvTo r' Φ):EvTo r Φ:=by obtain⟨a,σ,e,q⟩:=he;exact⟨a,σ,λK=>(h K).trans (e K),q⟩
def Dm:∀(t:Tr) (σ:St) (K:Lf) (hn:Hn),(CF t σ K hn).den->EvTo (run t σ) λa a9=>∃hn',(K a a9 hn').den:=by
 intro t
 induction t with
 |fail=>intro σ K hn h;exact h.elim
 |ret a=>intro σ K hn h;exact⟨a,σ,λ_=>rfl,hn,h⟩
 |rd b k ih=>
  intro σ K hn h
  cases σ with
  |mk H n fs t w=>
   have h:(ac (Nat.ble (Nat.succ b) n) (T.getK H b Fm.ff λx=>lZ fs b t λt=>CF (k x) (.mk H n fs t w) K hn) .ff).den:=h;rw[ar] at h;split at h
   ·rename_i hb;have hb:=aay hb;rw[T.getK_eq] at h;split at h
    ·exact h.elim
    ·rename_i x hx;rw[kM] at h;refine(ih x _ K hn h).congr λK=>?_;rw[io,if_pos (show b<n from hb),hx]
   ·exact h.elim
 |wr b x k ih=>
  intro σ K hn h
  cases σ with
  |mk H n fs t w=>
   have h:(ac (Nat.ble (Nat.succ b) n) (T.getK H b Fm.ff λ_=>T.setK H b x λH=>lZ fs b t λt=>mA fs b w λw=>CF k (.mk H n fs t w) K hn) .ff).den:=h;rw[ar] at h;split at h
   ·rename_i hb;have hb:=aay hb;rw[T.getK_eq] at h;split at h
    ·exact h.elim
    ·rename_i y hy;rw[T.setK_eq,kM,ph] at h;refine(ih _ K hn h).congr λK=>?_;rw[ky,if_pos (show b<n from hb),hy]
   ·exact h.elim
 |new x k ih=>
  intro σ K hn h
  cases σ with
  |mk H n fs t w=>
   have h:(ac (Nat.ble n 1000000000) (T.getK H n (T.setK H n x λH=>fN (Nat.succ n) λm=>CF (k n) (.mk H m fs t w) K hn) λ_=>Fm.ff) .ff).den:=h;rw[ar] at h;split at h
   ·rename_i hb;have hb:=aay hb;rw[T.getK_eq] at h;split at h
    ·rename_i hx;rw[T.setK_eq,rx] at h;refine(ih n _ K hn h).congr λK=>?_;rw[gT,if_pos hb,hx]
    ·exact h.elim
   ·exact h.elim
 |pick n k ih=>
  intro σ K hn h;have h:(ac (Nat.ble n 1) (CF (k 0) σ K hn) .ff).den:=h;rw[ar] at h;split at h
  ·rename_i hb;refine(ih 0 σ K hn h).congr λK=>?_;show ac (Nat.ble n 1) (run (k 0) σ K) _=_;rw[ar,if_pos hb]
  ·exact h.elim
 |sub t k iht ihk=>
  intro σ K hn h
  cases σ with
  |mk H n fs tc w=>
   obtain⟨a,a9,e,hn',h2⟩:=iht _ _ _ h
   cases a9 with
   |mk h' n' f' t' w'=>
    have h2:(ac (Nat.beq fs 0) (CF (k a n n' t' w') (.mk h' n' fs tc w) K hn')
     (kL fs (T.keys t' id []) tc λt2=>iQ fs w' w λw2=>CF (k a n n' t' w') (.mk h' n' fs t2 w2) K hn')).den:=h2
    rw[ar,pX,nH] at h2;by_cases hf:fs=0
    ·subst hf;rw[if_pos (show Nat.beq 0 0=true from rfl)] at h2;refine(ihk a n n' t' w' _ K hn' h2).congr λK=>?_;rw[gU,e];simp
    ·have:¬Nat.beq fs 0=true:=λhb=>hf (aae hb);rw[if_neg this] at h2;refine(ihk a n n' t' w' _ K hn' h2).congr λK=>?_;rw[gU,e];simp [hf]
 |ask p t e iht ihe=>
  intro σ K hn h
  have both:∀a b,(Fm.two p (CF t σ K a) (CF e σ K b)).den->EvTo (run (.ask p t e) σ) λa a9=>∃hn',(K a a9 hn').den:=λa b h=>by
   by_cases hp:p
   ·exact(iht σ K a (h.1 hp)).congr λK=>fq _ _ _ _ hp
   ·exact(ihe σ K b (h.2 hp)).congr λK=>ft _ _ _ _ hp
  cases hn with
  |nil=>exact both _ _ h
  |both a b=>exact both _ _ h
  |yes a=>have h:(Fm.an p (CF t σ K a)).den:=h;exact(iht σ K a (h.2 h.1)).congr λK=>fq _ _ _ _ h.1
  |no a=>have h:(Fm.an (¬p) (CF e σ K a)).den:=h;exact(ihe σ K a (h.2 h.1)).congr λK=>ft _ _ _ _ h.1
 |req p t ih=>intro σ K hn h;have h:(Fm.an p (CF t σ K hn)).den:=h;exact(ih σ K hn (h.2 h.1)).congr λK=>fu _ _ _ h.1
 |sk p z k ih=>intro σ K hn h;have h:(Fm.al p λy=>CF (k y) σ K hn).den:=h;exact ih z.1 σ K hn (h z.1 z.2)
end
end Go.Sym
namespace Go.Sym
noncomputable section
inductive Tm where
 |i (n:Int)
 |s (l:List Nat)
 |p (q:Prop)
 |g (l:List G)
inductive Sh where
 |i (k:IntKind) (t:Nat)
 |b (t:Nat)
 |s (t:Nat)
 |o
 |v (m t:Nat)
 |vb (t:Nat)
 |pi (k:IntKind) (n:Int)
 |pb (q:Prop)
 |ps (l:List Nat)
 |pv (m:Nat) (l:List G)
 |pvb (l:List Nat)
 |np
 |p (j:Nat)
 |m (j:Nat)
 |g (j es t:Nat)
 |gb (j t:Nat)
 |fn (f j:Nat)
 |li (k:IntKind) (n:Int)
 |nz
inductive Sa where
 |c (x:Sh)
 |ag (l:List Sh)
 |cp (l:List Sh)
inductive Sr where
 |one (a:Sa)
 |tu (l:List Sa)
inductive BSh where
 |cells (ty:Nat) (l:List Sh)
 |grow (m ty t:Nat)
 |growb (ty t:Nat)
 |sm (m t:Nat)
 |arr (m ty t:Nat)
 |arb (ty t:Nat)
 |obj (k:Nat) (C:List G->Nat->List Nat->World->Prop) (t:Nat)
abbrev lK:=Nat->Nat×Nat
def put(γ:lK)(y:Sy)(x:Sh):AV:=match x with
 | .i k t=>.sI k (y.i t)
 | .b t=>.sB (y.p t)
 | .s t=>.sS (y.s t)
 | .o=>.any1
 | .v m t=>.cv (.rows m (y.g t))
 | .vb t=>.cv (.bytes (y.s t))
 | .pi k n=>.sI k n
 | .pb q=>.sB q
 | .ps l=>.sS l
 | .pv m l=>.cv (.rows m l)
 | .pvb l=>.cv (.bytes l)
 | .np=>.nilp
 | .p j=>.ptr (γ j).1 0 0
 | .m j=>.map (γ j).1
 | .g j es t=>.gsl (γ j).1 (γ j).2 (y.g t).length es
 | .gb j t=>.gsl (γ j).1 (γ j).2 (y.s t).length 1
 | .fn f j=>.func (.func f) [] [.ptr (γ j).1 0 0]
 | .li k n=>.int k n
 | .nz=>.nils
def nI(γ:lK)(y:Sy)(l:List Sh):List AV:=List.rec (motive:=λ_=>List AV) [] (λx _ ih=>put γ y x::ih) l
def jy(γ:lK)(y:Sy)(a:Sa):AV:=match a with
 | .c x=>put γ y x
 | .ag l=>.agg (nI γ y l)
 | .cp l=>.cptr (nI γ y l)
def nJ(γ:lK)(y:Sy)(l:List Sa):List AV:=List.rec (motive:=λ_=>List AV) [] (λx _ ih=>jy γ y x::ih) l
def Dn(γ:lK)(y:Sy)(r:Sr):AV:=match r with
 | .one a=>jy γ y a
 | .tu l=>.tup (nJ γ y l)
def si:List AV->Nat->T Cell->T Cell
 | [],_,t=>t
 |a::l,i,t=>si l (i+1) (t.set i (.mk 0 a))
def mB(γ:lK)(y:Sy)(j:Nat)(b:BSh):ABlk:=match b with
 | .cells ty l=>.cells (si (nI γ y l) 0 .leaf) 0 0 (List.length l) 0 0 false ty
 | .grow m ty t=>.grow (.rows m (y.g t)) (γ j).2 ty
 | .growb ty t=>.grow (.bytes (y.s t)) (γ j).2 ty
 | .sm m t=>.smap m (y.g t)
 | .arr m ty t=>.grow (.rows m (y.g t)) 0 ty
 | .arb ty t=>.grow (.bytes (y.s t)) 0 ty
 | .obj k C t=>.obj k (C (y.g t)) (y.g t)
def eU(γ:lK)(y:Sy):List BSh->Nat->T ABlk->T ABlk
 | [],_,H=>H
 |b::l,j,H=>eU γ y l (j+1) (H.set (γ j).1 (mB γ y j b))
def bI:lK:=λj=>(base+j,0)
structure PS where
 tm:List (Nat×Tm)
 loc:List (Nat×Nat×Nat)
 ln:List (Nat×Nat×Nat)
 pr:Prop
 fz:List Nat
def ji:PS:=⟨[],[],[],True,[]⟩
def bC{α:Type}(n:Nat)(l:List (Nat×α)):Option α:=List.rec (motive:=λ_=>Option α) none (λx _ ih=>ac (Nat.beq x.1 n) (some x.2) ih) l
def tmI(l:List (Nat×Tm))(n:Nat):Int:=match bC n l with|some (.i x)=>x|_=>0
def I3(l:List (Nat×Tm))(n:Nat):List Nat:=match bC n l with|some (.s x)=>x|_=>[]
def tmP(l:List (Nat×Tm))(n:Nat):Prop:=match bC n l with|some (.p x)=>x|_=>False
def Do(l:List (Nat×Tm))(n:Nat):List G:=match bC n l with|some (.g x)=>x|_=>[]
def aN(l:List (Nat×Tm)):Sy:=⟨tmI l,I3 l,tmP l,Do l⟩
def PS.and(s:PS)(p:Prop):PS:=match s with|⟨tm,loc,ln,pr,fz⟩=>⟨tm,loc,ln,p/\pr,fz⟩
def PS.fzn(s:PS)(b:Nat):PS:=match s with|⟨tm,loc,ln,pr,fz⟩=>⟨tm,loc,ln,pr,b::fz⟩
def PS.name(s:PS)(x:Nat×Nat×Nat):PS:=match s with|⟨tm,loc,ln,pr,fz⟩=>⟨tm,x::loc,ln,pr,fz⟩
def PS.add(s:PS)(t:Nat)(x:Tm):Option PS:=match s with
 |⟨tm,loc,ln,pr,fz⟩=>(match bC t tm with
  |none=>some ⟨(t,x)::tm,loc,ln,pr,fz⟩
  |some _=>none)
def PS.must(s:PS)(p:Prop):Option PS:=some (s.and p)
def PS.at_(s:PS)(j b g:Nat):Option PS:=match s with
 |⟨tm,loc,ln,pr,fz⟩=>(match bC j loc with
  |none=>ac (kE b loc) (some ⟨tm,(j,b,g)::loc,ln,pr,fz⟩) none
  |some (b',g')=>ac (Nat.beq b b') (ac (Nat.beq g g') (some ⟨tm,loc,ln,pr,fz⟩) none) none)
def PS.len_(s:PS)(j tag n:Nat):Option PS:=match s with|⟨tm,loc,ln,pr,fz⟩=>some ⟨tm,loc,(j,tag,n)::ln,pr,fz⟩
def Fs(F:T ABlk)(m:Nat)(a:AV)(s:PS)(k:List G->PS->Option PS):Option PS:=match a with
 | .nils=>k [] s
 | .cv (.rows m' l)=>ac (Nat.beq m m') (k l s) none
 | .gsl b g n es=>T.getK F b none λx=>(match x with
  | .grow (.rows m' l) gen _=>ac (Nat.ble (base+64) b) (ac (Nat.beq m m') (ac (Nat.beq g gen) (k l ((s.fzn b).and (l.length=n))) none) none) none
  | .froz (.rows m' l) gen=>ac (Nat.ble (base+64) b) (ac (Nat.beq m m') (ac (Nat.beq g gen) (ac (Nat.beq es (bm (cU m))) (k l ((s.fzn b).and (l.length=n))) none) none) none) none
  |_=>none)
 | .slc b g o len _ es=>T.getK F b none λx=>(match x with
  | .cells c gen _ _ _ _ ro _=>ac (Nat.ble (base+64) b) (ac ro none (ac (Nat.ble g gen) (ac (Nat.ble 1 len) (ac (Nat.beq es (bm (cU m))) (ac (Nat.ble 1 es) (bx (QN c g (len * es) o) λl=>bx (dU (cU m) len l) λq=>(match q with
   |(gs,[])=>k gs (s.fzn b)
   |_=>none)) none) none) none) none)) none
  |_=>none)
 |_=>none
def xy(F:T ABlk)(a:AV)(s:PS)(k:List Nat->PS->Option PS):Option PS:=match a with
 | .nils=>k [] s
 | .cv (.bytes l)=>k l s
 | .gsl b g n es=>T.getK F b none λx=>(match x with
  | .grow (.bytes l) gen _=>ac (Nat.ble (base+64) b) (ac (Nat.beq g gen) (k l ((s.fzn b).and (l.length=n))) none) none
  | .froz (.bytes l) gen=>ac (Nat.ble (base+64) b) (ac (Nat.beq g gen) (ac (Nat.beq es 1) (k l ((s.fzn b).and (l.length=n))) none) none) none
  |_=>none)
 | .slc b g o len _ es=>T.getK F b none λx=>(match x with
  | .cells c gen _ _ _ _ ro _=>ac (Nat.ble (base+64) b) (ac ro none (ac (Nat.ble g gen) (ac (Nat.ble 1 len) (ac (Nat.beq es 1) (bx (QN c g len o) λl=>bx (gq l) λns=>k (aI ns) ((s.fzn b).and (bp ns))) none) none) none)) none
  |_=>none)
 |_=>none
def jz(blk:List BSh)(j:Nat):Bool:=match blk[j]? with|some (.cells _ _)=>true|some (.obj _ _ _)=>true|some (.arr _ _ _)=>true|some (.arb _ _)=>true|_=>false
def xz(blk:List BSh)(j:Nat):Bool:=match blk[j]? with|some (.sm _ _)=>true|_=>false
def nK(F:T ABlk)(blk:List BSh)(x:Sh)(a:AV)(s:PS):Option PS:=match x with
 | .i k t=>(match cw a with|some (k',n)=>ac (decide (k=k')) (s.add t (.i n)) none|none=>none)
 | .b t=>(match dO a with|some q=>s.add t (.p q)|none=>none)
 | .s t=>(match gp a with|some l=>s.add t (.s l)|none=>none)
 | .o=>ac (gm a) (some s) none
 | .v m t=>Fs F m a s λl s=>s.add t (.g l)
 | .vb t=>xy F a s λl s=>s.add t (.s l)
 | .pi k n=>(match cw a with|some (k',n')=>ac (decide (k=k')) (s.must (n'=n)) none|none=>none)
 | .pb q=>(match dO a with|some q'=>s.must (q'↔q)|none=>none)
 | .ps l=>(match gp a with|some l'=>s.must (l'=l)|none=>none)
 | .pv m l=>Fs F m a s λl' s=>s.must (l'=l)
 | .pvb l=>xy F a s λl' s=>s.must (l'=l)
 | .np=>(match a with | .nilp=>some s|_=>none)
 | .p j=>(match a with | .ptr b g o=>ac (Nat.beq g 0) (ac (Nat.beq o 0) (ac (jz blk j) (s.at_ j b 0) none) none) none|_=>none)
 | .m j=>(match a with | .map b=>ac (xz blk j) (s.at_ j b 0) none|_=>none)
 | .g j es t=>(match a with | .gsl b g n M'=>ac (Nat.beq es M') (bx (s.at_ j b g) λs=>s.len_ j (2 * t) n) none|_=>none)
 | .gb j t=>(match a with | .gsl b g n M'=>ac (Nat.beq 1 M') (bx (s.at_ j b g) λs=>s.len_ j (2 * t+1) n) none|_=>none)
 | .fn f j=>(match a with | .func (.func f') [] [.ptr b g o]=>ac (Nat.beq f f') (ac (Nat.beq g 0) (ac (Nat.beq o 0) (ac (jz blk j) (s.at_ j b 0) none) none) none) none|_=>none)
 | .li k n=>(match a with | .int k' n'=>ac (decide (k=k')) (ac (decide (n=n')) (some s) none) none|_=>none)
 | .nz=>(match a with | .nils=>some s|_=>none)
def iR(F:T ABlk)(blk:List BSh)(l:List Sh)(as:List AV)(s:PS):Option PS:=
 List.rec (motive:=λ_=>List AV->PS->Option PS) (λas s=>match as with | []=>some s|_=>none) (λx _ ih as s=>match as with
  |a::as=>bx (nK F blk x a s) λs=>ih as s
  | []=>none) l as s
def sj(F:T ABlk)(blk:List BSh)(x:Sa)(a:AV)(s:PS):Option PS:=match x with
 | .c x=>nK F blk x a s
 | .ag l=>(match a with | .agg as=>iR F blk l as s|_=>none)
 | .cp l=>(match a with | .cptr as=>iR F blk l as s|_=>none)
def iw(F:T ABlk)(blk:List BSh)(l:List Sa)(as:List AV)(s:PS):Option PS:=
 List.rec (motive:=λ_=>List AV->PS->Option PS) (λas s=>match as with | []=>some s|_=>none) (λx _ ih as s=>match as with
  |a::as=>bx (sj F blk x a s) λs=>ih as s
  | []=>none) l as s
def AF(F:T ABlk)(blk:List BSh)(r:Sr)(a:AV)(s:PS):Option PS:=match r with
 | .one x=>sj F blk x a s
 | .tu l=>(match a with | .tup as=>iw F blk l as s|_=>none)
def nL(ty n:Nat)(q:ABlk)(g:Nat):Option (List AV):=match q with
 | .cells c gen lo hi fl fh ro ty'=>ac ro none (ac (Nat.beq gen 0) (ac (Nat.beq lo 0) (ac (Nat.beq hi n) (ac (Nat.beq fl 0) (ac (Nat.beq fh 0) (ac (Nat.beq ty' ty) (ac (Nat.beq g 0) (QN c 0 n 0) none) none) none) none) none) none) none)
 |_=>none
def gz(x:BSh)(q:ABlk)(g:Nat)(s:PS):Option PS:=match x with
 | .grow m ty t=>(match q with
  | .grow (.rows m' l) gen ty'=>ac (Nat.beq m m') (ac (Nat.beq g gen) (ac (Nat.beq ty ty') (s.add t (.g l)) none) none) none
  |_=>none)
 | .growb ty t=>(match q with
  | .grow (.bytes l) gen ty'=>ac (Nat.beq g gen) (ac (Nat.beq ty ty') (s.add t (.s l)) none) none
  |_=>none)
 | .sm m t=>(match q with
  | .smap m' l=>ac (Nat.beq m m') (ac (Nat.beq g 0) (s.add t (.g l)) none) none
  | .mapo [] _=>ac (Nat.beq g 0) (s.add t (.g [])) none
  |_=>none)
 | .arb ty t=>(match q with
  | .grow (.bytes l) gen ty'=>ac (Nat.beq gen 0) (ac (Nat.beq g 0) (ac (Nat.beq ty ty') (bx (s.must (0<l.length)) λs=>s.add t (.s l)) none) none) none
  |_=>none)
 | .arr m ty t=>(match q with
  | .grow (.rows m' l) gen ty'=>ac (Nat.beq m m') (ac (Nat.beq gen 0) (ac (Nat.beq g 0) (ac (Nat.beq ty ty') (bx (s.must (0<l.length)) λs=>s.add t (.g l)) none) none) none) none
  |_=>none)
 | .obj k C t=>(match q with
  | .obj k' I l=>ac (Nat.beq k k') (ac (Nat.beq g 0) (bx (s.must (I=C l)) λs=>s.add t (.g l)) none) none
  |_=>none)
 | .cells _ _=>none
def pj(F:T ABlk)(blk:List BSh)(x:BSh)(q:ABlk)(g:Nat)(s:PS):Option PS:=match x with
 | .cells ty l=>bx (nL ty (List.length l) q g) λas=>iR F blk l as s
 |x=>gz x q g s
def l_(blk:List BSh)(l:List (Nat×Nat×Nat))(s:PS):Option PS:=
 List.rec (motive:=λ_=>PS->Option PS) (λs=>some s) (λ(x:Nat×Nat×Nat) _ ih s=>match blk[x.1]? with
  |some (.grow _ _ t)=>ac (Nat.beq x.2.1 (2 * t)) (bx (s.must ((Do s.tm t).length=x.2.2)) ih) none
  |some (.growb _ t)=>ac (Nat.beq x.2.1 (2 * t+1)) (bx (s.must ((I3 s.tm t).length=x.2.2)) ih) none
  |_=>none) l s
structure FSpec where
 args:List Sa
 blk:List BSh
 pre:Sy->Prop
 res:Sy->Sr
 out:Sy->List BSh
 post:Sy->Sy->Prop
 gl:Option (Nat×Nat×List Nat):=none
def iS(x:BSh):Bool:=match x with | .grow _ _ _=>false | .growb _ _=>false|_=>true
def ut(q:ABlk):Nat:=match q with | .cells _ g _ _ _ _ _ _=>g | .grow _ g _=>g | .froz _ g=>g|_=>0
def I4(H:T ABlk)(blk:List BSh)(l:List BSh)(j:Nat)(s:PS):Option PS:=
 List.rec (motive:=λ_=>Nat->PS->Option PS) (λ_ s=>some s) (λx _ ih j s=>match bC j s.loc with
  |some bg=>T.getK H bg.1 none λq=>bx (pj H blk x q bg.2 s) λs=>ih (Nat.succ j) s
  |none=>T.getK H (base+j) none λq=>bx (pj H blk x q (ut q) (s.name (j,base+j,ut q))) λs=>ih (Nat.succ j) s) l j s
def ma(n:Nat)(l:List (Nat×Nat×Nat)):Bool:=List.rec (motive:=λ_=>Bool) true (λx l ih=>ac (Nat.ble (Nat.succ x.1) n) (ac (kE x.2.1 l) ih false) false) l
def AG(x y:BSh):Bool:=match x,y with
 | .cells _ _,.cells _ _=>true
 | .grow _ _ _,.grow _ _ _=>true
 | .growb _ _,.growb _ _=>true
 | .sm _ _,.sm _ _=>true
 | .arr _ _ _,.arr _ _ _=>true
 | .arb _ _,.arb _ _=>true
 | .obj k _ _,.obj k' _ _=>Nat.beq k k'
 |_,_=>false
def pY:List BSh->List BSh->Bool
 | [],_=>true
 |x::l,y::m=>ac (AG x y) (pY l m) false
 |_,_=>false
def Rt(bl:List BSh)(j:Nat):Bool:=match bl[j]? with|some (.grow _ _ _)=>true|some (.growb _ _)=>true|_=>false
def nM(bl:List BSh)(n:Nat)(l:List (Nat×Nat×Nat)):Bool:=List.rec (motive:=λ_=>Bool) true (λx _ ih=>ac (ac (Nat.ble (Nat.succ x.1) n) (ac (Nat.beq x.2.1 (base+x.1)) true (ac (Rt bl x.1) (Nat.ble (base+64) x.2.1) false)) (Nat.ble (base+64) x.2.1)) ih false) l
def sn(fz:List Nat)(l:List (Nat×Nat×Nat)):Bool:=List.rec (motive:=λ_=>Bool) true (λb _ ih=>ac (kE b l) ih false) fz
def I5(H:T ABlk)(l:List BSh)(j:Nat)(s:PS):Option PS:=
 List.rec (motive:=λ_=>Nat->PS->Option PS) (λ_ s=>some s) (λx _ ih j s=>match bC j s.loc with
  |some _=>ih (Nat.succ j) s
  |none=>ac (iS x) (T.getK H (base+j) none λq=>ih (Nat.succ j) (s.name (j,base+j,ut q))) (ih (Nat.succ j) s)) l j s
def fi(n:Nat)(H:T ABlk)(r:Sr)(l:List BSh)(a:AV):Option PS:=
 bx (AF H l r a ji) λs=>bx (I5 H (l.take n) 0 s) λs=>bx (I4 H l l 0 s) λs=>bx (l_ l s.ln s) λs=>ac (ac (nM l n s.loc) (sn s.fz s.loc) false) (ac (ma (List.length l) s.loc) (some s) none) none
def UH(n:Nat)(r:Sr)(l:List BSh)(post:Sy->Prop):Lf:=λa σ _=>match fi n σ.h r l a with
 |some s=>.an s.pr (.at (post (aN s.tm)))
 |none=>.ff
def FSpec.argsA(S:FSpec)(z:Sy):List AV:=nJ bI z S.args
def addTab(o:Option (Nat×Nat×List Nat))(H:T ABlk):T ABlk:=match o with|none=>H|some (g,ty,l)=>H.set g (.tab ty l)
def Ru(o:Option (Nat×Nat×List Nat))(k:Tr):Tr:=match o with
 |none=>k
 |some (g,ty,l)=>ac (Nat.ble (Nat.succ g) 1048576) (.rd g λq=>match q with
  | .tab ty' l'=>ac (Nat.beq ty ty') (ac (Ik l l') k .fail) .fail
  |_=>.fail) .fail
def FSpec.heap(S:FSpec)(z:Sy):T ABlk:=addTab S.gl (eU bI z S.blk 0 .leaf)
def Dp(loc:List (Nat×Nat×Nat))(a:AV)(k:AV->Tr):Tr:=match a with
 | .gsl b g n es=>.rd b λq=>(match q with
  | .grow c gen _=>ac (Nat.beq g gen) (ac (Nat.beq c.es es) (ac (ac (Nat.ble (base+64) b) (kE b loc) false) (.req (c.len=n) (.wr b (.froz c gen) (k (.cv c)))) .fail) .fail) .fail
  | .froz c gen=>ac (Nat.beq g gen) (ac (Nat.beq c.es es) (.req (c.len=n) (k (.cv c))) .fail) .fail
  |_=>.fail)
 |a=>k a
def Rv(loc:List (Nat×Nat×Nat))(m:Nat)(a:AV)(k:AV->Tr):Tr:=match a with
 | .slc b g o len cap es=>ac (Nat.beq es (bm (cU m))) (oS loc b g o len cap es (λty as k=>du (dU (cU m) len as) .fail λq=>(match q with|(gs,[])=>k (.rows m gs) ty|_=>.fail)) λa=>Dp loc a k) .fail
 |a=>Dp loc a k
def frzB(loc:List (Nat×Nat×Nat))(a:AV)(k:AV->Tr):Tr:=match a with
 | .slc b g o len cap es=>ac (Nat.beq 1 es) (oS loc b g o len cap 1 (λty as k=>du (gq as) .fail λns=>.req (bp ns) (k (.bytes (aI ns)) ty)) λa=>Dp loc a k) .fail
 |a=>Dp loc a k
def arrK(loc:List (Nat×Nat×Nat))(m b g:Nat)(k:Tr):Tr:=.rd b λq=>match q with
 | .cells _ _ _ hi _ _ _ _=>oS loc b g 0 (hi/bm (cU m)) (some (hi/bm (cU m))) (bm (cU m)) (rF m (hi/bm (cU m))) λ_=>k
 |_=>k
def arbK(loc:List (Nat×Nat×Nat))(b g:Nat)(k:Tr):Tr:=.rd b λq=>match q with
 | .cells _ _ _ hi _ _ _ _=>oS loc b g 0 hi (some hi) 1 rG λ_=>k
 |_=>k
def vy(loc:List (Nat×Nat×Nat))(blk:List BSh)(x:Sh)(a:AV)(k:AV->Tr):Tr:=match x with
 | .g j es t=>(match a with
  | .nils=>(match blk[j]? with|some (.grow m ty _)=>.new (.grow (.rows m []) 0 ty) λb=>k (.gsl b 0 0 es)|_=>.fail)
  | .slc b g o len cap M'=>(match blk[j]? with
   |some (.grow m ty _)=>ac (Nat.beq es M') (oS loc b g o len cap es (λ_ as k=>du (dU (cU m) len as) .fail λq=>(match q with|(gs,[])=>k (.rows m gs) ty|_=>.fail)) k) .fail
   |_=>.fail)
  |a=>k a)
 | .gb j t=>(match a with
  | .nils=>(match blk[j]? with|some (.growb ty _)=>.new (.grow (.bytes []) 0 ty) λb=>k (.gsl b 0 0 1)|_=>.fail)
  | .slc b g o len cap M'=>(match blk[j]? with
   |some (.growb ty _)=>ac (Nat.beq 1 M') (oS loc b g o len cap 1 (λ_ as k=>du (gq as) .fail λns=>.req (bp ns) (k (.bytes (aI ns)) ty)) k) .fail
   |_=>.fail)
  |a=>k a)
 | .p j=>(match a with
  | .ptr b g o=>(match blk[j]? with|some (.arr m _ _)=>arrK loc m b g (k (.ptr b g o))|some (.arb _ _)=>arbK loc b g (k (.ptr b g o))|_=>k (.ptr b g o))
  |a=>k a)
 | .v m _=>Rv loc m a k
 | .pv m _=>Rv loc m a k
 | .vb _=>frzB loc a k
 | .pvb _=>frzB loc a k
 |_=>k a
def xA(loc:List (Nat×Nat×Nat))(blk:List BSh)(l:List Sh)(as:List AV)(k:List AV->Tr):Tr:=
 List.rec (motive:=λ_=>List AV->(List AV->Tr)->Tr) (λas k=>k as) (λx _ ih as k=>match as with
  | []=>k []
  |a::as=>vy loc blk x a λa=>ih as λas=>k (a::as)) l as k
def L5(loc:List (Nat×Nat×Nat))(blk:List BSh)(x:Sa)(a:AV)(k:AV->Tr):Tr:=match x with
 | .c x=>vy loc blk x a k
 | .ag l=>(match a with
  | .agg as=>ac (Nat.beq (List.length as) (List.length l)) (xA loc blk l as λas=>k (.agg as)) .fail
  |a=>k a)
 | .cp _=>k a
def jA(loc:List (Nat×Nat×Nat))(blk:List BSh)(l:List Sa)(as:List AV)(k:List AV->Tr):Tr:=
 List.rec (motive:=λ_=>List AV->(List AV->Tr)->Tr) (λas k=>k as) (λx _ ih as k=>match as with
  | []=>k []
  |a::as=>L5 loc blk x a λa=>ih as λas=>k (a::as)) l as k
def ZS(x:Sh):Sh:=match x with | .g j es t=>.g j es t | .gb j t=>.gb j t|_=>.o
def Rw(x:Sa):Sa:=match x with | .c x=>.c (ZS x) | .ag l=>.ag (l.map ZS) | .cp l=>.cp l
def Dq(blk:List BSh)(r:Sr)(a:AV)(k:AV->Tr):Tr:=match r with
 | .one x=>jA [] blk [Rw x] [a] λas=>match as with | [a]=>k a|_=>.fail
 | .tu l=>(match a with
  | .tup as=>ac (Nat.beq (List.length (l.map Rw)) (List.length as)) (jA [] blk (l.map Rw) as λas=>k (.tup as)) (k (.tup as))
  |a=>k a)
def FSpec.callFm(S:FSpec)(P:Program)(M:Tab)(n f:Nat)(z:Sy)(h:Hn):Fm:=
 CF (nu P (xf P M n) f (S.argsA z) λa=>Dq (S.out z) (S.res z) a .ret) (start (S.heap z) (base+64)) (UH (List.length S.blk) (S.res z) (S.out z) (S.post z)) h
def ZT(blk:List BSh)(x:BSh)(q:ABlk)(g:Nat)(s:PS)(k:PS->Tr):Tr:=match x with
 | .cells ty l=>du (nL ty (List.length l) q g) .fail λas=>xA s.loc blk l as λas=>du (iR .leaf blk l as s) .fail k
 |x=>du (gz x q g s) .fail k
def vz(blk:List BSh)(l:List BSh)(j:Nat)(s:PS)(k:PS->Tr):Tr:=
 List.rec (motive:=λ_=>Nat->PS->(PS->Tr)->Tr) (λ_ s k=>k s) (λx _ ih j s k=>du (bC j s.loc) .fail λbg=>.rd bg.1 λq=>ZT blk x q bg.2 s λs=>ih (Nat.succ j) s k) l j s k
def pk(s:PS):lK:=λj=>match bC j s.loc with|some p=>p|none=>(0,0)
def Ft(x:BSh)(g:Nat):Nat:=ac (iS x) g (g+1)
def qu(l:List BSh)(γ:lK):lK:=λj=>match l[j]? with|some x=>((γ j).1,Ft x (γ j).2)|none=>γ j
def Rx(l:List BSh)(k:List Nat->Tr):Tr:=List.rec (motive:=λ_=>(List Nat->Tr)->Tr) (λk=>k []) (λ_ _ ih k=>.new (.grow (.bytes []) 0 0) λb=>ih λbs=>k (b::bs)) l k
def uv(n:Nat)(γ:lK)(bs:List Nat):lK:=λj=>ac (Nat.ble (Nat.succ j) n) (γ j) (bs.getD (j-n) 0,0)
def WH(γ:lK)(y:Sy)(l:List BSh)(j:Nat)(k:Tr):Tr:=
 List.rec (motive:=λ_=>Nat->Tr->Tr) (λ_ k=>k) (λx _ ih j k=>.wr (γ j).1 (mB γ y j x) (ih (Nat.succ j) k)) l j k
def WI(S:FSpec)(zf:(z:Sy)->{y:Sy // S.pre z->S.post z y})(args:List AV)(k:AV->Tr):Tr:=
 Ru S.gl <| jA [] S.blk S.args args λargs=>du (iw .leaf S.blk S.args args ji) .fail λs=>vz S.blk S.blk 0 s λs=>du (l_ S.blk s.ln s) .fail λs=>ac (ac (Nat.ble (List.length S.blk) 64) (ac (pY S.blk (S.out (aN s.tm))) (ma (List.length S.blk) s.loc) false) false) (.req (s.pr/\S.pre (aN s.tm))
  (.sk (λy=>S.pre (aN s.tm)->S.post (aN s.tm) y) (zf (aN s.tm)) λy=>Rx ((S.out (aN s.tm)).drop (List.length S.blk)) λbs=>WH (uv (List.length S.blk) (qu S.blk (pk s)) bs) y (S.out (aN s.tm)) 0 (k (Dn (uv (List.length S.blk) (qu S.blk (pk s)) bs) y (S.res (aN s.tm)))))) .fail
end
end Go.Sym
namespace Go.Sym
open Go.RowKit (Below)
def mW(s:PS)(F:T ABlk):Nat->Option ABlk:=λb=>if b∈s.fz then F.get b else none
def RdC(F:Nat->Option ABlk)(ct:Ct)(a:AV):Prop:=
 (a= .nils/\ct.len=0)∨a= .cv ct∨
 (∃b g es ty,a= .gsl b g ct.len es/\base+64<=b/\F b=some (.grow ct g ty))∨
 (∃(b g o:Nat) (cap:Option Nat) (c:T Cell) (gen lo hi fl fh ty:Nat) (as:List AV),a= .slc b g o ct.len cap ct.es/\base+64<=b/\F b=some (.cells c gen lo hi fl fh false ty)/\g<=gen/\1<=ct.len/\1<=ct.es/\
  QN c g (ct.len * ct.es) o=some as/\∀i,i<ct.len->∀(ρ:Rho) (vs:List Value),LR ρ ((as.drop (i * ct.es)).take ct.es) vs->LR ρ (ct.row i) vs)∨
 (∃b g,a= .gsl b g ct.len ct.es/\base+64<=b/\F b=some (.froz ct g))
def Tv(F:Nat->Option ABlk)(blk:List BSh)(L:Nat->Option (Nat×Nat))(y:Sy)(x:Sh)(a:AV):Prop:=match x with
 | .i k t=>cw a=some (k,y.i t)
 | .b t=>dO a=some (y.p t)
 | .s t=>gp a=some (y.s t)
 | .o=>gm a=true
 | .v m t=>RdC F (.rows m (y.g t)) a
 | .vb t=>RdC F (.bytes (y.s t)) a
 | .pi k n=>cw a=some (k,n)
 | .pb q=>∃q',dO a=some q'/\(q'↔q)
 | .ps l=>gp a=some l
 | .pv m l=>RdC F (.rows m l) a
 | .pvb l=>RdC F (.bytes l) a
 | .np=>a= .nilp
 | .m j=>∃b,L j=some (b,0)/\a= .map b/\xz blk j=true
 | .p j=>∃b,L j=some (b,0)/\a= .ptr b 0 0/\jz blk j=true
 | .g j es t=>∃b g,L j=some (b,g)/\a= .gsl b g (y.g t).length es/\∃m ty,blk[j]? =some (.grow m ty t)
 | .gb j t=>∃b g,L j=some (b,g)/\a= .gsl b g (y.s t).length 1/\∃ty,blk[j]? =some (.growb ty t)
 | .fn f j=>∃b,L j=some (b,0)/\a= .func (.func f) [] [.ptr b 0 0]/\jz blk j=true
 | .li k n=>a= .int k n
 | .nz=>a= .nils
structure PS.Le(s s':PS):Prop where
 tm:∀t x,bC t s.tm=some x->bC t s'.tm=some x
 loc:∀j p,bC j s.loc=some p->bC j s'.loc=some p
 ln:∀q,q∈s.ln->q∈s'.ln
 pr:s'.pr->s.pr
 mem:∀q,q∈s.loc->q∈s'.loc
 fz:∀b,b∈s.fz->b∈s'.fz
def PS.Le.refl(s:PS):s.Le s:=⟨λ_ _ h=>h,λ_ _ h=>h,λ_ h=>h,λh=>h,λ_ h=>h,λ_ h=>h⟩
def PS.Le.trans{a b c:PS}(h:a.Le b)(h':b.Le c):a.Le c:=⟨λt x q=>h'.tm t x (h.tm t x q),λj p q=>h'.loc j p (h.loc j p q),λq p=>h'.ln q (h.ln q p),λp=>h.pr (h'.pr p),λq p=>h'.mem q (h.mem q p),λb p=>h'.fz b (h.fz b p)⟩
def so(blk:List BSh)(s:PS):Prop:=∀j tag n,(j,tag,n)∈s.ln->(∃m ty t,blk[j]? =some (.grow m ty t)/\tag=2 * t/\(Do s.tm t).length=n)∨(∃ty t,blk[j]? =some (.growb ty t)/\tag=2 * t+1/\(I3 s.tm t).length=n)
noncomputable def PS.L(s:PS):Nat->Option (Nat×Nat):=λj=>bC j s.loc
def dk{α:Type}(n:Nat)(x:Nat×α)(l:List (Nat×α)):bC n (x::l)=if x.1=n then some x.2 else bC n l:=by
 show ac (Nat.beq x.1 n) (some x.2) (bC n l)=_;rw[ar];by_cases h:x.1=n
 ·rw[if_pos h,if_pos (by rw[h];exact abo n)]
 ·rw[if_neg h,if_neg (λe=>h (aae e))]
def PS.and_le(s:PS)(p:Prop):s.Le (s.and p)/\((s.and p).pr->p):=by cases s;exact⟨⟨λ_ _ h=>h,λ_ _ h=>h,λ_ h=>h,λh=>h.2,λ_ h=>h,λ_ h=>h⟩,λh=>h.1⟩
def PS.fzn_le(s:PS)(b:Nat):s.Le (s.fzn b)/\b∈(s.fzn b).fz:=by cases s;exact⟨⟨λ_ _ h=>h,λ_ _ h=>h,λ_ h=>h,λh=>h,λ_ h=>h,λ_ h=>aal _ h⟩,aan⟩
def pm{s sF:PS}{F:T ABlk}{b:Nat}(h:b∈s.fz)(hF:s.Le sF):mW sF F b=F.get b:=by unfold mW;rw[if_pos (hF.fz _ h)]
def PS.add_ok{s s':PS}{t:Nat}{x:Tm}(h:s.add t x=some s'):s.Le s'/\bC t s'.tm=some x:=by
 cases s with
 |mk tm loc ln pr fz=>
 unfold PS.add at h
 simp only at h
 split at h
 ·rename_i hn;injection h with h;subst h;refine⟨⟨λt' x' h'=>?_,λ_ _ h=>h,λ_ h=>h,λh=>h,λ_ h=>h,λ_ h=>h⟩,by rw[dk,if_pos rfl]⟩;rw[dk];split
  ·rename_i e;simp only at e;subst e;have h':bC t tm=some x':=h';rw[hn] at h';cases h'
  ·exact h'
 ·cases h
def PS.must_ok{s s':PS}{p:Prop}(h:s.must p=some s'):s.Le s'/\(s'.pr->p):=by injection h with h;subst h;exact PS.and_le s p
def PS.at_ok{s s':PS}{j b g:Nat}(h:s.at_ j b g=some s'):s.Le s'/\bC j s'.loc=some (b,g):=by
 cases s with
 |mk tm loc ln pr fz=>
 unfold PS.at_ at h
 simp only at h
 split at h
 ·rename_i hn;obtain⟨_,h⟩:=bc h;injection h with h;subst h;refine⟨⟨λ_ _ h=>h,λj' p h'=>?_,λ_ h=>h,λh=>h,λ_ h=>aal _ h,λ_ h=>h⟩,by rw[dk,if_pos rfl]⟩;rw[dk];split
  ·rename_i e;simp only at e;subst e;have h':bC j loc=some p:=h';rw[hn] at h';cases h'
  ·exact h'
 ·rename_i b' g' hn;obtain⟨e1,h⟩:=bc h;obtain⟨e2,h⟩:=bc h;have e1:=aae e1;have e2:=aae e2;injection h with h;subst h;subst e1;subst e2;exact⟨.refl _,hn⟩
def PS.len_ok{s s':PS}{j tag n:Nat}(h:s.len_ j tag n=some s'):s.Le s'/\(j,tag,n)∈s'.ln:=by
 cases s with
 |mk tm loc ln pr fz=>
 injection h with h
 subst h
 exact⟨⟨λ_ _ h=>h,λ_ _ h=>h,λ_ h=>aal _ h,λh=>h,λ_ h=>h,λ_ h=>h⟩,aan⟩
def AH{F:T ABlk}{m:Nat}{a:AV}{s s':PS}{k:List G->PS->Option PS}(h:Fs F m a s k=some s'):
 ∃l s1,k l s1=some s'/\s.Le s1/\(s1.pr->∀sF,s1.Le sF->RdC (mW sF F) (.rows m l) a):=by
 unfold Fs at h
 split at h
 ·exact⟨_,_,h,.refl _,λ_ _ _=>.inl ⟨rfl,rfl⟩⟩
 ·replace h:=bc h;obtain⟨e,h⟩:=h;have e:=aae e;subst e;exact⟨_,_,h,.refl _,λ_ _ _=>.inr (.inl rfl)⟩
 ·rename_i b g n es;replace h:=nA h;obtain⟨x,hx,h⟩:=h;split at h
  ·rename_i m' l gen ty;replace h:=bc h;obtain⟨e0,h⟩:=h;replace h:=bc h;obtain⟨e1,h⟩:=h;replace h:=bc h;obtain⟨e2,h⟩:=h;have e1:=aae e1;have e2:=aae e2;subst e1;subst e2;refine⟨_,_,h,(PS.fzn_le s b).1.trans (PS.and_le _ _).1,λhp sF hF=>.inr (.inr (.inl ⟨b,g,es,ty, ?_,aay e0,(pm ((PS.and_le _ _).1.fz _ (PS.fzn_le s b).2) hF).trans hx⟩))⟩;show AV.gsl b g n es= .gsl b g l.length es;rw[←(PS.and_le _ _).2 hp]
  ·rename_i m' l gen;replace h:=bc h;obtain⟨e0,h⟩:=h;replace h:=bc h;obtain⟨e1,h⟩:=h;replace h:=bc h;obtain⟨e2,h⟩:=h;replace h:=bc h;obtain⟨e3,h⟩:=h;have e1:=aae e1;have e2:=aae e2;have e3:=aae e3;subst e1;subst e2;subst e3;refine⟨_,_,h,(PS.fzn_le s b).1.trans (PS.and_le _ _).1,λhp sF hF=>.inr (.inr (.inr (.inr ⟨b,g, ?_,aay e0,(pm ((PS.and_le _ _).1.fz _ (PS.fzn_le s b).2) hF).trans hx⟩)))⟩;show AV.gsl b g n _= .gsl b g l.length _;rw[←(PS.and_le _ _).2 hp];rfl
  ·cases h
 ·rename_i b g o len cap es;replace h:=nA h;obtain⟨x,hx,h⟩:=h;split at h
  ·rename_i c gen lo hi fl fh ro ty;replace h:=bc h;obtain⟨e0,h⟩:=h;replace h:=WA h;obtain⟨e1,h⟩:=h;replace h:=bc h;obtain⟨e2,h⟩:=h;replace h:=bc h;obtain⟨e3,h⟩:=h;replace h:=bc h;obtain⟨e4,h⟩:=h;replace h:=bc h;obtain⟨e5,h⟩:=h;replace h:=az h;obtain⟨as,hl,h⟩:=h;replace h:=az h;obtain⟨q,hq,h⟩:=h;split at h
   ·rename_i gs;have e4:=aae e4;subst e1;obtain⟨c1,f1,f2,f3,f4⟩:=g_ _ _ _ _ hq;have f1:as=c1:=by simpa using f1
    subst f1;subst e4;subst f3;exact⟨_,_,h,(PS.fzn_le s b).1,λ_ sF hF=>.inr (.inr (.inr (.inl ⟨b,g,o,cap,c,gen,lo,hi,fl,fh,ty,as,rfl,aay e0,(pm (PS.fzn_le s b).2 hF).trans hx,aay e2,aay e3,aay e5,hl,f4⟩)))⟩
   ·cases h
  ·cases h
 ·cases h
def vA{F:T ABlk}{a:AV}{s s':PS}{k:List Nat->PS->Option PS}(h:xy F a s k=some s'):
 ∃l s1,k l s1=some s'/\s.Le s1/\(s1.pr->∀sF,s1.Le sF->RdC (mW sF F) (.bytes l) a):=by
 unfold xy at h
 split at h
 ·exact⟨_,_,h,.refl _,λ_ _ _=>.inl ⟨rfl,rfl⟩⟩
 ·exact⟨_,_,h,.refl _,λ_ _ _=>.inr (.inl rfl)⟩
 ·rename_i b g n es;replace h:=nA h;obtain⟨x,hx,h⟩:=h;split at h
  ·rename_i l gen ty;replace h:=bc h;obtain⟨e0,h⟩:=h;replace h:=bc h;obtain⟨e2,h⟩:=h;have e2:=aae e2;subst e2;refine⟨_,_,h,(PS.fzn_le s b).1.trans (PS.and_le _ _).1,λhp sF hF=>.inr (.inr (.inl ⟨b,g,es,ty, ?_,aay e0,(pm ((PS.and_le _ _).1.fz _ (PS.fzn_le s b).2) hF).trans hx⟩))⟩;show AV.gsl b g n es= .gsl b g l.length es;rw[←(PS.and_le _ _).2 hp]
  ·rename_i l gen;replace h:=bc h;obtain⟨e0,h⟩:=h;replace h:=bc h;obtain⟨e2,h⟩:=h;replace h:=bc h;obtain⟨e3,h⟩:=h;have e2:=aae e2;have e3:=aae e3;subst e2;subst e3;refine⟨_,_,h,(PS.fzn_le s b).1.trans (PS.and_le _ _).1,λhp sF hF=>.inr (.inr (.inr (.inr ⟨b,g, ?_,aay e0,(pm ((PS.and_le _ _).1.fz _ (PS.fzn_le s b).2) hF).trans hx⟩)))⟩;show AV.gsl b g n _= .gsl b g l.length _;rw[←(PS.and_le _ _).2 hp];rfl
  ·cases h
 ·rename_i b g o len cap es;replace h:=nA h;obtain⟨x,hx,h⟩:=h;split at h
  ·rename_i c gen lo hi fl fh ro ty;replace h:=bc h;obtain⟨e0,h⟩:=h;replace h:=WA h;obtain⟨e1,h⟩:=h;replace h:=bc h;obtain⟨e2,h⟩:=h;replace h:=bc h;obtain⟨e3,h⟩:=h;replace h:=bc h;obtain⟨e4,h⟩:=h;replace h:=az h;obtain⟨as,hl,h⟩:=h;replace h:=az h;obtain⟨ns,hq,h⟩:=h;have e4:=aae e4;subst e1;subst e4;obtain⟨f1,f2⟩:=nx _ _ hq;have hal:as.length=len:=by
    have:∀(n o:Nat) (l:List AV),QN c g n o=some l->l.length=n:=by
     intro n
     induction n with
     |zero=>intro o l h;injection h with h;subst h;rfl
     |succ n ih=>
      intro o l h
      replace h:=nA h;obtain⟨x,_,h⟩:=h
      cases x with
      |mk tag v=>replace h:=bc h;obtain⟨_,h⟩:=h;rw[rx] at h;obtain⟨l',h1,h2⟩:=az h;injection h2 with h2;subst h2;simp [ih _ _ h1]
    exact this _ _ _ hl
   have hnl:(Ct.bytes (aI ns)).len=len:=by show(aI ns).length=len;rw[bQ,f1,hal]
   refine⟨_,_,h,(PS.fzn_le s b).1.trans (PS.and_le _ _).1,λhp sF hF=>.inr (.inr (.inr (.inl ⟨b,g,o,cap,c,gen,lo,hi,fl,fh,ty,as,by rw[hnl];rfl,aay e0,(pm ((PS.and_le _ _).1.fz _ (PS.fzn_le s b).2) hF).trans hx,aay e2,by rw[hnl];exact aay e3,aac _,by rw[hnl];show QN c g (len * 1) o=_;rw[aaJ];exact hl,λi hi ρ vs L'=>?_⟩)))⟩;rw[hnl] at hi;have hia:i<as.length:=by omega
   have hd:(as.drop (i * 1)).take 1= [as[i]]:=by rw[aaJ,aaX hia];rfl
   have L':LR ρ ((as.drop (i * 1)).take 1) vs:=L';rw[hd] at L';refine L'.one λv hv=>?_;obtain⟨n',q1,q2⟩:=f2 i as[i] (aak hia);obtain⟨q3,q4⟩:=jr _ _ _ ((PS.and_le _ _).2 hp) q1;rw[bo hv q2,aag,q3];show VR ρ (.sI .u8 ((n'.toNat:Nat):Int)) _;rw[show((n'.toNat:Nat):Int)=n' by omega];exact .sI _ _
  ·cases h
 ·cases h
def L6{l:List (Nat×Tm)}{t:Nat}{n:Int}(h:bC t l=some (.i n)):tmI l t=n:=by unfold tmI;rw[h]
def sq{l:List (Nat×Tm)}{t:Nat}{n:List Nat}(h:bC t l=some (.s n)):I3 l t=n:=by unfold I3;rw[h]
def WJ{l:List (Nat×Tm)}{t:Nat}{n:Prop}(h:bC t l=some (.p n)):tmP l t=n:=by unfold tmP;rw[h]
def mC{l:List (Nat×Tm)}{t:Nat}{n:List G}(h:bC t l=some (.g n)):Do l t=n:=by unfold Do;rw[h]
def AI{F:T ABlk}{blk:List BSh}{x:Sh}{a:AV}{s s':PS}(h:nK F blk x a s=some s'):
 s.Le s'/\∀sF,s'.Le sF->sF.pr->so blk sF->Tv (mW sF F) blk sF.L (aN sF.tm) x a:=by
 unfold nK at h
 cases x with
 |i k t=>
  simp only at h
  split at h
  ·rename_i k' n hn;replace h:=bc h;obtain⟨e,h⟩:=h;have e:=of_decide_eq_true e;subst e;obtain⟨h1,h2⟩:=PS.add_ok h;refine⟨h1,λsF hF _ _=>?_⟩;show cw a=some (k,tmI sF.tm t);rw[L6 (hF.tm _ _ h2),hn]
  ·cases h
 |b t=>
  simp only at h
  split at h
  ·rename_i q hn;obtain⟨h1,h2⟩:=PS.add_ok h;refine⟨h1,λsF hF _ _=>?_⟩;show dO a=some (tmP sF.tm t);rw[WJ (hF.tm _ _ h2),hn]
  ·cases h
 |s t=>
  simp only at h
  split at h
  ·rename_i q hn;obtain⟨h1,h2⟩:=PS.add_ok h;refine⟨h1,λsF hF _ _=>?_⟩;show gp a=some (I3 sF.tm t);rw[sq (hF.tm _ _ h2),hn]
  ·cases h
 |o=>
  replace h:=bc h;obtain⟨e,h⟩:=h
  injection h with h
  subst h
  exact⟨.refl _,λsF _ _ _=>e⟩
 |v m t=>
  obtain⟨l,s1,hk,hle,hr⟩:=AH h
  obtain⟨h1,h2⟩:=PS.add_ok hk
  refine⟨hle.trans h1,λsF hF hp _=>?_⟩
  show RdC (mW sF F) (.rows m (Do sF.tm t)) a
  rw[mC (hF.tm _ _ h2)]
  exact hr (h1.pr (hF.pr hp)) sF (h1.trans hF)
 |vb t=>
  obtain⟨l,s1,hk,hle,hr⟩:=vA h
  obtain⟨h1,h2⟩:=PS.add_ok hk
  refine⟨hle.trans h1,λsF hF hp _=>?_⟩
  show RdC (mW sF F) (.bytes (I3 sF.tm t)) a
  rw[sq (hF.tm _ _ h2)]
  exact hr (h1.pr (hF.pr hp)) sF (h1.trans hF)
 |pi k n=>
  simp only at h
  split at h
  ·rename_i k' n' hn;replace h:=bc h;obtain⟨e,h⟩:=h;have e:=of_decide_eq_true e;subst e;obtain⟨h1,h2⟩:=PS.must_ok h;refine⟨h1,λsF hF hp _=>?_⟩;show cw a=some (k,n);rw[hn,h2 (hF.pr hp)]
  ·cases h
 |pb q=>
  simp only at h
  split at h
  ·rename_i q' hn;obtain⟨h1,h2⟩:=PS.must_ok h;exact⟨h1,λsF hF hp _=>⟨q',hn,h2 (hF.pr hp)⟩⟩
  ·cases h
 |ps l=>
  simp only at h
  split at h
  ·rename_i l' hn;obtain⟨h1,h2⟩:=PS.must_ok h;refine⟨h1,λsF hF hp _=>?_⟩;show gp a=some l;rw[hn,h2 (hF.pr hp)]
  ·cases h
 |pv m l=>
  obtain⟨l',s1,hk,hle,hr⟩:=AH h
  obtain⟨h1,h2⟩:=PS.must_ok hk
  refine⟨hle.trans h1,λsF hF hp _=>?_⟩
  show RdC (mW sF F) (.rows m l) a
  rw[←h2 (hF.pr hp)]
  exact hr (h1.pr (hF.pr hp)) sF (h1.trans hF)
 |pvb l=>
  obtain⟨l',s1,hk,hle,hr⟩:=vA h
  obtain⟨h1,h2⟩:=PS.must_ok hk
  refine⟨hle.trans h1,λsF hF hp _=>?_⟩
  show RdC (mW sF F) (.bytes l) a
  rw[←h2 (hF.pr hp)]
  exact hr (h1.pr (hF.pr hp)) sF (h1.trans hF)
 |np=>
  simp only at h
  split at h
  ·injection h with h;subst h;exact⟨.refl _,λsF _ _ _=>rfl⟩
  ·cases h
 |li k n=>
  simp only at h
  split at h
  ·replace h:=bc h;obtain⟨e,h⟩:=h;replace h:=bc h;obtain⟨e2,h⟩:=h;have e:=of_decide_eq_true e;have e2:=of_decide_eq_true e2;injection h with h;subst h;subst e;subst e2;exact⟨.refl _,λsF _ _ _=>rfl⟩
  ·cases h
 |nz=>
  simp only at h
  split at h
  ·injection h with h;subst h;exact⟨.refl _,λsF _ _ _=>rfl⟩
  ·cases h
 |p j=>
  simp only at h
  split at h
  ·rename_i b g o;replace h:=bc h;obtain⟨e1,h⟩:=h;replace h:=bc h;obtain⟨e2,h⟩:=h;replace h:=bc h;obtain⟨e3,h⟩:=h;have e1:=aae e1;have e2:=aae e2;subst e1;subst e2;obtain⟨h1,h2⟩:=PS.at_ok h;exact⟨h1,λsF hF _ _=>⟨b,hF.loc _ _ h2,rfl,e3⟩⟩
  ·cases h
 |fn f j=>
  simp only at h
  split at h
  ·rename_i f' b g o;replace h:=bc h;obtain⟨e0,h⟩:=h;replace h:=bc h;obtain⟨e1,h⟩:=h;replace h:=bc h;obtain⟨e2,h⟩:=h;replace h:=bc h;obtain⟨e3,h⟩:=h;have e0:=aae e0;have e1:=aae e1;have e2:=aae e2;subst e0;subst e1;subst e2;obtain⟨h1,h2⟩:=PS.at_ok h;exact⟨h1,λsF hF _ _=>⟨b,hF.loc _ _ h2,rfl,e3⟩⟩
  ·cases h
 |m j=>
  simp only at h
  split at h
  ·rename_i b;replace h:=bc h;obtain⟨e3,h⟩:=h;obtain⟨h1,h2⟩:=PS.at_ok h;exact⟨h1,λsF hF _ _=>⟨b,hF.loc _ _ h2,rfl,e3⟩⟩
  ·cases h
 |g j es t=>
  simp only at h
  split at h
  ·rename_i b g n M';replace h:=bc h;obtain⟨e1,h⟩:=h;have e1:=aae e1;subst e1;replace h:=az h;obtain⟨s1,h1,h⟩:=h;obtain⟨h1,h2⟩:=PS.at_ok h1;obtain⟨h3,h4⟩:=PS.len_ok h;refine⟨h1.trans h3,λsF hF _ hl=>⟨b,g,hF.loc _ _ (h3.loc _ _ h2), ?_⟩⟩;rcases hl _ _ _ (hF.ln _ h4) with⟨m,ty,t',eb,e,e2⟩|⟨ty,t',eb,e,e2⟩
   ·have:t'=t:=by omega
    subst this;refine⟨?_,m,ty,eb⟩;show AV.gsl b g n es= .gsl b g (Do sF.tm t').length es;rw[e2]
   ·omega
  ·cases h
 |gb j t=>
  simp only at h
  split at h
  ·rename_i b g n M';replace h:=bc h;obtain⟨e1,h⟩:=h;have e1:=aae e1;subst e1;replace h:=az h;obtain⟨s1,h1,h⟩:=h;obtain⟨h1,h2⟩:=PS.at_ok h1;obtain⟨h3,h4⟩:=PS.len_ok h;refine⟨h1.trans h3,λsF hF _ hl=>⟨b,g,hF.loc _ _ (h3.loc _ _ h2), ?_⟩⟩;rcases hl _ _ _ (hF.ln _ h4) with⟨m,ty,t',eb,e,e2⟩|⟨ty,t',eb,e,e2⟩
   ·omega
   ·have:t'=t:=by omega
    subst this;refine⟨?_,ty,eb⟩;show AV.gsl b g n 1= .gsl b g (I3 sF.tm t').length 1;rw[e2]
  ·cases h
def cM{α β:Type}(R:α->β->Prop):List α->List β->Prop
 | [],[]=>True
 |a::l,b::m=>R a b/\cM R l m
 |_,_=>False
def nN{F:T ABlk}{blk:List BSh}:∀{l:List Sh} {as:List AV} {s s':PS},iR F blk l as s=some s'->
 s.Le s'/\∀sF,s'.Le sF->sF.pr->so blk sF->cM (Tv (mW sF F) blk sF.L (aN sF.tm)) l as:=by
 intro l
 induction l with
 |nil=>
  intro as s s' h
  cases as with
  |nil=>injection h with h;subst h;exact⟨.refl _,λ_ _ _ _=>trivial⟩
  |cons _ _=>cases h
 |cons x l ih=>
  intro as s s' h
  cases as with
  |nil=>cases h
  |cons a as=>
   obtain⟨s1,h1,h2⟩:=az (show bx (nK F blk x a s) (λs=>iR F blk l as s)=some s' from h)
   obtain⟨q1,q2⟩:=AI (blk:=blk) h1
   obtain⟨r1,r2⟩:=ih h2
   exact⟨q1.trans r1,λsF hF hp hl=>⟨q2 sF (r1.trans hF) hp hl,r2 sF hF hp hl⟩⟩
def TvA(F:Nat->Option ABlk)(blk:List BSh)(L:Nat->Option (Nat×Nat))(y:Sy)(x:Sa)(a:AV):Prop:=match x with
 | .c x=>Tv F blk L y x a
 | .ag l=>∃as,a= .agg as/\cM (Tv F blk L y) l as
 | .cp l=>∃as,a= .cptr as/\cM (Tv F blk L y) l as
def TvR(F:Nat->Option ABlk)(blk:List BSh)(L:Nat->Option (Nat×Nat))(y:Sy)(x:Sr)(a:AV):Prop:=match x with
 | .one x=>TvA F blk L y x a
 | .tu l=>∃as,a= .tup as/\cM (TvA F blk L y) l as
def AJ{F:T ABlk}{blk:List BSh}{x:Sa}{a:AV}{s s':PS}(h:sj F blk x a s=some s'):
 s.Le s'/\∀sF,s'.Le sF->sF.pr->so blk sF->TvA (mW sF F) blk sF.L (aN sF.tm) x a:=by
 cases x with
 |c x=>exact AI h
 |ag l=>
  unfold sj at h
  simp only at h
  split at h
  ·obtain⟨h1,h2⟩:=nN (blk:=blk) h;exact⟨h1,λsF hF hp hl=>⟨_,rfl,h2 sF hF hp hl⟩⟩
  ·cases h
 |cp l=>
  unfold sj at h
  simp only at h
  split at h
  ·obtain⟨h1,h2⟩:=nN (blk:=blk) h;exact⟨h1,λsF hF hp hl=>⟨_,rfl,h2 sF hF hp hl⟩⟩
  ·cases h
def ge{F:T ABlk}{blk:List BSh}:∀{l:List Sa} {as:List AV} {s s':PS},iw F blk l as s=some s'->
 s.Le s'/\∀sF,s'.Le sF->sF.pr->so blk sF->cM (TvA (mW sF F) blk sF.L (aN sF.tm)) l as:=by
 intro l
 induction l with
 |nil=>
  intro as s s' h
  cases as with
  |nil=>injection h with h;subst h;exact⟨.refl _,λ_ _ _ _=>trivial⟩
  |cons _ _=>cases h
 |cons x l ih=>
  intro as s s' h
  cases as with
  |nil=>cases h
  |cons a as=>
   obtain⟨s1,h1,h2⟩:=az (show bx (sj F blk x a s) (λs=>iw F blk l as s)=some s' from h)
   obtain⟨q1,q2⟩:=AJ (blk:=blk) h1
   obtain⟨r1,r2⟩:=ih h2
   exact⟨q1.trans r1,λsF hF hp hl=>⟨q2 sF (r1.trans hF) hp hl,r2 sF hF hp hl⟩⟩
def L7{F:T ABlk}{blk:List BSh}{x:Sr}{a:AV}{s s':PS}(h:AF F blk x a s=some s'):
 s.Le s'/\∀sF,s'.Le sF->sF.pr->so blk sF->TvR (mW sF F) blk sF.L (aN sF.tm) x a:=by
 cases x with
 |one x=>exact AJ h
 |tu l=>
  unfold AF at h
  simp only at h
  split at h
  ·obtain⟨h1,h2⟩:=ge (blk:=blk) h;exact⟨h1,λsF hF hp hl=>⟨_,rfl,h2 sF hF hp hl⟩⟩
  ·cases h
def su{ty n g:Nat}{q:ABlk}{as:List AV}(h:nL ty n q g=some as):g=0/\∃c,q= .cells c 0 0 n 0 0 false ty/\QN c 0 n 0=some as:=by
 unfold nL at h;split at h
 ·replace h:=WA h;obtain⟨e0,h⟩:=h;replace h:=bc h;obtain⟨e1,h⟩:=h;replace h:=bc h;obtain⟨e2,h⟩:=h;replace h:=bc h;obtain⟨e3,h⟩:=h;replace h:=bc h;obtain⟨e4,h⟩:=h;replace h:=bc h;obtain⟨e5,h⟩:=h;replace h:=bc h;obtain⟨e6,h⟩:=h;replace h:=bc h;obtain⟨e7,h⟩:=h;have e1:=aae e1;have e2:=aae e2;have e3:=aae e3;have e4:=aae e4;have e5:=aae e5;have e6:=aae e6;have e7:=aae e7;subst e0 e1 e2 e3 e4 e5 e6 e7;exact⟨rfl,_,rfl,h⟩
 ·cases h
def BT(ρ:Rho)(F:Nat->Option ABlk)(blk:List BSh)(L:Nat->Option (Nat×Nat))(y:Sy)(x:BSh)(q:ABlk)(g:Nat):Prop:=match x with
 | .cells ty l=>g=0/\∃c as,q= .cells c 0 0 l.length 0 0 false ty/\as.length=l.length/\(∀(j:Nat) (a:AV),as[j]? =some a->∃a0,c.get j=some (.mk 0 a0)/\∀v,VR ρ a0 v->VR ρ a v)/\cM (Tv F blk L y) l as
 | .grow m ty t=>q= .grow (.rows m (y.g t)) g ty
 | .growb ty t=>q= .grow (.bytes (y.s t)) g ty
 | .arb ty t=>g=0/\q= .grow (.bytes (y.s t)) 0 ty/\0<(y.s t).length
 | .arr m ty t=>g=0/\q= .grow (.rows m (y.g t)) 0 ty/\0<(y.g t).length
 | .sm m t=>g=0/\(q= .smap m (y.g t)∨∃c,q= .mapo [] c/\y.g t= [])
 | .obj k C t=>g=0/\q= .obj k (C (y.g t)) (y.g t)
def eV{ρ:Rho}{F:T ABlk}{blk:List BSh}{x:BSh}{q:ABlk}{g:Nat}{s s':PS}(h:gz x q g s=some s'):
 s.Le s'/\∀sF,s'.Le sF->sF.pr->BT ρ (mW sF F) blk sF.L (aN sF.tm) x q g:=by
 unfold gz at h
 cases x with
 |cells ty l=>cases h
 |grow m ty t=>
  simp only at h
  split at h
  ·replace h:=bc h;obtain⟨e1,h⟩:=h;replace h:=bc h;obtain⟨e2,h⟩:=h;replace h:=bc h;obtain⟨e3,h⟩:=h;have e1:=aae e1;have e2:=aae e2;have e3:=aae e3;subst e1;subst e2;subst e3;obtain⟨h1,h2⟩:=PS.add_ok h;refine⟨h1,λsF hF _=>?_⟩;show ABlk.grow _ _ _=ABlk.grow (.rows m (Do sF.tm t)) g ty;rw[mC (hF.tm _ _ h2)]
  ·cases h
 |growb ty t=>
  simp only at h
  split at h
  ·replace h:=bc h;obtain⟨e2,h⟩:=h;replace h:=bc h;obtain⟨e3,h⟩:=h;have e2:=aae e2;have e3:=aae e3;subst e2;subst e3;obtain⟨h1,h2⟩:=PS.add_ok h;refine⟨h1,λsF hF _=>?_⟩;show ABlk.grow _ _ _=ABlk.grow (.bytes (I3 sF.tm t)) g ty;rw[sq (hF.tm _ _ h2)]
  ·cases h
 |sm m t=>
  simp only at h
  split at h
  ·replace h:=bc h;obtain⟨e2,h⟩:=h;replace h:=bc h;obtain⟨e3,h⟩:=h;have e2:=aae e2;have e3:=aae e3;subst e2;subst e3;obtain⟨h1,h2⟩:=PS.add_ok h;exact⟨h1,λsF hF _=>⟨rfl,.inl (by show ABlk.smap _ _=ABlk.smap _ (Do sF.tm t);rw[mC (hF.tm _ _ h2)])⟩⟩
  ·replace h:=bc h;obtain⟨e3,h⟩:=h;have e3:=aae e3;subst e3;obtain⟨h1,h2⟩:=PS.add_ok h;exact⟨h1,λsF hF _=>⟨rfl,.inr ⟨_,rfl,mC (hF.tm _ _ h2)⟩⟩⟩
  ·cases h
 |arb ty t=>
  simp only at h
  split at h
  ·replace h:=bc h;obtain⟨e2,h⟩:=h;replace h:=bc h;obtain⟨e3,h⟩:=h;replace h:=bc h;obtain⟨e4,h⟩:=h;have e2:=aae e2;have e3:=aae e3;have e4:=aae e4;subst e2;subst e3;subst e4;obtain⟨s1,hm,h⟩:=az h;obtain⟨m1,m2⟩:=PS.must_ok hm;obtain⟨h1,h2⟩:=PS.add_ok h;refine⟨m1.trans h1,λsF hF hp=>⟨rfl, ?_, ?_⟩⟩
   ·show ABlk.grow _ _ _=ABlk.grow (.bytes (I3 sF.tm t)) 0 ty;rw[sq (hF.tm _ _ h2)]
   ·show 0<(I3 sF.tm t).length;rw[sq (hF.tm _ _ h2)];exact m2 (h1.pr (hF.pr hp))
  ·cases h
 |arr m ty t=>
  simp only at h
  split at h
  ·replace h:=bc h;obtain⟨e1,h⟩:=h;replace h:=bc h;obtain⟨e2,h⟩:=h;replace h:=bc h;obtain⟨e3,h⟩:=h;replace h:=bc h;obtain⟨e4,h⟩:=h;have e1:=aae e1;have e2:=aae e2;have e3:=aae e3;have e4:=aae e4;subst e1;subst e2;subst e3;subst e4;obtain⟨s1,hm,h⟩:=az h;obtain⟨m1,m2⟩:=PS.must_ok hm;obtain⟨h1,h2⟩:=PS.add_ok h;refine⟨m1.trans h1,λsF hF hp=>⟨rfl, ?_, ?_⟩⟩
   ·show ABlk.grow _ _ _=ABlk.grow (.rows m (Do sF.tm t)) 0 ty;rw[mC (hF.tm _ _ h2)]
   ·show 0<(Do sF.tm t).length;rw[mC (hF.tm _ _ h2)];exact m2 (h1.pr (hF.pr hp))
  ·cases h
 |obj k C t=>
  simp only at h
  split at h
  ·replace h:=bc h;obtain⟨e2,h⟩:=h;replace h:=bc h;obtain⟨e3,h⟩:=h;have e2:=aae e2;have e3:=aae e3;subst e2;subst e3;obtain⟨s1,hm,h⟩:=az h;obtain⟨m1,m2⟩:=PS.must_ok hm;obtain⟨h1,h2⟩:=PS.add_ok h;refine⟨m1.trans h1,λsF hF hp=>⟨rfl, ?_⟩⟩;show ABlk.obj _ _ _=ABlk.obj k (C (Do sF.tm t)) (Do sF.tm t);rw[mC (hF.tm _ _ h2),m2 (h1.pr (hF.pr hp))]
  ·cases h
def I6{ρ:Rho}{F:T ABlk}{blk:List BSh}{x:BSh}{q:ABlk}{g:Nat}{s s':PS}(h:pj F blk x q g s=some s'):
 s.Le s'/\∀sF,s'.Le sF->sF.pr->so blk sF->BT ρ (mW sF F) blk sF.L (aN sF.tm) x q g:=by
 cases x with
 |cells ty l=>
  obtain⟨as,h1,h2⟩:=az (show bx (nL ty (List.length l) q g) (λas=>iR F blk l as s)=some s' from h)
  obtain⟨e,c,eq,hl⟩:=su h1
  obtain⟨q1,q2⟩:=nN (blk:=blk) h2
  obtain⟨r1,r2⟩:=rQ hl
  refine⟨q1,λsF hF hp hl=>⟨e,c,as,eq,r1,λj a ha=>?_,q2 sF hF hp hl⟩⟩
  obtain⟨tag,t1,t2⟩:=r2 j a ha
  have:tag=0:=by omega
  subst this
  exact⟨a,by rw[←t1];congr 1;omega,λ_ h=>h⟩
 |grow m ty t=>obtain⟨h1,h2⟩:=eV (ρ:=ρ) (F:=F) (blk:=blk) (show gz (.grow m ty t) q g s=some s' from h);exact⟨h1,λsF hF hp _=>h2 sF hF hp⟩
 |growb ty t=>obtain⟨h1,h2⟩:=eV (ρ:=ρ) (F:=F) (blk:=blk) (show gz (.growb ty t) q g s=some s' from h);exact⟨h1,λsF hF hp _=>h2 sF hF hp⟩
 |arb ty t=>obtain⟨h1,h2⟩:=eV (ρ:=ρ) (F:=F) (blk:=blk) (show gz (.arb ty t) q g s=some s' from h);exact⟨h1,λsF hF hp _=>h2 sF hF hp⟩
 |arr m ty t=>obtain⟨h1,h2⟩:=eV (ρ:=ρ) (F:=F) (blk:=blk) (show gz (.arr m ty t) q g s=some s' from h);exact⟨h1,λsF hF hp _=>h2 sF hF hp⟩
 |sm m t=>obtain⟨h1,h2⟩:=eV (ρ:=ρ) (F:=F) (blk:=blk) (show gz (.sm m t) q g s=some s' from h);exact⟨h1,λsF hF hp _=>h2 sF hF hp⟩
 |obj k C t=>obtain⟨h1,h2⟩:=eV (ρ:=ρ) (F:=F) (blk:=blk) (show gz (.obj k C t) q g s=some s' from h);exact⟨h1,λsF hF hp _=>h2 sF hF hp⟩
def d_{blk:List BSh}:∀{l:List (Nat×Nat×Nat)} {s s':PS},l_ blk l s=some s'->
 s.Le s'/\s'.tm=s.tm/\s'.loc=s.loc/\s'.ln=s.ln/\(s'.pr->∀j tag n,(j,tag,n)∈l->(∃m ty t,blk[j]? =some (.grow m ty t)/\tag=2 * t/\(Do s.tm t).length=n)∨(∃ty t,blk[j]? =some (.growb ty t)/\tag=2 * t+1/\(I3 s.tm t).length=n)):=by
 intro l
 induction l with
 |nil=>intro s s' h;injection h with h;subst h;exact⟨.refl _,rfl,rfl,rfl,λ_ j tag n h=>by cases h⟩
 |cons x l ih=>
  intro s s' h
  obtain⟨j,tag,n⟩:=x
  have h:(match blk[j]? with
   |some (.grow _ _ t)=>ac (Nat.beq tag (2 * t)) (bx (s.must ((Do s.tm t).length=n)) (l_ blk l)) none
   |some (.growb _ t)=>ac (Nat.beq tag (2 * t+1)) (bx (s.must ((I3 s.tm t).length=n)) (l_ blk l)) none
   |_=>none)=some s':=h
  split at h
  ·rename_i m ty t hb;replace h:=bc h;obtain⟨e,h⟩:=h;have e:=aae e;replace h:=az h;obtain⟨s1,h1,h⟩:=h;obtain⟨q1,q2,q3,q4,q5⟩:=ih h;have hm:=PS.must_ok h1;injection h1 with h1;subst h1;refine⟨hm.1.trans q1,q2,q3,q4,λhp j' ae3 n' ab1=>?_⟩;rcases List.mem_cons.1 ab1 with e'|ab1
   ·injection e' with e1 e2;injection e2 with e2 e3;subst e1;subst e2;subst e3;exact .inl ⟨m,ty,t,hb,e,hm.2 (q1.pr hp)⟩
   ·exact q5 hp _ _ _ ab1
  ·rename_i ty t hb;replace h:=bc h;obtain⟨e,h⟩:=h;have e:=aae e;replace h:=az h;obtain⟨s1,h1,h⟩:=h;obtain⟨q1,q2,q3,q4,q5⟩:=ih h;have hm:=PS.must_ok h1;injection h1 with h1;subst h1;refine⟨hm.1.trans q1,q2,q3,q4,λhp j' ae3 n' ab1=>?_⟩;rcases List.mem_cons.1 ab1 with e'|ab1
   ·injection e' with e1 e2;injection e2 with e2 e3;subst e1;subst e2;subst e3;exact .inr ⟨ty,t,hb,e,hm.2 (q1.pr hp)⟩
   ·exact q5 hp _ _ _ ab1
  ·cases h
def lB{blk:List BSh}{s s':PS}(h:l_ blk s.ln s=some s')(hp:s'.pr):so blk s':=by obtain⟨_,q2,_,q4,q5⟩:=d_ h;intro j tag n hm;rw[q4] at hm;rw[q2];exact q5 hp j tag n hm
end Go.Sym
namespace Go.Sym
open Go.RowKit (Below)
def hl:AV->Bool
 | .bool _=>true | .int _ _=>true | .str _=>true | .nilp=>true | .nils=>true | .sI _ _=>true | .sB _=>true | .sS _=>true | .any1=>true | .cv _=>true
 |_=>false
def pn:∀(g:G) (n i:Nat),∀a∈mg g n i,hl a=true:=by
 intro g n
 induction n with
 |zero=>intro i a h;cases h
 |succ n ih=>
  intro i a h;rcases List.mem_cons.1 h with e|h
  ·subst e;rfl
  ·exact ih _ a h
def dq{ρ ρ':Rho}{a:AV}{v:Value}(hf:∀b x,ρ.frz b=some x->ρ'.frz b=some x)(h:VR ρ a v):hl a=true->VR ρ' a v:=by
 induction h with
 |bool b=>intro _;exact .bool b
 |int k n=>intro _;exact .int k n
 |str s=>intro _;exact .str s
 |nilp=>intro _;exact .nilp
 |nils=>intro _;exact .nils
 |sI k n=>intro _;exact .sI k n
 |sB p b h=>intro _;exact .sB p b h
 |sS s=>intro _;exact .sS s
 |any1 v h=>intro _;exact .any1 v h
 |cv c blk off cp arr ty hfz hc hb r ih=>
  intro _
  refine .cv c blk off cp arr ty (hf _ _ hfz) hc hb λi j a v hi ha hv=>ih i j a v hi ha hv ?_
  cases c with
  |bytes s=>
   cases j with
   |zero=>simp [Ct.row] at ha;subst ha;rfl
   |succ j=>simp [Ct.row] at ha
  |rows m l=>
   have key:∀(xs:List Sc) (g:G) (q:Nat),∀a∈bA xs g q,hl a=true:=by
    intro xs
    induction xs with
    |nil=>intro g q a h;cases h
    |cons x xs ihx=>
     intro g q a h;rcases List.mem_append.1 h with h|h
     ·cases x <;> simp [fS] at h;case h n=>exact pn _ _ _ a h
      all_goals (subst h;rfl)
     ·exact ihx _ _ a h
   exact key _ _ _ a (abn ha)
 |cvnil c h=>intro _;exact .cvnil c h
 |cvempty c a h=>intro _;exact .cvempty c a h
 |_=>intro h;cases h
def mD{c:Ct}{i j:Nat}{a:AV}(ha:(c.row i)[j]? =some a):hl a=true:=by
 cases c with
 |bytes s=>
  cases j with
  |zero=>simp [Ct.row] at ha;subst ha;rfl
  |succ j=>simp [Ct.row] at ha
 |rows m l=>
  have key:∀(xs:List Sc) (g:G) (q:Nat),∀a∈bA xs g q,hl a=true:=by
   intro xs
   induction xs with
   |nil=>intro g q a h;cases h
   |cons x xs ihx=>
    intro g q a h;rcases List.mem_append.1 h with h|h
    ·cases x <;> simp [fS] at h;case h n=>exact pn _ _ _ a h
     all_goals (subst h;rfl)
    ·exact ihx _ _ a h
  exact key _ _ _ a (abn ha)
def VR.into{ρ ρ':Rho}(h1:∀b g h,ρ.at_ b g=some h->ρ'.at_ b g=some h)(h2:ρ'.val=ρ.val)(h3:∀b x,ρ.frz b=some x->ρ'.frz b=some x){a:AV}{v:Value}(h:VR ρ a v):VR ρ' a v:=by
 have sl:∀{b g o len:Nat} {cap:Option Nat} {es:Nat} {a:Addr} {c:Nat},SlOk ρ b g o len cap es a c->SlOk ρ' b g o len cap es a c:=by
  intro b g o len cap es a c h
  refine⟨h.1, ?_⟩
  have h2:=h.2
  cases cap with
  |some k=>obtain⟨e,x,hx,r⟩:=h2;exact⟨e,x,h1 _ _ _ hx,r⟩
  |none=>
   rcases h2 with h2|⟨x,hx,r⟩
   ·exact .inl h2
   ·exact .inr ⟨x,h1 _ _ _ hx,r⟩
 induction h with
 |bool b=>exact .bool b
 |int k n=>exact .int k n
 |str s=>exact .str s
 |nilp=>exact .nilp
 |ptr b g o h hh ho=>exact .ptr b g o h (h1 _ _ _ hh) ho
 |nils=>exact .nils
 |slc b g o len cap es a c h=>exact .slc b g o len cap es a c (sl h)
 |nilm=>exact .nilm
 |map b h hh=>exact .map b h (h1 _ _ _ hh)
 |func fn l m first captured e1 e2 r1 r2 hf i1 i2=>exact .func fn l m first captured e1 e2 i1 i2 hf
 |yld b h hh=>exact .yld b h (h1 _ _ _ hh)
 |nilf=>exact .nilf
 |iface t x v h ih=>exact .iface t x v ih
 |nili=>exact .nili
 |agg l cs h r ih=>exact .agg l cs h ih
 |tup l cs h r ih=>exact .tup l cs h ih
 |opq n=>rw[←h2];exact .opq n
 |opc n h=>rw[←h2];exact .opc n (by rw[h2];exact h)
 |anyB b=>exact .anyB b
 |anyI k n=>exact .anyI k n
 |osl n base len cap h=>exact .osl n base len cap (by rw[h2];exact h)
 |sI k n=>exact .sI k n
 |sB p b h=>exact .sB p b h
 |sS s=>exact .sS s
 |any1 v h=>exact .any1 v h
 |cptr l blk off arr ty hf hb r ih=>exact .cptr l blk off arr ty (h3 _ _ hf) hb ih
 |cv c blk off cp arr ty hf hc hb r ih=>exact .cv c blk off cp arr ty (h3 _ _ hf) hc hb ih
 |cvnil c h=>exact .cvnil c h
 |cvempty c a h=>exact .cvempty c a h
 |gsl b g n es h c hn hh hs hc hz=>exact .gsl b g n es h c hn (h1 _ _ _ hh) hs hc hz
 |gnil b g es=>exact .gnil b g es
 |gempty b g es a=>exact .gempty b g es a
 |gptr b g i o es h hh hs=>exact .gptr b g i o es h (h1 _ _ _ hh) hs
def L8(γ:lK)(y:Sy):∀(l:List Sh) (i:Nat),(nI γ y l)[i]? =(l[i]?).map (put γ y):=by
 intro l
 induction l with
 |nil=>intro i;rfl
 |cons x l ih=>intro i;cases i with
  |zero=>rfl
  |succ i=>exact ih i
def L9(γ:lK)(y:Sy):∀(l:List Sh),(nI γ y l).length=l.length:=by
 intro l
 induction l with
 |nil=>rfl
 |cons x l ih=>show(put γ y x::nI γ y l).length=_;simp [ih]
def vB:∀(l:List AV) (i:Nat) (t:T Cell) (o:Nat) (x:Cell),(si l i t).get o=some x->
 (∃(j:Nat) (a:AV),o=i+j/\l[j]? =some a/\x= .mk 0 a)∨(t.get o=some x/\(o<i∨i+l.length<=o)):=by
 intro l
 induction l with
 |nil=>intro i t o x h;exact .inr ⟨h,by simp;omega⟩
 |cons a l ih=>
  intro i t o x h
  rcases ih (i+1) (t.set i (.mk 0 a)) o x h with⟨j,b,e,hb,hx⟩|⟨hx,ho⟩
  ·exact .inl ⟨j+1,b,by omega,by simpa using hb,hx⟩
  ·by_cases e:o=i
   ·subst e;have:=T.get_set_some _ _ hx;exact .inl ⟨0,a,by omega,rfl,this⟩
   ·rw[T.get_set_ne _ e] at hx;exact .inr ⟨hx,by simp at ho⊢;omega⟩
def sv{γ:lK}{y:Sy}:∀(l:List BSh) (j:Nat) (H:T ABlk) (b:Nat) (X:ABlk),(eU γ y l j H).get b=some X->
 (∃i x,l[i]? =some x/\b=(γ (j+i)).1/\X=mB γ y (j+i) x)∨(H.get b=some X/\∀i,i<l.length->b≠(γ (j+i)).1):=by
 intro l
 induction l with
 |nil=>intro j H b X h;exact .inr ⟨h,λi hi=>by simp at hi⟩
 |cons x l ih=>
  intro j H b X h
  rcases ih (j+1) _ b X h with⟨i,x',h1,h2,h3⟩|⟨h1,h2⟩
  ·exact .inl ⟨i+1,x',by simpa using h1,by rw[h2];congr 2;omega,by rw[h3];congr 1;omega⟩
  ·by_cases e:b=(γ j).1
   ·subst e;have:=T.get_set_some _ _ h1;exact .inl ⟨0,x,rfl,rfl,this⟩
   ·rw[T.get_set_ne _ e] at h1
    refine .inr ⟨h1,λi hi=>?_⟩
    cases i with
    |zero=>exact e
    |succ i=>have:=h2 i (by simpa using hi);rwa [show j+1+i=j+(i+1) by omega] at this
def sw{γ:lK}{y:Sy}:∀(l:List BSh) (j:Nat) (H:T ABlk) (i:Nat) (x:BSh),l[i]? =some x->(∀i,i<l.length->(γ (j+i)).1+1<2 ^ 64)->
 (∀a b,a<l.length->b<l.length->(γ (j+a)).1=(γ (j+b)).1->a=b)->(eU γ y l j H).get (γ (j+i)).1=some (mB γ y (j+i) x):=by
 intro l
 induction l with
 |nil=>intro j H i x h;simp at h
 |cons z l ih=>
  intro j H i x h c8 ao_
  cases i with
  |zero=>
   simp at h;subst h
   have keep:∀(l:List BSh) (j':Nat) (H:T ABlk),(∀i,i<l.length->(γ (j'+i)).1≠(γ j).1)->(eU γ y l j' H).get (γ j).1=H.get (γ j).1:=by
    intro l
    induction l with
    |nil=>intro j' H _;rfl
    |cons q l ihl=>intro j' H m7;show(eU γ y l (j'+1) (H.set (γ j').1 (mB γ y j' q))).get (γ j).1=_;rw[ihl (j'+1) _ (λi hi=>by have:=m7 (i+1) (by simpa using hi);rwa [show j'+(i+1)=j'+1+i by omega] at this),T.get_set_ne _ (Ne.symm (show(γ j').1≠(γ j).1 from m7 0 (by simp)))]
   show(eU γ y l (j+1) (H.set (γ j).1 (mB γ y j z))).get (γ j).1=_
   rw[keep l (j+1) _ (λi hi e=>by have:=ao_ (i+1) 0 (by simpa using hi) (by simp) (by rw[show j+(i+1)=j+1+i by omega];exact e);omega),T.get_set_same _ _ _ (show(γ j).1+1<2 ^ 64 from c8 0 (by simp))]
   rfl
  |succ i=>
   have:=ih (j+1) (H.set (γ j).1 (mB γ y j z)) i x (by simpa using h) (λi hi=>by have:=c8 (i+1) (by simpa using hi);rwa [show j+(i+1)=j+1+i by omega] at this) (λa b ha hb e=>by have:=ao_ (a+1) (b+1) (by simpa using ha) (by simpa using hb) (by rw[show j+(a+1)=j+1+a by omega,show j+(b+1)=j+1+b by omega];exact e);omega)
   rw[show j+(i+1)=j+1+i by omega]
   exact this
section
variable(B:Nat)(ρ:Rho)(H:T ABlk)(w wf:World)(L:Nat->Option (Nat×Nat))(γ:lK)(n:Nat)(own:Nat->Prop)(frz0:Nat->Option (Array Value×TypeId))
def bv(j:Nat):Option Home:=match L j with
 |some (b,g)=>(match H.get b with
  |some (.grow c _ _)=>if c.len=0 then none else ρ.at_ b g
  |_=>ρ.at_ b g)
 |none=>none
def zy(j:Nat):Prop:=∃b g k I l,L j=some (b,g)/\H.get b=some (.obj k I l)
def sx(j:Nat)(h:Home):Prop:=bv ρ H L j=some h∨∃b g,L j=some (b,g)/\zy H L j/\(∃g',ρ.at_ b g'=some h)/\Own ρ B h.blk
open Classical in
noncomputable def sy(j g':Nat):Option Home:=if zy H L j then(match L j with
 |some (b,_)=>(match ρ.at_ b g' with|some h=>if Own ρ B h.blk then some h else none|none=>none)
 |none=>none) else if g'=(γ j).2 then bv ρ H L j else none
open Classical in
noncomputable def iG(b' g':Nat):Option Home:=if h:∃j,j<n/\(γ j).1=b' then sy B ρ H L γ (Classical.choose h) g' else none
open Classical in
noncomputable def kN(blk:Nat):Option (Array Value×TypeId):=match ρ.frz blk with
 |some x=>some x
 |none=>if wf.heap.size<=blk/\∀j h,sx B ρ H L j h->h.blk≠blk then(match w.heap[blk]? with|some (.cells arr ty _)=>some (arr,ty)|_=>none) else none
noncomputable def lL(vl:Nat->Value):Rho:=⟨iG B ρ H L γ n,vl,own,kN B ρ H w wf L,frz0⟩
end
structure MvHyp(w0:World)(ρ:Rho)(H:T ABlk)(F:Nat->Option ABlk)(w wf wb:World)(L:Nat->Option (Nat×Nat))(γ:lK)(blk:List BSh)(y:Sy)(own:Nat->Prop)(frz0:Nat->Option (Array Value×TypeId)):Prop where
 good:Good w0 ρ H w
 hb:∀j x,blk[j]? =some x->∃b g,L j=some (b,g)/\∃q,H.get b=some q/\BT ρ F blk L y x q g
 dom:∀j p,L j=some p->j<blk.length
 linj:∀j j' b g g',L j=some (b,g)->L j'=some (b,g')->j=j'
 ginj:∀a b,a<blk.length->b<blk.length->(γ a).1=(γ b).1->a=b
 g64:∀j,j<blk.length->(γ j).1+1<2 ^ 64
 g0:∀j x,blk[j]? =some x->iS x=true->(γ j).2=0
 kept:Kept own wb.heap.size wb w
 owns:∀j h,sx w0.heap.size ρ H L j h->Own ρ w0.heap.size h.blk->wb.heap.size<=h.blk∨own h.blk
 frF:∀b x,base+64<=b->F b=some x->H.get b=some x/\(∀j g,L j≠some (b,g))/\∀g h,ρ.at_ b g=some h->Own ρ w0.heap.size h.blk->wf.heap.size<=h.blk
 frz:∀b x,kN w0.heap.size ρ H w wf L b=some x->b<wb.heap.size->frz0 b=some x
section
variable{w0:World}{ρ:Rho}{H:T ABlk}{F:Nat->Option ABlk}{w wf wb:World}{L:Nat->Option (Nat×Nat)}{γ:lK}{blk:List BSh}{y:Sy}{own:Nat->Prop}{frz0:Nat->Option (Array Value×TypeId)}
def kO{j:Nat}{h:Home}(hh:bv ρ H L j=some h):∃b g,L j=some (b,g)/\ρ.at_ b g=some h:=by
 unfold bv at hh;split at hh
 ·rename_i b g e;split at hh
  ·split at hh
   ·cases hh
   ·exact⟨b,g,e,hh⟩
  ·exact⟨b,g,e,hh⟩
 ·cases hh
def dl{B:Nat}{j:Nat}{h:Home}(hh:sx B ρ H L j h):∃b g g',L j=some (b,g)/\ρ.at_ b g'=some h:=by
 rcases hh with hh|⟨b,g,h1,_,⟨g',h2⟩,_⟩
 ·obtain⟨b,g,h1,h2⟩:=kO hh;exact⟨b,g,g,h1,h2⟩
 ·exact⟨b,g,g',h1,h2⟩
def ed{B:Nat}{j g':Nat}{h:Home}(hh:sy B ρ H L γ j g'=some h):sx B ρ H L j h/\((zy H L j/\∃b g,L j=some (b,g)/\ρ.at_ b g'=some h)∨(¬zy H L j/\g'=(γ j).2/\bv ρ H L j=some h)):=by
 unfold sy at hh;split at hh
 ·rename_i ho;split at hh
  ·rename_i b g e;split at hh
   ·rename_i h' e';split at hh
    ·rename_i d9;injection hh with hh;subst hh;exact⟨.inr ⟨b,g,e,ho,⟨g',e'⟩,d9⟩,.inl ⟨ho,b,g,e,e'⟩⟩
    ·cases hh
   ·cases hh
  ·cases hh
 ·rename_i ho;split at hh
  ·rename_i e;exact⟨.inl hh,.inr ⟨ho,e,hh⟩⟩
  ·cases hh
def UI(hm:MvHyp w0 ρ H F w wf wb L γ blk y own frz0){j g':Nat}(hj:j<blk.length):iG w0.heap.size ρ H L γ blk.length (γ j).1 g'=sy w0.heap.size ρ H L γ j g':=by
 unfold iG;have he:∃j',j'<blk.length/\(γ j').1=(γ j).1:=⟨j,hj,rfl⟩
 rw[dif_pos he];obtain⟨h1,h2⟩:=abv he;rw[hm.ginj _ _ h1 hj h2]
def ef(hm:MvHyp w0 ρ H F w wf wb L γ blk y own frz0){j:Nat}(hj:j<blk.length)(o7:¬zy H L j):iG w0.heap.size ρ H L γ blk.length (γ j).1 (γ j).2=bv ρ H L j:=by rw[UI hm hj];unfold sy;rw[if_neg o7,if_pos rfl]
def jC(hm:MvHyp w0 ρ H F w wf wb L γ blk y own frz0){j b g g':Nat}{h:Home}(hj:j<blk.length)(ho:zy H L j)(hL:L j=some (b,g))(hh:ρ.at_ b g'=some h)(d9:Own ρ w0.heap.size h.blk):iG w0.heap.size ρ H L γ blk.length (γ j).1 g'=some h:=by rw[UI hm hj];unfold sy;rw[if_pos ho];simp only [hL,hh,if_pos d9]
def ew{B:Nat}{b g:Nat}{h:Home}(hh:iG B ρ H L γ blk.length b g=some h):∃j,j<blk.length/\(γ j).1=b/\sy B ρ H L γ j g=some h:=by
 unfold iG at hh;split at hh
 ·rename_i he;obtain⟨h1,h2⟩:=abv he;exact⟨_,h1,h2,hh⟩
 ·cases hh
def ez{B:Nat}{b:Nat}{x:Array Value×TypeId}(h:ρ.frz b=some x):kN B ρ H w wf L b=some x:=by unfold kN;rw[h]
def AK(hm:MvHyp w0 ρ H F w wf wb L γ blk y own frz0){b g:Nat}{h:Home}{x:ABlk}{arr:Array Value}{ty:TypeId}{fr:Nat×Nat}(hh:ρ.at_ b g=some h)(hx:H.get b=some x)(hn:¬zH x)(hL:∀j g,L j≠some (b,g))(hb:wf.heap.size<=h.blk)(hw:w.heap[h.blk]? =some (.cells arr ty fr)):kN w0.heap.size ρ H w wf L h.blk=some (arr,ty):=by
 unfold kN
 cases hf:ρ.frz h.blk with
 |some x=>exact absurd rfl (hm.good.frzE (show ρ.frz h.blk=some (x.1,x.2) from hf) hh hx hn)
 |none=>
  have:wf.heap.size<=h.blk/\∀j h',sx w0.heap.size ρ H L j h'->h'.blk≠h.blk:=⟨hb,λj h' hj e=>by obtain⟨b',g',g2,e1,e2⟩:=dl hj;have:=(hm.good.inj _ _ _ _ _ _ e2 hh e).1;subst this;exact hL _ _ e1⟩
  simp only [if_pos this,hw]
def AL{j:Nat}(h:jz blk j=true):(∃ty l,blk[j]? =some (.cells ty l))∨(∃k C t,blk[j]? =some (.obj k C t))∨(∃m ty t,blk[j]? =some (.arr m ty t))∨∃ty t,blk[j]? =some (.arb ty t):=by
 unfold jz at h;split at h
 ·exact .inl ⟨_,_,by assumption⟩
 ·exact .inr (.inl ⟨_,_,_,by assumption⟩)
 ·exact .inr (.inr (.inl ⟨_,_,_,by assumption⟩))
 ·exact .inr (.inr (.inr ⟨_,_,by assumption⟩))
 ·cases h
def Dr{j:Nat}(h:xz blk j=true):∃m t,blk[j]? =some (.sm m t):=by
 unfold xz at h;split at h
 ·exact⟨_,_,by assumption⟩
 ·cases h
def uw{j b g:Nat}{q:ABlk}(hL:L j=some (b,g))(hq:H.get b=some q)(hn:∀k I l,q≠ .obj k I l):¬zy H L j:=λ⟨b',g',k,I,l,e1,e2⟩=>by rw[hL] at e1;injection e1 with e1;injection e1 with e1 e1';subst e1;rw[hq] at e2;injection e2 with e2;exact hn _ _ _ e2
def RdC.vr{vl:Nat->Value}(hm:MvHyp w0 ρ H F w wf wb L γ blk y own frz0){ct:Ct}{a:AV}{v:Value}(h:RdC F ct a)(hv:VR ρ a v):VR (lL w0.heap.size ρ H w wf L γ blk.length own frz0 vl) (.cv ct) v:=by
 have hfm:∀b x,ρ.frz b=some x->(lL w0.heap.size ρ H w wf L γ blk.length own frz0 vl).frz b=some x:=λb x h=>ez h;rcases h with⟨e,h0⟩|e|⟨b,g,es,ty,e,hb,hF⟩|⟨b,g,o,cap,c,gen,lo,hi,fl,fh,ty,as,e,hb,hF,hg,h1,h2,hl,hr⟩|⟨b,g,e,hb,hF⟩
 ·subst e;cases hv;exact .cvnil _ h0
 ·subst e;exact dq hfm hv rfl
 ·subst e
  obtain⟨q1,q2,q3⟩:=hm.frF _ _ hb hF
  generalize hnn:ct.len=nn at hv
  cases hv with
  |gnil _ _ _=>exact .cvnil _ hnn
  |gempty _ _ _ a=>exact .cvempty _ a hnn
  |gsl _ _ _ _ h c hn hh hs hc hz=>
   subst hnn;rcases hm.good.blk _ _ q1 with h0|⟨h',r1,r2,r3,arr,fr,r4,r5,r6,r7,r8⟩
   ·omega
   rw[hh] at r1;injection r1 with r1;subst r1;refine .cv ct h.blk 0 c arr ty (AK hm hh q1 (λh=>h) q2 (q3 _ _ hh r3) r4) hc (by omega) λi j a v hi ha hv=>?_;obtain⟨u,u1,u2⟩:=r8 i hi j a ha;rw[aap,u1] at hv;injection hv with hv;subst hv;exact dq hfm u2 (mD ha)
 ·subst e
  obtain⟨q1,q2,q3⟩:=hm.frF _ _ hb hF
  cases hv with
  |slc _ _ _ _ _ _ ad cp V'=>
   obtain⟨O',r1,r2,_,arr,fr,r3,r4,r5,r6⟩:=(hm.good.blk _ _ q1).2 g hg;obtain⟨hlc,ab4⟩:=V';have ah7:∃h,ρ.at_ b g=some h/\h.shift<=o/\ad=⟨h.blk,o-h.shift,none⟩:=by
    cases cap with
    |some k=>obtain⟨_,h,x1,x2,x3⟩:=ab4;exact⟨h,x1,x2,x3⟩
    |none=>
     rcases ab4 with ab4|⟨h,x1,x2,x3,_⟩
     ·omega
     ·exact⟨h,x1,x2,x3⟩
   obtain⟨h,x1,x2,x3⟩:=ah7;rw[x1] at r1;injection r1 with r1;subst r1;subst x3;obtain⟨l1,l2⟩:=rQ hl;have j5:∀j,j<ct.len * ct.es->∃a u,as[j]? =some a/\arr[o-h.shift+j]? =some u/\VR ρ a u:=λj hj=>by have ha:as[j]? =some (as[j]'(by omega)):=aak (by omega);obtain⟨tag,t1,t2⟩:=l2 j _ ha;obtain⟨s1,u,s2,s3⟩:=r6 _ _ _ t1 (aaL t2 (aac _));exact⟨_,u,ha,by rw[show o-h.shift+j=o+j-h.shift by omega];exact s2,s3⟩
   have ac7:o-h.shift+ct.len * ct.es<=arr.size:=by
    have l8:1<=ct.len * ct.es:=Nat.mul_pos h1 h2;obtain⟨a,u,_,hu,_⟩:=j5 (ct.len * ct.es-1) (by omega);rcases aah (o-h.shift+(ct.len * ct.es-1)) arr.size with h'|h'
    ·omega
    ·rw[aaV h'] at hu;cases hu
   refine .cv ct h.blk (o-h.shift) cp arr ty (AK hm x1 q1 (λh=>h) q2 (q3 _ _ x1 (r2 rfl)) r3) hlc ac7 λi j a v hi ha hv=>?_;have hrl:=ct.row_len i;have hj:j<ct.es:=by
    rcases aah j ct.es with h'|h'
    ·exact h'
    ·rw[aam (by omega)] at ha;cases ha
   have ae4:i * ct.es+ct.es<=ct.len * ct.es:=by rw[←aaM];exact aaB _ hi
   have ad5:∀q a0,((as.drop (i * ct.es)).take ct.es)[q]? =some a0->∃u,arr[o-h.shift+(i * ct.es+q)]? =some u/\VR ρ a0 u:=λq a0 hq=>by
    rw[aa3] at hq;split at hq
    ·rw[aaz] at hq;obtain⟨a1,u,e1,e2,e3⟩:=j5 (i * ct.es+q) (by omega);rw[hq] at e1;injection e1 with e1;subst e1;exact⟨u,e2,e3⟩
    ·cases hq
   obtain⟨u,u1,u2⟩:=ny (A:=λq=>arr[o-h.shift+(i * ct.es+q)]?) ad5 (λvs=>hr i hi ρ vs) j a ha;rw[abu] at hv;have u1:arr[o-h.shift+(i * ct.es+j)]? =some u:=u1;rw[u1] at hv;injection hv with hv;subst hv;exact dq hfm u2 (mD ha)
 ·subst e;obtain⟨q1,q2,q3⟩:=hm.frF _ _ hb hF;exact dq hfm (js (hm.good.blk _ _ q1) hv) rfl
def ZU{vl:Nat->Value}(hm:MvHyp w0 ρ H F w wf wb L γ blk y own frz0){j b g n es:Nat}{v:Value}(hL:L j=some (b,g))(hq:∀q,H.get b=some q->∃c ty,q= .grow c g ty/\c.len=n)(hv:VR ρ (.gsl b g n es) v):
 VR (lL w0.heap.size ρ H w wf L γ blk.length own frz0 vl) (.gsl (γ j).1 (γ j).2 n es) v:=by
 have hj:=hm.dom _ _ hL
 cases hv with
 |gnil _ _ _=>exact .gnil _ _ _
 |gempty _ _ _ a=>exact .gempty _ _ _ a
 |gsl _ _ _ _ h c hn hh hs hc hz=>
  refine .gsl _ _ _ _ h c hn ?_ hs hc hz
  show iG w0.heap.size ρ H L γ blk.length (γ j).1 (γ j).2=some h
  have o7:¬zy H L j:=λ⟨b',g',k,I,l,e1,e2⟩=>by rw[hL] at e1;injection e1 with e1;injection e1 with e1 e1';subst e1;obtain⟨c,ty,e,_⟩:=hq _ e2;cases e
  rw[ef hm hj o7]
  unfold bv
  rw[hL]
  simp only
  split
  ·rename_i c' g' ty' e;obtain⟨c2,ty2,e2,e3⟩:=hq _ e;injection e2 with e2;subst e2;rw[if_neg (by omega)];exact hh
  ·exact hh
def ZV{vl:Nat->Value}(hm:MvHyp w0 ρ H F w wf wb L γ blk y own frz0){j b:Nat}{v:Value}(hL:L j=some (b,0))(hc:jz blk j=true)(hv:VR ρ (.ptr b 0 0) v):VR (lL w0.heap.size ρ H w wf L γ blk.length own frz0 vl) (.ptr (γ j).1 0 0) v:=by
 cases hv with
 |ptr _ _ _ h hh ho=>
  have hj:=hm.dom _ _ hL;refine .ptr _ _ _ h ?_ ho;show iG w0.heap.size ρ H L γ blk.length (γ j).1 0=_;rcases AL hc with⟨ty,l,hx⟩|⟨k,C,t,hx⟩|⟨m,ty,t,hx⟩|⟨ty,t,hx⟩
  ·obtain⟨b',g',q1,q,q2,q3⟩:=hm.hb j _ hx;rw[hL] at q1;injection q1 with q1;injection q1 with q1 q1';subst q1;subst q1';obtain⟨_,c,as,e,_⟩:=q3;have hJ:bv ρ H L j=some h:=by unfold bv;rw[hL];simp only [q2,e,hh]
   have:=ef hm hj (uw hL q2 (λk I l e'=>by rw[e] at e';cases e'));rw[hm.g0 j _ hx rfl] at this;rw[this];exact hJ
  ·obtain⟨b',g',q1,q,q2,q3⟩:=hm.hb j _ hx;rw[hL] at q1;injection q1 with q1;injection q1 with q1 q1';subst q1;subst q1';obtain⟨_,e⟩:=q3;subst e;obtain⟨_,h',fp,r1,r2,r3,_⟩:=hm.good.blk _ _ q2;rw[hh] at r1;injection r1 with r1;subst r1;exact jC hm hj ⟨_,_,_,_,_,hL,q2⟩ hL hh (r3 _ aan).1
  ·obtain⟨b',g',q1,q,q2,q3⟩:=hm.hb j _ hx;rw[hL] at q1;injection q1 with q1;injection q1 with q1 q1';subst q1;subst q1';obtain⟨_,e,l8⟩:=q3;have m7:¬(Ct.rows m (y.g t)).len=0:=by show ¬(y.g t).length=0;omega
   have hJ:bv ρ H L j=some h:=by unfold bv;rw[hL];simp only [q2,e];rw[if_neg m7];exact hh
   have:=ef hm hj (uw hL q2 (λk I l e'=>by rw[e] at e';cases e'));rw[hm.g0 j _ hx rfl] at this;rw[this];exact hJ
  ·obtain⟨b',g',q1,q,q2,q3⟩:=hm.hb j _ hx;rw[hL] at q1;injection q1 with q1;injection q1 with q1 q1';subst q1;subst q1';obtain⟨_,e,l8⟩:=q3;have m7:¬(Ct.bytes (y.s t)).len=0:=by show ¬(y.s t).length=0;omega
   have hJ:bv ρ H L j=some h:=by unfold bv;rw[hL];simp only [q2,e];rw[if_neg m7];exact hh
   have:=ef hm hj (uw hL q2 (λk I l e'=>by rw[e] at e';cases e'));rw[hm.g0 j _ hx rfl] at this;rw[this];exact hJ
def Tv.vr{vl:Nat->Value}(hm:MvHyp w0 ρ H F w wf wb L γ blk y own frz0){x:Sh}{a:AV}{v:Value}(h:Tv F blk L y x a)(hv:VR ρ a v):VR (lL w0.heap.size ρ H w wf L γ blk.length own frz0 vl) (put γ y x) v:=by
 cases x with
 |i k t=>have h:cw a=some (k,y.i t):=h;rw[bo hv h];exact .sI _ _
 |b t=>have h:dO a=some (y.p t):=h;obtain⟨b,e,hb⟩:=eR hv h;rw[e];exact .sB _ b hb
 |s t=>have h:gp a=some (y.s t):=h;obtain⟨s,e,hs⟩:=dD hv h;rw[e];show VR _ (.sS (y.s t)) _;rw[hs];exact .sS s
 |o=>exact .any1 v (jm hv h)
 |v m t=>exact RdC.vr hm h hv
 |vb t=>exact RdC.vr hm h hv
 |pi k n=>have h:cw a=some (k,n):=h;rw[bo hv h];exact .sI _ _
 |pb q=>obtain⟨q',h1,h2⟩:=h;obtain⟨b,e,hb⟩:=eR hv h1;rw[e];exact .sB _ b (hb.trans h2)
 |ps l=>have h:gp a=some l:=h;obtain⟨s,e,hs⟩:=dD hv h;rw[e];show VR _ (.sS l) _;rw[hs];exact .sS s
 |pv m l=>exact RdC.vr hm h hv
 |pvb l=>exact RdC.vr hm h hv
 |np=>have h:a= .nilp:=h;subst h;cases hv;exact .nilp
 |li k n=>have h:a= .int k n:=h;subst h;cases hv;exact .int _ _
 |nz=>have h:a= .nils:=h;subst h;cases hv;exact .nils
 |p j=>obtain⟨b,hL,e,hc⟩:=h;subst e;exact ZV hm hL hc hv
 |fn f j=>
  obtain⟨b,hL,e,hc⟩:=h
  subst e
  cases hv with
  |func _ _ _ first captured h1 h2 r1 r2 hf=>
   refine .func _ _ _ _ _ h1 (by simpa using h2) (λi a u ha hu=>by simp at ha) (λi a u ha hu=>?_) rfl
   match i,ha with
   |0,ha=>injection ha with ha;subst ha;exact ZV hm hL hc (r2 0 _ u rfl hu)
 |m j=>
  obtain⟨b,hL,e,hc⟩:=h
  subst e
  cases hv with
  |map _ h hh=>
   have hj:=hm.dom _ _ hL;refine .map _ h ?_;show iG w0.heap.size ρ H L γ blk.length (γ j).1 0=_;obtain⟨m,t,hx⟩:=Dr hc;obtain⟨b',g',q1,q,q2,q3⟩:=hm.hb j _ hx;rw[hL] at q1;injection q1 with q1;injection q1 with q1 q1';subst q1;subst q1';have hq:(∃m l,q= .smap m l)∨∃es c,q= .mapo es c:=by
    rcases q3.2 with e|⟨c,e,_⟩
    ·exact .inl ⟨_,_,e⟩
    ·exact .inr ⟨_,_,e⟩
   have hJ:bv ρ H L j=some h:=by unfold bv;rw[hL];rcases hq with⟨m,l,e⟩|⟨es,c,e⟩ <;> simp only [q2,e,hh]
   have:=ef hm hj (uw hL q2 (λk I l e'=>by rcases hq with⟨m,l,e⟩|⟨es,c,e⟩ <;> (rw[e] at e';cases e')));rw[hm.g0 j _ hx rfl] at this;rw[this];exact hJ
 |g j es t=>obtain⟨b,g,hL,e,m,ty,hx⟩:=h;subst e;show VR _ (.gsl (γ j).1 (γ j).2 (y.g t).length es) v;exact ZU hm hL (λq hq=>by obtain⟨b',g',q1,q',q2,q3⟩:=hm.hb j _ hx;rw[hL] at q1;injection q1 with q1;injection q1 with q1 q1';subst q1;subst q1';rw[hq] at q2;injection q2 with q2;subst q2;exact⟨_,_,q3,rfl⟩) hv
 |gb j t=>obtain⟨b,g,hL,e,ty,hx⟩:=h;subst e;show VR _ (.gsl (γ j).1 (γ j).2 (y.s t).length 1) v;exact ZU hm hL (λq hq=>by obtain⟨b',g',q1,q',q2,q3⟩:=hm.hb j _ hx;rw[hL] at q1;injection q1 with q1;injection q1 with q1 q1';subst q1;subst q1';rw[hq] at q2;injection q2 with q2;subst q2;exact⟨_,_,q3,rfl⟩) hv
def xB{ρ ρ':Rho}{α:Type}{R:α->AV->Prop}{f:α->AV}{fs:List α->List AV}(hf0:fs []= [])(hfs:∀x l,fs (x::l)=f x::fs l)(hR:∀x a v,R x a->VR ρ a v->VR ρ' (f x) v):
 ∀{l:List α} {as:List AV} {vs:List Value},cM R l as->LR ρ as vs->LR ρ' (fs l) vs
 | [],[],vs,_,h=>by rw[hf0,h.nil_inv];exact LR.nil _
 |x::l,a::as,vs,⟨h1,h2⟩,h=>by obtain⟨v,E',rfl,hv,h'⟩:=h.cons_inv;rw[hfs];exact LR.cons (hR x a v h1 hv) (xB hf0 hfs hR h2 h')
 | [],_::_,_,h,_=>h.elim
 |_::_,[],_,h,_=>h.elim
def Tvs.lr{vl:Nat->Value}(hm:MvHyp w0 ρ H F w wf wb L γ blk y own frz0){l:List Sh}{as:List AV}{vs:List Value}(h:cM (Tv F blk L y) l as)(hv:LR ρ as vs):LR (lL w0.heap.size ρ H w wf L γ blk.length own frz0 vl) (nI γ y l) vs:=
 xB rfl (λ_ _=>rfl) (λ_ _ _ h hv=>Tv.vr hm h hv) h hv
def vC{ρ ρ':Rho}{as bs:List AV}{bl off:Nat}{arr:Array Value}{ty:TypeId}(hf:ρ.frz bl=some (arr,ty))(hf':ρ'.frz bl=some (arr,ty))(hb:off+as.length<=arr.size)(r:∀(j:Nat) (a:AV) (v:Value),as[j]? =some a->arr[off+j]? =some v->VR ρ a v)(h:∀vs,LR ρ as vs->LR ρ' bs vs):VR ρ' (.cptr bs) (.pointer (some ⟨bl,off,none⟩)):=by
 have hl:LR ρ as ((arr.toList.drop off).take as.length):=by
  refine⟨by rw[aao,aas,aaN (xs:=arr)];omega,λj a v ha hv=>r j a v ha ?_⟩;rw[aa3] at hv;split at hv
  ·rw[aaz,aa0] at hv;exact hv
  ·cases hv
 obtain⟨e,hr⟩:=h _ hl
 rw[aao,aas,aaN (xs:=arr)] at e
 refine .cptr bs bl off arr ty hf' (by omega) λj a v ha hv=>hr j a v ha ?_
 have hj:j<bs.length:=by
  rcases aah j bs.length with h'|h'
  ·exact h'
  ·rw[aam h'] at ha;cases ha
 rw[aav (by omega),aaz,aa0];exact hv
def TvA.vr{vl:Nat->Value}(hm:MvHyp w0 ρ H F w wf wb L γ blk y own frz0){x:Sa}{a:AV}{v:Value}(h:TvA F blk L y x a)(hv:VR ρ a v):VR (lL w0.heap.size ρ H w wf L γ blk.length own frz0 vl) (jy γ y x) v:=by
 cases x with
 |c x=>exact Tv.vr hm h hv
 |ag l=>
  obtain⟨as,e,ha⟩:=h
  subst e
  cases hv with
  |agg _ cs h1 h2=>obtain⟨q1,q2⟩:=(Tvs.lr hm ha (LR.of_arr h1 h2)).arr;exact .agg _ cs q1 q2
 |cp l=>
  obtain⟨as,e,ha⟩:=h
  subst e
  cases hv with
  |cptr _ bl off arr ty hf hb r=>exact vC hf (ez hf) hb r λvs hl=>Tvs.lr hm ha hl
def TvAs.lr{vl:Nat->Value}(hm:MvHyp w0 ρ H F w wf wb L γ blk y own frz0){l:List Sa}{as:List AV}{vs:List Value}(h:cM (TvA F blk L y) l as)(hv:LR ρ as vs):LR (lL w0.heap.size ρ H w wf L γ blk.length own frz0 vl) (nJ γ y l) vs:=
 xB rfl (λ_ _=>rfl) (λ_ _ _ h hv=>TvA.vr hm h hv) h hv
def TvR.vr{vl:Nat->Value}(hm:MvHyp w0 ρ H F w wf wb L γ blk y own frz0){x:Sr}{a:AV}{v:Value}(h:TvR F blk L y x a)(hv:VR ρ a v):VR (lL w0.heap.size ρ H w wf L γ blk.length own frz0 vl) (Dn γ y x) v:=by
 cases x with
 |one x=>exact TvA.vr hm h hv
 |tu l=>
  obtain⟨as,e,ha⟩:=h
  subst e
  cases hv with
  |tup _ cs h1 h2=>obtain⟨q1,q2⟩:=(TvAs.lr hm ha (LR.of_arr h1 h2)).arr;exact .tup _ cs q1 q2
def L_{j:Nat}{x:BSh}(hg:iS x=true->(γ j).2=0):Ky (γ j).2 (mB γ y j x):=by
 cases x with
 |cells ty l=>show(γ j).2<=0;rw[hg rfl];exact aac _
 |grow m ty t=>exact aac _
 |growb ty t=>exact aac _
 |sm m t=>trivial
 |arr m ty t=>show(γ j).2<=0;rw[hg rfl];exact aac _
 |arb ty t=>show(γ j).2<=0;rw[hg rfl];exact aac _
 |obj k C t=>trivial
def I7:∀(ks:List IntKind) (g:G) (j:Nat),∀a∈mh ks g j,hl a=true:=by
 intro ks
 induction ks with
 |nil=>intro g j a h;cases h
 |cons k ks ih=>
  intro g j a h;rcases List.mem_cons.1 h with h|h
  ·subst h;rfl
  ·exact ih _ _ _ h
def Ma{ρ ρ':Rho}(hf:∀b x,ρ.frz b=some x->ρ'.frz b=some x){b:Bool}{l:List AV}(q9:∀a∈l,hl a=true){v:Value}(h:VR ρ (Wj b l) v):VR ρ' (Wj b l) v:=by
 cases b with
 |true=>
  cases h with
  |agg _ cs h1 h2=>exact .agg _ cs h1 λi a v ha hv=>dq hf (h2 i a v ha hv) (q9 a (abn ha))
 |false=>
  cases l with
  |nil=>exact dq hf h rfl
  |cons a l=>exact dq hf h (q9 a aan)
def I8:∀(xs:List Sc) (g:G) (q:Nat),∀a∈bA xs g q,hl a=true:=by
 intro xs
 induction xs with
 |nil=>intro g q a h;cases h
 |cons x xs ihx=>
  intro g q a h;rcases List.mem_append.1 h with h|h
  ·cases x <;> simp [fS] at h;case h n=>exact pn _ _ _ a h
   all_goals (subst h;rfl)
  ·exact ihx _ _ a h
def MvHyp.to0{vl:Nat->Value}(hm:MvHyp w0 ρ H F w wf wb L γ blk y own frz0):Good0 wb (lL w0.heap.size ρ H w wf L γ blk.length own frz0 vl) (eU γ y blk 0 .leaf) w:=by
 have hfm:∀b x,ρ.frz b=some x->(lL w0.heap.size ρ H w wf L γ blk.length own frz0 vl).frz b=some x:=λb x h=>ez h;have J':∀j x,blk[j]? =some x->(eU γ y blk 0 .leaf).get (γ j).1=some (mB γ y j x):=λj x hx=>by have:=sw (γ:=γ) (y:=y) blk 0 .leaf j x hx (λi hi=>by rw[aap];exact hm.g64 i hi) (λa b ha hb e=>hm.ginj a b ha hb (by simpa using e));simpa using this
 refine⟨hm.kept,λb X hX=>?_,λb' g' h hh=>?_,λb1 g1 h1 b2 g2 h2 q1 q2 e=>?_,λb' g' h X hh hX=>?_,λb arr ty hf=>?_,λb x hf c9=>?_,λb k I l hX g h hh=>?_⟩
 ·rcases sv blk 0 .leaf b X hX with⟨j,x,hx,e1,e2⟩|⟨h,_⟩
  case inr=>simp [T.get] at h
  rw[aap] at e1 e2
  subst e1;subst e2
  have hj:j<blk.length:=by
   rcases aah j blk.length with h'|h'
   ·exact h'
   ·rw[aam h'] at hx;cases hx
  obtain⟨b,g,hL,q,hq,P'⟩:=hm.hb j x hx
  have af8:∀h,bv ρ H L j=some h->Own ρ w0.heap.size h.blk->Own (lL w0.heap.size ρ H w wf L γ blk.length own frz0 vl) wb.heap.size h.blk:=λh h1 h2=>hm.owns j h (.inl h1) h2
  cases x with
  |cells ty l=>
   obtain⟨eg,c,as,eq,hlen,j5,ad6⟩:=P';subst eg;subst eq;have o6:=ef hm hj (uw hL hq (λ_ _ _ e=>by cases e));obtain⟨O',r1,r2,_,arr,fr,r3,r4,r5,r6⟩:=(hm.good.blk _ _ hq).2 0 (aac _);have hJ:bv ρ H L j=some O':=by unfold bv;rw[hL];simp only [hq,r1]
   have hz:=hm.g0 j _ hx rfl;refine⟨λo x ho=>?_,λg hg=>?_⟩
   ·rcases vB _ _ _ _ _ ho with⟨i,a,e,ha,ex⟩|⟨h,_⟩
    ·have:i<l.length:=by
      rcases aah i l.length with h'|h'
      ·exact h'
      ·rw[aam (by rw[L9];exact h')] at ha;cases ha
     subst ex;exact⟨aaq _,by omega,aac _⟩
    ·simp [T.get] at h
   ·have:g=0:=by omega
    subst this;refine⟨O', ?_,λ_=>af8 O' hJ (r2 rfl),(λh=>by cases h),arr,fr,r3,r4,r5,λo tag a ho _=>?_⟩
    ·rw[hz] at o6;show iG w0.heap.size ρ H L γ blk.length (γ j).1 0=_;rw[o6];exact hJ
    ·rcases vB _ _ _ _ _ ho with⟨i,a',e,ha,ex⟩|⟨h,_⟩
     ·injection ex with ex1 ex2
      subst ex1;subst ex2
      rw[L8] at ha
      have e:o=i:=by omega
      subst e
      cases hli:l[o]? with
      |none=>rw[hli] at ha;cases ha
      |some xs=>
       rw[hli] at ha;injection ha with ha;subst ha;have ap0:∀{l:List Sh} {as:List AV},cM (Tv F blk L y) l as->∀(i:Nat) (xs:Sh),l[i]? =some xs->∃a,as[i]? =some a/\Tv F blk L y xs a:=by
        intro l
        induction l with
        |nil=>intro as _ i xs h;simp at h
        |cons x l ih=>
         intro as h i xs hi
         cases as with
         |nil=>exact h.elim
         |cons a as=>cases i with
          |zero=>simp at hi;subst hi;exact⟨a,rfl,h.1⟩
          |succ i=>simp at hi;obtain⟨b,h1,h2⟩:=ih h.2 i xs hi;exact⟨b,by simpa using h1,h2⟩
       obtain⟨a1,ha1,ht⟩:=ap0 ad6 o xs hli;obtain⟨a0,hc0,hwk⟩:=j5 o a1 ha1;obtain⟨s1,u,s2,s3⟩:=r6 o 0 a0 hc0 (aac _);exact⟨s1,u,s2,Tv.vr hm ht (hwk _ s3)⟩
     ·simp [T.get] at h
  |grow m ty t=>
   have P':q= .grow (.rows m (y.g t)) g ty:=P';subst P';have o6:=ef hm hj (uw hL hq (λ_ _ _ e=>by cases e));rcases aaU (Ct.rows m (y.g t)).len with h0|l8
   ·exact .inl h0
   ·rcases hm.good.blk _ _ hq with h0|⟨O',r1,r2,r3,arr,fr,r4,r5,r6,r7,r8⟩
    ·omega
    have hJ:bv ρ H L j=some O':=by unfold bv;rw[hL];simp only [hq];rw[if_neg (by omega)];exact r1
    refine .inr ⟨O', ?_,r2,af8 O' hJ r3,arr,fr,r4,r5,r6,r7,λi hi j' a ha=>?_⟩
    ·show iG w0.heap.size ρ H L γ blk.length (γ j).1 (γ j).2=_;rw[o6];exact hJ
    ·obtain⟨u,u1,u2⟩:=r8 i hi j' a ha;exact⟨u,u1,dq hfm u2 (mD ha)⟩
  |growb ty t=>
   have P':q= .grow (.bytes (y.s t)) g ty:=P';subst P';have o6:=ef hm hj (uw hL hq (λ_ _ _ e=>by cases e));rcases aaU (Ct.bytes (y.s t)).len with h0|l8
   ·exact .inl h0
   ·rcases hm.good.blk _ _ hq with h0|⟨O',r1,r2,r3,arr,fr,r4,r5,r6,r7,r8⟩
    ·omega
    have hJ:bv ρ H L j=some O':=by unfold bv;rw[hL];simp only [hq];rw[if_neg (by omega)];exact r1
    refine .inr ⟨O', ?_,r2,af8 O' hJ r3,arr,fr,r4,r5,r6,r7,λi hi j' a ha=>?_⟩
    ·show iG w0.heap.size ρ H L γ blk.length (γ j).1 (γ j).2=_;rw[o6];exact hJ
    ·obtain⟨u,u1,u2⟩:=r8 i hi j' a ha;exact⟨u,u1,dq hfm u2 (mD ha)⟩
  |arr m ty t=>
   obtain⟨eg,e,l8⟩:=P';subst eg;subst e;have hz:=hm.g0 j _ hx rfl;have o6:=ef hm hj (uw hL hq (λ_ _ _ e=>by cases e));rw[hz] at o6;have m7:¬(Ct.rows m (y.g t)).len=0:=by show ¬(y.g t).length=0;omega
   rcases hm.good.blk _ _ hq with h0|⟨O',r1,r2,r3,arr,fr,r4,r5,r6,r7,r8⟩
   ·exact absurd h0 m7
   have hJ:bv ρ H L j=some O':=by unfold bv;rw[hL];simp only [hq];rw[if_neg m7];exact r1
   refine .inr ⟨O',o6.trans hJ,r2,af8 O' hJ r3,arr,fr,r4,r5,r6,r7,λi hi j' a ha=>?_⟩;obtain⟨u,u1,u2⟩:=r8 i hi j' a ha;exact⟨u,u1,dq hfm u2 (mD ha)⟩
  |arb ty t=>
   obtain⟨eg,e,l8⟩:=P';subst eg;subst e;have hz:=hm.g0 j _ hx rfl;have o6:=ef hm hj (uw hL hq (λ_ _ _ e=>by cases e));rw[hz] at o6;have m7:¬(Ct.bytes (y.s t)).len=0:=by show ¬(y.s t).length=0;omega
   rcases hm.good.blk _ _ hq with h0|⟨O',r1,r2,r3,arr,fr,r4,r5,r6,r7,r8⟩
   ·exact absurd h0 m7
   have hJ:bv ρ H L j=some O':=by unfold bv;rw[hL];simp only [hq];rw[if_neg m7];exact r1
   refine .inr ⟨O',o6.trans hJ,r2,af8 O' hJ r3,arr,fr,r4,r5,r6,r7,λi hi j' a ha=>?_⟩;obtain⟨u,u1,u2⟩:=r8 i hi j' a ha;exact⟨u,u1,dq hfm u2 (mD ha)⟩
  |sm m t=>
   obtain⟨eg,hq2⟩:=P';subst eg;have hz:=hm.g0 j _ hx rfl;have o7:¬zy H L j:=uw hL hq (λ_ _ _ e=>by rcases hq2 with h|⟨_,h,_⟩ <;> (rw[h] at e;cases e));have o6:=ef hm hj o7;rw[hz] at o6;rcases hq2 with e|⟨c,e,e0⟩
   ·subst e;obtain⟨O',r1,r2,es,clock,r3,r4,r5⟩:=hm.good.blk _ _ hq;have hJ:bv ρ H L j=some O':=by unfold bv;rw[hL];simp only [hq,r1]
    refine⟨O',o6.trans hJ,af8 O' hJ r2,es,clock,r3,r4,λi g e hi he=>?_⟩;obtain⟨s1,s2⟩:=r5 i g e hi he;exact⟨Ma hfm (I7 _ _ _) s1,Ma hfm (I8 _ _ _) s2⟩
   ·subst e;obtain⟨O',r1,r2,es,r3,r4,r5⟩:=hm.good.blk _ _ hq;have hJ:bv ρ H L j=some O':=by unfold bv;rw[hL];simp only [hq,r1]
    refine⟨O',o6.trans hJ,af8 O' hJ r2,es,c,r3,by rw[e0];exact r4,λi g e hi he=>?_⟩;rw[e0] at hi;simp at hi
  |obj k C t=>
   obtain⟨eg,e⟩:=P';subst eg;subst e;have hz:=hm.g0 j _ hx rfl;have hO:zy H L j:=⟨_,_,_,_,_,hL,hq⟩
   obtain⟨ae6,O',fp,r1,r2,r3,r4⟩:=hm.good.blk _ _ hq;refine⟨ae6,O',fp,jC hm hj hO hL r1 (r3 _ aan).1,r2,λx hx=>?_,r4⟩;obtain⟨s1,g,hx',s2,s3⟩:=r3 x hx;subst s3;exact⟨hm.owns j hx' (.inr ⟨_,_,hL,hO,⟨g,s2⟩,s1⟩) s1,g,hx',jC hm hj hO hL s2 s1,rfl⟩
 ·obtain⟨j,hj,e1,hG⟩:=ew hh;obtain⟨b,g,g2,_,o6⟩:=dl (ed hG).1;refine⟨(hm.good.dom _ _ _ o6).1,mB γ y j blk[j], ?_⟩;rw[←e1];exact J' j blk[j] (aak hj)
 ·obtain⟨j1,hj1,e1,b9⟩:=ew q1;obtain⟨j2,hj2,e3,l7⟩:=ew q2;obtain⟨b1',g1',_,hL1,ab2⟩:=dl (ed b9).1;obtain⟨b2',g2',_,hL2,ar3⟩:=dl (ed l7).1;obtain⟨r1,r2⟩:=hm.good.inj _ _ _ _ _ _ ab2 ar3 e;subst r1;have:=hm.linj _ _ _ _ _ hL1 hL2;subst this;exact⟨by rw[←e1, ←e3],r2⟩
 ·obtain⟨j,hj,e1,hG⟩:=ew hh;have hxj:=aak hj;have:=J' j blk[j] hxj;rw[e1,hX] at this;injection this with this;subst this;rcases(ed hG).2 with⟨⟨b0,g0,k,I,l,hL,hq⟩,_⟩|⟨_,e2,_⟩
  ·obtain⟨b1,g1,hL1,q,G',P'⟩:=hm.hb j _ hxj
   rw[hL] at hL1;injection hL1 with hL1;injection hL1 with e3 e4
   subst e3
   rw[hq] at G';injection G' with G'
   generalize blk[j]=x at P'
   cases x with
   |cells ty l=>obtain⟨_,c,as,e,_⟩:=P';rw[←G'] at e;cases e
   |grow m ty t=>have P':q=_:=P';rw[←G'] at P';cases P'
   |growb ty t=>have P':q=_:=P';rw[←G'] at P';cases P'
   |sm m t=>obtain⟨_,e|⟨c,e,_⟩⟩:=P' <;> (rw[←G'] at e;cases e)
   |arr m ty t=>obtain⟨_,e,_⟩:=P';rw[←G'] at e;cases e
   |arb ty t=>obtain⟨_,e,_⟩:=P';rw[←G'] at e;cases e
   |obj k C t=>trivial
  ·rw[e2];exact L_ λe=>hm.g0 j _ hxj e
 ·have hf:kN w0.heap.size ρ H w wf L b=some (arr,ty):=hf;unfold kN at hf;split at hf
  ·rename_i x hx
   injection hf with hf
   subst hf
   refine⟨(hm.good.frz _ _ _ hx).1,λb' g' h hh e=>?_⟩
   obtain⟨j,hj,e1,hG⟩:=ew hh
   obtain⟨b2,g2,g3,hL,o6⟩:=dl (ed hG).1
   obtain⟨b1,g1,hL1,q,G',P'⟩:=hm.hb j _ (aak hj)
   rw[hL] at hL1;injection hL1 with hL1;injection hL1 with e3 e4
   subst e3
   refine absurd e (hm.good.frzE hx o6 G' ?_)
   generalize blk[j]=x at P'
   cases x with
   |cells ty l=>obtain⟨_,c,as,e,_⟩:=P';rw[e];exact λh=>h
   |grow m ty t=>have P':q=_:=P';rw[P'];exact λh=>h
   |growb ty t=>have P':q=_:=P';rw[P'];exact λh=>h
   |sm m t=>obtain⟨_,e|⟨c,e,_⟩⟩:=P' <;> (rw[e];exact λh=>h)
   |arr m ty t=>obtain⟨_,e,_⟩:=P';rw[e];exact λh=>h
   |arb ty t=>obtain⟨_,e,_⟩:=P';rw[e];exact λh=>h
   |obj k C t=>obtain⟨_,e⟩:=P';rw[e];exact λh=>h
  ·split at hf
   ·rename_i hc;split at hf
    ·rename_i p7 ty' fr' hw;injection hf with hf;injection hf with e1 e2;subst e1;subst e2;refine⟨⟨fr',hw⟩,λb' g' h hh e=>?_⟩;obtain⟨j,hj,e1,hG⟩:=ew hh;exact absurd e (hc.2 j h (ed hG).1)
    ·cases hf
   ·cases hf
 ·exact hm.frz b x hf c9
 ·obtain⟨j,hj,e1,hG⟩:=ew hh;have hxj:=aak hj;have hp:=J' j blk[j] hxj;rw[e1,hX] at hp;injection hp with hp;obtain⟨b0,g0,hL,q,hq,P'⟩:=hm.hb j _ hxj;have hO:zy H L j:=by
   generalize blk[j]=x at P' hp
   cases x with
   |obj k C t=>obtain⟨_,e⟩:=P';subst e;exact⟨_,_,_,_,_,hL,hq⟩
   |_=>cases hp
  rcases ed hG with⟨hA,hc⟩
  rcases hc with⟨_,b2,g2,hL2,o6⟩|⟨hn,_⟩
  ·rw[hL] at hL2;injection hL2 with hL2;injection hL2 with e3 e4;subst e3;obtain⟨_,_,k0,I0,l0,e5,e6⟩:=hO;rw[hL] at e5;injection e5 with e5;injection e5 with e5 _;subst e5;exact⟨hm.owns j h hA (hm.good.objO _ _ _ _ e6 _ _ o6).1,(hm.good.objO _ _ _ _ e6 _ _ o6).2⟩
  ·exact absurd hO hn
end
end Go.Sym
namespace Go.Sym
open Go.RowKit (Below)
def ZW{w0 w w':World}{ρ ρp:Rho}{H Hp H2:T ABlk}(hG:Good w0 ρ H w)(hP:Good0 w ρp Hp w')(hH2:∀b,H2.get b=match Hp.get b with|some X=>some X|none=>H.get b)(d9:∀x,ρp.own x->Own ρ w0.heap.size x)(ac8:ρp.val=ρ.val)(ak8:∀b x,ρ.frz b=some x->ρp.frz b=some x)(hf0:ρp.frz0=ρ.frz)(hq:∀b g h,ρp.at_ b g=some h->ρ.at_ b g=some h∨(ρ.at_ b g=none/\∀b' g' h',ρ.at_ b' g'=some h'->h'.blk=h.blk->b'=b/\h'=h))(ac1:∀b g h X,ρ.at_ b g=some h->Hp.get b=some X->Ky g X)(hex:∀b X,Hp.get b=some X->∃X0,H.get b=some X0/\¬zH X0)(ar4:∀b g h,ρ.at_ b g=some h->Hp.get b=none->¬ρp.own h.blk)(ab8:∀b k I l,Hp.get b=some (.obj k I l)->(∃k I l,H.get b=some (.obj k I l))∨∀g,ρ.at_ b g=none)(ah8:∀b X,Hp.get b=some X->(∃c n ty,X= .cells c 0 0 n 0 0 false ty)∨(∃c g ty,X= .grow c g ty)∨(∃m l,X= .smap m l)∨∃k I l,X= .obj k I l):
 ∃ρ2:Rho,Good w0 ρ2 H2 w'/\ρ.le ρ2/\(∀b g h,ρp.at_ b g=some h->ρ2.at_ b g=some h)/\ρ2.val=ρp.val/\ρ2.frz=ρp.frz:=by
 let ρ2:Rho:=⟨λb g=>match ρ.at_ b g with|some h=>some h|none=>ρp.at_ b g,ρp.val,ρ.own,ρp.frz,ρ.frz0⟩
 have h21:∀b g h,ρ.at_ b g=some h->ρ2.at_ b g=some h:=λb g h hh=>by show(match ρ.at_ b g with|some h=>some h|none=>ρp.at_ b g)=some h;rw[hh]
 have h22:∀b g h,ρp.at_ b g=some h->ρ2.at_ b g=some h:=λb g h hh=>by
  show(match ρ.at_ b g with|some h=>some h|none=>ρp.at_ b g)=some h;rcases hq b g h hh with h'|⟨h',_⟩
  ·rw[h']
  ·rw[h'];exact hh
 have h23:∀b g h,ρ2.at_ b g=some h->ρ.at_ b g=some h∨(ρ.at_ b g=none/\ρp.at_ b g=some h):=λb g h hh=>by
  have hh:(match ρ.at_ b g with|some h=>some h|none=>ρp.at_ b g)=some h:=hh
  cases hr:ρ.at_ b g with
  |some h'=>rw[hr] at hh;exact .inl hh
  |none=>rw[hr] at hh;exact .inr ⟨rfl,hh⟩
 have hle:ρ.le ρ2:=⟨h21,ac8,rfl,ak8,rfl⟩
 have hvp:∀a v,VR ρp a v->VR ρ2 a v:=λa v h=>h.into h22 rfl λ_ _ h=>h
 have T':=hG.below.size
 have ar5:=hP.below.size
 have m6:∀b g h,ρp.at_ b g=some h->ρ.at_ b g=none->∀b' g' h',ρ.at_ b' g'=some h'->h'.blk=h.blk->b'=b/\h'=h:=λb g h hh hn=>by
  rcases hq b g h hh with h'|⟨_,h'⟩
  ·rw[hn] at h';cases h'
  ·exact h'
 have af1:∀x,Own ρp w.heap.size x->Own ρ2 w0.heap.size x:=λx hx=>by
  rcases hx with hx|hx
  ·exact .inl (by omega)
  ·exact d9 x hx
 refine⟨ρ2,⟨⟨?_,λb X hX=>?_,λb g h hh=>?_,λb g h b' g' h' q1 q2 e=>?_,λb g h X hh hX=>?_,λb arr ty hf=>?_,λb x hf c9=>?_,λb k I l hX g h hh=>?_⟩,λx hx=>by obtain⟨b,g,h,q1,q2,q3⟩:=hG.ownB x hx;exact⟨b,g,h,q1,h21 _ _ _ q2,q3⟩⟩,hle,h22,rfl,rfl⟩
 ·refine hG.below.trans ⟨hP.below.os,hP.below.tape,hP.below.output,ar5,λx hx ho=>hP.below.block x (by omega) λhpo=>?_⟩;rcases d9 x hpo with h|h
  ·omega
  ·exact ho h
 ·rw[hH2] at hX
  cases hp:Hp.get b with
  |some X'=>
   rw[hp] at hX;injection hX with hX;subst hX;have hB:=hP.blk _ _ hp;rcases ah8 _ _ hp with⟨c,n,ty,e⟩|⟨c,g,ty,e⟩|⟨m,l,e⟩|⟨k,I,l,e⟩
   ·subst e;refine⟨hB.1,λg hg=>?_⟩;obtain⟨hm,r1,r2,r3,arr,fr,r4,r5,r6,r7⟩:=hB.2 g hg;refine⟨hm,h22 _ _ _ r1,λh=>af1 _ (r2 h),r3,arr,fr,r4,r5,r6,λo tag a ho ht=>?_⟩;obtain⟨s1,u,s2,s3⟩:=r7 o tag a ho ht;exact⟨s1,u,s2,hvp _ _ s3⟩
   ·subst e;rcases hB with h0|⟨hm,r1,r2,r3,arr,fr,r4,r5,r6,r7,r8⟩
    ·exact .inl h0
    ·refine .inr ⟨hm,h22 _ _ _ r1,r2,af1 _ r3,arr,fr,r4,r5,r6,r7,λi hi j a ha=>?_⟩;obtain⟨u,u1,u2⟩:=r8 i hi j a ha;exact⟨u,u1,hvp _ _ u2⟩
   ·subst e;obtain⟨hm,r1,r2,es,clock,r3,r4,r5⟩:=hB;refine⟨hm,h22 _ _ _ r1,af1 _ r2,es,clock,r3,r4,λi g e hi he=>?_⟩;obtain⟨s1,s2⟩:=r5 i g e hi he;exact⟨hvp _ _ s1,hvp _ _ s2⟩
   ·subst e;obtain⟨hl,hm,fp,r1,r2,r3,r4⟩:=hB;refine⟨hl,hm,fp,h22 _ _ _ r1,r2,λx hx=>?_,r4⟩;obtain⟨s1,g,hx',s2,s3⟩:=r3 x hx;exact⟨af1 _ s1,g,hx',h22 _ _ _ s2,s3⟩
  |none=>rw[hp] at hX;exact(hG.blk _ _ hX).keep hle λg h hh=>hP.below.block _ (hG.dom _ _ _ hh).1 (ar4 b g h hh hp)
 ·rcases h23 b g h hh with hh|⟨hn,hh⟩
  ·obtain⟨q1,X,q2⟩:=hG.dom _ _ _ hh
   refine⟨by omega, ?_⟩
   rw[hH2]
   cases hp:Hp.get b with
   |some X'=>exact⟨_,rfl⟩
   |none=>exact⟨X,q2⟩
  ·obtain⟨q1,X,q2⟩:=hP.dom _ _ _ hh;exact⟨q1,X,by rw[hH2,q2]⟩
 ·rcases h23 b g h q1 with q1|⟨hn1,q1⟩ <;> rcases h23 b' g' h' q2 with q2|⟨hn2,q2⟩
  ·exact hG.inj _ _ _ _ _ _ q1 q2 e
  ·exact m6 _ _ _ q2 hn2 _ _ _ q1 e
  ·obtain⟨r1,r2⟩:=m6 _ _ _ q1 hn1 _ _ _ q2 e.symm;exact⟨r1.symm,r2.symm⟩
  ·exact hP.inj _ _ _ _ _ _ q1 q2 e
 ·rw[hH2] at hX
  cases hp:Hp.get b with
  |some X'=>
   rw[hp] at hX;injection hX with hX;subst hX;rcases h23 b g h hh with hh|⟨hn,hh⟩
   ·exact ac1 _ _ _ _ hh hp
   ·exact hP.gens _ _ _ _ hh hp
  |none=>
   rw[hp] at hX;rcases h23 b g h hh with hh|⟨hn,hh⟩
   ·exact hG.gens _ _ _ _ hh hX
   ·obtain⟨_,X2,q2⟩:=hP.dom _ _ _ hh;rw[hp] at q2;cases q2
 ·have hf:ρp.frz b=some (arr,ty):=hf;obtain⟨q1,q2⟩:=hP.frz _ _ _ hf;have hnp:∀b' X,Hp.get b'=some X->¬zH X:=λb' X hX hz=>by rcases ah8 _ _ hX with⟨c,n,ty,e⟩|⟨c,g,ty,e⟩|⟨m,l,e⟩|⟨k,I,l,e⟩ <;> (subst e;exact hz)
  refine⟨q1,λb' g h hh e=>?_⟩;rcases h23 b' g h hh with hh|⟨hn,hh⟩
  ·have c9:=(hG.dom _ _ _ hh).1
   have h1:=hP.frzB b _ hf (by omega)
   rw[hf0] at h1
   obtain⟨X,y1,y2⟩:=(hG.frz _ _ _ h1).2 _ _ _ hh e
   refine⟨X, ?_,y2⟩
   rw[hH2]
   cases hp:Hp.get b' with
   |none=>exact y1
   |some X'=>obtain⟨X0,z1,z2⟩:=hex _ _ hp;rw[y1] at z1;injection z1 with z1;subst z1;exact absurd y2 z2
  ·obtain⟨X,y1,y2⟩:=q2 _ _ _ hh e;exact absurd y2 (hnp _ _ y1)
 ·have hf:ρp.frz b=some x:=hf;have h1:=hP.frzB b x hf (by omega);rw[hf0] at h1;exact hG.frzB _ _ h1 c9
 ·rw[hH2] at hX
  cases hp:Hp.get b with
  |some X'=>
   rw[hp] at hX;injection hX with hX;subst hX;rcases h23 b g h hh with hh|⟨hn,hh⟩
   ·rcases ab8 _ _ _ _ hp with⟨_,_,_,q⟩|q
    ·exact hG.objO _ _ _ _ q _ _ hh
    ·rw[q] at hh;cases hh
   ·exact⟨af1 _ (hP.objO _ _ _ _ hp _ _ hh).1,(hP.objO _ _ _ _ hp _ _ hh).2⟩
  |none=>
   rw[hp] at hX;rcases h23 b g h hh with hh|⟨hn,hh⟩
   ·exact hG.objO _ _ _ _ hX _ _ hh
   ·obtain⟨_,X2,q2⟩:=hP.dom _ _ _ hh;rw[hp] at q2;cases q2
section
variable{P:Program}{w0:World}{ρ:Rho}{w:World}{σ:St}{K:Fin}
def dR{α:Type}{j:Nat}{p:α}:∀{loc:List (Nat×α)},bC j loc=some p->(j,p)∈loc:=by
 intro loc
 induction loc with
 |nil=>intro h;cases h
 |cons z l ih=>
  intro h;rw[dk] at h;split at h
  ·rename_i e;injection h with h;have:z=(j,p):=by rw[←e, ←h]
   rw[this];exact aan
  ·exact aal _ (ih h)
def AM(K:Fin)(w0:World)(ρ:Rho)(w:World)(σ:St)(loc:List (Nat×Nat×Nat))(a:AV)(k:AV->Tr):Prop:=
 ∃a' a9 ρ',run (k a') a9 K=true/\SI a9/\Good w0 ρ' a9.h w/\ρ.le ρ'/\Stays loc σ.h a9.h/\∀ρ2,ρ'.le ρ2->∀v,VR ρ2 a v->VR ρ2 a' v
def xC{loc:List (Nat×Nat×Nat)}{a:AV}{k:AV->Tr}(hS:SI σ)(hG:Good w0 ρ σ.h w)(h:run (Dp loc a k) σ K=true):AM K w0 ρ w σ loc a k:=by
 have same:run (k a) σ K=true->AM K w0 ρ w σ loc a k:=λh=>⟨a,σ,ρ,h,hS,hG,.refl _,.refl _ _,λ_ _ _ h=>h⟩
 unfold Dp at h
 cases a with
 |gsl b g n es=>
  have c8:=di hS h
  replace h:=bE hS h;obtain⟨q,b7,hq,e1,b6,h⟩:=h
  have b9:Good w0 ρ b7.h w:=by rw[e1];exact hG
  have G':b7.h.get b=some q:=by rw[e1];exact hq
  cases q with
  |grow c gen ty=>replace h:=ay h;obtain⟨k1,h⟩:=h;replace h:=ay h;obtain⟨k2,h⟩:=h;replace h:=ay h;obtain⟨k3,h⟩:=h;replace h:=aP h;obtain⟨k4,h⟩:=h;replace h:=fw b6 h;obtain⟨x0,d8,hx0,e2,f9,_,h⟩:=h;have k1:=aM k1;have k2:=aM k2;obtain⟨k3a,k3b⟩:=aD k3;have k3a:=bU k3a;subst k1;subst k2;subst k4;obtain⟨ρ',f1,f2,f3⟩:=b9.freeze G' c8 k3a;refine⟨_,d8,ρ',h,f9,by rw[e2];exact f2,f1,λb' X hf hX=>?_,f3⟩;obtain⟨x,hx1,Z'⟩:=hf;rw[e2,T.get_set_ne _ (λe=>by subst e;rw[iN hx1 Z'] at k3b;cases k3b),e1];exact hX
  |froz c gen=>replace h:=ay h;obtain⟨k1,h⟩:=h;replace h:=ay h;obtain⟨k2,h⟩:=h;replace h:=aP h;obtain⟨k4,h⟩:=h;have k1:=aM k1;have k2:=aM k2;subst k1;subst k2;subst k4;exact⟨_,b7,ρ,h,b6,b9,.refl _,λb' X _ hX=>by rw[e1];exact hX,λρ2 j6 v hv=>js ((b9.blk _ _ G').keep (w':=w) j6 λ_ _ _=>rfl) hv⟩
  |_=>exact(ah h).elim
 |_=>exact same h
def AN{loc:List (Nat×Nat×Nat)}{blk:List BSh}{x:Sh}{a:AV}{k:AV->Tr}(hS:SI σ)(hG:Good w0 ρ σ.h w)(h:run (vy loc blk x a k) σ K=true):AM K w0 ρ w σ loc a k:=by
 have same:run (k a) σ K=true->AM K w0 ρ w σ loc a k:=λh=>⟨a,σ,ρ,h,hS,hG,.refl _,.refl _ _,λ_ _ _ h=>h⟩
 have fresh:∀(ct:Ct) (ty es:Nat),ct.len=0->a= .nils->run (.new (.grow ct 0 ty) λb=>k (.gsl b 0 0 es)) σ K=true->AM K w0 ρ w σ loc a k:=by
  intro ct ty es h0 ea h;obtain⟨n,a9,hn,c8,e,r9,h⟩:=gw hS h;refine⟨_,a9,ρ,h,r9,by rw[e];exact hG.none_new hn c8 h0,.refl _,λb X _ hX=>?_,λρ2 _ v hv=>?_⟩
  ·rw[e,T.get_set_ne _ (λe'=>by subst e';rw[hn] at hX;cases hX)];exact hX
  ·subst ea;cases hv;exact .gnil _ _ _
 have rowsMT:∀{m len:Nat} (tyf:Nat->Nat),∀(ty0:Nat) (as:List AV) (kk:Ct->Nat->Tr) (a9:St),run (du (dU (cU m) len as) .fail λq=>(match q with|(gs,[])=>kk (.rows m gs) (tyf ty0)|_=>.fail)) a9 K=true->
  ∃ct ty,run (kk ct ty) a9 K=true/\(as.length=ct.len * ct.es->∀i,i<ct.len->∀(ρ:Rho) (vs:List Value),LR ρ ((as.drop (i * ct.es)).take ct.es) vs->LR ρ (ct.row i) vs):=by
  intro m len tyf ty0 as kk a9 h
  replace h:=ce h;obtain⟨q,hq,h⟩:=h
  split at h
  ·rename_i gs;obtain⟨c1,f1,f2,f3,f4⟩:=g_ _ _ _ _ hq;have f1:as=c1:=by simpa using f1
   subst f1;exact⟨_,_,h,λhlen i hi ρ vs=>f4 i (by rw[←f3];exact hi) ρ vs⟩
  ·exact(ah h).elim
 have rowsBT:∀(tyf:Nat->Nat),∀(ty0:Nat) (as:List AV) (kk:Ct->Nat->Tr) (a9:St),run (du (gq as) .fail λns=>.req (bp ns) (kk (.bytes (aI ns)) (tyf ty0))) a9 K=true->
  ∃ct ty,run (kk ct ty) a9 K=true/\(as.length=ct.len * ct.es->∀i,i<ct.len->∀(ρ:Rho) (vs:List Value),LR ρ ((as.drop (i * ct.es)).take ct.es) vs->LR ρ (ct.row i) vs):=by
  intro tyf ty0 as kk a9 h
  replace h:=ce h;obtain⟨ns,hq,h⟩:=h
  replace h:=aP h;obtain⟨hnn,h⟩:=h
  obtain⟨f1,f2⟩:=nx _ _ hq
  refine⟨_,_,h,λhlen i hi ρ vs L'=>?_⟩
  have hal:as.length=(aI ns).length:=by rw[bQ,f1]
  have hi:i<(aI ns).length:=hi
  have hia:i<as.length:=by omega
  have hd:(as.drop (i * 1)).take 1= [as[i]]:=by rw[aaJ,aaX hia];rfl
  have L':LR ρ ((as.drop (i * 1)).take 1) vs:=L'
  rw[hd] at L'
  refine L'.one λv hv=>?_
  obtain⟨n',q1,q2⟩:=f2 i as[i] (aak hia)
  obtain⟨q3,q4⟩:=jr _ _ _ hnn q1
  rw[bo hv q2,aag,q3]
  show VR ρ (.sI .u8 ((n'.toNat:Nat):Int)) _
  rw[show((n'.toNat:Nat):Int)=n' by omega]
  exact .sI _ _
 have andthen:∀(b g o len es:Nat) (cap:Option Nat),a= .slc b g o len cap es->(∃a9,run (Dp loc (.gsl b g len es) k) a9 K=true/\SI a9/\Good w0 ρ a9.h w/\Stays loc σ.h a9.h/\∀ρ2,ρ.le ρ2->∀v,VR ρ2 (.slc b g o len cap es) v->VR ρ2 (.gsl b g len es) v)->AM K w0 ρ w σ loc a k:=by intro b g o len es cap ea ⟨a9,h1,h2,h3,h4,h5⟩;obtain⟨a',d8,ρ',q1,q2,q3,q4,q5,q6⟩:=xC h2 h3 h1;subst ea;exact⟨a',d8,ρ',q1,q2,q3,q4,h4.trans q5,λρ2 j6 v hv=>q6 ρ2 j6 v (h5 ρ2 (q4.trans j6) v hv)⟩
 have fv:∀m,run (Rv loc m a k) σ K=true->AM K w0 ρ w σ loc a k:=by
  intro m z
  unfold Rv at z
  cases a with
  |slc b g o len cap es=>replace z:=ay z;obtain⟨he,z⟩:=z;exact andthen b g o len es cap rfl (dZ hS hG (rowsMT λty=>ty) z)
  |_=>exact xC hS hG z
 have fb:run (frzB loc a k) σ K=true->AM K w0 ρ w σ loc a k:=by
  intro z
  unfold frzB at z
  cases a with
  |slc b g o len cap es=>replace z:=ay z;obtain⟨he,z⟩:=z;have he:=aM he;subst he;exact andthen b g o len 1 cap rfl (dZ hS hG (rowsBT λty=>ty) z)
  |_=>exact xC hS hG z
 unfold vy at h
 cases x with
 |g j es t=>
  simp only at h;split at h
  ·split at h
   ·exact fresh _ _ _ rfl rfl h
   ·exact(ah h).elim
  ·rename_i b g o len cap M';split at h
   ·rename_i m ty t' _;replace h:=ay h;obtain⟨e,h⟩:=h;have e:=aM e;subst e;obtain⟨a9,h1,h2,h3,h4,h5⟩:=dZ hS hG (rowsMT λ_=>ty) h;exact⟨_,a9,ρ,h1,h2,h3,.refl _,h4,h5⟩
   ·exact(ah h).elim
  ·exact same h
 |gb j t=>
  simp only at h;split at h
  ·split at h
   ·exact fresh _ _ _ rfl rfl h
   ·exact(ah h).elim
  ·rename_i b g o len cap M';split at h
   ·rename_i ty t' _;replace h:=ay h;obtain⟨e,h⟩:=h;have e:=aM e;subst e;obtain⟨a9,h1,h2,h3,h4,h5⟩:=dZ hS hG (rowsBT λ_=>ty) h;exact⟨_,a9,ρ,h1,h2,h3,.refl _,h4,h5⟩
   ·exact(ah h).elim
  ·exact same h
 |p j=>
  simp only at h;split at h
  ·rename_i b g o;split at h
   ·rename_i m _ _ _
    obtain⟨q,b7,hq,e1,b6,z⟩:=bE hS h
    have b9:Good w0 ρ b7.h w:=by rw[e1];exact hG
    have st1:Stays loc σ.h b7.h:=λb' X _ hX=>by rw[e1];exact hX
    cases q with
    |cells c gen lo hi fl fh ro ty=>obtain⟨d8,z2,f9,l7,p8,_⟩:=dZ b6 b9 iO z;exact⟨_,d8,ρ,z2,f9,l7,.refl _,st1.trans p8,λ_ _ _ h=>h⟩
    |_=>exact⟨_,b7,ρ,z,b6,b9,.refl _,st1,λ_ _ _ h=>h⟩
   ·rename_i ty2 t2 _
    obtain⟨q,b7,hq,e1,b6,z⟩:=bE hS h
    have b9:Good w0 ρ b7.h w:=by rw[e1];exact hG
    have st1:Stays loc σ.h b7.h:=λb' X _ hX=>by rw[e1];exact hX
    cases q with
    |cells c gen lo hi fl fh ro ty=>obtain⟨d8,z2,f9,l7,p8,_⟩:=dZ b6 b9 kJ z;exact⟨_,d8,ρ,z2,f9,l7,.refl _,st1.trans p8,λ_ _ _ h=>h⟩
    |_=>exact⟨_,b7,ρ,z,b6,b9,.refl _,st1,λ_ _ _ h=>h⟩
   ·exact same h
  ·exact same h
 |v m t=>exact fv m h
 |pv m t=>exact fv m h
 |vb t=>exact fb h
 |pvb t=>exact fb h
 |_=>exact same h
def To2(ρ:Rho):List AV->List AV->Prop:=cM λa a'=>∀ρ2,ρ.le ρ2->∀v,VR ρ2 a v->VR ρ2 a' v
def To2.lr{ρ ρ2:Rho}(hle:ρ.le ρ2):∀{as o9:List AV} {vs:List Value},To2 ρ as o9->LR ρ2 as vs->LR ρ2 o9 vs
 | [],[],vs,_,h=>h
 |a::as,a'::o9,vs,⟨h1,h2⟩,h=>by obtain⟨v,E',rfl,hv,h'⟩:=h.cons_inv;exact LR.cons (h1 ρ2 hle v hv) (To2.lr hle h2 h')
 | [],_::_,_,h,_=>h.elim
 |_::_,[],_,h,_=>h.elim
def To2.get{ρ:Rho}:∀{as o9:List AV} {i:Nat} {a':AV},To2 ρ as o9->o9[i]? =some a'->∃a,as[i]? =some a/\∀ρ2,ρ.le ρ2->∀v,VR ρ2 a v->VR ρ2 a' v
 | [],[],i,a',_,h=>by simp at h
 |a::as,b::o9,0,a',⟨h1,h2⟩,h=>by simp at h;subst h;exact⟨a,rfl,h1⟩
 |a::as,b::o9,i+1,a',⟨h1,h2⟩,h=>by simp at h;obtain⟨x,q1,q2⟩:=To2.get h2 h;exact⟨x,by simpa using q1,q2⟩
 | [],_::_,_,_,h,_=>h.elim
 |_::_,[],_,_,h,_=>h.elim
def vD{loc:List (Nat×Nat×Nat)}{blk:List BSh}:∀{l:List Sh} {as:List AV} {k:List AV->Tr} {σ:St} {ρ:Rho},SI σ->Good w0 ρ σ.h w->run (xA loc blk l as k) σ K=true->
 ∃o9 a9 ρ',run (k o9) a9 K=true/\SI a9/\Good w0 ρ' a9.h w/\ρ.le ρ'/\Stays loc σ.h a9.h/\(as.length=l.length->To2 ρ' as o9):=by
 intro l
 induction l with
 |nil=>intro as k σ ρ hS hG h;exact⟨as,σ,ρ,h,hS,hG,.refl _,.refl _ _,λe=>by cases as with|nil=>exact trivial|cons _ _=>simp at e⟩
 |cons x l ih=>
  intro as k σ ρ hS hG h
  cases as with
  |nil=>exact⟨[],σ,ρ,h,hS,hG,.refl _,.refl _ _,λe=>by simp at e⟩
  |cons a as=>
   have h:run (vy loc blk x a λa=>xA loc blk l as λas=>k (a::as)) σ K=true:=h
   obtain⟨a',b7,ρ1,h1,h2,h3,h4,h5,h6⟩:=AN hS hG h
   obtain⟨o9,d8,ρ2,q1,q2,q3,q4,q5,q6⟩:=ih h2 h3 h1
   exact⟨a'::o9,d8,ρ2,q1,q2,q3,h4.trans q4,h5.trans q5,λe=>⟨λρ3 hle=>h6 ρ3 (q4.trans hle),q6 (by simpa using e)⟩⟩
def iT{loc:List (Nat×Nat×Nat)}{blk:List BSh}:∀{l:List Sa} {as:List AV} {k:List AV->Tr} {σ:St} {vs:List Value} {ρ:Rho},SI σ->Good w0 ρ σ.h w->LR ρ as vs->run (jA loc blk l as k) σ K=true->
 ∃o9 a9 ρ',run (k o9) a9 K=true/\SI a9/\Good w0 ρ' a9.h w/\ρ.le ρ'/\o9.length=as.length/\(l.length=as.length->LR ρ' o9 vs):=by
 intro l
 induction l with
 |nil=>intro as k σ vs ρ hS hG hl h;exact⟨as,σ,ρ,h,hS,hG,.refl _,rfl,λ_=>hl⟩
 |cons x l ih=>
  intro as k σ vs ρ hS hG hl h
  cases as with
  |nil=>exact⟨[],σ,ρ,h,hS,hG,.refl _,rfl,λ_=>hl⟩
  |cons a as=>
   obtain⟨v,E',rfl,hv,q9⟩:=hl.cons_inv
   have h:run (L5 loc blk x a λa=>jA loc blk l as λas=>k (a::as)) σ K=true:=h
   have:∃a' a9 ρ',run (jA loc blk l as λas=>k (a'::as)) a9 K=true/\SI a9/\Good w0 ρ' a9.h w/\ρ.le ρ'/\∀ρ2,ρ'.le ρ2->VR ρ2 a' v:=by
    cases x with
    |c x=>have h:run (vy loc blk x a λa=>jA loc blk l as λas=>k (a::as)) σ K=true:=h;obtain⟨a',b7,ρ1,h1,h2,h3,h4,_,h6⟩:=AN hS hG h;exact⟨a',b7,ρ1,h1,h2,h3,h4,λρ2 hle=>h6 ρ2 hle v ((hv.mono h4).mono hle)⟩
    |ag l'=>
     unfold L5 at h;simp only at h;split at h
     ·rename_i as1 _
      obtain⟨hlen,h1⟩:=ay h
      have hlen:=aM hlen
      obtain⟨ar6,b7,ρ1,q1,q2,q3,q4,_,q6⟩:=vD hS hG h1
      refine⟨.agg ar6,b7,ρ1,q1,q2,q3,q4,λρ2 hle=>?_⟩
      cases hv with
      |agg _ cs e1 e2=>have hl2:LR ρ2 as1 cs.toList:=(LR.of_arr e1 e2).mono (q4.trans hle);obtain⟨r1,r2⟩:=(To2.lr hle (q6 hlen) hl2).arr;exact .agg _ cs r1 r2
     ·exact⟨_,σ,ρ,h,hS,hG,.refl _,λρ2 hle=>hv.mono hle⟩
    |cp l'=>exact⟨_,σ,ρ,h,hS,hG,.refl _,λρ2 hle=>hv.mono hle⟩
   obtain⟨a',b7,ρ1,h1,h2,h3,h4,h5⟩:=this
   obtain⟨o9,d8,ρ2,q1,q2,q3,q6,q5,q4⟩:=ih h2 h3 (q9.mono h4) h1
   exact⟨a'::o9,d8,ρ2,q1,q2,q3,h4.trans q6,by simp [q5],λe=>LR.cons (h5 ρ2 q6) (q4 (by simpa using e))⟩
def mE{F:T ABlk}{blk:List BSh}:∀{l:List Sa} {as:List AV} {s s':PS},iw F blk l as s=some s'->l.length=as.length:=by
 intro l
 induction l with
 |nil=>intro as s s' h;cases as with|nil=>rfl|cons _ _=>cases h
 |cons x l ih=>
  intro as s s' h
  cases as with
  |nil=>cases h
  |cons a as=>obtain⟨s1,_,h2⟩:=az (show bx (sj F blk x a s) (λs=>iw F blk l as s)=some s' from h);simp [ih h2]
def I9{F:T ABlk}{blk:List BSh}:∀{l:List Sh} {as:List AV} {s s':PS},iR F blk l as s=some s'->l.length=as.length:=by
 intro l
 induction l with
 |nil=>intro as s s' h;cases as with|nil=>rfl|cons _ _=>cases h
 |cons x l ih=>
  intro as s s' h
  cases as with
  |nil=>cases h
  |cons a as=>obtain⟨s1,_,h2⟩:=az (show bx (nK F blk x a s) (λs=>iR F blk l as s)=some s' from h);simp [ih h2]
def kP(s:PS):mW s .leaf=λ_=>none:=by
 funext b;unfold mW;split
 ·simp [T.get]
 ·rfl
def xD(ρ:Rho)(blk:List BSh)(H:T ABlk)(s':PS)(l:List BSh)(j:Nat):Prop:=
 ∀i x,l[i]? =some x->∃b g,bC (j+i) s'.loc=some (b,g)/\∃q,H.get b=some q/\∀ρ2,ρ.le ρ2->∀sF,s'.Le sF->sF.pr->so blk sF->BT ρ2 (λ_=>none) blk sF.L (aN sF.tm) x q g
def AO{blk:List BSh}{k:PS->Tr}:∀{l:List BSh} {j:Nat} {s:PS} {σ:St} {ρ:Rho},SI σ->Good w0 ρ σ.h w->run (vz blk l j s k) σ K=true->
 ∃s' a9 ρ',run (k s') a9 K=true/\SI a9/\Good w0 ρ' a9.h w/\ρ.le ρ'/\s.Le s'/\Stays s.loc σ.h a9.h/\xD ρ' blk a9.h s' l j:=by
 intro l
 induction l with
 |nil=>intro j s σ ρ hS hG h;exact⟨s,σ,ρ,h,hS,hG,.refl _,.refl _,.refl _ _,λi x hx=>by simp at hx⟩
 |cons x l ih=>
  intro j s σ ρ hS hG h
  have h:run (du (bC j s.loc) .fail λbg=>.rd bg.1 λq=>ZT blk x q bg.2 s λs=>vz blk l (Nat.succ j) s k) σ K=true:=h
  obtain⟨bg,hbg,h⟩:=ce h
  obtain⟨b,g⟩:=bg
  obtain⟨q,b7,hq,e1,b6,h⟩:=bE hS h
  have b9:Good w0 ρ b7.h w:=by rw[e1];exact hG
  have hqs:σ.h.get b=some q:=hq
  have fin:∀(s1:PS) (d8:St) (ρ1:Rho),s.Le s1->SI d8->Good w0 ρ1 d8.h w->ρ.le ρ1->Stays s.loc b7.h d8.h->(∀ρ2,ρ1.le ρ2->∀sF,s1.Le sF->sF.pr->so blk sF->BT ρ2 (λ_=>none) blk sF.L (aN sF.tm) x q g)->run (vz blk l (Nat.succ j) s1 k) d8 K=true->
   ∃s' a9 ρ',run (k s') a9 K=true/\SI a9/\Good w0 ρ' a9.h w/\ρ.le ρ'/\s.Le s'/\Stays s.loc σ.h a9.h/\xD ρ' blk a9.h s' (x::l) j:=by
   intro s1 d8 ρ1 hle f9 l7 hr p8 P' h
   obtain⟨s',a9,ρ',q1,q2,q3,q0,q4,q5,q6⟩:=ih f9 l7 h
   have ap1:∀b X,(∃x,x∈s.loc/\x.2.1=b)->b7.h.get b=some X->a9.h.get b=some X:=λb X ⟨x,hx1,Z'⟩ hX=>
    q5 b X ⟨x,hle.mem _ hx1,Z'⟩ (p8 b X ⟨x,hx1,Z'⟩ hX)
   refine⟨s',a9,ρ',q1,q2,q3,hr.trans q0,hle.trans q4,λb' X hf hX=>?_,λi y hy=>?_⟩
   ·exact ap1 b' X hf (by rw[e1];exact hX)
   ·cases i with
    |zero=>simp at hy;subst hy;exact⟨b,g,(hle.trans q4).loc _ _ hbg,q,ap1 b q ⟨_,dR hbg,rfl⟩ (by rw[e1];exact hqs),λρ2 j6 sF hF hp hl=>P' ρ2 (q0.trans j6) sF (q4.trans hF) hp hl⟩
    |succ i=>obtain⟨b',g',r1,r2⟩:=q6 i y (by simpa using hy);exact⟨b',g',by rw[show j+(i+1)=Nat.succ j+i by omega];exact r1,r2⟩
  have hd:(∀ty l',x≠ .cells ty l')->run (du (gz x q g s) .fail λs=>vz blk l (Nat.succ j) s k) b7 K=true->
   ∃s' a9 ρ',run (k s') a9 K=true/\SI a9/\Good w0 ρ' a9.h w/\ρ.le ρ'/\s.Le s'/\Stays s.loc σ.h a9.h/\xD ρ' blk a9.h s' (x::l) j:=λ_ h=>by
   obtain⟨s1,hs1,h⟩:=ce h
   have key:∀ρ2:Rho,s.Le s1/\∀sF,s1.Le sF->sF.pr->BT ρ2 (mW sF .leaf) blk sF.L (aN sF.tm) x q g:=λρ2=>eV (F:=.leaf) (blk:=blk) hs1
   exact fin s1 b7 ρ (key ρ).1 b6 b9 (.refl _) (.refl _ _) (λρ2 _ sF hF hp _=>by have:=(key ρ2).2 sF hF hp;rwa [kP] at this) h
  cases x with
  |cells ty l'=>
   obtain⟨as,has,h⟩:=ce h
   obtain⟨o9,d8,ρ1,h1,h2,h3,h0,h4,h5⟩:=vD b6 b9 h
   obtain⟨s1,hs1,h⟩:=ce h1
   obtain⟨p1,p2⟩:=nN (blk:=blk) hs1
   obtain⟨eg,c,eq,hl⟩:=su has
   obtain⟨r1,r2⟩:=rQ hl
   refine fin s1 d8 ρ1 p1 h2 h3 h0 h4 (λρ2 j6 sF hF hp hln=>⟨eg,c,o9,eq,(I9 hs1).symm,λj' a' ha'=>?_,by have:=p2 sF hF hp hln;rwa [kP] at this⟩) h
   obtain⟨a,ha,hto⟩:=(h5 r1).get ha'
   obtain⟨tag,t1,t2⟩:=r2 _ a ha
   have:tag=0:=by omega
   subst this
   exact⟨a,by rw[←t1];congr 1;omega,hto ρ2 j6⟩
  |grow m ty t=>exact hd (λ_ _ e=>by cases e) h
  |growb ty t=>exact hd (λ_ _ e=>by cases e) h
  |sm m t=>exact hd (λ_ _ e=>by cases e) h
  |arr m ty t=>exact hd (λ_ _ e=>by cases e) h
  |arb ty t=>exact hd (λ_ _ e=>by cases e) h
  |obj k C t=>exact hd (λ_ _ e=>by cases e) h
def Mb{γ:lK}{y:Sy}{k:Tr}:∀{l:List BSh} {j:Nat} {σ:St},SI σ->run (WH γ y l j k) σ K=true->
 ∃a9,run k a9 K=true/\SI a9/\a9.h=eU γ y l j σ.h/\∀i,i<l.length->(γ (j+i)).1+1<2 ^ 64:=by
 intro l
 induction l with
 |nil=>intro j σ hS h;exact⟨σ,h,hS,rfl,λi hi=>by simp at hi⟩
 |cons x l ih=>
  intro j σ hS h
  obtain⟨x0,b7,_,e1,b6,c8,h1⟩:=fw hS (show run (.wr (γ j).1 (mB γ y j x) (WH γ y l (Nat.succ j) k)) σ K=true from h)
  obtain⟨d8,q1,q2,q3,q4⟩:=ih b6 h1
  refine⟨d8,q1,q2,by rw[q3,e1];rfl,λi hi=>?_⟩
  cases i with
  |zero=>exact c8
  |succ i=>have:=q4 i (by simpa using hi);rwa [show Nat.succ j+i=j+(i+1) by omega] at this
def Ds{γ:lK}{y:Sy}:∀(l:List BSh) (j:Nat) (H:T ABlk) (b:Nat),(∀i,i<l.length->b≠(γ (j+i)).1)->(eU γ y l j H).get b=H.get b:=by
 intro l
 induction l with
 |nil=>intro j H b _;rfl
 |cons x l ih=>intro j H b m7;show(eU γ y l (j+1) (H.set (γ j).1 (mB γ y j x))).get b=_;rw[ih (j+1) _ b (λi hi=>by have:=m7 (i+1) (by simpa using hi);rwa [show j+(i+1)=j+1+i by omega] at this),T.get_set_ne _ (show b≠(γ j).1 from m7 0 (by simp))]
def vE{n:Nat}:∀{l:List (Nat×Nat×Nat)},ma n l=true->∀x∈l,x.1<n:=by
 intro l
 induction l with
 |nil=>intro _ x hx;cases hx
 |cons z l ih=>
  intro h x hx;obtain⟨h1,h2⟩:=aD (show ac (Nat.ble (Nat.succ z.1) n) (ac (kE z.2.1 l) (ma n l) false) false=true from h);obtain⟨h3,h4⟩:=aD h2;rcases List.mem_cons.1 hx with e|hx
  ·subst e;exact aay h1
  ·exact ih h4 x hx
def vF{n:Nat}:∀{l:List (Nat×Nat×Nat)},ma n l=true->∀x∈l,∀z∈l,x.2.1=z.2.1->x=z:=by
 intro l
 induction l with
 |nil=>intro _ x hx;cases hx
 |cons a l ih=>
  intro h x hx z hz e;obtain⟨h1,h2⟩:=aD (show ac (Nat.ble (Nat.succ a.1) n) (ac (kE a.2.1 l) (ma n l) false) false=true from h);obtain⟨h3,h4⟩:=aD h2;replace hx:=List.mem_cons.1 hx;replace hz:=List.mem_cons.1 hz;rcases hx with e1|hx <;> rcases hz with e2|hz
  ·rw[e1,e2]
  ·subst e1;rw[iN hz e.symm] at h3;cases h3
  ·subst e2;rw[iN hx e] at h3;cases h3
  ·exact ih h4 x hx z hz e
def Ry{bl:List BSh}{j:Nat}(h:Rt bl j=true):∃x,bl[j]? =some x/\iS x=false:=by
 unfold Rt at h;split at h
 ·rename_i hx;exact⟨_,hx,rfl⟩
 ·rename_i hx;exact⟨_,hx,rfl⟩
 ·cases h
def AP{bl:List BSh}{n:Nat}:∀{l:List (Nat×Nat×Nat)},nM bl n l=true->∀x∈l,(x.1<n->x.2.1=base+x.1∨(base+64<=x.2.1/\∃y,bl[x.1]? =some y/\iS y=false))/\(n<=x.1->base+64<=x.2.1):=by
 intro l
 induction l with
 |nil=>intro _ x hx;cases hx
 |cons a l ih=>
  intro h x hx;obtain⟨h1,h2⟩:=aD (show ac (ac (Nat.ble (Nat.succ a.1) n) (ac (Nat.beq a.2.1 (base+a.1)) true (ac (Rt bl a.1) (Nat.ble (base+64) a.2.1) false)) (Nat.ble (base+64) a.2.1)) (nM bl n l) false=true from h);rcases List.mem_cons.1 hx with e|hx
  ·subst e;rw[ar] at h1;split at h1
   ·rename_i hb;have hb:=aay hb;refine⟨λ_=>?_,λh'=>by omega⟩;rw[ar] at h1;split at h1
    ·rename_i hq;exact .inl (aae hq)
    ·obtain⟨q1,q2⟩:=aD h1;exact .inr ⟨aay q2,Ry q1⟩
   ·rename_i hb;refine⟨λh'=>absurd (Nat.ble_eq.mpr h') hb,λ_=>aay h1⟩
  ·exact ih h2 x hx
def I_{l:List (Nat×Nat×Nat)}:∀{fz:List Nat},sn fz l=true->∀b∈fz,∀x∈l,x.2.1≠b:=by
 intro fz
 induction fz with
 |nil=>intro _ b hb;cases hb
 |cons c fz ih=>
  intro h b hb x hx e;obtain⟨h1,h2⟩:=aD (show ac (kE c l) (sn fz l) false=true from h);rcases List.mem_cons.1 hb with e'|hb
  ·subst e';rw[iN hx e] at h1;cases h1
  ·exact ih h2 b hb x hx e
def AQ:∀{l m:List BSh},pY l m=true->l.length<=m.length/\∀(j:Nat) (x y:BSh),l[j]? =some x->m[j]? =some y->AG x y=true:=by
 intro l
 induction l with
 |nil=>intro m h;exact⟨aaq _,λj x y hx=>by simp at hx⟩
 |cons a l ih=>
  intro m h
  cases m with
  |nil=>cases h
  |cons b m=>
   obtain⟨h1,h2⟩:=aD (show ac (AG a b) (pY l m) false=true from h)
   obtain⟨q1,q2⟩:=ih h2
   refine⟨by simp;omega,λj x y hx hy=>?_⟩
   cases j with
   |zero=>simp at hx hy;subst hx;subst hy;exact h1
   |succ j=>exact q2 j x y (by simpa using hx) (by simpa using hy)
def gA{x y:BSh}(h:AG x y=true):iS x=iS y:=by cases x <;> cases y <;> first|rfl|(cases h;done)
def lD{x y:BSh}(h:AG x y=true):(∃k C t,x= .obj k C t)↔∃k C t,y= .obj k C t:=by cases x <;> cases y <;> first|(cases h;done)|exact⟨λ_=>⟨_,_,_,rfl⟩,λ_=>⟨_,_,_,rfl⟩⟩|exact⟨λ⟨_,_,_,e⟩=>(by cases e),λ⟨_,_,_,e⟩=>(by cases e)⟩
def Fu{s:PS}{j b g:Nat}(hn:bC j s.loc=none):s.Le (s.name (j,b,g)):=by
 cases s with
 |mk tm loc ln pr fz=>
 have hn:bC j loc=none:=hn
 refine⟨λ_ _ h=>h,λj' p h'=>?_,λ_ h=>h,λh=>h,λ_ h=>aal _ h,λ_ h=>h⟩
 show bC j' ((j,b,g)::loc)=some p
 rw[dk]
 split
 ·rename_i e;simp only at e;subst e;have h':bC j loc=some p:=h';rw[hn] at h';cases h'
 ·exact h'
def qN{H:T ABlk}:∀{l:List BSh} {j:Nat} {s s':PS},I5 H l j s=some s'->s.Le s'/\s'.ln=s.ln/\s'.tm=s.tm:=by
 intro l
 induction l with
 |nil=>intro j s s' h;injection h with h;subst h;exact⟨.refl _,rfl,rfl⟩
 |cons x l ih=>
  intro j s s' h;have h:(match bC j s.loc with
   |some _=>I5 H l (Nat.succ j) s
   |none=>ac (iS x) (T.getK H (base+j) none λq=>I5 H l (Nat.succ j) (s.name (j,base+j,ut q))) (I5 H l (Nat.succ j) s))=some s':=h
  split at h
  ·exact ih h
  ·rename_i hn;rw[ar] at h;split at h
   ·obtain⟨q,hq,h⟩:=nA h;obtain⟨h1,h2,h3⟩:=ih h;refine⟨(Fu hn).trans h1, ?_, ?_⟩
    ·rw[h2];cases s;rfl
    ·rw[h3];cases s;rfl
   ·exact ih h
def qO{ρ:Rho}{H:T ABlk}{blk:List BSh}:∀{l:List BSh} {j:Nat} {s s':PS},I4 H blk l j s=some s'->
 s.Le s'/\∀sF,s'.Le sF->sF.pr->so blk sF->∀i x,l[i]? =some x->∃b g,sF.L (j+i)=some (b,g)/\∃q,H.get b=some q/\BT ρ (mW sF H) blk sF.L (aN sF.tm) x q g:=by
 intro l
 induction l with
 |nil=>intro j s s' h;injection h with h;subst h;exact⟨.refl _,λsF _ _ _ i x hx=>by simp at hx⟩
 |cons x l ih=>
  intro j s s' h
  have key:∀(b g:Nat) (s0:PS) (q:ABlk),s.Le s0->bC j s0.loc=some (b,g)->H.get b=some q->(bx (pj H blk x q g s0) λs=>I4 H blk l (Nat.succ j) s)=some s'->s.Le s'/\∀sF,s'.Le sF->sF.pr->so blk sF->∀i y,(x::l)[i]? =some y->∃b g,sF.L (j+i)=some (b,g)/\∃q,H.get b=some q/\BT ρ (mW sF H) blk sF.L (aN sF.tm) y q g:=λb g s0 q hle hbg hq h=>by
   obtain⟨s1,h1,h⟩:=az h
   obtain⟨p1,p2⟩:=I6 (ρ:=ρ) (blk:=blk) h1
   obtain⟨r1,r2⟩:=ih h
   refine⟨hle.trans (p1.trans r1),λsF hF hp hl i y hy=>?_⟩
   cases i with
   |zero=>simp at hy;subst hy;exact⟨b,g,hF.loc _ _ (r1.loc _ _ (p1.loc _ _ hbg)),q,hq,p2 sF (r1.trans hF) hp hl⟩
   |succ i=>obtain⟨b,g,q1,q2⟩:=r2 sF hF hp hl i y (by simpa using hy);exact⟨b,g,by rw[show j+(i+1)=Nat.succ j+i by omega];exact q1,q2⟩
  have h:(match bC j s.loc with
   |some bg=>T.getK H bg.1 none λq=>bx (pj H blk x q bg.2 s) λs=>I4 H blk l (Nat.succ j) s
   |none=>T.getK H (base+j) none λq=>bx (pj H blk x q (ut q) (s.name (j,base+j,ut q))) λs=>I4 H blk l (Nat.succ j) s)=some s':=h
  split at h
  ·rename_i bg hbg;obtain⟨q,hq,h⟩:=nA h;exact key bg.1 bg.2 s q (.refl _) hbg hq h
  ·rename_i hn
   obtain⟨q,hq,h⟩:=nA h
   refine key (base+j) (ut q) (s.name (j,base+j,ut q)) q (Fu hn) ?_ hq h
   cases s with
   |mk tm loc ln pr fz=>
   show bC j ((j,base+j,ut q)::loc)=_
   rw[dk,if_pos rfl]
structure Fin2(bl:List BSh)(n:Nat)(s:PS)(len:Nat):Prop where
 t3:∀j b g,s.L j=some (b,g)->j<len/\(j<n->b=base+j∨(base+64<=b/\∃y,bl[j]? =some y/\iS y=false))/\(n<=j->base+64<=b)
 t4:∀j j' b g g',s.L j=some (b,g)->s.L j'=some (b,g')->j=j'
 t5:∀b,b∈s.fz->∀j g,s.L j≠some (b,g)
def Fin2.at0{n len:Nat}{s:PS}(h:Fin2 [] n s len){j b g:Nat}(hL:s.L j=some (b,g))(hj:j<n):b=base+j:=by
 rcases(h.t3 j b g hL).2.1 hj with h'|⟨_,y,hy,_⟩
 ·exact h'
 ·simp at hy
def Fv{bl:List BSh}{n len:Nat}{s:PS}(h5:nM bl n s.loc=true)(h6:ma len s.loc=true)(h7:sn s.fz s.loc=true):Fin2 bl n s len where
 t3:=λj b g hL=>by have hm:=dR hL;obtain⟨q1,q2⟩:=AP h5 _ hm;exact⟨vE h6 _ hm,q1,q2⟩
 t4:=λj j' b g g' h1 h2=>congrArg Prod.fst (vF h6 _ (dR h1) _ (dR h2) rfl)
 t5:=λb hb j g hL=>I_ h7 b hb _ (dR hL) rfl
def sz{n:Nat}{ρ:Rho}{H:T ABlk}{r:Sr}{l:List BSh}{a:AV}{s:PS}(h:fi n H r l a=some s)(hp:s.pr):
 TvR (mW s H) l s.L (aN s.tm) r a/\(∀j x,l[j]? =some x->∃b g,s.L j=some (b,g)/\∃q,H.get b=some q/\BT ρ (mW s H) l s.L (aN s.tm) x q g)/\Fin2 l n s l.length:=by
 obtain⟨s1,h1,h⟩:=az h
 obtain⟨s2,h2,h⟩:=az h
 obtain⟨s3,h3,h⟩:=az h
 obtain⟨s4,h4,h⟩:=az h
 obtain⟨h5,h⟩:=bc h
 obtain⟨h6,h⟩:=bc h
 injection h with h
 subst h
 obtain⟨h5,h7⟩:=aD h5
 have hln:=lB h4 hp
 obtain⟨f1,_,_,_,_⟩:=d_ h4
 obtain⟨p1,p2⟩:=L7 (blk:=l) h1
 obtain⟨st,_,_⟩:=qN h2
 obtain⟨b1,b2⟩:=qO (ρ:=ρ) h3
 refine⟨p2 s4 (st.trans (b1.trans f1)) hp hln,λj x hx=>?_,Fv h5 h6 h7⟩
 obtain⟨b,g,q1,q2⟩:=b2 s4 f1 hp hln j x hx
 exact⟨b,g,by rw[aap] at q1;exact q1,q2⟩
def iU{s:PS}{H:T ABlk}{b:Nat}{x:ABlk}(h:mW s H b=some x):H.get b=some x/\b∈s.fz:=by
 unfold mW at h;split at h
 ·rename_i hb;exact⟨h,hb⟩
 ·cases h
def WK(blk:List BSh)(j:Nat):Prop:=∃x,blk[j]? =some x/\iS x=true
def Fw(blk:List BSh)(j:Nat):Prop:=∃k C t,blk[j]? =some (.obj k C t)
structure FinRel(blk:List BSh)(ρ:Rho)(w:World)(ρ':Rho)(wx:World):Prop where
 kept:Kept ρ.own w.heap.size w wx
 frz:∀b x,ρ.frz b=some x->ρ'.frz b=some x
 frzB:∀b x,ρ'.frz0 b=some x->b<w.heap.size->ρ.frz b=some x
 ownx:∀x,ρ'.own x->∃j g h,h.blk=x/\ρ'.at_ (base+j) g=some h/\j<64/\(w.heap.size<=x∨(ρ.own x/\∃g',ρ.at_ (base+j) g'=some h))
 stb:∀j h,WK blk j->ρ.at_ (base+j) 0=some h->ρ'.at_ (base+j) 0=some h
 objs:∀j g h,Fw blk j->ρ.at_ (base+j) g=some h->ρ'.at_ (base+j) g=some h
def OwnOk(ρ:Rho):Prop:=∀x,ρ.own x->∃j g h,h.blk=x/\ρ.at_ (base+j) g=some h/\j<64
def OwnOk.B{ρ:Rho}(h:OwnOk ρ):∀x,ρ.own x->∃b g h,b<base+64/\ρ.at_ b g=some h/\h.blk=x:=λx hx=>by obtain⟨j,g,h,q1,q2,q3⟩:=h x hx;exact⟨base+j,g,h,by omega,q2,q1⟩
def FinRel.of_le{blk:List BSh}{ρ ρ':Rho}{w:World}(hle:ρ.le ρ')(ho:OwnOk ρ)(hf:ρ.frz0=ρ.frz):FinRel blk ρ w ρ' w where
 kept:=Kept.refl _ _ _
 frz:=hle.frz
 frzB:=λb x h _=>by rw[hle.frz0,hf] at h;exact h
 ownx:=λx hx=>by rw[hle.own] at hx;obtain⟨j,g,h,q1,q2,q3⟩:=ho x hx;exact⟨j,g,h,q1,hle.at_ _ _ _ q2,q3,.inr ⟨hx,g,q2⟩⟩
 stb:=λj h _ hh=>hle.at_ _ _ _ hh
 objs:=λj g h _ hh=>hle.at_ _ _ _ hh
def Fx:base+64+1<2 ^ 64:=by decide
def AR(w0:World)(ρ:Rho)(H:T ABlk)(L:Nat->Option (Nat×Nat)):Nat->Prop:=λx=>∃j h,sx w0.heap.size ρ H L j h/\h.blk=x/\Own ρ w0.heap.size x
def Mc{B:Nat}(ρ:Rho)(H:T ABlk)(w:World)(L:Nat->Option (Nat×Nat))(b:Nat):kN B ρ H w w L b=ρ.frz b:=by
 unfold kN;split
 ·rename_i x hx;exact hx.symm
 ·rename_i hx;rw[hx];split
  ·rename_i hc;rw[aaV hc.1]
  ·rfl
structure Lent(w0:World)(ρ:Rho)(H:T ABlk)(w:World)(L:Nat->Option (Nat×Nat))(blk:List BSh)(z:Sy):Prop where
 good:Good w0 ρ H w
 hb:∀j x,blk[j]? =some x->∃b g,L j=some (b,g)/\∃q,H.get b=some q/\BT ρ (λ_=>none) blk L z x q g
 dom:∀j p,L j=some p->j<blk.length
 inj:∀j j' b g g',L j=some (b,g)->L j'=some (b,g')->j=j'
 n64:blk.length<=64
noncomputable def AS(w0:World)(ρ:Rho)(H:T ABlk)(w:World)(L:Nat->Option (Nat×Nat))(blk:List BSh)(vl:Nat->Value):Rho:=lL w0.heap.size ρ H w w L bI blk.length (AR w0 ρ H L) ρ.frz vl
def Lent.mv{w0 w:World}{ρ:Rho}{H:T ABlk}{L:Nat->Option (Nat×Nat)}{blk:List BSh}{z:Sy}(hL:Lent w0 ρ H w L blk z):MvHyp w0 ρ H (λ_=>none) w w w L bI blk z (AR w0 ρ H L) ρ.frz:=
 {good:=hL.good,hb:=hL.hb,dom:=hL.dom,linj:=hL.inj,ginj:=λa b _ _ e=>by have e:base+a=base+b:=e;omega,g64:=λj hj=>by have:=Fx;have:=hL.n64;show base+j+1<_;omega,
  g0:=λ_ _ _ _=>rfl,kept:=Kept.refl _ _ _,owns:=λj h h1 h2=>.inr ⟨j,h,h1,rfl,h2⟩,frF:=λb x _ hF=>(by cases hF),frz:=λb x h _=>by rw[Mc] at h;exact h}
def AT{w0 w wf wb:World}{ρ:Rho}{H:T ABlk}{F:Nat->Option ABlk}{L:Nat->Option (Nat×Nat)}{γ:lK}{blk:List BSh}{y:Sy}{own:Nat->Prop}{frz0:Nat->Option (Array Value×TypeId)}(hm:MvHyp w0 ρ H F w wf wb L γ blk y own frz0){j:Nat}{h:Home}(hh:sx w0.heap.size ρ H L j h)(d9:Own ρ w0.heap.size h.blk)(hj:j<blk.length):∃g,iG w0.heap.size ρ H L γ blk.length (γ j).1 g=some h:=by
 rcases hh with hh|⟨b,g,h1,h2,⟨g',h3⟩,_⟩
 ·by_cases ho:zy H L j
  ·obtain⟨b,g,e1,e2⟩:=kO hh;exact⟨g,jC hm hj ho e1 e2 d9⟩
  ·exact⟨_,(ef hm hj ho).trans hh⟩
 ·exact⟨g',jC hm hj h2 h1 h3 d9⟩
def Lent.ownOk{vl:Nat->Value}{w0 w:World}{ρ:Rho}{H:T ABlk}{L:Nat->Option (Nat×Nat)}{blk:List BSh}{z:Sy}(hL:Lent w0 ρ H w L blk z):OwnOk (AS w0 ρ H w L blk vl):=λx hx=>by obtain⟨j,h,q1,q2,q3⟩:=hx;obtain⟨b,g,_,e,_⟩:=dl q1;have hj:=hL.dom _ _ e;obtain⟨g',hg'⟩:=AT hL.mv q1 (by rw[q2];exact q3) hj;exact⟨j,g',h,q2,hg',aa4 hj hL.n64⟩
def Lent.to{vl:Nat->Value}{w0 w:World}{ρ:Rho}{H:T ABlk}{L:Nat->Option (Nat×Nat)}{blk:List BSh}{z:Sy}(hL:Lent w0 ρ H w L blk z):Good w (AS w0 ρ H w L blk vl) (eU bI z blk 0 .leaf) w:=
 ⟨hL.mv.to0,hL.ownOk.B⟩
def TabIn(ρ:Rho)(o:Option (Nat×Nat×List Nat)):Prop:=match o with|none=>True|some (g,ty,l)=>g<1048576/\ρ.frz g=some ((l.map λn=>Value.int .u8 (Int.ofNat n)).toArray,ty)
def TabIn.mono{ρ ρ':Rho}{o:Option (Nat×Nat×List Nat)}(hf:∀b x,ρ.frz b=some x->ρ'.frz b=some x)(h:TabIn ρ o):TabIn ρ' o:=by
 match o,h with
 |none,_=>trivial
 |some (g,ty,l),h=>exact⟨h.1,hf _ _ h.2⟩
def Md{z:Sy}{blk:List BSh}{g:Nat}(hg:g<1048576):(eU bI z blk 0 .leaf).get g=none:=by
 cases e:(eU bI z blk 0 .leaf).get g with
 |none=>rfl
 |some X=>
  rcases sv blk 0 .leaf g X e with⟨i,x,_,eb,_⟩|⟨h,_⟩
  ·have eb:g=1048576+(0+i):=eb;omega
  ·simp [T.get] at h
def Me:∀{a b:List Nat},Ik a b=true->a=b
 | [],[],_=>rfl
 | [],_::_,h=>by cases h
 |_::_,[],h=>by cases h
 |x::a,y::b,h=>by obtain⟨h1,h2⟩:=aD (show ac (Nat.beq x y) (Ik a b) false=true from h);rw[aae h1,Me h2]
def Good.addTab{w w0:World}{ρ:Rho}{z:Sy}{blk:List BSh}{o:Option (Nat×Nat×List Nat)}(hG:Good w0 ρ (eU bI z blk 0 .leaf) w)(ht:TabIn ρ o):Good w0 ρ (Go.Sym.addTab o (eU bI z blk 0 .leaf)) w:=by
 match o,ht with
 |none,_=>exact hG
 |some (g,ty,l),ht=>
  obtain⟨hg,hf⟩:=ht;have hn:=Md (z:=z) (blk:=blk) hg;have hs:((eU bI z blk 0 .leaf).set g (.tab ty l)).get g=some (.tab ty l):=T.get_set_same _ _ _ (by omega);have ho:∀b,b≠g->((eU bI z blk 0 .leaf).set g (.tab ty l)).get b=(eU bI z blk 0 .leaf).get b:=λb hb=>T.get_set_ne _ hb _;show Good w0 ρ ((eU bI z blk 0 .leaf).set g (.tab ty l)) w;refine⟨⟨hG.below,λb x hx=>?_,λb g' h hh=>?_,hG.inj,λb g' h x hh hx=>?_,λb arr ty' hb=>⟨(hG.frz _ _ _ hb).1,λb' g' h hh e=>?_⟩,hG.frzB,λb k I l' hx=>?_⟩,hG.ownB⟩
  ·by_cases e:b=g
   ·subst e;rw[hs] at hx;injection hx with hx;subst hx;exact⟨hg,hf⟩
   ·rw[ho _ e] at hx;exact hG.blk _ _ hx
  ·obtain⟨h1,x,h2⟩:=hG.dom _ _ _ hh;exact⟨h1,x,by rw[ho _ (λe=>by subst e;rw[hn] at h2;cases h2)];exact h2⟩
  ·by_cases e:b=g
   ·subst e;rw[hs] at hx;injection hx with hx;subst hx;trivial
   ·rw[ho _ e] at hx;exact hG.gens _ _ _ _ hh hx
  ·obtain⟨x,h1,h2⟩:=(hG.frz _ _ _ hb).2 _ _ _ hh e;exact⟨x,by rw[ho _ (λe=>by subst e;rw[hn] at h1;cases h1)];exact h1,h2⟩
  ·by_cases e:b=g
   ·subst e;rw[hs] at hx;cases hx
   ·rw[ho _ e] at hx;exact hG.objO _ _ _ _ hx
def Good.tabIn{w w0:World}{ρ:Rho}{z:Sy}{H:T ABlk}{o:Option (Nat×Nat×List Nat)}(hg:∀g ty l,o=some (g,ty,l)->g<1048576)(hG:Good w0 ρ (Go.Sym.addTab o H) w):TabIn ρ o:=by
 match o,hg,hG with
 |none,_,_=>trivial
 |some (g,ty,l),hg,hG=>have hs:(H.set g (.tab ty l)).get g=some (.tab ty l):=T.get_set_same _ _ _ (by have:=hg g ty l rfl;omega);exact hG.blk _ _ hs
def xE{w0 w:World}{ρ:Rho}{σ:St}{K:Fin}{o:Option (Nat×Nat×List Nat)}{k:Tr}(hS:SI σ)(hG:Good w0 ρ σ.h w)(h:run (Ru o k) σ K=true):∃a9,a9.h=σ.h/\SI a9/\run k a9 K=true/\TabIn ρ o:=by
 match o,h with
 |none,h=>exact⟨σ,rfl,hS,h,trivial⟩
 |some (g,ty,l),h=>
  obtain⟨c9,h⟩:=ay h
  have c9:=bU c9
  obtain⟨x,a9,h1,h2,h3,h4⟩:=bE hS h
  cases x with
  |tab ty' l'=>obtain⟨e1,h5⟩:=ay h4;obtain⟨e2,h6⟩:=ay h5;have e1:=aae e1;have e2:=Me e2;subst e1;subst e2;exact⟨a9,h2,h3,h6,c9,(hG.blk _ _ h1).2⟩
  |_=>exact(ah h4).elim
def frzE(w0:World)(ρ:Rho)(H:T ABlk)(w:World)(L:Nat->Option (Nat×Nat))(blk:List BSh)(vl:Nat->Value):(AS w0 ρ H w L blk vl).frz=(AS w0 ρ H w L blk vl).frz0:=by funext b;exact Mc ρ H w L b
def h_{ρ:Rho}{F:Nat->Option ABlk}{blk:List BSh}{L:Nat->Option (Nat×Nat)}{y:Sy}{x:BSh}{q:ABlk}{g:Nat}(h:BT ρ F blk L y x q g):(iS x=true->g=0)/\((∃k C t,x= .obj k C t)↔∃k I l,q= .obj k I l)/\¬zH q:=by
 cases x with
 |cells ty l=>obtain⟨e0,c,as,e,_⟩:=h;subst e;exact⟨λ_=>e0,⟨λ⟨_,_,_,e⟩=>(by cases e),λ⟨_,_,_,e⟩=>(by cases e)⟩,λh=>h⟩
 |grow m ty t=>have h:q=_:=h;subst h;exact⟨λe=>(by cases e),⟨λ⟨_,_,_,e⟩=>(by cases e),λ⟨_,_,_,e⟩=>(by cases e)⟩,λh=>h⟩
 |growb ty t=>have h:q=_:=h;subst h;exact⟨λe=>(by cases e),⟨λ⟨_,_,_,e⟩=>(by cases e),λ⟨_,_,_,e⟩=>(by cases e)⟩,λh=>h⟩
 |arr m ty t=>obtain⟨e0,e,_⟩:=h;subst e;exact⟨λ_=>e0,⟨λ⟨_,_,_,e⟩=>(by cases e),λ⟨_,_,_,e⟩=>(by cases e)⟩,λh=>h⟩
 |arb ty t=>obtain⟨e0,e,_⟩:=h;subst e;exact⟨λ_=>e0,⟨λ⟨_,_,_,e⟩=>(by cases e),λ⟨_,_,_,e⟩=>(by cases e)⟩,λh=>h⟩
 |sm m t=>obtain⟨e0,e|⟨c,e,_⟩⟩:=h <;> (subst e;exact⟨λ_=>e0,⟨λ⟨_,_,_,e⟩=>(by cases e),λ⟨_,_,_,e⟩=>(by cases e)⟩,λh=>h⟩)
 |obj k C t=>obtain⟨e0,e⟩:=h;subst e;exact⟨λ_=>e0,⟨λ_=>⟨_,_,_,rfl⟩,λ_=>⟨_,_,_,rfl⟩⟩,λh=>h⟩
def UJ{vl:Nat->Value}{w0 w wx w':World}{ρ ρ':Rho}{H H':T ABlk}{F:Nat->Option ABlk}{L LF:Nat->Option (Nat×Nat)}{blk out:List BSh}{z y:Sy}{γ:lK}(hL:Lent w0 ρ H w L blk z)(ae1:pY blk out=true)(hγ:∀j x b g,blk[j]? =some x->L j=some (b,g)->γ j=(b,Ft x g))(hγn:∀j,blk.length<=j->j<out.length->(γ j).2=0/\(∀g,ρ.at_ (γ j).1 g=none)/\(∃X0,H.get (γ j).1=some X0/\¬zH X0)/\(∀i b g,L i=some (b,g)->b≠(γ j).1)/\∀i,blk.length<=i->i<out.length->(γ i).1=(γ j).1->i=j)(c8:∀i,i<out.length->(γ i).1+1<2 ^ 64)(j9:Good wx ρ' H' w')(hF:FinRel blk (AS w0 ρ H w L blk vl) w ρ' wx)(hFF:∀b x,F b=some x->H'.get b=some x/\∀j g,LF j≠some (b,g))(t2:∀j x,out[j]? =some x->∃b g,LF j=some (b,g)/\∃q,H'.get b=some q/\BT ρ' F out LF y x q g)(t3:∀j b g,LF j=some (b,g)->j<out.length/\(j<blk.length->b=base+j∨(base+64<=b/\∃y,out[j]? =some y/\iS y=false))/\(blk.length<=j->base+64<=b))(t4:∀j j' b g g',LF j=some (b,g)->LF j'=some (b,g')->j=j'):
 ∃ρ2:Rho,Good w0 ρ2 (eU γ y out 0 H) w'/\ρ.le ρ2/\(∀x a v,TvA F out LF y x a->VR ρ' a v->VR ρ2 (jy γ y x) v)/\∀x a v,TvR F out LF y x a->VR ρ' a v->VR ρ2 (Dn γ y x) v:=by
 obtain⟨hkl,ae1⟩:=AQ ae1
 have l7:=hL.good
 have hsx:=hF.kept.size
 have ak7:=hL.n64
 have l6:∀j,j<blk.length->∃x b g q,blk[j]? =some x/\L j=some (b,g)/\H.get b=some q/\BT ρ (λ_=>none) blk L z x q g:=λj hj=>by obtain⟨b,g,q1,q,q2,q3⟩:=hL.hb j _ (aak hj);exact⟨_,b,g,q,aak hj,q1,q2,q3⟩
 have aj_:∀x,ρ'.own x->w.heap.size<=x∨AR w0 ρ H L x:=λx hx=>by
  obtain⟨j,g,h,_,_,_,q|q⟩:=hF.ownx x hx
  ·exact .inl q
  ·exact .inr q.1
 have af9:∀b g h,base+64<=b->ρ'.at_ b g=some h->Own ρ' wx.heap.size h.blk->w.heap.size<=h.blk:=λb g h hb hh ho=>by
  rcases ho with ho|ho
  ·omega
  ·obtain⟨j,g0,h0,q2,q3,hj,_⟩:=hF.ownx _ ho;have:=(j9.inj _ _ _ _ _ _ q3 hh q2).1;omega
 have hm2:MvHyp wx ρ' H' F w' w w LF γ out y (AR w0 ρ H L) ρ.frz:=
  {good:=j9,hb:=t2,dom:=λj p h=>(t3 j p.1 p.2 h).1,linj:=t4,
   ginj:=λa b ha hb e=>by
    rcases aah a blk.length with ha'|ha' <;> rcases aah b blk.length with Q'|Q'
    ·obtain⟨x1,b1,g1,_,q1,q2,_⟩:=l6 a ha';obtain⟨x2,b2,g2,_,r1,r2,_⟩:=l6 b Q';rw[hγ _ _ _ _ q1 q2,hγ _ _ _ _ r1 r2] at e;have e:b1=b2:=e;subst e;exact hL.inj _ _ _ _ _ q2 r2
    ·obtain⟨x1,b1,g1,_,q1,q2,_⟩:=l6 a ha';rw[hγ _ _ _ _ q1 q2] at e;exact absurd e ((hγn b Q' hb).2.2.2.1 _ _ _ q2)
    ·obtain⟨x1,b1,g1,_,q1,q2,_⟩:=l6 b Q';rw[hγ _ _ _ _ q1 q2] at e;exact absurd e.symm ((hγn a ha' ha).2.2.2.1 _ _ _ q2)
    ·exact(hγn b Q' hb).2.2.2.2 a ha' ha e,
   g64:=c8,
   g0:=λj x hx p8=>by
    have hjo:j<out.length:=by
     rcases aah j out.length with h'|h'
     ·exact h'
     ·rw[aam h'] at hx;cases hx
    rcases aah j blk.length with hj|hj
    ·obtain⟨x0,b,g,q,q1,q2,q3,q4⟩:=l6 j hj;have hs:=gA (ae1 j x0 x q1 hx);rw[hγ _ _ _ _ q1 q2];show ac (iS x0) g (g+1)=0;rw[hs,p8];exact(h_ q4).1 (hs.trans p8)
    ·exact(hγn j hj hjo).1,
   kept:=by
    refine hF.kept.trans ⟨j9.below.os,j9.below.tape,j9.below.output,j9.below.size,λx hx ho=>j9.below.block x (by omega) λhpo=>?_⟩;rcases aj_ x hpo with h|h
    ·omega
    ·exact ho h,
   owns:=λj h _ h2=>by
    rcases h2 with h2|h2
    ·exact .inl (by omega)
    ·exact aj_ _ h2,
   frF:=λb x hb hF'=>⟨(hFF b x hF').1,(hFF b x hF').2,λg h hh ho=>af9 b g h hb hh ho⟩,
   frz:=λb x hx c9=>by
    unfold kN at hx;split at hx
    ·rename_i x' hx';injection hx with hx;subst hx;have:=hF.frzB b _ (j9.frzB b _ hx' (by omega)) c9;have h:kN w0.heap.size ρ H w w L b=some x':=this;rw[Mc] at h;exact h
    ·split at hx
     ·rename_i hc;omega
     ·cases hx}
 have hGp:=hm2.to0 (vl:=ρ.val)
 have ak0:∀j x,out[j]? =some x->(eU γ y out 0 .leaf).get (γ j).1=some (mB γ y j x):=λj x hx=>by have:=sw (γ:=γ) (y:=y) out 0 .leaf j x hx (λi hi=>by rw[aap];exact hm2.g64 i hi) (λa b ha hb e=>hm2.ginj a b ha hb (by simpa using e));simpa using this
 have af2:∀b X,(eU γ y out 0 .leaf).get b=some X->∃j x,out[j]? =some x/\b=(γ j).1/\X=mB γ y j x/\j<out.length:=λb X hX=>by
  rcases sv out 0 .leaf b X hX with⟨j,x,hx,q1,q2⟩|⟨h,_⟩
  ·have hj:j<out.length:=by
    rcases aah j out.length with h'|h'
    ·exact h'
    ·rw[aam h'] at hx;cases hx
   exact⟨j,x,hx,by rw[q1,aap],by rw[q2,aap],hj⟩
  ·simp [T.get] at h
 have ac6:∀b g h,(w.heap.size<=h.blk)->ρ.at_ b g=none->ρ.at_ b g=some h∨(ρ.at_ b g=none/\∀b' g' h',ρ.at_ b' g'=some h'->h'.blk=h.blk->b'=b/\h'=h):=λb g h hge hn=>
  .inr ⟨hn,λb' g' h' j4 e=>by have:=(l7.dom _ _ _ j4).1;omega⟩
 have ah7:∀b g h,(lL wx.heap.size ρ' H' w' w LF γ out.length (AR w0 ρ H L) ρ.frz ρ.val).at_ b g=some h->
  ρ.at_ b g=some h∨(ρ.at_ b g=none/\∀b' g' h',ρ.at_ b' g'=some h'->h'.blk=h.blk->b'=b/\h'=h):=λb g h hh=>by
  obtain⟨j,hjo,eb,hGj⟩:=ew hh
  obtain⟨hA,ag6⟩:=ed hGj
  have hxo:=aak hjo
  obtain⟨bF,gF,hLF,qo,hqo,hbo⟩:=t2 j _ hxo
  obtain⟨kb1,kb2,_⟩:=h_ hbo
  obtain⟨e3a,e3b,e3c⟩:=t3 _ _ _ hLF
  rcases aah j blk.length with hj|hj
  ·obtain⟨x,b0,g0,q,q1,q2,q3,q4⟩:=l6 j hj;have x9:=ae1 j x _ q1 hxo;have hbg:=hγ _ _ _ _ q1 q2;rw[hbg] at eb;have eb:b0=b:=eb;subst eb;rcases e3b hj with eF|⟨eF,xo',aj0,ar7⟩
   ·subst eF;obtain⟨ka1,ka2,_⟩:=h_ q4;by_cases ab8:∃k C t,x= .obj k C t
    ·have ap2:=(lD x9).1 ab8
     obtain⟨k,I,l,eqo⟩:=kb2.1 ap2
     obtain⟨k0,I0,l0,eq⟩:=ka2.1 ab8
     subst eqo;subst eq
     have hOF:zy H' LF j:=⟨_,_,_,_,_,hLF,hqo⟩
     have hOL:zy H L j:=⟨_,_,_,_,_,q2,q3⟩
     have al3:ρ'.at_ (base+j) g=some h:=by
      rcases ag6 with⟨_,b2,g2,e1,e2⟩|⟨hn,_⟩
      ·rw[hLF] at e1;injection e1 with e1;injection e1 with e1 _;rw[←e1] at e2;exact e2
      ·exact absurd hOF hn
     have al4:Fw blk j:=by obtain⟨k,C,t,e⟩:=ab8;exact⟨k,C,t,by rw[q1,e]⟩
     cases hr:ρ.at_ b0 g with
     |some h0=>have ho:=(l7.objO _ _ _ _ q3 _ _ hr).1;have h1:=hF.objs j g h0 al4 (jC hL.mv hj hOL q2 hr ho);rw[al3] at h1;injection h1 with h1;subst h1;exact .inl rfl
     |none=>
      have ho:=(j9.objO _ _ _ _ hqo _ _ al3).1;refine .inr ⟨rfl,λb' g' h' j4 e=>?_⟩;have c9:=(l7.dom _ _ _ j4).1;rcases ho with ho|ho
      ·rw[←e] at ho;omega
      ·obtain⟨j2,g2,h2,s1,s2,_,hor⟩:=hF.ownx _ ho;obtain⟨u1,u2⟩:=j9.inj _ _ _ _ _ _ s2 al3 s1;have:j2=j:=by omega
       subst this;subst u2;rcases hor with hor|⟨_,g5,hor⟩
       ·rw[←e] at hor;omega
       ·obtain⟨j3,_,e5,hG3⟩:=ew (show iG w0.heap.size ρ H L bI blk.length (base+j2) g5=some h2 from hor);have e5:base+j3=base+j2:=e5;have:j3=j2:=by omega
        subst this;obtain⟨b3,g3,g4,hL3,ah9⟩:=dl (ed hG3).1;rw[q2] at hL3;injection hL3 with hL3;injection hL3 with e6 _;subst e6;exact l7.inj _ _ _ _ _ _ j4 ah9 e
    ·have hnO:¬zy H' LF j:=λ⟨b2,g2,k,I,l,e1,e2⟩=>by rw[hLF] at e1;injection e1 with e1;injection e1 with e1 _;subst e1;rw[hqo] at e2;injection e2 with e2;exact ab8 ((lD x9).2 (kb2.2 ⟨k,I,l,e2⟩))
     have ar8:¬zy H L j:=λ⟨b2,g2,k,I,l,e1,e2⟩=>by rw[q2] at e1;injection e1 with e1;injection e1 with e1 _;subst e1;rw[q3] at e2;injection e2 with e2;exact ab8 (ka2.2 ⟨k,I,l,e2⟩)
     have hJ:g=(γ j).2/\bv ρ' H' LF j=some h:=by
      rcases ag6 with⟨ho,_⟩|⟨_,e1,e2⟩
      ·exact absurd ho hnO
      ·exact⟨e1,e2⟩
     obtain⟨eg,hJ⟩:=hJ
     rw[hbg] at eg
     obtain⟨b1,g1,hL1,ab2⟩:=kO hJ
     rw[hLF] at hL1;injection hL1 with hL1;injection hL1 with e1 e2
     subst e1;subst e2
     cases p8:iS x with
     |true=>
      have eg:g=g0:=by rw[eg];show ac (iS x) g0 (g0+1)=g0;rw[p8];rfl
      have e0:=ka1 p8;subst e0;subst eg;have eF0:=kb1 ((gA x9).symm.trans p8);subst eF0;have:∃h0,ρ.at_ b0 0=some h0/\bv ρ H L j=some h0:=by
       cases x with
       |cells ty l=>obtain⟨_,c,as,eq,_⟩:=q4;subst eq;obtain⟨h0,r1,_⟩:=(l7.blk _ _ q3).2 0 (aac _);exact⟨h0,r1,by unfold bv;rw[q2];simp only [q3,r1]⟩
       |arr m ty t=>
        obtain⟨_,e,l8⟩:=q4;subst e;have m7:¬(Ct.rows m (z.g t)).len=0:=by show ¬(z.g t).length=0;omega
        rcases l7.blk _ _ q3 with h0|⟨h0,r1,_⟩
        ·exact absurd h0 m7
        ·exact⟨h0,r1,by unfold bv;rw[q2];simp only [q3];rw[if_neg m7];exact r1⟩
       |arb ty t=>
        obtain⟨_,e,l8⟩:=q4;subst e;have m7:¬(Ct.bytes (z.s t)).len=0:=by show ¬(z.s t).length=0;omega
        rcases l7.blk _ _ q3 with h0|⟨h0,r1,_⟩
        ·exact absurd h0 m7
        ·exact⟨h0,r1,by unfold bv;rw[q2];simp only [q3];rw[if_neg m7];exact r1⟩
       |sm m t=>
        obtain⟨_,e|⟨c,e,_⟩⟩:=q4
        ·subst e;obtain⟨h0,r1,_⟩:=l7.blk _ _ q3;exact⟨h0,r1,by unfold bv;rw[q2];simp only [q3,r1]⟩
        ·subst e;obtain⟨h0,r1,_⟩:=l7.blk _ _ q3;exact⟨h0,r1,by unfold bv;rw[q2];simp only [q3,r1]⟩
       |obj k C t=>exact absurd ⟨_,_,_,rfl⟩ ab8
       |grow m ty t=>cases p8
       |growb ty t=>cases p8
      obtain⟨h0,r1,hJ0⟩:=this;have:=hF.stb j h0 ⟨x,q1,p8⟩ ((ef hL.mv hj ar8).trans hJ0);rw[ab2] at this;injection this with this;subst this;exact .inl r1
     |false=>
      have eg:g=g0+1:=by rw[eg];show ac (iS x) g0 (g0+1)=g0+1;rw[p8];rfl
      subst eg;have hqg:∃ct ty,q= .grow ct g0 ty:=by
       cases x with
       |grow m ty t=>exact⟨_,_,q4⟩
       |growb ty t=>exact⟨_,_,q4⟩
       |_=>cases p8
      obtain⟨ct,ty,eq⟩:=hqg;subst eq;have o7:ρ.at_ b0 (g0+1)=none:=by
       cases hn:ρ.at_ b0 (g0+1) with
       |none=>rfl
       |some hh=>have:g0+1<=g0:=l7.gens _ _ _ _ hn q3;omega
      refine .inr ⟨o7,λb' g' h' j4 e=>?_⟩;have c9:=(l7.dom _ _ _ j4).1;have al5:∃ct ty,qo= .grow ct gF ty/\ct.len≠0:=by
       have hso:=(gA x9).symm.trans p8;have:∃ct ty,qo= .grow ct gF ty:=by
        generalize out[j]=xo at *
        cases xo with
        |grow m ty t=>exact⟨_,_,hbo⟩
        |growb ty t=>exact⟨_,_,hbo⟩
        |_=>cases hso
       obtain⟨ct,ty,e⟩:=this;refine⟨ct,ty,e,λh0=>?_⟩;unfold bv at hJ;rw[hLF] at hJ;simp only [hqo,e,if_pos h0] at hJ;cases hJ
      obtain⟨cto,tyo,eqo,m7⟩:=al5;subst eqo;rcases j9.blk _ _ hqo with h0|⟨O',r1,r2,r3,_⟩
      ·exact absurd h0 m7
      rw[ab2] at r1;injection r1 with r1;subst r1;rcases r3 with r3|r3
      ·rw[←e] at r3;omega
      ·obtain⟨j2,g2,h2,s2',s3',_,hor⟩:=hF.ownx _ r3;obtain⟨u1,u2⟩:=j9.inj _ _ _ _ _ _ s3' ab2 s2';have:j2=j:=by omega
       subst this;subst u2;rcases hor with hor|⟨_,g5,hor⟩
       ·rw[←e] at hor;omega
       ·obtain⟨j3,_,e5,hG3⟩:=ew (show iG w0.heap.size ρ H L bI blk.length (base+j2) g5=some h2 from hor);have e5:base+j3=base+j2:=e5;have:j3=j2:=by omega
        subst this;obtain⟨b3,g3,g4,hL3,ah9⟩:=dl (ed hG3).1;rw[q2] at hL3;injection hL3 with hL3;injection hL3 with e6 _;subst e6;exact l7.inj _ _ _ _ _ _ j4 ah9 e
   ·rw[hxo] at aj0;injection aj0 with aj0;have ah_:iS x=false:=by rw[gA x9,aj0];exact ar7
    have hnO:¬zy H' LF j:=λ⟨b2,g2,k,I,l,e1,e2⟩=>by rw[hLF] at e1;injection e1 with e1;injection e1 with e1 _;subst e1;rw[hqo] at e2;injection e2 with e2;obtain⟨_,_,_,e⟩:=(lD x9).2 (kb2.2 ⟨k,I,l,e2⟩);rw[e] at ah_;cases ah_
    have hJ:g=(γ j).2/\bv ρ' H' LF j=some h:=by
     rcases ag6 with⟨ho,_⟩|⟨_,e1,e2⟩
     ·exact absurd ho hnO
     ·exact⟨e1,e2⟩
    obtain⟨eg,hJ⟩:=hJ;rw[hbg] at eg;obtain⟨b1,g1,hL1,ab2⟩:=kO hJ;rw[hLF] at hL1;injection hL1 with hL1;injection hL1 with e1 e2;subst e1;subst e2;have eg:g=g0+1:=by rw[eg];show ac (iS x) g0 (g0+1)=g0+1;rw[ah_];rfl
    subst eg;have hqg:∃ct ty,q= .grow ct g0 ty:=by
     cases x with
     |grow m ty t=>exact⟨_,_,q4⟩
     |growb ty t=>exact⟨_,_,q4⟩
     |_=>cases ah_
    obtain⟨ct,ty,eq⟩:=hqg;subst eq;have o7:ρ.at_ b0 (g0+1)=none:=by
     cases hn:ρ.at_ b0 (g0+1) with
     |none=>rfl
     |some hh=>have:g0+1<=g0:=l7.gens _ _ _ _ hn q3;omega
    have al5:∃ct ty,qo= .grow ct gF ty/\ct.len≠0:=by
     have hso:=(gA x9).symm.trans ah_;have:∃ct ty,qo= .grow ct gF ty:=by
      generalize out[j]=xo at *
      cases xo with
      |grow m ty t=>exact⟨_,_,hbo⟩
      |growb ty t=>exact⟨_,_,hbo⟩
      |_=>cases hso
     obtain⟨ct,ty,e⟩:=this;refine⟨ct,ty,e,λh0=>?_⟩;unfold bv at hJ;rw[hLF] at hJ;simp only [hqo,e,if_pos h0] at hJ;cases hJ
    obtain⟨cto,tyo,eqo,m7⟩:=al5;subst eqo;rcases j9.blk _ _ hqo with h0|⟨O',r1,r2,r3,_⟩
    ·exact absurd h0 m7
    rw[ab2] at r1;injection r1 with r1;subst r1;exact ac6 _ _ _ (af9 _ _ _ eF ab2 r3) o7
  ·obtain⟨n1,n2,n3,n4,n5⟩:=hγn j hj hjo;have eF:=e3c hj;have o7:ρ.at_ b g=none:=by rw[←eb];exact n2 g
   refine ac6 b g h ?_ o7;have:∃g1,ρ'.at_ bF g1=some h/\Own ρ' wx.heap.size h.blk:=by
    rcases ag6 with⟨⟨b5,g5,k,I,l,e8,e9⟩,b2,g2,e1,e2⟩|⟨hnO,_,hJ⟩
    ·rw[hLF] at e1;injection e1 with e1;injection e1 with e1 _;subst e1;rw[hLF] at e8;injection e8 with e8;injection e8 with e8 _;subst e8;exact⟨g,e2,(j9.objO _ _ _ _ e9 _ _ e2).1⟩
    ·obtain⟨b1,g1,hL1,ab2⟩:=kO hJ
     rw[hLF] at hL1;injection hL1 with hL1;injection hL1 with e1 e2
     subst e1;subst e2
     refine⟨gF,ab2, ?_⟩
     generalize out[j]=xo at hbo
     cases xo with
     |cells ty l=>obtain⟨e0,c,as,eq,_⟩:=hbo;subst e0;subst eq;obtain⟨h0,r1,r2,_⟩:=(j9.blk _ _ hqo).2 0 (aac _);rw[ab2] at r1;injection r1 with r1;subst r1;exact r2 rfl
     |arr m ty t=>
      obtain⟨e0,e,l8⟩:=hbo;subst e0;subst e;rcases j9.blk _ _ hqo with h0|⟨h0,r1,_,r2,_⟩
      ·have h0:(y.g t).length=0:=h0;omega
      ·rw[ab2] at r1;injection r1 with r1;subst r1;exact r2
     |arb ty t=>
      obtain⟨e0,e,l8⟩:=hbo;subst e0;subst e;rcases j9.blk _ _ hqo with h0|⟨h0,r1,_,r2,_⟩
      ·have h0:(y.s t).length=0:=h0;omega
      ·rw[ab2] at r1;injection r1 with r1;subst r1;exact r2
     |sm m t=>
      obtain⟨e0,e|⟨c,e,_⟩⟩:=hbo
      ·subst e0;subst e;obtain⟨h0,r1,r2,_⟩:=j9.blk _ _ hqo;rw[ab2] at r1;injection r1 with r1;subst r1;exact r2
      ·subst e0;subst e;obtain⟨h0,r1,r2,_⟩:=j9.blk _ _ hqo;rw[ab2] at r1;injection r1 with r1;subst r1;exact r2
     |obj k C t=>obtain⟨e0,e⟩:=hbo;subst e;exact absurd ⟨_,_,_,_,_,hLF,hqo⟩ hnO
     |grow m ty t=>
      have hbo:qo=_:=hbo;subst hbo;rcases j9.blk _ _ hqo with h0|⟨O',r1,r2,r3,_⟩
      ·unfold bv at hJ;rw[hLF] at hJ;simp only [hqo,if_pos h0] at hJ;cases hJ
      ·rw[ab2] at r1;injection r1 with r1;subst r1;exact r3
     |growb ty t=>
      have hbo:qo=_:=hbo;subst hbo;rcases j9.blk _ _ hqo with h0|⟨O',r1,r2,r3,_⟩
      ·unfold bv at hJ;rw[hLF] at hJ;simp only [hqo,if_pos h0] at hJ;cases hJ
      ·rw[ab2] at r1;injection r1 with r1;subst r1;exact r3
   obtain⟨g1,r1,r2⟩:=this;exact af9 _ _ _ eF r1 r2
 have ad5:∀j,j<out.length->(j<blk.length/\∃x b0 g0 q,blk[j]? =some x/\L j=some (b0,g0)/\H.get b0=some q/\BT ρ (λ_=>none) blk L z x q g0/\γ j=(b0,Ft x g0))∨blk.length<=j:=λj hj=>by
  rcases aah j blk.length with h|h
  ·obtain⟨x,b0,g0,q,q1,q2,q3,q4⟩:=l6 j h;exact .inl ⟨h,x,b0,g0,q,q1,q2,q3,q4,hγ _ _ _ _ q1 q2⟩
  ·exact .inr h
 obtain⟨ρ2,m1,m2,m3,m4,m5⟩:=ZW (H2:=eU γ y out 0 H) l7 hGp (λb=>by
  cases hp:(eU γ y out 0 .leaf).get b with
  |some X=>obtain⟨j,x,hx,q1,q2,_⟩:=af2 b X hp;subst q1;have:=sw (γ:=γ) (y:=y) out 0 H j x hx (λi hi=>by rw[aap];exact hm2.g64 i hi) (λa b ha hb e=>hm2.ginj a b ha hb (by simpa using e));rw[aap] at this;rw[this,q2]
  |none=>refine Ds _ _ _ _ λi hi e=>?_;rw[aap] at e;have:=ak0 i _ (aak hi);rw[←e,hp] at this;cases this)
  (λx hx=>by obtain⟨_,_,_,_,q⟩:=hx;exact q) rfl (λb x hx=>ez (hF.frz _ _ (ez hx))) rfl
  ah7
  (λb g h X hh hX=>by
   obtain⟨j,xo,hx,q1,q2,hjo⟩:=af2 b X hX;subst q1;subst q2;rcases ad5 j hjo with⟨hj,x,b0,g0,q,r1,r2,r3,r4,hgg⟩|hj
   ·have x9:=ae1 j x xo r1 hx
    rw[hgg] at hh
    have ac1:=l7.gens _ _ _ _ hh r3
    obtain⟨ka1,ka2,_⟩:=h_ r4
    cases xo with
    |cells ty l=>
     cases x with
     |cells ty' l'=>obtain⟨eg,cc,as,eq,_⟩:=r4;subst eq;exact ac1
     |_=>cases x9
    |grow m ty t=>
     cases x with
     |grow m' ty' t'=>have eq:q=_:=r4;subst eq;have ac1:g<=g0:=ac1;show g<=(γ j).2;rw[hgg];show g<=g0+1;omega
     |_=>cases x9
    |growb ty t=>
     cases x with
     |growb ty' t'=>have eq:q=_:=r4;subst eq;have ac1:g<=g0:=ac1;show g<=(γ j).2;rw[hgg];show g<=g0+1;omega
     |_=>cases x9
    |sm m t=>trivial
    |obj k C t=>trivial
    |arr m ty t=>
     cases x with
     |arr m' ty' t'=>obtain⟨eg,eq,_⟩:=r4;subst eq;exact ac1
     |_=>cases x9
    |arb ty t=>
     cases x with
     |arb ty' t'=>obtain⟨eg,eq,_⟩:=r4;subst eq;exact ac1
     |_=>cases x9
   ·rw[(hγn j hj hjo).2.1 g] at hh;cases hh)
  (λb X hX=>by
   obtain⟨j,xo,hx,q1,q2,hjo⟩:=af2 b X hX;subst q1;rcases ad5 j hjo with⟨hj,x,b0,g0,q,r1,r2,r3,r4,hgg⟩|hj
   ·rw[hgg];exact⟨q,r3,(h_ r4).2.2⟩
   ·exact(hγn j hj hjo).2.2.1)
  (λb g h hh hn ho=>by obtain⟨j,h0,q1,q2,d9⟩:=ho;obtain⟨b0,g0,g1,hL',o6⟩:=dl q1;have hj:=hL.dom _ _ hL';have e:=(l7.inj _ _ _ _ _ _ o6 hh q2).1;subst e;obtain⟨x,b1,g1',q,r1,r2,r3,r4⟩:=l6 j hj;rw[hL'] at r2;injection r2 with r2;injection r2 with e1 e2;subst e1;subst e2;have:=ak0 j _ (aak (by omega:j<out.length));rw[hγ _ _ _ _ r1 hL',hn] at this;cases this)
  (λb k I l hX=>by
   obtain⟨j,xo,hx,q1,q2,hjo⟩:=af2 b _ hX;subst q1;rcases ad5 j hjo with⟨hj,x,b0,g0,q,r1,r2,r3,r4,hgg⟩|hj
   ·refine .inl ?_
    rw[hgg]
    have x9:=ae1 j x xo r1 hx
    cases xo with
    |obj k' C t=>obtain⟨k0,I0,l0,e⟩:=(h_ r4).2.1.1 ((lD x9).2 ⟨_,_,_,rfl⟩);exact⟨k0,I0,l0,by rw[r3,e]⟩
    |_=>cases q2
   ·exact .inr (hγn j hj hjo).2.1)
  (λb X hX=>by
   obtain⟨j,xo,hx,q1,q2,hj⟩:=af2 b X hX
   subst q2
   cases xo with
   |cells ty c=>exact .inl ⟨_,_,_,rfl⟩
   |grow m ty t=>exact .inr (.inl ⟨_,_,_,rfl⟩)
   |growb ty t=>exact .inr (.inl ⟨_,_,_,rfl⟩)
   |sm m t=>exact .inr (.inr (.inl ⟨_,_,rfl⟩))
   |arr m ty t=>exact .inr (.inl ⟨_,_,_,rfl⟩)
   |arb ty t=>exact .inr (.inl ⟨_,_,_,rfl⟩)
   |obj k C t=>exact .inr (.inr (.inr ⟨_,_,_,rfl⟩)))
 exact⟨ρ2,m1,m2,λx a v h hv=>(TvA.vr hm2 h hv).into m3 m4 (λb x hx=>by rw[m5];exact hx),λx a v h hv=>(TvR.vr hm2 h hv).into m3 m4 (λb x hx=>by rw[m5];exact hx)⟩
def kQ(P:Program)(f:Nat)(S:FSpec)(zf:(z:Sy)->{y:Sy // S.pre z->S.post z y}):Prop:=
 ∀z,S.pre z->∀(w:World) (ρ:Rho) (vs:List Value),Good w ρ (S.heap z) w->LR ρ (S.argsA z) vs->
  (∀args:Array Value,(callFunc f args).run P w= .ok (.enter f args) w)/\CallsIn Fence.wide 0 P f vs.toArray w λe w'=>∃v ρ' H' a s,e= .returned v/\Good w ρ' H' w'/\ρ.le ρ'/\VR ρ' a v/\
   fi S.blk.length H' (S.res z) (S.out z) a=some s/\s.pr/\(zf z).1=aN s.tm
def Fy{blk:List BSh}{s1 s2:PS}{H:T ABlk}(hG:Good w0 ρ H w)(ac4:l_ blk s1.ln s1=some s2)(hp:s2.pr)(J':xD ρ blk H s1 blk 0)(c8:blk.length<=64)(ae6:ma blk.length s2.loc=true):Lent w0 ρ H w s2.L blk (aN s2.tm):=by
 obtain⟨f1,f2,f3,f4,_⟩:=d_ ac4;have hln:=lB ac4 hp;refine⟨hG,λj x hx=>?_,λj p h=>vE ae6 _ (dR h),λj j' b g g' h1 h2=>?_,c8⟩
 ·obtain⟨b,g,q1,q,q2,q3⟩:=J' j x hx;rw[aap] at q1;exact⟨b,g,f1.loc _ _ q1,q,q2,q3 ρ (.refl _) s2 f1 hp hln⟩
 ·have:=vF ae6 _ (dR h1) _ (dR h2) rfl;exact congrArg Prod.fst this
def Fz{blk:List BSh}{s:PS}{j b g:Nat}{x:BSh}(hx:blk[j]? =some x)(hL:s.L j=some (b,g)):qu blk (pk s) j=(b,Ft x g):=by
 have e:pk s j=(b,g):=by unfold pk;rw[show bC j s.loc=some (b,g) from hL]
 unfold qu;rw[hx,e]
def Rz{k:List Nat->Tr}:∀{l:List BSh} {σ:St},SI σ->Good w0 ρ σ.h w->run (Rx l k) σ K=true->
 ∃bs a9,run (k bs) a9 K=true/\SI a9/\Good w0 ρ a9.h w/\bs.length=l.length/\(∀b X,σ.h.get b=some X->a9.h.get b=some X)/\(∀b∈bs,σ.h.get b=none/\∃X,a9.h.get b=some X/\¬zH X)/\bs.Nodup:=by
 intro l
 induction l generalizing k with
 |nil=>intro σ hS hG h;exact⟨[],σ,h,hS,hG,rfl,λ_ _ h=>h,(λb hb=>by cases hb),List.nodup_nil⟩
 |cons x l ih=>
  intro σ hS hG h
  have h:run (.new (.grow (.bytes []) 0 0) λb=>Rx l λbs=>k (b::bs)) σ K=true:=h
  obtain⟨n,b7,hn,c8,e1,b6,h1⟩:=gw hS h
  have b9:Good w0 ρ b7.h w:=by rw[e1];exact hG.none_new hn c8 rfl
  obtain⟨bs,d8,q1,q2,q3,q4,q5,q6,q7⟩:=ih (k:=λbs=>k (n::bs)) b6 b9 h1
  have hn1:b7.h.get n=some (.grow (.bytes []) 0 0):=by rw[e1];exact T.get_set_same _ _ _ c8
  refine⟨n::bs,d8,q1,q2,q3,by simp [q4],λb X hX=>q5 b X ?_,λb hb=>?_,List.nodup_cons.2 ⟨λhm=>?_,q7⟩⟩
  ·rw[e1,T.get_set_ne _ (λe=>by subst e;rw[hn] at hX;cases hX)];exact hX
  ·rcases List.mem_cons.1 hb with e|hb
   ·subst e;exact⟨hn,_,q5 _ _ hn1,λh=>h⟩
   ·obtain⟨r1,r2⟩:=q6 b hb;refine⟨?_,r2⟩;have m7:b≠n:=λe=>by subst e;rw[hn1] at r1;cases r1
    rw[e1,T.get_set_ne _ m7] at r1;exact r1
  ·have:=(q6 n hm).1;rw[hn1] at this;cases this
def Lent.more{H':T ABlk}{L:Nat->Option (Nat×Nat)}{blk:List BSh}{z:Sy}{H:T ABlk}(hL:Lent w0 ρ H w L blk z)(hG:Good w0 ρ H' w)(h:∀b X,H.get b=some X->H'.get b=some X):Lent w0 ρ H' w L blk z:=
 ⟨hG,λj x hx=>by obtain⟨b,g,q1,q,q2,q3⟩:=hL.hb j x hx;exact⟨b,g,q1,q,h _ _ q2,q3⟩,hL.dom,hL.inj,hL.n64⟩
def RA{n:Nat}{γ:lK}{bs:List Nat}{j:Nat}(h:j<n):uv n γ bs j=γ j:=by unfold uv;rw[ar,if_pos (Nat.ble_eq.mpr h)]
def RB{n:Nat}{γ:lK}{bs:List Nat}{j:Nat}(h:n<=j):uv n γ bs j=(bs.getD (j-n) 0,0):=by unfold uv;rw[ar,if_neg (λe=>by have:=aay e;omega)]
def WL{f:Nat}{S:FSpec}{zf:(z:Sy)->{y:Sy // S.pre z->S.post z y}}(hC:kQ P f S zf)(w0:World)(l:List AV):WG P w0 f l (WI S zf l):=by
 intro vs k σ0 K ρ w R hS0 hG0 hl h0 hR;obtain⟨σ,eh,hS,h,af_⟩:=xE hS0 hG0 h0;have hG:Good w0 ρ σ.h w:=by rw[eh];exact hG0
 clear h0 hG0 hS0;obtain⟨l',b7,ρ1,z1,b6,b9,F',hlen,hlr⟩:=iT hS hG hl h;obtain⟨s0,hs0,z2⟩:=ce z1;obtain⟨s1,d8,ρ2,z3,f9,l7,j6,al6,_,J'⟩:=AO b6 b9 z2;obtain⟨s2,hs2,z4⟩:=ce z3;obtain⟨ai0,z5⟩:=ay z4;obtain⟨⟨hpr,ac3⟩,z6⟩:=aP z5;clear h z1 z2 z3 z4 z5;obtain⟨al7,hc2⟩:=aD ai0;obtain⟨hcK,hcL⟩:=aD hc2;have al7:=bU al7;obtain⟨p1,p2⟩:=ge (blk:=S.blk) hs0;obtain⟨f1,f2,f3,f4,_⟩:=d_ hs2;have hln:=lB hs2 hpr;have L':LR ρ2 l' vs:=(hlr (by rw[←hlen];exact mE hs0)).mono j6;have l9:=p2 s2 (al6.trans f1) hpr hln;rw[kP] at l9;have hL0:=Fy l7 hs2 hpr J' al7 hcL;obtain⟨z,hz⟩:∃z,z=aN s2.tm:=⟨_,rfl⟩
 rw[←hz] at ac3 z6 l9 hL0 hcK;have z6:run (Rx ((S.out z).drop S.blk.length) λbs=>WH (uv S.blk.length (qu S.blk (pk s2)) bs) (zf z).1 (S.out z) 0 (k (Dn (uv S.blk.length (qu S.blk (pk s2)) bs) (zf z).1 (S.res z)))) d8 K=true:=z6;obtain⟨bs,σn,z7,hSn,hGn,hbl,hbk,hbn,hbd⟩:=Rz f9 l7 z6;have hL:=hL0.more hGn hbk;have hLb:=TvAs.lr (vl:=ρ.val) hL.mv l9 L';obtain⟨hcf,ag0⟩:=hC z ac3 w _ vs ((hL.to (vl:=ρ.val)).addTab ((af_.mono (F'.trans j6).frz).mono λb x h=>ez h)) hLb;refine⟨hcf,ag0.mono λe w' he=>?_⟩;obtain⟨v,ρ',H',a,s,rfl,j9,ad7,hva,ac4,al8,hzf⟩:=he;obtain⟨σ3,z8,hS3,e3,c8⟩:=Mb hSn z7;obtain⟨t1,t2,t3⟩:=sz (ρ:=ρ') ac4 al8;rw[←hzf] at t1 t2;obtain⟨hkl,_⟩:=AQ hcK;have hdl:bs.length=(S.out z).length-S.blk.length:=by rw[hbl,aas]
 have hbg:∀j,S.blk.length<=j->j<(S.out z).length->∃b,bs[j-S.blk.length]? =some b/\(uv S.blk.length (qu S.blk (pk s2)) bs j)=(b,0):=λj h1 h2=>by
  have c9:j-S.blk.length<bs.length:=by omega
  refine⟨bs[j-S.blk.length],aak c9, ?_⟩;rw[RB h1,aag,aak c9];rfl
 obtain⟨ρ3,m1,m2,_,m3⟩:=UJ (F:=mW s H') (γ:=uv S.blk.length (qu S.blk (pk s2)) bs) hL hcK (λj x b g hx hl=>by
  have hj:j<S.blk.length:=by
   rcases aah j S.blk.length with h'|h'
   ·exact h'
   ·rw[aam h'] at hx;cases hx
  rw[RA hj];exact Fz hx hl)
  (λj h1 h2=>by
   obtain⟨b,r1,r2⟩:=hbg j h1 h2;rw[r2];have hm:=abn r1;obtain⟨u1,u2⟩:=hbn b hm;refine⟨rfl,λg=>l7.none_at u1 g,u2,λi b' g' hL' e=>?_,λi h3 h4 e=>?_⟩
   ·obtain⟨b2,g2,q1,q,q2,_⟩:=hL0.hb i _ (aak (hL0.dom _ _ hL'));rw[hL'] at q1;injection q1 with q1;injection q1 with q1 _;subst q1;subst e;rw[u1] at q2;cases q2
   ·obtain⟨b3,r3,r4⟩:=hbg i h3 h4;rw[r4] at e;have e:b3=b:=e;subst e;have hi1:i-S.blk.length<bs.length:=by omega
    have hi2:j-S.blk.length<bs.length:=by omega
    rw[aak hi1] at r3;rw[aak hi2] at r1;injection r3 with r3;injection r1 with r1;have:=(List.getElem_inj (h₀:=hi1) (h₁:=hi2) hbd).1 (r3.trans r1.symm);omega)
  (λi hi=>by have:=c8 i hi;rwa [aap] at this) j9 (FinRel.of_le ad7 hL.ownOk (frzE _ _ _ _ _ _ _).symm) (λb x hF=>⟨(iU hF).1,t3.t5 b (iU hF).2⟩) t2 (λj b g h=>t3.t3 j b g h) t3.t4
 exact hR _ v σ3 ρ3 w' z8 hS3 (by rw[e3];exact m1) ((F'.trans j6).trans m2) (m3 _ _ _ t1 hva)
def FA{blk:List BSh}{r:Sr}{a:AV}{v:Value}{k:AV->Tr}(hS:SI σ)(hG:Good w0 ρ σ.h w)(hv:VR ρ a v)(h:run (Dq blk r a k) σ K=true):
 ∃a' a9 ρ',run (k a') a9 K=true/\SI a9/\Good w0 ρ' a9.h w/\ρ.le ρ'/\VR ρ' a' v:=by
 cases r with
 |one x=>
  have hl:LR ρ [a] [v]:=LR.cons hv (LR.nil _)
  obtain⟨o9,a9,ρ',h1,h2,h3,h4,h5,h6⟩:=iT (loc:=[]) (blk:=blk) (l:=[Rw x]) (k:=λas=>match as with | [a]=>k a|_=>.fail) hS hG hl h
  have h6:=h6 rfl
  match o9,h5,h6,h1 with
  | [a'],_,h6,h1=>
   obtain⟨u,us,e,hu,_⟩:=h6.cons_inv
   injection e with e _
   subst e
   exact⟨a',a9,ρ',h1,h2,h3,h4,hu⟩
 |tu l=>
  unfold Dq at h
  simp only at h
  split at h
  ·rename_i as;rcases bT h with⟨hl,h⟩|⟨_,h⟩
   ·have hl:=aM hl
    cases hv with
    |tup _ cs e1 e2=>obtain⟨o9,a9,ρ',h1,h2,h3,h4,h5,h6⟩:=iT hS hG (LR.of_arr e1 e2) h;obtain⟨r1,r2⟩:=(h6 hl).arr;exact⟨_,a9,ρ',h1,h2,h3,h4,.tup _ cs r1 r2⟩
   ·exact⟨_,σ,ρ,h,hS,hG,.refl _,hv⟩
  ·exact⟨_,σ,ρ,h,hS,hG,.refl _,hv⟩
def RC{M:Tab}(hM:TabOk P M){n f:Nat}{S:FSpec}(h:∀z,S.pre z->∃hn,(S.callFm P M n f z hn).den):∃zf:(z:Sy)->{y:Sy // S.pre z->S.post z y},kQ P f S zf:=by
 have key:∀z,∃y:{y:Sy // S.pre z->S.post z y},S.pre z->∃a σf s,(∀K,run (nu P (xf P M n) f (S.argsA z) λa=>Dq (S.out z) (S.res z) a .ret) (start (S.heap z) (base+64)) K=K a σf)/\fi S.blk.length σf.h (S.res z) (S.out z) a=some s/\s.pr/\y.1=aN s.tm:=λz=>by
  by_cases hz:S.pre z
  ·obtain⟨hn,hd⟩:=h z hz;obtain⟨a,σf,e,hn',hl⟩:=Dm _ _ _ _ hd;unfold UH at hl;split at hl
   ·rename_i s hs;exact⟨⟨aN s.tm,λ_=>hl.2 hl.1⟩,λ_=>⟨a,σf,s,e,hs,hl.1,rfl⟩⟩
   ·exact hl.elim
  ·exact⟨⟨⟨λ_=>0,λ_=>[],λ_=>False,λ_=>[]⟩,λh=>absurd h hz⟩,λh=>absurd h hz⟩
 refine⟨λz=>Classical.choose (key z),λz hz w ρ vs hG hl=>?_⟩;obtain⟨a,σf,s,e,hs,hp,hy⟩:=abv (key z) hz;refine iP (qM P hM w n).1 f (S.argsA z) vs (λa=>Dq (S.out z) (S.res z) a .ret) (start (S.heap z) (base+64)) (λa' s'=>dP (a'=a/\s'=σf)) ρ w _ (nG (by decide) (by decide)) hG hl (by rw[e];exact fG.2 ⟨rfl,rfl⟩) λav v a9 ρ' w' q1 q2 q3 q4 q5=>?_;obtain⟨a',d8,ρ2,q1,q2,q3,q4',q5⟩:=FA q2 q3 q5 q1;obtain⟨e1,e2⟩:=fG.1 (show dP (a'=a/\d8=σf)=true from q1);subst e1;subst e2;exact⟨v,ρ2,_,_,s,rfl,q3,q4.trans q4',q5,hs,hp,hy⟩
end
end Go.Sym
namespace Go.Sym
open Go.RowKit (Below)
noncomputable section
def bL:Code->List Nat
 | .block j a=>j::bL a
 | .seq a b=>bL a++bL b
 | .cond _ a b=>bL a++bL b
 | .loop a=>bL a
 |_=>[]
def bz(id:Nat):Code->Option Code
 | .block j a=>ac (Nat.beq j id) (some a) (bz id a)
 | .seq a b=>Option.rec (motive:=λ_=>Option Code) (bz id b) some (bz id a)
 | .cond _ a b=>Option.rec (motive:=λ_=>Option Code) (bz id b) some (bz id a)
 | .loop a=>bz id a
 |_=>none
def RD(n:Nat)(l:List Nat):Bool:=List.rec (motive:=λ_=>Bool) false (λx _ ih=>ac (Nat.beq x n) true ih) l
def sA:List Nat->Bool
 | []=>true
 |x::l=>ac (RD x l) false (sA l)
def Mf{n:Nat}:∀{l:List Nat},RD n l=true↔n∈l:=by
 intro l
 induction l with
 |nil=>exact⟨λh=>(by cases h),λh=>(by cases h)⟩
 |cons x l ih=>
  show ac (Nat.beq x n) true (RD n l)=true↔_;rw[ar];split
  ·rename_i e;have:=aae e;subst this;simp
  ·rename_i e;rw[ih];exact⟨λh=>by simp [h],λh=>by rcases List.mem_cons.1 h with h|h;exact absurd (by rw[h];exact abo _) e;exact h⟩
def Ja:∀{l:List Nat},sA l=true->l.Nodup:=by
 intro l
 induction l with
 |nil=>intro _;exact List.nodup_nil
 |cons x l ih=>intro h;have h:ac (RD x l) false (sA l)=true:=h;obtain⟨h1,h2⟩:=CN h;refine List.nodup_cons.2 ⟨λhm=>?_,ih h2⟩;rw[Mf.2 hm] at h1;cases h1
def Dt{id:Nat}:∀{c:Code},id∈bL c->∃d,bz id c=some d:=by
 intro c
 induction c with
 |block j a ih=>
  intro h;show ∃d,ac (Nat.beq j id) (some a) (bz id a)=some d;rw[ar];split
  ·exact⟨_,rfl⟩
  ·rename_i e;rcases List.mem_cons.1 h with h|h
   ·exact absurd (by rw[h];exact abo _) e
   ·exact ih h
 |seq a b iha ihb=>
  intro h
  show ∃d,Option.rec (motive:=λ_=>Option Code) (bz id b) some (bz id a)=some d
  cases ha:bz id a with
  |some d=>exact⟨d,rfl⟩
  |none=>
   rcases List.mem_append.1 h with h|h
   ·obtain⟨d,e⟩:=iha h;rw[ha] at e;cases e
   ·exact ihb h
 |cond x a b iha ihb=>
  intro h
  show ∃d,Option.rec (motive:=λ_=>Option Code) (bz id b) some (bz id a)=some d
  cases ha:bz id a with
  |some d=>exact⟨d,rfl⟩
  |none=>
   rcases List.mem_append.1 h with h|h
   ·obtain⟨d,e⟩:=iha h;rw[ha] at e;cases e
   ·exact ihb h
 |loop a ih=>intro h;exact ih h
 |_=>intro h;cases h
def Du{id:Nat}:∀{c:Code},id∉bL c->bz id c=none:=by
 intro c
 induction c with
 |block j a ih=>intro h;show ac (Nat.beq j id) (some a) (bz id a)=none;rw[ar,if_neg (λe=>h (by have:=aae e;subst this;exact aan))];exact ih λhm=>h (aal _ hm)
 |seq a b iha ihb=>intro h;show Option.rec (motive:=λ_=>Option Code) (bz id b) some (bz id a)=none;rw[iha λhm=>h (List.mem_append.2 (.inl hm))];exact ihb λhm=>h (List.mem_append.2 (.inr hm))
 |cond x a b iha ihb=>intro h;show Option.rec (motive:=λ_=>Option Code) (bz id b) some (bz id a)=none;rw[iha λhm=>h (List.mem_append.2 (.inl hm))];exact ihb λhm=>h (List.mem_append.2 (.inr hm))
 |loop a ih=>intro h;exact ih h
 |_=>intro h;rfl
def lE{id:Nat}{a b:Code}{f:Code}(hf:bz id f=Option.rec (motive:=λ_=>Option Code) (bz id b) some (bz id a))(hn:(bL a++bL b).Nodup):
 (id∈bL a->bz id f=bz id a)/\(id∈bL b->bz id f=bz id b):=by
 refine⟨λh=>?_,λh=>?_⟩
 ·obtain⟨d,e⟩:=Dt h;rw[hf,e]
 ·have:id∉bL a:=λha=>(List.nodup_append.1 hn).2.2 id ha id h rfl;rw[hf,Du this]
def Jb{d c:Code}(h:SubC d c)(hn:(bL c).Nodup):(bL d).Nodup/\∀id,id∈bL d->bz id c=bz id d:=by
 induction h with
 |refl c=>exact⟨hn,λ_ _=>rfl⟩
 | @seqL a b c h ih=>obtain⟨h1,h2⟩:=ih hn;have h1:(bL a++bL b).Nodup:=h1;exact⟨(List.nodup_append.1 h1).1,λid hm=>(h2 id (List.mem_append.2 (.inl hm))).trans ((lE (f:=.seq a b) rfl h1).1 hm)⟩
 | @seqR a b c h ih=>obtain⟨h1,h2⟩:=ih hn;have h1:(bL a++bL b).Nodup:=h1;exact⟨(List.nodup_append.1 h1).2.1,λid hm=>(h2 id (List.mem_append.2 (.inr hm))).trans ((lE (f:=.seq a b) rfl h1).2 hm)⟩
 | @condL x a b c h ih=>obtain⟨h1,h2⟩:=ih hn;have h1:(bL a++bL b).Nodup:=h1;exact⟨(List.nodup_append.1 h1).1,λid hm=>(h2 id (List.mem_append.2 (.inl hm))).trans ((lE (f:=.cond x a b) rfl h1).1 hm)⟩
 | @condR x a b c h ih=>obtain⟨h1,h2⟩:=ih hn;have h1:(bL a++bL b).Nodup:=h1;exact⟨(List.nodup_append.1 h1).2.1,λid hm=>(h2 id (List.mem_append.2 (.inr hm))).trans ((lE (f:=.cond x a b) rfl h1).2 hm)⟩
 | @block id' a c h ih=>obtain⟨h1,h2⟩:=ih hn;have h1:(id'::bL a).Nodup:=h1;obtain⟨g1,g2⟩:=List.nodup_cons.1 h1;refine⟨g2,λid hm=>(h2 id (aal _ hm)).trans ?_⟩;show ac (Nat.beq id' id) (some a) (bz id a)=_;rw[ar,if_neg (λe=>g1 (by have:=aae e;subst this;exact hm))]
 | @loop a c h ih=>obtain⟨h1,h2⟩:=ih hn;exact⟨h1,λid hm=>h2 id hm⟩
def sC(P:Program)(fn id:Nat):Option (Code×Nat):=match P.funcs[fn]? with
 |some f=>(match f.body with
  |some b=>ac (sA (bL b)) (match bz id b with|some (.loop c)=>some (c,f.ntmps)|_=>none) none
  |none=>none)
 |none=>none
def kR(P:Program)(fn id:Nat):Code:=match sC P fn id with|some (c,_)=>c|none=>.skip
def iV(P:Program)(fn id:Nat):Nat:=match sC P fn id with|some (_,n)=>n|none=>0
def eW(P:Program)(fn id:Nat):Bool:=match sC P fn id with|some _=>true|none=>false
def AU{P:Program}{fn id:Nat}{c:Code}(hl:eW P fn id=true)(h:∃f b,P.funcs[fn]? =some f/\f.body=some b/\SubC (.block id c) b):c= .loop (kR P fn id):=by
 obtain⟨f,b,h1,h2,h3⟩:=h
 unfold eW at hl
 unfold kR
 unfold sC at hl⊢
 simp only [h1,h2] at hl⊢
 cases hn:sA (bL b) with
 |false=>rw[hn] at hl;cases hl
 |true=>
  rw[hn] at hl;obtain⟨_,q⟩:=Jb h3 (Ja hn);have e:bz id b=some c:=by rw[q id aan];show ac (Nat.beq id id) (some c) (bz id c)=some c;rw[ar,if_pos (abo id)]
  rw[e] at hl⊢;cases c <;> first|(cases hl;done)|rfl
structure Alt where
 ex:AEx
 tmps:List (Nat×Sa)
 out:List BSh
structure LSpec where
 tmps:List (Nat×Sa)
 blk:List BSh
 inv:Sy->Prop
 mu:Sy->Nat
 alts:List Alt
 post:Sy->Sy->Prop
 gl:Option (Nat×Nat×List Nat):=none
 keep:List Nat:=[]
def Mg(l:List (Nat×Sa)):List Sa:=List.rec (motive:=λ_=>List Sa) [] (λx _ ih=>x.2::ih) l
def pZ(l:List (Nat×Sa))(env:T AV)(k:List AV->Tr):Tr:=List.rec (motive:=λ_=>(List AV->Tr)->Tr) (λk=>k []) (λx _ ih k=>T.getK env x.1 .fail λa=>ih λl=>k (a::l)) l k
def vG(γ:lK)(y:Sy)(l:List (Nat×Sa))(t:T AV)(k:T AV->Tr):Tr:=List.rec (motive:=λ_=>T AV->(T AV->Tr)->Tr) (λt k=>k t) (λx _ ih t k=>T.setK t x.1 (jy γ y x.2) λt=>ih t k) l t k
def AW(γ:lK)(y:Sy)(l:List (Nat×Sa))(t:T AV):T AV:=List.rec (motive:=λ_=>T AV->T AV) (λt=>t) (λx _ ih t=>ih (t.set x.1 (jy γ y x.2))) l t
def AX(γ:lK)(y:Sy):∀(l:List (Nat×Sa)) (t:T AV) (k:T AV->Tr),vG γ y l t k=k (AW γ y l t):=by
 intro l
 induction l with
 |nil=>intro t k;rfl
 |cons x l ih=>intro t k;show T.setK t x.1 (jy γ y x.2) (λt=>vG γ y l t k)=_;rw[T.setK_eq,ih];rfl
def WM(l:List Nat)(t:T AV)(k:T AV->Tr):Tr:=List.rec (motive:=λ_=>T AV->(T AV->Tr)->Tr) (λt k=>k t) (λn _ ih t k=>T.setK t n (.opq n) λt=>ih t k) l t k
def WN(l:List Nat)(t:T AV):T AV:=List.rec (motive:=λ_=>T AV->T AV) (λt=>t) (λn _ ih t=>ih (t.set n (.opq n))) l t
def RE:∀(l:List Nat) (t:T AV) (k:T AV->Tr),WM l t k=k (WN l t):=by
 intro l
 induction l with
 |nil=>intro t k;rfl
 |cons x l ih=>intro t k;show T.setK t x (.opq x) (λt=>WM l t k)=_;rw[T.setK_eq,ih];rfl
def AY:∀{l:List Nat} {t:T AV} {b:Nat} {a:AV},(WN l t).get b=some a->(b∈l/\a= .opq b)∨t.get b=some a:=by
 intro l
 induction l with
 |nil=>intro t b a h;exact .inr h
 |cons x l ih=>
  intro t b a h;rcases ih (t:=t.set x (.opq x)) h with⟨h1,h2⟩|h
  ·exact .inl ⟨aal _ h1,h2⟩
  ·by_cases e:b=x
   ·subst e;exact .inl ⟨aan,T.get_set_some _ _ h⟩
   ·rw[T.get_set_ne _ e] at h;exact .inr h
def Jc(l:List Nat)(env:T AV)(k:Tr):Tr:=List.rec (motive:=λ_=>Tr) k (λn _ ih=>T.getK env n .fail λa=>match a with | .opq m=>ac (Nat.beq m n) ih .fail|_=>.fail) l
def AZ{σ:St}{K:Fin}{env:T AV}{k:Tr}:∀{l:List Nat},run (Jc l env k) σ K=true->run k σ K=true/\∀n∈l,env.get n=some (.opq n):=by
 intro l
 induction l with
 |nil=>intro h;exact⟨h,λn hn=>by cases hn⟩
 |cons x l ih=>
  intro h;obtain⟨a,ha,h⟩:=uo (show run (T.getK env x .fail λa=>match a with | .opq m=>ac (Nat.beq m x) (Jc l env k) .fail|_=>.fail) σ K=true from h);split at h
  ·obtain⟨e,h'⟩:=ay h;have e:=aM e;subst e;obtain⟨h1,h2⟩:=ih h';exact⟨h1,λn hn=>by
    rcases List.mem_cons.1 hn with rfl|hn
    ·exact ha
    ·exact h2 n hn⟩
  ·exact(ah h).elim
def vH(l:List Nat)(env t:T AV)(k:T AV->Tr):Tr:=List.rec (motive:=λ_=>T AV->(T AV->Tr)->Tr) (λt k=>k t) (λn _ ih t k=>T.getK env n (ih t k) λa=>T.setK t n a λt=>ih t k) l t k
def p_(l:List Nat)(env t:T AV):T AV:=List.rec (motive:=λ_=>T AV->T AV) (λt=>t) (λn _ ih t=>match env.get n with|none=>ih t|some a=>ih (t.set n a)) l t
def Mh:∀(l:List Nat) (env t:T AV) (k:T AV->Tr),vH l env t k=k (p_ l env t):=by
 intro l env
 induction l with
 |nil=>intro t k;rfl
 |cons x l ih=>
  intro t k
  show T.getK env x (vH l env t k) (λa=>T.setK t x a λt=>vH l env t k)=k (match env.get x with|none=>p_ l env t|some a=>p_ l env (t.set x a))
  rw[T.getK_eq]
  cases env.get x with
  |none=>exact ih t k
  |some a=>show T.setK t x a (λt=>vH l env t k)=_;rw[T.setK_eq];exact ih _ k
def Jd{env:T AV}:∀{l:List Nat} {t:T AV} {b:Nat} {a:AV},(p_ l env t).get b=some a->(b∈l/\env.get b=some a)∨t.get b=some a:=by
 intro l
 induction l with
 |nil=>intro t b a h;exact .inr h
 |cons x l ih=>
  intro t b a h
  have h:(match env.get x with|none=>p_ l env t|some a=>p_ l env (t.set x a)).get b=some a:=h
  cases he:env.get x with
  |none=>
   rw[he] at h;rcases ih h with⟨h1,h2⟩|h
   ·exact .inl ⟨aal _ h1,h2⟩
   ·exact .inr h
  |some v=>
   rw[he] at h;rcases ih (t:=t.set x v) h with⟨h1,h2⟩|h
   ·exact .inl ⟨aal _ h1,h2⟩
   ·by_cases e:b=x
    ·subst e;have:=T.get_set_some _ _ h;exact .inl ⟨aan,by rw[he,this]⟩
    ·rw[T.get_set_ne _ e] at h;exact .inr h
def xF(a b:AEx):Bool:=match a,b with
 | .normal,.normal=>true
 | .ret,.ret=>true
 | .exit i,.exit j=>Nat.beq i j
 |_,_=>false
def Je{a b:AEx}(h:xF a b=true):a=b:=by
 unfold xF at h;split at h
 ·rfl
 ·rfl
 ·have:=aae h;subst this;rfl
 ·cases h
def kS(l:List Alt)(i:Nat)(ex:AEx)(env:T AV):Tr:=
 List.rec (motive:=λ_=>Nat->Tr) (λ_=>.fail) (λa _ ih i=>ac (xF a.ex ex) (pZ a.tmps env λas=>.ret (.tup [.int .i64 (.ofNat i),.tup as])) (ih (Nat.succ i))) l i
def Mi(S:LSpec):XK:=λex env df=>match df with
 | []=>(match ex with
  | .normal=>Jc S.keep env (pZ S.tmps env λas=>.ret (.tup [.int .i64 0,.tup as]))
  |ex=>Jc S.keep env (kS S.alts 1 ex env))
 |_=>.fail
def vI(H:T ABlk)(tm:List (Nat×Tm))(l:List Sa)(blk:List BSh)(as:List AV):Option PS:=
 bx (iw H blk l as {ji with tm:=tm}) λs=>bx (I5 H blk 0 s) λs=>bx (I4 H blk blk 0 s) λs=>bx (l_ blk s.ln s) λs=>ac (ac (nM [] (List.length blk) s.loc) (sn s.fz s.loc) false) (ac (ma (List.length blk) s.loc) (some s) none) none
def qa(l:List Alt)(i:Nat):Option Alt:=List.rec (motive:=λ_=>Nat->Option Alt) (λ_=>none) (λa _ ih i=>Nat.rec (motive:=λ_=>Option Alt) (some a) (λi _=>ih i) i) l i
def UK(S:LSpec)(z:Sy):Lf:=λa σ _=>match a with
 | .tup [.int .i64 (.ofNat i),.tup as]=>(match i with
  |0=>(match vI σ.h [] (Mg S.tmps) S.blk as with
   |some s=>.an s.pr (.at (S.inv (aN s.tm)/\S.mu (aN s.tm)<S.mu z/\∀y,S.post (aN s.tm) y->S.post z y))
   |none=>.ff)
  |i+1=>(match qa S.alts i with
   |some alt=>(match vI σ.h [(999,.i (.ofNat i))] (Mg alt.tmps) alt.out as with
    |some s=>.an s.pr (.at (S.post z (aN s.tm)))
    |none=>.ff)
   |none=>.ff))
 |_=>.ff
def LSpec.env(S:LSpec)(z:Sy):T AV:=WN S.keep (AW bI z S.tmps .leaf)
def LSpec.heap(S:LSpec)(z:Sy):T ABlk:=addTab S.gl (eU bI z S.blk 0 .leaf)
def LSpec.roundFm(S:LSpec)(P:Program)(M:Tab)(n fn id:Nat)(z:Sy)(h:Hn):Fm:=
 CF (vG bI z S.tmps .leaf λenv=>WM S.keep env λenv=>xf P M n (kR P fn id) env (iV P fn id) fn none [] (Mi S)) (start (S.heap z) (base+64)) (UK S z) h
def Mj(n:Nat)(S:LSpec):Bool:=ac (S.keep.all λt=>Nat.ble (Nat.succ t) n) (S.alts.all λa=>ac (pY S.blk a.out) (Nat.beq a.out.length S.blk.length) false) false
def Jf{id:Nat}{t:Code}:∀{c d:Code},bz id c=some d->SubC c t->SubC (.block id d) t:=by
 intro c
 induction c with
 |block j a ih=>
  intro d h hs;replace h:ac (Nat.beq j id) (some a) (bz id a)=some d:=h;rw[ar] at h;split at h
  ·rename_i e;injection h with h;have:=aae e;subst this;subst h;exact hs
  ·exact ih h (.block hs)
 |seq a b iha ihb=>
  intro d h hs
  have h:Option.rec (motive:=λ_=>Option Code) (bz id b) some (bz id a)=some d:=h
  cases ha:bz id a with
  |some d'=>rw[ha] at h;injection h with h;subst h;exact iha ha (.seqL hs)
  |none=>rw[ha] at h;exact ihb h (.seqR hs)
 |cond x a b iha ihb=>
  intro d h hs
  have h:Option.rec (motive:=λ_=>Option Code) (bz id b) some (bz id a)=some d:=h
  cases ha:bz id a with
  |some d'=>rw[ha] at h;injection h with h;subst h;exact iha ha (.condL hs)
  |none=>rw[ha] at h;exact ihb h (.condR hs)
 |loop a ih=>intro d h hs;exact ih h (.loop hs)
 |_=>intro d h;cases h
def Mk{P:Program}{fn id:Nat}(hl:eW P fn id=true):InF P fn none (kR P fn id):=λ_=>by
 unfold eW at hl;unfold kR;unfold sC at hl⊢;split at hl <;> try (cases hl;done)
 rename_i x cn hc;split at hc <;> try (cases hc;done)
 rename_i f hf;split at hc <;> try (cases hc;done)
 rename_i b hb;obtain⟨hn,hc⟩:=bc hc;split at hc <;> try (cases hc;done)
 rename_i c ae0;simp only [hn];exact .inr ⟨f,b,hf,hb,.loop (.block (Jf ae0 (.refl b)))⟩
def Y_(ρ:Rho)(l:List (Nat×Sa))(as:List AV)(tmps:Array Value):Prop:=cM (λ(x:Nat×Sa) a=>∃v,tmps[x.1]? =some v/\VR ρ a v) l as
section
variable{P:Program}{σ:St}{K:Fin}{ρ:Rho}
def iW{env:T AV}{k:List AV->Tr}:∀{l:List (Nat×Sa)},run (pZ l env k) σ K=true->∃as,run (k as) σ K=true/\cM (λ(x:Nat×Sa) a=>env.get x.1=some a) l as
 | [],h=>⟨[],h,trivial⟩
 |x::l,h=>by obtain⟨a,ha,h⟩:=uo (show run (T.getK env x.1 .fail λa=>pZ l env λl=>k (a::l)) σ K=true from h);obtain⟨as,h1,h2⟩:=iW (k:=λl=>k (a::l)) h;exact⟨a::as,h1,ha,h2⟩
def Ml{nt:Nat}{env:T AV}{tmps:Array Value}(hE:ER ρ nt env tmps):∀{l:List (Nat×Sa)} {as:List AV},cM (λ(x:Nat×Sa) a=>env.get x.1=some a) l as->Y_ ρ l as tmps
 | [],[],_=>trivial
 |x::l,a::as,⟨h1,h2⟩=>⟨hE.val _ _ h1,Ml hE h2⟩
 | [],_::_,h=>h.elim
 |_::_,[],h=>h.elim
def po{γ:lK}{y:Sy}:∀{l:List (Nat×Sa)} {t:T AV} {b:Nat} {a:AV},(AW γ y l t).get b=some a->(∃x,x∈l/\x.1=b/\a=jy γ y x.2)∨t.get b=some a:=by
 intro l
 induction l with
 |nil=>intro t b a h;exact .inr h
 |cons x l ih=>
  intro t b a h;rcases ih (t:=t.set x.1 (jy γ y x.2)) h with⟨z,h1,h2,h3⟩|h
  ·exact .inl ⟨z,aal _ h1,h2,h3⟩
  ·by_cases e:b=x.1
   ·subst e;exact .inl ⟨x,aan,rfl,T.get_set_some _ _ h⟩
   ·rw[T.get_set_ne _ e] at h;exact .inr h
def xG{env:T AV}{ex:AEx}{A:AV}{σf:St}:∀{l:List Alt} {i:Nat},run (kS l i ex env) σ (λa s=>dP (a=A/\s=σf))=true->
 ∃j alt as,qa l j=some alt/\alt.ex=ex/\cM (λ(x:Nat×Sa) a=>env.get x.1=some a) alt.tmps as/\A= .tup [.int .i64 (.ofNat (i+j)),.tup as]/\σ=σf:=by
 intro l
 induction l with
 |nil=>intro i h;exact(ah h).elim
 |cons a l ih=>
  intro i h
  have h:run (ac (xF a.ex ex) (pZ a.tmps env λas=>.ret (.tup [.int .i64 (.ofNat i),.tup as])) (kS l (Nat.succ i) ex env)) σ (λa s=>dP (a=A/\s=σf))=true:=h
  rcases bT h with⟨e,h⟩|⟨e,h⟩
  ·obtain⟨as,h1,h2⟩:=iW h;obtain⟨e1,e2⟩:=fG.1 (show dP (AV.tup [.int .i64 (.ofNat i),.tup as]=A/\σ=σf)=true from h1);exact⟨0,a,as,rfl,Je e,h2,e1.symm,e2⟩
  ·obtain⟨j,alt,as,h1,h2,h3,h4,h5⟩:=ih h;exact⟨j+1,alt,as,h1,h2,h3,by rw[h4,show Nat.succ i+j=i+(j+1) by omega],h5⟩
def A0{H:T ABlk}{tm:List (Nat×Tm)}{l:List Sa}{blk:List BSh}{as:List AV}{s:PS}(h:vI H tm l blk as=some s)(hp:s.pr):
 cM (TvA (mW s H) blk s.L (aN s.tm)) l as/\(∀j x,blk[j]? =some x->∃b g,s.L j=some (b,g)/\∃q,H.get b=some q/\BT ρ (mW s H) blk s.L (aN s.tm) x q g)/\Fin2 [] blk.length s blk.length:=by
 obtain⟨s1,h1,h⟩:=az h
 obtain⟨s2,h2,h⟩:=az h
 obtain⟨s3,h3,h⟩:=az h
 obtain⟨s4,h4,h⟩:=az h
 obtain⟨h5,h⟩:=bc h
 obtain⟨h6,h⟩:=bc h
 injection h with h
 subst h
 obtain⟨h5,h7⟩:=aD h5
 have hln:=lB h4 hp
 obtain⟨f1,_,_,_,_⟩:=d_ h4
 obtain⟨p1,p2⟩:=ge (blk:=blk) h1
 obtain⟨st,_,_⟩:=qN h2
 obtain⟨b1,b2⟩:=qO (ρ:=ρ) h3
 refine⟨p2 s4 (st.trans (b1.trans f1)) hp hln,λj x hx=>?_,Fv h5 h6 h7⟩
 obtain⟨b,g,q1,q2⟩:=b2 s4 f1 hp hln j x hx
 exact⟨b,g,by rw[aap] at q1;exact q1,q2⟩
def mF(P:Program)(fn id:Nat)(S:LSpec)(z y:Sy):Prop:=
 ∀(w:World) (ρ:Rho) (a:Act) (Q:Exit->Act->World->Prop),Good w ρ (S.heap z) w->OwnOk ρ->ρ.frz0=ρ.frz->ER ρ (iV P fn id) (S.env z) a.tmps->a.defers= []->
  (∀(ρ':Rho) (wx w':World) (H':T ABlk) (a':Act) (i:Nat) (alt:Alt) (as:List AV) (s:PS),FinRel S.blk ρ w ρ' wx->Good wx ρ' H' w'->qa S.alts i=some alt->a'.tmps.size=iV P fn id->a'.defers= []->
   Y_ ρ' alt.tmps as a'.tmps->vI H' [(999,.i (.ofNat i))] (Mg alt.tmps) alt.out as=some s->s.pr->y=aN s.tm->(∀t∈S.keep,a'.tmps[t]? =some (ρ.val t))->Q (Y9 alt.ex) a' w')->jx P none (kR P fn id) Q a w
def sD{R:Sa->AV->Prop}:∀{l:List (Nat×Sa)} {as:List AV},cM R (Mg l) as->cM (λ(x:Nat×Sa) a=>R x.2 a) l as
 | [],[],_=>trivial
 |x::l,a::as,h=>⟨h.1,sD h.2⟩
 | [],_::_,h=>h.elim
 |_::_,[],h=>h.elim
def sE{α β:Type}{R:α->β->Prop}:∀{l:List α} {m:List β} {x:α},cM R l m->x∈l->∃b,R x b
 | [],[],x,_,h=>by cases h
 |a::l,b::m,x,⟨h1,h2⟩,h=>by
  rcases List.mem_cons.1 h with e|h
  ·subst e;exact⟨b,h1⟩
  ·exact sE h2 h
 | [],_::_,_,h,_=>h.elim
 |_::_,[],_,h,_=>h.elim
def sG{α β:Type}{R S:α->β->Prop}:∀{l:List α} {m:List β},cM R l m->cM S l m->cM (λa b=>R a b/\S a b) l m
 | [],[],_,_=>trivial
 |_::_,_::_,⟨h1,h2⟩,⟨h3,h4⟩=>⟨⟨h1,h3⟩,sG h2 h4⟩
 | [],_::_,h,_=>h.elim
 |_::_,[],h,_=>h.elim
def vJ{vl:Nat->Value}{w w':World}{ρ ρ':Rho}{H':T ABlk}{S:LSpec}{as:List AV}{s:PS}{a':Act}{nt:Nat}(ho:OwnOk ρ)(hf0:ρ.frz0=ρ.frz)(j9:Good w ρ' H' w')(hle:ρ.le ρ')(hs:vI H' [] (Mg S.tmps) S.blk as=some s)(hp:s.pr)(T':a'.tmps.size=nt)(o6:Y_ ρ' S.tmps as a'.tmps)(c8:S.blk.length<=64)(af_:TabIn ρ S.gl)(htk:∀t∈S.keep,a'.tmps[t]? =some (vl t)):
 ∃ρ2:Rho,ρ2.val=vl/\Good w' ρ2 (S.heap (aN s.tm)) w'/\OwnOk ρ2/\ρ2.frz0=ρ2.frz/\ER ρ2 nt (S.env (aN s.tm)) a'.tmps/\∀ρf wx,FinRel S.blk ρ2 w' ρf wx->FinRel S.blk ρ w ρf wx:=by
 obtain⟨t1,t2,t3⟩:=A0 (ρ:=ρ') hs hp
 have hm:MvHyp w ρ' H' (mW s H') w' w w' s.L bI S.blk (aN s.tm) (AR w ρ' H' s.L) (kN w.heap.size ρ' H' w' w s.L):=
  {good:=j9,hb:=t2,dom:=λj p h=>(t3.t3 j p.1 p.2 h).1,linj:=t3.t4,
   ginj:=λa b _ _ e=>by have e:base+a=base+b:=e;omega,g64:=λj hj=>by have:=Fx;show base+j+1<_;omega,
   g0:=λ_ _ _ _=>rfl,kept:=Kept.refl _ _ _,owns:=λj h h1 h2=>.inr ⟨j,h,h1,rfl,h2⟩,
   frF:=λb x hb hF=>⟨(iU hF).1,t3.t5 b (iU hF).2,λg h hh d9=>by
    rcases d9 with d9|d9
    ·exact d9
    ·rw[hle.own] at d9;obtain⟨j,g0,h0,q1,q2,q3⟩:=ho _ d9;have:=(j9.inj _ _ _ _ _ _ (hle.at_ _ _ _ q2) hh q1).1;omega⟩,
   frz:=λb x h _=>h}
 have ak1:OwnOk (lL w.heap.size ρ' H' w' w s.L bI S.blk.length (AR w ρ' H' s.L) (kN w.heap.size ρ' H' w' w s.L) vl):=λx hx=>by obtain⟨j,h,q1,q2,q3⟩:=hx;obtain⟨b,g,_,e,_⟩:=dl q1;have hj:=(t3.t3 _ _ _ e).1;obtain⟨g',hg'⟩:=AT hm q1 (by rw[q2];exact q3) hj;exact⟨j,g',h,q2,hg',aa4 hj c8⟩
 have ad5:∀j x,S.blk[j]? =some x->iS x=true->∃q,s.L j=some (base+j,0)/\H'.get (base+j)=some q/\BT ρ' (mW s H') S.blk s.L (aN s.tm) x q 0/\j<S.blk.length:=λj x hx p8=>by obtain⟨b,g,e1,q,e2,e3⟩:=t2 j _ hx;have:=(h_ e3).1 p8;subst this;have hj:=(t3.t3 _ _ _ e1).1;have:=t3.at0 e1 hj;subst this;exact⟨q,e1,e2,e3,hj⟩
 have ab8:∀j g h,Fw S.blk j->ρ'.at_ (base+j) g=some h->(lL w.heap.size ρ' H' w' w s.L bI S.blk.length (AR w ρ' H' s.L) (kN w.heap.size ρ' H' w' w s.L) vl).at_ (base+j) g=some h:=λj g h hc h1=>by obtain⟨k,C,t,hx⟩:=hc;obtain⟨q,e1,e2,e3,hj⟩:=ad5 j _ hx rfl;obtain⟨_,e⟩:=e3;subst e;exact jC hm hj ⟨_,_,_,_,_,e1,e2⟩ e1 h1 (j9.objO _ _ _ _ e2 _ _ h1).1
 refine⟨_,rfl,Good.addTab ⟨hm.to0,ak1.B⟩ (af_.mono λb x h=>ez (hle.frz _ _ h)),ak1,rfl,⟨T',λt a ha=>?_⟩,λρf wx hF=>?_⟩
 ·rcases AY ha with⟨h1,h2⟩|ha
  ·subst h2;exact⟨_,htk _ h1,.opq _⟩
  rcases po ha with⟨x,h1,h2,h3⟩|h
  ·subst h3;obtain⟨b,⟨v,hv,hr⟩,htv⟩:=sE (sG o6 (sD t1)) h1;exact⟨v,by rw[←h2];exact hv,TvA.vr hm htv hr⟩
  ·simp [T.get] at h
 ·have au6:=j9.below.size;refine⟨?_,λb x hx=>hF.frz _ _ (ez (hle.frz _ _ hx)),λb x hx c9=>?_,λx hx=>?_,λj h hc hh=>?_,λj g h hc hh=>hF.objs j g h hc (ab8 j g h hc (hle.at_ _ _ _ hh))⟩
  ·have hk:=j9.below;rw[hle.own] at hk;refine hk.trans ⟨hF.kept.os,hF.kept.tape,hF.kept.output,hF.kept.size,λx hx o7=>hF.kept.block x (by omega) λhpo=>?_⟩;obtain⟨_,_,_,_,q⟩:=hpo;rcases q with q|q
   ·omega
   ·rw[hle.own] at q;exact o7 q
  ·have h1:=hF.frzB b x hx (by omega);have h1:kN w.heap.size ρ' H' w' w s.L b=some x:=h1;unfold kN at h1;split at h1
   ·rename_i x' hx';injection h1 with h1;subst h1;have:=j9.frzB b _ hx' c9;rw[hle.frz0,hf0] at this;exact this
   ·split at h1
    ·rename_i hc;omega
    ·cases h1
  ·obtain⟨j,g,h,q1,q2,q3,q4⟩:=hF.ownx x hx;refine⟨j,g,h,q1,q2,q3, ?_⟩;rcases q4 with q4|⟨q4,g',q5⟩
   ·exact .inl (by omega)
   ·obtain⟨_,_,_,_,q6⟩:=q4;rcases q6 with q6|q6
    ·exact .inl q6
    ·rw[hle.own] at q6;refine .inr ⟨q6, ?_⟩;obtain⟨j',hj',e1,hGj⟩:=ew (show iG w.heap.size ρ' H' s.L bI S.blk.length (base+j) g'=some h from q5);have e1:base+j'=base+j:=e1;have:j'=j:=by omega
     subst this;obtain⟨b,g1,g2,e3,e4⟩:=dl (ed hGj).1;have:=t3.at0 e3 hj';subst this;obtain⟨j2,g3,h2,r1,r2,r3⟩:=ho _ q6;obtain⟨u1,u2⟩:=j9.inj _ _ _ _ _ _ (hle.at_ _ _ _ r2) e4 (by rw[r1,q1]);have:j2=j':=by omega
     subst this;subst u2;exact⟨g3,r2⟩
  ·have h1:=hle.at_ _ _ _ hh;obtain⟨x,hx,p8⟩:=hc;refine hF.stb j h ⟨x,hx,p8⟩ ?_;by_cases hob:Fw S.blk j
   ·exact ab8 j 0 h hob h1
   ·obtain⟨q,e1,e2,e3,hj⟩:=ad5 j x hx p8;have o7:¬zy H' s.L j:=λ⟨b2,g2,k,I,l,f1,f2⟩=>by rw[e1] at f1;injection f1 with f1;injection f1 with f1 _;subst f1;rw[e2] at f2;injection f2 with f2;obtain⟨k,C,t,e⟩:=(h_ e3).2.1.2 ⟨k,I,l,f2⟩;exact hob ⟨k,C,t,by rw[hx,e]⟩
    refine(ef hm hj o7).trans ?_;unfold bv;rw[e1];have:∀c g ty,q= .grow c g ty->¬c.len=0:=λc g ty e=>by
     subst e
     cases x with
     |cells ty l=>obtain⟨_,c,as,e,_⟩:=e3;cases e
     |sm m t=>obtain⟨_,e|⟨c,e,_⟩⟩:=e3 <;> cases e
     |arr m ty t=>obtain⟨_,e,l8⟩:=e3;injection e with e;subst e;intro h0;have h0:List.length _=0:=h0;omega
     |arb ty t=>obtain⟨_,e,l8⟩:=e3;injection e with e;subst e;intro h0;have h0:List.length _=0:=h0;omega
     |obj k C t=>obtain⟨_,e⟩:=e3;cases e
     |_=>cases p8
    simp only [e2];split
    ·rename_i e;injection e with e;rw[if_neg (this _ _ _ e)];exact h1
    ·exact h1
def qP{i j:Int}{as bs:List AV}(h:AV.tup [.int .i64 i,.tup as]= .tup [.int .i64 j,.tup bs]):i=j/\as=bs:=by injection h with h;injection h with h1 h2;injection h1 with _ h1;injection h2 with h2 _;injection h2 with h2;exact⟨h1,h2⟩
def RF{M:Tab}(hM:TabOk P M){n fn id:Nat}{S:LSpec}(hl:eW P fn id=true)(c8:S.blk.length<=64)(hgl:∀g ty l,S.gl=some (g,ty,l)->g<1048576)(h:∀z,S.inv z->∃hn,(S.roundFm P M n fn id z hn).den):
 ∀(m:Nat) (z:Sy),S.mu z=m->S.inv z->∃y,S.post z y/\mF P fn id S z y:=by
 intro m
 induction m using Nat.strongRecOn with
 |_ m ih=>
 intro z hm hz
 obtain⟨hn,hd⟩:=h z hz
 obtain⟨A,σf,e,hn',A'⟩:=Dm _ _ _ _ hd
 replace e:∀K,run (xf P M n (kR P fn id) (S.env z) (iV P fn id) fn none [] (Mi S)) (start (S.heap z) (base+64)) K=K A σf:=λK=>by rw[←e K,AX,RE];rfl
 have round:∀(w:World) (ρ:Rho) (a:Act) (Q:Exit->Act->World->Prop),Good w ρ (S.heap z) w->ER ρ (iV P fn id) (S.env z) a.tmps->a.defers= []->
  (∀(ρ':Rho) (w':World) (a':Act) (ex:AEx) (as:List AV),ρ.le ρ'->Good w ρ' σf.h w'->a'.tmps.size=iV P fn id->a'.defers= []->(∀t∈S.keep,a'.tmps[t]? =some (ρ.val t))->
   ((ex= .normal/\A= .tup [.int .i64 0,.tup as]/\Y_ ρ' S.tmps as a'.tmps)∨(ex≠ .normal/\∃i alt,qa S.alts i=some alt/\alt.ex=ex/\A= .tup [.int .i64 (.ofNat (i+1)),.tup as]/\Y_ ρ' alt.tmps as a'.tmps))->
   (match Y9 ex with | .normal=>jx P none (kR P fn id) Q a' w'|e=>Q e a' w'))->jx P none (kR P fn id) Q a w:=by
  intro w ρ a Q hG hE hdf ac4
  refine IY ((qM P hM w n).1 (kR P fn id) (S.env z) (iV P fn id) fn [] (Mi S) (start (S.heap z) (base+64)) (λa' s'=>dP (a'=A/\s'=σf)) ρ w a _ none none rfl (nG (by decide) (by decide)) hG hE (by rw[hdf];trivial) (by rw[e];exact fG.2 ⟨rfl,rfl⟩) (λex env' df' a9 ρ' w' a' q1 q2 q3 q4 q5 q6=>?_) (Mk hl))
  cases df' with
  |cons _ _=>exact(ah q1).elim
  |nil=>
  have hd':a'.defers= []:=by
   cases hd:a'.defers with
   |nil=>rfl
   |cons _ _=>rw[hd] at q6;exact q6.elim
  have toks:(∀n∈S.keep,env'.get n=some (.opq n))->∀t∈S.keep,a'.tmps[t]? =some (ρ.val t):=λh t ht=>by obtain⟨v,h1,h2⟩:=q5.val _ _ (h t ht);cases h2;rw[←q4.val];exact h1
  have alts:run (kS S.alts 1 ex env') a9 (λa' s'=>dP (a'=A/\s'=σf))=true->∃as,a9=σf/\∃i alt,qa S.alts i=some alt/\alt.ex=ex/\A= .tup [.int .i64 (.ofNat (i+1)),.tup as]/\Y_ ρ' alt.tmps as a'.tmps:=λq=>by obtain⟨j,alt,as,r1,r2,r3,r4,r5⟩:=xG q;exact⟨as,r5,j,alt,r1,r2,by rw[r4,Nat.add_comm],Ml q5 r3⟩
  have other:ex≠ .normal->run (Jc S.keep env' (kS S.alts 1 ex env')) a9 (λa' s'=>dP (a'=A/\s'=σf))=true->(match Y9 ex with | .normal=>jx P none (kR P fn id) Q a' w'|e=>Q e a' w'):=λm7 q=>by obtain⟨q,hk⟩:=AZ q;obtain⟨as,r1,r2⟩:=alts q;subst r1;exact ac4 ρ' w' a' ex as q4 q3 q5.size hd' (toks hk) (.inr ⟨m7,r2⟩)
  cases ex with
  |normal=>
   obtain⟨q1,hk⟩:=AZ (show run (Jc S.keep env' (pZ S.tmps env' λas=>.ret (.tup [.int .i64 0,.tup as]))) a9 _=true from q1)
   obtain⟨as,r1,r2⟩:=iW q1
   obtain⟨e1,e2⟩:=fG.1 (show dP (AV.tup [.int .i64 0,.tup as]=A/\a9=σf)=true from r1)
   subst e2
   exact ac4 ρ' w' a' .normal as q4 q3 q5.size hd' (toks hk) (.inl ⟨rfl,e1.symm,Ml q5 r2⟩)
  |exit i=>exact other (λh=>by cases h) q1
  |goto l=>exact other (λh=>by cases h) q1
  |ret=>exact other (λh=>by cases h) q1
 unfold UK at A'
 split at A'
 case h_2=>exact A'.elim
 rename_i i as
 split at A'
 ·split at A';case h_2=>exact A'.elim
  rename_i s hs;have hsp:=A'.1;obtain⟨k1,k2,k3⟩:=A'.2 A'.1;obtain⟨y,y1,y2⟩:=ih (S.mu (aN s.tm)) (by omega) (aN s.tm) rfl k1;refine⟨y,k3 y y1,λw ρ a Q hG ho hf0 hE hdf hQ=>round w ρ a Q hG hE hdf λρ' w' a' ex o9 hle j9 T' hd' htk hor=>?_⟩;rcases hor with⟨r1,r2,r3⟩|⟨_,i,alt,_,_,r2,_⟩
  ·subst r1;obtain⟨_,r2⟩:=qP r2;subst r2;obtain⟨ρ2,g0,g1,g2,g3,g4,g5⟩:=vJ (a':=a') ho hf0 j9 hle hs hsp T' r3 c8 (Good.tabIn (z:=z) hgl hG) htk;exact y2 w' ρ2 a' Q g1 g2 g3 g4 hd' λρf wx wf Hf af j alt asf sf hF h1 h2 h3 h4 h5 h6 h7 h8 h9=>hQ ρf wx wf Hf af j alt asf sf (g5 ρf wx hF) h1 h2 h3 h4 h5 h6 h7 h8 (by rw[←g0];exact h9)
  ·obtain⟨r2,_⟩:=qP r2;have r2:((0:Nat):Int)=((i+1:Nat):Int):=r2;omega
 ·rename_i j;split at A';case h_2=>exact A'.elim
  rename_i alt halt;split at A';case h_2=>exact A'.elim
  rename_i s hs;have hsp:=A'.1;have k1:=A'.2 A'.1;refine⟨aN s.tm,k1,λw ρ a Q hG ho hf0 hE hdf hQ=>round w ρ a Q hG hE hdf λρ' w' a' ex o9 hle j9 T' hd' htk hor=>?_⟩;rcases hor with⟨r1,r2,r3⟩|⟨m7,i,au7,r1,r1',r2,r3⟩
  ·obtain⟨r2,_⟩:=qP r2;have r2:((j+1:Nat):Int)=0:=r2;omega
  ·obtain⟨r2,r4⟩:=qP r2
   have r2:((j+1:Nat):Int)=((i+1:Nat):Int):=r2
   have r2:j=i:=by omega
   subst r2;subst r4
   rw[halt] at r1;injection r1 with r1;subst r1
   have hq:=hQ ρ' w w' σf.h a' j alt as s (FinRel.of_le hle ho hf0) j9 halt T' hd' r3 hs hsp rfl htk
   rw[r1'] at hq
   cases ex with
   |normal=>exact absurd rfl m7
   |_=>exact hq
end
noncomputable section
structure LTab where
 ptm:List (Nat×Sa)
 S:Sy->LSpec
def FB(e0:T AV)(id:Nat)(γ:lK)(y:Sy)(l:List Alt)(i:Nat)(k:AEx->T AV->Tr):Tr:=
 List.rec (motive:=λ_=>Nat->Tr) (λ_=>.fail) (λa l ih i=>
  let go:Tr:=WH γ y a.out 0 (vG γ y a.tmps e0 λenv=>match a.ex with
   | .exit j=>ac (Nat.beq j id) (k .normal env) (k (.exit j) env)
   |ex=>k ex env)
  List.rec (motive:=λ_=>Tr) go (λ_ _ _=>.ask (y.i 999=(i:Int)) go (ih (Nat.succ i))) l) l i
def WO(ptm:List (Nat×Sa))(LS:Sy->LSpec)(zf:(p z:Sy)->{y:Sy // (LS p).inv z->(LS p).post z y})(n id:Nat)(nt:Nat)(env:T AV)(k:AEx->T AV->Tr):Tr:=
 ac (Nat.beq nt n) (pZ ptm env λpas=>jA [] [] (Mg ptm) pas λpas=>du (iw .leaf [] (Mg ptm) pas ji) .fail λps=>
  Ru (LS (aN ps.tm)).gl <| pZ (LS (aN ps.tm)).tmps env λas=>jA [] (LS (aN ps.tm)).blk (Mg (LS (aN ps.tm)).tmps) as λas=>du (iw .leaf (LS (aN ps.tm)).blk (Mg (LS (aN ps.tm)).tmps) as ji) .fail λs=>
   vz (LS (aN ps.tm)).blk (LS (aN ps.tm)).blk 0 s λs=>du (l_ (LS (aN ps.tm)).blk s.ln s) .fail λs=>
    ac (ac (Mj n (LS (aN ps.tm))) (ma (List.length (LS (aN ps.tm)).blk) s.loc) false) (.req (s.pr/\(LS (aN ps.tm)).inv (aN s.tm))
     (.sk (λy=>(LS (aN ps.tm)).inv (aN s.tm)->(LS (aN ps.tm)).post (aN s.tm) y) (zf (aN ps.tm) (aN s.tm)) λy=>vH (LS (aN ps.tm)).keep env .leaf λe0=>FB e0 id (qu (LS (aN ps.tm)).blk (pk s)) y (LS (aN ps.tm)).alts 0 k)) .fail) .fail
end
section
variable{P:Program}{w0:World}{σ:St}{K:Fin}{ρ:Rho}
def Mm{e0:T AV}{id:Nat}{γ:lK}{y:Sy}{k:AEx->T AV->Tr}{i0:Nat}(hi:y.i 999=(i0:Int)):∀{l:List Alt} {i:Nat} {alt:Alt} {j:Nat},qa l j=some alt->i+j=i0->run (FB e0 id γ y l i k) σ K=true->
 run (WH γ y alt.out 0 (vG γ y alt.tmps e0 λenv=>match alt.ex with
  | .exit j=>ac (Nat.beq j id) (k .normal env) (k (.exit j) env)
  |ex=>k ex env)) σ K=true:=by
 intro l
 induction l with
 |nil=>intro i alt j h;cases h
 |cons a l ih=>
  intro i alt j h e hr
  cases l with
  |nil=>
   cases j with
   |zero=>injection h with h;subst h;exact hr
   |succ j=>cases h
  |cons b l=>
   rcases dw (show run (.ask (y.i 999=(i:Int)) (WH γ y a.out 0 (vG γ y a.tmps e0 λenv=>match a.ex with
    | .exit j=>ac (Nat.beq j id) (k .normal env) (k (.exit j) env)
    |ex=>k ex env)) (FB e0 id γ y (b::l) (Nat.succ i) k)) σ K=true from hr) with⟨hp,hr⟩|⟨hp,hr⟩
   ·have:j=0:=by omega
    subst this;injection h with h;subst h;exact hr
   ·cases j with
    |zero=>exact absurd (by rw[hi];congr 1;omega) hp
    |succ j=>exact ih h (by omega) hr
def Jg{n:Nat}{S:LSpec}(h:Mj n S=true):∀{i:Nat} {alt:Alt},qa S.alts i=some alt->pY S.blk alt.out=true/\alt.out.length=S.blk.length:=by
 have h:S.alts.all (λa=>ac (pY S.blk a.out) (Nat.beq a.out.length S.blk.length) false)=true:=(aD h).2;have key:∀{l:List Alt} {i:Nat} {alt:Alt},qa l i=some alt->alt∈l:=by
  intro l
  induction l with
  |nil=>intro i alt h;cases h
  |cons a l ih=>
   intro i alt h
   cases i with
   |zero=>injection h with h;rw[h];exact aan
   |succ i=>exact aal _ (ih h)
 intro i alt ha;obtain⟨h1,h2⟩:=aD ((List.all_eq_true.1 h) alt (key ha));exact⟨h1,aae h2⟩
def Jh{H:T ABlk}{n:Int}{l:List Sa}{blk:List BSh}{as:List AV}{s:PS}(h:vI H [(999,.i n)] l blk as=some s):(aN s.tm).i 999=n:=by obtain⟨s1,h1,h⟩:=az h;obtain⟨s2,h2,h⟩:=az h;obtain⟨s3,h3,h⟩:=az h;obtain⟨s4,h4,h⟩:=az h;obtain⟨h5,h⟩:=bc h;obtain⟨h6,h⟩:=bc h;injection h with h;subst h;obtain⟨f1,_⟩:=d_ h4;obtain⟨p1,_⟩:=ge (blk:=blk) h1;obtain⟨st,_,_⟩:=qN h2;obtain⟨b1,_⟩:=qO (ρ:=⟨λ_ _=>none,λ_=>undef,λ_=>False,λ_=>none,λ_=>none⟩) h3;exact L6 ((p1.trans (st.trans (b1.trans f1))).tm 999 (.i n) rfl)
def WP{fn id:Nat}{ptm:List (Nat×Sa)}{LS:Sy->LSpec}{zf:(p z:Sy)->{y:Sy // (LS p).inv z->(LS p).post z y}}(hl:eW P fn id=true)(c8:∀p,(LS p).blk.length<=64)(hC:∀p z,(LS p).inv z->mF P fn id (LS p) z (zf p z).1)(w0:World):
 UF P w0 fn id (WO ptm LS zf (iV P fn id) id):=by
 intro c env nt k σ0 K ρ0 w a Q hS0 hG0 hE0 hdf h hQ0 ai9
 have hc:=AU hl ai9
 subst hc
 obtain⟨hnt,z0⟩:=ay h
 have hnt:=aM hnt
 obtain⟨au8,z00,ar9⟩:=iW z0
 have al9:∀{l:List (Nat×Sa)} {as:List AV},cM (λ(x:Nat×Sa) a=>env.get x.1=some a) l as->∃vs,LR ρ0 as vs:=by
  intro l
  induction l with
  |nil=>intro as h;cases as with|nil=>exact⟨[],LR.nil _⟩|cons _ _=>exact h.elim
  |cons x l ih=>
   intro as h
   cases as with
   |nil=>exact h.elim
   |cons b as=>obtain⟨v,hv,hr⟩:=hE0.val _ _ h.1;obtain⟨vs,h1⟩:=ih h.2;exact⟨v::vs,LR.cons hr h1⟩
 obtain⟨pvs,ar_⟩:=al9 ar9
 obtain⟨pas,σ,ρ,z1,hS,hG,ap3,_,_⟩:=iT hS0 hG0 ar_ z00
 have hE:ER ρ nt env a.tmps:=hE0.mono ap3
 have hQ:L0 w0 ρ K nt k Q:=λex env' df' a9 ρ' w' a' q1 q2 q3 q4 q5 q6=>hQ0 ex env' df' a9 ρ' w' a' q1 q2 q3 (ap3.trans q4) q5 q6
 obtain⟨ps,uC,z2⟩:=ce z1
 obtain⟨p,hp⟩:∃p,p=aN ps.tm:=⟨_,rfl⟩
 rw[←hp] at z2
 obtain⟨σt,eh,hSt,z2t,af_⟩:=xE hS hG z2
 have hGt:Good w0 ρ σt.h w:=by rw[eh];exact hG
 obtain⟨as,z3,has⟩:=iW z2t
 have ap4:∀{l:List (Nat×Sa)} {as:List AV},cM (λ(x:Nat×Sa) a=>env.get x.1=some a) l as->∃vs,LR ρ as vs/\cM (λ(x:Nat×Sa) v=>a.tmps[x.1]? =some v) l vs:=by
  intro l
  induction l with
  |nil=>intro as h;cases as with|nil=>exact⟨[],LR.nil _,trivial⟩|cons _ _=>exact h.elim
  |cons x l ih=>
   intro as h
   cases as with
   |nil=>exact h.elim
   |cons b as=>obtain⟨v,hv,hr⟩:=hE.val _ _ h.1;obtain⟨vs,h1,h2⟩:=ih h.2;exact⟨v::vs,LR.cons hr h1,hv,h2⟩
 obtain⟨vs,as0,htv⟩:=ap4 has
 obtain⟨o9,b7,ρ1,z4,b6,b9,F',hlen,hlr⟩:=iT hSt hGt as0 z3
 obtain⟨s0,hs0,z5⟩:=ce z4
 obtain⟨s1,d8,ρ2,z6,f9,l7,j6,al6,_,J'⟩:=AO b6 b9 z5
 obtain⟨s2,hs2,z7⟩:=ce z6
 obtain⟨ai0,z8⟩:=ay z7
 obtain⟨⟨hpr,ac3⟩,z9⟩:=aP z8
 clear h z0 z00 z1 z2 z3 z4 z5 z6 z7 z8
 obtain⟨hcA,hcL⟩:=aD ai0
 obtain⟨p1,p2⟩:=ge (blk:=(LS p).blk) hs0
 obtain⟨f1,f2,f3,f4,_⟩:=d_ hs2
 have hln:=lB hs2 hpr
 have L':LR ρ2 o9 vs:=(hlr (by rw[←hlen];exact mE hs0)).mono j6
 have l9:=p2 s2 (al6.trans f1) hpr hln
 rw[kP] at l9
 have hL:=Fy l7 hs2 hpr J' (c8 p) hcL
 obtain⟨z,hz⟩:∃z,z=aN s2.tm:=⟨_,rfl⟩
 rw[←hz] at ac3 z9 l9 hL
 have z9:run (vH (LS p).keep env .leaf λe0=>FB e0 id (qu (LS p).blk (pk s2)) (zf p z).1 (LS p).alts 0 (λex env=>k ex env [])) d8 K=true:=z9
 rw[Mh] at z9
 obtain⟨vl,hvl⟩:∃vl:Nat->Value,vl=λt=>(a.tmps[t]?).getD undef:=⟨_,rfl⟩
 have hkp:∀t∈(LS p).keep,a.tmps[t]? =some (vl t):=λt ht=>by have c9:=aay (List.all_eq_true.1 (aD hcA).1 t ht);have e1:=aaQ (xs:=a.tmps) (i:=t) (by rw[hE.size,hnt];exact c9);rw[hvl];show a.tmps[t]? =some ((a.tmps[t]?).getD undef);rw[e1];rfl
 have hLb:=TvAs.lr (vl:=vl) hL.mv l9 L'
 have hER:ER (AS w0 ρ2 d8.h w s2.L (LS p).blk vl) nt ((LS p).env z) a.tmps:=by
  refine⟨hE.size,λt b hb=>?_⟩;rcases AY hb with⟨h1,h2⟩|hb
  ·subst h2;exact⟨_,hkp _ h1,.opq _⟩
  rcases po hb with⟨x,h1,h2,h3⟩|h
  ·subst h3;have key:∀{l:List (Nat×Sa)} {vs:List Value},cM (λ(x:Nat×Sa) v=>a.tmps[x.1]? =some v) l vs->LR (AS w0 ρ2 d8.h w s2.L (LS p).blk vl) (nJ bI z (Mg l)) vs->∀x∈l,∃v,a.tmps[x.1]? =some v/\VR (AS w0 ρ2 d8.h w s2.L (LS p).blk vl) (jy bI z x.2) v:=by
    intro l
    induction l with
    |nil=>intro vs _ _ x hx;cases hx
    |cons q l ih=>
     intro vs h1 h2 x hx
     cases vs with
     |nil=>exact h1.elim
     |cons v vs=>
      obtain⟨v',E',e,hv,q9⟩:=LR.cons_inv (show LR _ (jy bI z q.2::nJ bI z (Mg l)) (v::vs) from h2);injection e with e1 e2;subst e1;subst e2;rcases List.mem_cons.1 hx with e|hx
      ·subst e;exact⟨v,h1.1,hv⟩
      ·exact ih h1.2 q9 x hx
   obtain⟨v,r1,r2⟩:=key htv hLb x h1;exact⟨v,by rw[←h2];exact r1,r2⟩
  ·simp [T.get] at h
 subst hnt
 refine wpIn_block (Fr (hC p z ac3 w _ a _ ((hL.to (vl:=vl)).addTab ((af_.mono (F'.trans j6).frz).mono λb x h=>ez h)) hL.ownOk (frzE _ _ _ _ _ _ _).symm hER hdf λρ' wx w' H' a' i alt asf s hF j9 halt T' hd' o6 hpt hsp hy htk=>?_))
 have ap5:=Jh hpt
 obtain⟨t1,t2,t3⟩:=A0 (ρ:=ρ') hpt hsp
 rw[←hy] at t1 t2 ap5
 have z10:=Mm (i0:=i) ap5 halt (aap _) z9
 obtain⟨σ3,z11,hS3,e3,as4⟩:=Mb f9 z10
 obtain⟨hsk,ak2⟩:=Jg hcA halt
 obtain⟨ρ3,m1,m2,m3,_⟩:=UJ (F:=mW s H') hL hsk (λj x b g hx hl=>Fz hx hl) (λj h1 h2=>by omega) (λi hi=>by have:=as4 i hi;rwa [aap] at this) j9 hF (λb x hF=>⟨(iU hF).1,t3.t5 b (iU hF).2⟩) t2 (λj b g h=>by obtain⟨q1,_,q3⟩:=t3.t3 j b g h;have q2:j<alt.out.length->b=base+j:=λhj=>t3.at0 h hj;rw[ak2] at q1 q2 q3;exact⟨by rw[ak2];exact q1,λhj=>.inl (q2 hj),q3⟩) t3.t4
 rw[AX] at z11
 have hE2:ER ρ3 (iV P fn id) (AW (qu (LS p).blk (pk s2)) (zf p z).1 alt.tmps (p_ (LS p).keep env .leaf)) a'.tmps:=by
  refine⟨T',λt b hb=>?_⟩;rcases po hb with⟨x,h1,h2,h3⟩|h
  ·subst h3;obtain⟨b,⟨v,hv,hr⟩,htv⟩:=sE (sG o6 (sD t1)) h1;exact⟨v,by rw[←h2];exact hv,m3 _ _ _ htv hr⟩
  ·rcases Jd h with⟨h1,h2⟩|h
   ·obtain⟨v,h3,h4⟩:=hE.val _ _ h2;rw[hkp _ h1] at h3;injection h3 with h3;exact⟨v,by rw[←h3];exact htk _ h1,h4.mono ((F'.trans j6).trans m2)⟩
   ·simp [T.get] at h
 have hDR:DR ρ3 [] a'.defers:=by rw[hd'];trivial
 have hG3:Good w0 ρ3 σ3.h w':=by rw[e3];exact m1
 have fin:∀ex,run (k ex (AW (qu (LS p).blk (pk s2)) (zf p z).1 alt.tmps (p_ (LS p).keep env .leaf)) []) σ3 K=true->Q (Y9 ex) a' w':=λex hr=>hQ ex _ [] σ3 ρ3 w' a' hr hS3 hG3 ((F'.trans j6).trans m2) hE2 hDR
 generalize alt.ex=ex at z11
 cases ex with
 |normal=>exact fin .normal z11
 |exit j=>
  rcases bT z11 with⟨e,hr⟩|⟨e,hr⟩
  ·have e:=aM e;show(if j=id then Q .normal a' w' else Q (.exit j) a' w');rw[if_pos e];exact fin .normal hr
  ·show(if j=id then Q .normal a' w' else Q (.exit j) a' w');rw[if_neg (λe'=>by subst e';simp at e)];exact fin (.exit j) hr
 |goto l=>exact fin (.goto l) z11
 |ret=>exact fin .ret z11
end
end
end Go.Sym
namespace Go.Sym
open Go.RowKit (Below)
noncomputable section
def vK(x:Sh)(a:AV)(k:AV->Tr):Tr:=match x with
 | .v _ _=>(match a with
  | .gsl b g n es=>.rd b λq=>(match q with | .grow ct gen _=>ac (Nat.beq g gen) (.req (ct.len=n) (k (.cv ct))) .fail | .froz ct gen=>ac (Nat.beq g gen) (ac (Nat.beq ct.es es) (.req (ct.len=n) (k (.cv ct))) .fail) .fail|_=>.fail)
  |a=>k a)
 | .vb _=>(match a with
  | .gsl b g n es=>.rd b λq=>(match q with | .grow ct gen _=>ac (Nat.beq g gen) (.req (ct.len=n) (k (.cv ct))) .fail | .froz ct gen=>ac (Nat.beq g gen) (ac (Nat.beq ct.es es) (.req (ct.len=n) (k (.cv ct))) .fail) .fail|_=>.fail)
  | .slc b g o len cap es=>ac (Nat.beq 1 es) (Q2 [] b g o len cap 1 rG λct _=>k (.cv ct)) .fail
  |a=>k a)
 |_=>k a
def Dv(l:List Sh)(as:List AV)(k:List AV->Tr):Tr:=
 List.rec (motive:=λ_=>List AV->(List AV->Tr)->Tr) (λas k=>k as) (λx _ ih as k=>match as with
  | []=>k []
  |a::as=>vK x a λa=>ih as λas=>k (a::as)) l as k
def UL(l:List Sh)(b g:Nat)(k:AV->Tr):Tr:=.rd b λq=>match q with
 | .cells c gen _ _ _ _ _ _=>ac (Nat.ble g gen) (ac (Nat.ble 1 (List.length l)) (du (QN c g (List.length l) 0) .fail λas=>Dv l as λas=>k (.cptr as)) .fail) .fail
 |_=>.fail
def Mn(x:Sa)(a:AV)(k:AV->Tr):Tr:=match x with
 | .c x=>vK x a k
 | .ag _=>k a
 | .cp l=>(match a with
  | .ptr b g o=>ac (Nat.beq o 0) (UL l b g k) .fail
  |a=>k a)
def sH(l:List Sa)(as:List AV)(k:List AV->Tr):Tr:=
 List.rec (motive:=λ_=>List AV->(List AV->Tr)->Tr) (λas k=>k as) (λx _ ih as k=>match as with
  | []=>k []
  |a::as=>Mn x a λa=>ih as λas=>k (a::as)) l as k
def xH(x:Sh):Bool:=match x with
 | .i _ _=>true | .b _=>true | .s _=>true | .o=>true | .pi _ _=>true | .pb _=>true | .ps _=>true | .np=>true | .li _ _=>true | .nz=>true
 |_=>false
def xI(l:List Sh):Bool:=List.rec (motive:=λ_=>Bool) true (λx _ ih=>ac (xH x) ih false) l
def xJ(x:Sa):Bool:=match x with | .c x=>xH x | .ag l=>xI l | .cp _=>false
def xK(l:List Sa):Bool:=List.rec (motive:=λ_=>Bool) true (λx _ ih=>ac (xJ x) ih false) l
def Mo(r:Sr):Bool:=match r with | .one a=>xJ a | .tu l=>xK l
def Mp{α:Type}(l:List α):Bool:=match l with | []=>true|_=>false
def Mq(S:FSpec)(zf:(z:Sy)->{y:Sy // S.pre z->S.post z y})(args:List AV)(k:AV->Tr):Tr:=
 Ru S.gl <| sH S.args args λargs=>du (iw .leaf [] S.args args ji) .fail λs=>du (l_ [] s.ln s) .fail λs=>
  ac (ac (Mp S.blk) (ac (Mp (S.out (aN s.tm))) (Mo (S.res (aN s.tm))) false) false) (.req (s.pr/\S.pre (aN s.tm))
   (.sk (λy=>S.pre (aN s.tm)->S.post (aN s.tm) y) (zf (aN s.tm)) λy=>k (Dn bI y (S.res (aN s.tm))))) .fail
end
section
variable{P:Program}{w0:World}{ρ:Rho}{w:World}{σ:St}{K:Fin}
open Classical in
noncomputable def ux(ρ:Rho)(w:World)(b:Nat):Option (Array Value×TypeId):=match ρ.frz b with
 |some x=>some x
 |none=>(match w.heap[b]? with|some (.cells arr ty _)=>some (arr,ty)|_=>none)
noncomputable def sJ(ρ:Rho)(w:World):Rho:=⟨λ_ _=>none,ρ.val,λ_=>False,ux ρ w,ux ρ w⟩
def Dw{H:T ABlk}(hG:Good w0 ρ H w){b:Nat}{arr:Array Value}{ty:TypeId}(hf:ux ρ w b=some (arr,ty)):∃fr,w.heap[b]? =some (.cells arr ty fr):=by
 unfold ux at hf;split at hf
 ·rename_i x hx;injection hf with hf;subst hf;exact(hG.frz _ _ _ hx).1
 ·split at hf
  ·rename_i p7 ty' fr hw;injection hf with hf;injection hf with e1 e2;subst e1;subst e2;exact⟨fr,hw⟩
  ·cases hf
def ZX{H:T ABlk}(hG:Good w0 ρ H w):Good w (sJ ρ w) .leaf w:=
 ⟨⟨Kept.refl _ _ _,(λb x h=>by simp [T.get] at h),(λb g h hh=>by cases hh),(λb g h b' g' h' hh=>by cases hh),(λb g h x hh=>by cases hh),λb arr ty hf=>⟨Dw hG hf,λb' g h hh=>by cases hh⟩,λb x hf _=>hf,(λb k I l h=>by simp [T.get] at h)⟩,λx h=>h.elim⟩
def nO{b:Nat}{x:Array Value×TypeId}(h:ρ.frz b=some x):(sJ ρ w).frz b=some x:=by show ux ρ w b=_;unfold ux;rw[h]
def Cn(ρ:Rho)(w:World)(a':AV)(v:Value):Prop:=VR ρ a' v∨∃ct,a'= .cv ct/\VR (sJ ρ w) (.cv ct) v
def FC{H:T ABlk}(hG:Good w0 ρ H w){b g n es ty:Nat}{ct:Ct}{v:Value}(hq:H.get b=some (.grow ct g ty))(hn:ct.len=n)(hv:VR ρ (.gsl b g n es) v):Cn ρ w (.cv ct) v:=by
 refine .inr ⟨ct,rfl, ?_⟩
 cases hv with
 |gnil _ _ _=>exact .cvnil _ hn
 |gempty _ _ _ a=>exact .cvempty _ a hn
 |gsl _ _ _ _ hm c hn0 hh hs hc hz=>
  subst hn;rcases hG.blk _ _ hq with h0|⟨hm',r1,r2,r3,arr,fr,r4,r5,r6,r7,r8⟩
  ·omega
  rw[hh] at r1;injection r1 with r1;subst r1;refine .cv ct hm.blk 0 c arr ty ?_ hc (by omega) λi j a v hi ha hv=>?_
  ·show ux ρ w hm.blk=_
   unfold ux
   cases hf:ρ.frz hm.blk with
   |some x=>exact absurd rfl (hG.frzE (show ρ.frz hm.blk=some (x.1,x.2) from hf) hh hq (λh=>h))
   |none=>simp only [r4]
  ·obtain⟨u,u1,u2⟩:=r8 i hi j a ha;rw[aap,u1] at hv;injection hv with hv;subst hv;exact dq (λb x h=>nO h) u2 (mD ha)
def A1{b g n es:Nat}{k:AV->Tr}{v:Value}(hS:SI σ)(hG:Good w0 ρ σ.h w)(hv:VR ρ (.gsl b g n es) v)(h:run (.rd b λq=>(match q with | .grow ct gen _=>ac (Nat.beq g gen) (.req (ct.len=n) (k (.cv ct))) .fail | .froz ct gen=>ac (Nat.beq g gen) (ac (Nat.beq ct.es es) (.req (ct.len=n) (k (.cv ct))) .fail) .fail|_=>.fail)) σ K=true):
 ∃a' a9,run (k a') a9 K=true/\SI a9/\Good w0 ρ a9.h w/\Cn ρ w a' v:=by
 obtain⟨q,b7,hq,e1,b6,h⟩:=bE hS h
 have b9:Good w0 ρ b7.h w:=by rw[e1];exact hG
 cases q with
 |grow ct gen ty=>
  obtain⟨hg,z1⟩:=ay h
  obtain⟨hn,z2⟩:=aP z1
  have hg:=aM hg
  subst hg
  exact⟨_,b7,z2,b6,b9,FC hG hq hn hv⟩
 |froz ct gen=>
  obtain⟨hg,z1⟩:=ay h
  obtain⟨he,z1⟩:=ay z1
  obtain⟨hn,z2⟩:=aP z1
  have hg:=aM hg
  have he:=aM he
  subst hg;subst he;subst hn
  exact⟨_,b7,z2,b6,b9,.inl (js (hG.blk _ _ hq) hv)⟩
 |_=>exact(ah h).elim
def Mr{b g o len es:Nat}{cap:Option Nat}{k:AV->Tr}{v:Value}(hS:SI σ)(hG:Good w0 ρ σ.h w)(hv:VR ρ (.slc b g o len cap es) v)(h:run (ac (Nat.beq 1 es) (Q2 [] b g o len cap 1 rG λct _=>k (.cv ct)) .fail) σ K=true):
 ∃a' a9,run (k a') a9 K=true/\SI a9/\Good w0 ρ a9.h w/\Cn ρ w a' v:=by
 obtain⟨he,h⟩:=ay h
 have he:=aM he
 subst he
 obtain⟨ct,ty,b7,h1,b6,e1,c8,_,hl,_,l7,hvv⟩:=Fd hS hG kJ h
 exact⟨_,b7,h1,b6,by rw[e1];exact hG,FC l7 (T.get_set_same _ _ _ c8) hl (hvv ρ (.refl _) v hv)⟩
def A2{x:Sh}{a:AV}{k:AV->Tr}{v:Value}(hS:SI σ)(hG:Good w0 ρ σ.h w)(hv:VR ρ a v)(h:run (vK x a k) σ K=true):
 ∃a' a9,run (k a') a9 K=true/\SI a9/\Good w0 ρ a9.h w/\Cn ρ w a' v:=by
 have same:run (k a) σ K=true->∃a' a9,run (k a') a9 K=true/\SI a9/\Good w0 ρ a9.h w/\Cn ρ w a' v:=λh=>⟨a,σ,h,hS,hG,.inl hv⟩
 unfold vK at h
 cases x with
 |v m t=>
  simp only at h
  split at h
  ·exact A1 hS hG hv h
  ·exact same h
 |vb t=>
  simp only at h
  split at h
  ·exact A1 hS hG hv h
  ·exact Mr hS hG hv h
  ·exact same h
 |_=>exact same h
def Ji:∀{l:List Sh} {as:List AV} {k:List AV->Tr} {σ:St} {vs:List Value},SI σ->Good w0 ρ σ.h w->LR ρ as vs->run (Dv l as k) σ K=true->
 ∃o9 a9,run (k o9) a9 K=true/\SI a9/\Good w0 ρ a9.h w/\(l.length=as.length->cM (λa v=>Cn ρ w a v) o9 vs/\o9.length=as.length):=by
 intro l
 induction l with
 |nil=>intro as k σ vs hS hG hl h;exact⟨as,σ,h,hS,hG,λe=>by cases as with|nil=>rw[hl.nil_inv];exact⟨trivial,rfl⟩|cons _ _=>simp at e⟩
 |cons x l ih=>
  intro as k σ vs hS hG hl h
  cases as with
  |nil=>exact⟨[],σ,h,hS,hG,λe=>by simp at e⟩
  |cons a as=>
   obtain⟨v,E',rfl,hv,q9⟩:=hl.cons_inv
   obtain⟨a',b7,h1,h2,h3,h5⟩:=A2 hS hG hv (show run (vK x a λa=>Dv l as λas=>k (a::as)) σ K=true from h)
   obtain⟨o9,d8,q1,q2,q3,q4⟩:=ih h2 h3 q9 h1
   exact⟨a'::o9,d8,q1,q2,q3,λe=>⟨⟨h5,(q4 (by simpa using e)).1⟩,by simp [(q4 (by simpa using e)).2]⟩⟩
def Cp(ρ:Rho)(w:World)(a':AV)(v:Value):Prop:=∃o9 blk arr ty,a'= .cptr o9/\v= .pointer (some ⟨blk,0,none⟩)/\ux ρ w blk=some (arr,ty)/\o9.length<=arr.size/\cM (λa v=>Cn ρ w a v) o9 (arr.toList.take o9.length)
def ZY(ρ:Rho)(w:World)(a':AV)(v:Value):Prop:=Cn ρ w a' v∨Cp ρ w a' v
def Ms{l:List Sh}{b g:Nat}{k:AV->Tr}{v:Value}(hS:SI σ)(hG:Good w0 ρ σ.h w)(hv:VR ρ (.ptr b g 0) v)(h:run (UL l b g k) σ K=true):
 ∃a' a9,run (k a') a9 K=true/\SI a9/\Good w0 ρ a9.h w/\ZY ρ w a' v:=by
 obtain⟨q,b7,hq,e1,b6,h⟩:=bE hS h
 have b9:Good w0 ρ b7.h w:=by rw[e1];exact hG
 cases q with
 |cells c gen lo hi fl fh ro ty=>
  obtain⟨k1,z1⟩:=ay h
  obtain⟨k2,z2⟩:=ay z1
  obtain⟨as,hl,z3⟩:=ce z2
  have k1:=bU k1
  have k2:=bU k2
  obtain⟨hm,r1,r2,_,arr,fr,r3,r4,r5,r6⟩:=(hG.blk _ _ hq).2 g k1
  obtain⟨l1,l2⟩:=rQ hl
  cases hv with
  |ptr _ _ _ h0 hh ho=>
   rw[hh] at r1;injection r1 with r1;subst r1
   have hs0:h0.shift=0:=by omega
   have j5:∀j a,as[j]? =some a->∃u,arr[j]? =some u/\VR ρ a u:=λj a ha=>by obtain⟨tag,t1,t2⟩:=l2 j _ ha;rw[aap] at t1;obtain⟨s1,u,s2,s3⟩:=r6 _ _ _ t1 t2;rw[hs0,abp] at s2;exact⟨u,s2,s3⟩
   have T':as.length<=arr.size:=by
    rcases aah arr.size as.length with h'|h'
    ·obtain⟨u,hu,_⟩:=j5 arr.size _ (aak h');rw[aaV (aac _)] at hu;cases hu
    ·exact h'
   have hLR:LR ρ as (arr.toList.take as.length):=by
    refine⟨by rw[aao,aaN (xs:=arr)];omega,λj a u ha hu=>?_⟩;obtain⟨u',h1,h2⟩:=j5 j a ha;have hj:j<as.length:=by
     rcases aah j as.length with h'|h'
     ·exact h'
     ·rw[aam h'] at ha;cases ha
    rw[aav hj,aa0,h1] at hu;injection hu with hu;rw[←hu];exact h2
   obtain⟨o9,d8,q1,q2,q3,q4⟩:=Ji b6 b9 hLR z3
   obtain⟨q5,q6⟩:=q4 l1.symm
   refine⟨_,d8,q1,q2,q3,.inr ⟨o9,h0.blk,arr,ty,rfl,by rw[hs0], ?_,by omega,by rw[q6];exact q5⟩⟩
   unfold ux
   cases hf:ρ.frz h0.blk with
   |some x=>exact absurd rfl (hG.frzE (show ρ.frz h0.blk=some (x.1,x.2) from hf) hh hq (λh=>h))
   |none=>simp only [r3]
 |_=>exact(ah h).elim
def Jj:∀{l:List Sa} {as:List AV} {k:List AV->Tr} {σ:St} {vs:List Value},SI σ->Good w0 ρ σ.h w->LR ρ as vs->run (sH l as k) σ K=true->
 ∃o9 a9,run (k o9) a9 K=true/\SI a9/\Good w0 ρ a9.h w/\(l.length=o9.length->cM (λa v=>ZY ρ w a v) o9 vs/\o9.length=as.length):=by
 intro l
 induction l with
 |nil=>intro as k σ vs hS hG hl h;exact⟨as,σ,h,hS,hG,λe=>by cases as with|nil=>rw[hl.nil_inv];exact⟨trivial,rfl⟩|cons _ _=>simp at e⟩
 |cons x l ih=>
  intro as k σ vs hS hG hl h
  cases as with
  |nil=>exact⟨[],σ,h,hS,hG,λe=>by simp at e⟩
  |cons a as=>
   obtain⟨v,E',rfl,hv,q9⟩:=hl.cons_inv
   have h:run (Mn x a λa=>sH l as λas=>k (a::as)) σ K=true:=h
   have:∃a' a9,run (sH l as λas=>k (a'::as)) a9 K=true/\SI a9/\Good w0 ρ a9.h w/\ZY ρ w a' v:=by
    cases x with
    |c x=>obtain⟨a',a9,q1,q2,q3,q4⟩:=A2 hS hG hv (show run (vK x a λa=>sH l as λas=>k (a::as)) σ K=true from h);exact⟨a',a9,q1,q2,q3,.inl q4⟩
    |ag l=>exact⟨a,σ,h,hS,hG,.inl (.inl hv)⟩
    |cp l'=>
     unfold Mn at h;simp only at h;split at h
     ·rename_i b g o;obtain⟨e,h⟩:=ay h;have e:=aM e;subst e;exact Ms hS hG hv h
     ·exact⟨a,σ,h,hS,hG,.inl (.inl hv)⟩
   obtain⟨a',b7,h1,h2,h3,h5⟩:=this
   obtain⟨o9,d8,q1,q2,q3,q4⟩:=ih h2 h3 q9 h1
   exact⟨a'::o9,d8,q1,q2,q3,λe=>⟨⟨h5,(q4 (by simpa using e)).1⟩,by simp [(q4 (by simpa using e)).2]⟩⟩
def RdC.look{ct:Ct}{a:AV}{v:Value}(h:RdC (λ_=>none) ct a)(hv:Cn ρ w a v):VR (sJ ρ w) (.cv ct) v:=by
 rcases h with⟨e,h0⟩|e|⟨b,g,es,ty,_,_,hF⟩|⟨b,g,o,cap,c,gen,lo,hi,fl,fh,ty,as,_,_,hF,_⟩|⟨b,g,_,_,hF⟩
 ·subst e;rcases hv with hv|⟨_,e,_⟩
  ·cases hv;exact .cvnil _ h0
  ·cases e
 ·subst e;rcases hv with hv|⟨_,e,hv⟩
  ·exact dq (λb x h=>nO h) hv rfl
  ·injection e with e;subst e;exact hv
 ·cases hF
 ·cases hF
 ·cases hF
def RdC.nocp{ct:Ct}{l:List AV}(h:RdC (λ_=>none) ct (.cptr l)):False:=by
 rcases h with⟨e,h0⟩|e|⟨b,g,es,ty,_,_,hF⟩|⟨b,g,o,cap,c,gen,lo,hi,fl,fh,ty,as,_,_,hF,_⟩|⟨b,g,_,_,hF⟩
 ·cases e
 ·cases e
 ·cases hF
 ·cases hF
 ·cases hF
def Tv.look{L:Nat->Option (Nat×Nat)}{z:Sy}{x:Sh}{a:AV}{v:Value}(h:Tv (λ_=>none) [] L z x a)(hv:Cn ρ w a v):VR (sJ ρ w) (put bI z x) v:=by
 have num:∀{k n},cw a=some (k,n)->v= .int k n:=λhn=>by
  rcases hv with hv|⟨_,e,_⟩
  ·exact bo hv hn
  ·subst e;cases hn
 have pr:∀{q},dO a=some q->∃b,v= .bool b/\(b=true↔q):=λhn=>by
  rcases hv with hv|⟨_,e,_⟩
  ·exact eR hv hn
  ·subst e;cases hn
 have st:∀{l},gp a=some l->∃s,v= .string s/\l=bytesOf s:=λhn=>by
  rcases hv with hv|⟨_,e,_⟩
  ·exact dD hv hn
  ·subst e;cases hn
 cases x with
 |i k t=>have h:cw a=some (k,z.i t):=h;rw[num h];exact .sI _ _
 |b t=>have h:dO a=some (z.p t):=h;obtain⟨b,e,hb⟩:=pr h;rw[e];exact .sB _ b hb
 |s t=>have h:gp a=some (z.s t):=h;obtain⟨s,e,hs⟩:=st h;rw[e];show VR _ (.sS (z.s t)) _;rw[hs];exact .sS s
 |o=>
  rcases hv with hv|⟨_,e,hv⟩
  ·exact .any1 v (jm hv h)
  ·exact .any1 v (jm hv rfl)
 |v m t=>exact RdC.look h hv
 |vb t=>exact RdC.look h hv
 |pi k n=>have h:cw a=some (k,n):=h;rw[num h];exact .sI _ _
 |pb q=>obtain⟨q',h1,h2⟩:=h;obtain⟨b,e,hb⟩:=pr h1;rw[e];exact .sB _ b (hb.trans h2)
 |ps l=>have h:gp a=some l:=h;obtain⟨s,e,hs⟩:=st h;rw[e];show VR _ (.sS l) _;rw[hs];exact .sS s
 |pv m l=>exact RdC.look h hv
 |pvb l=>exact RdC.look h hv
 |np=>
  have h:a= .nilp:=h;subst h;rcases hv with hv|⟨_,e,_⟩
  ·cases hv;exact .nilp
  ·cases e
 |li k n=>
  have h:a= .int k n:=h;subst h;rcases hv with hv|⟨_,e,_⟩
  ·cases hv;exact .int _ _
  ·cases e
 |nz=>
  have h:a= .nils:=h;subst h;rcases hv with hv|⟨_,e,_⟩
  ·cases hv;exact .nils
  ·cases e
 |p j=>obtain⟨_,_,_,hc⟩:=h;cases hc
 |m j=>obtain⟨_,_,_,hc⟩:=h;cases hc
 |fn f j=>obtain⟨_,_,_,hc⟩:=h;cases hc
 |g j es t=>obtain⟨_,_,_,_,_,_,hc⟩:=h;simp at hc
 |gb j t=>obtain⟨_,_,_,_,_,hc⟩:=h;simp at hc
def pp{α:Type}{C:AV->Value->Prop}{R:α->AV->Prop}{f:α->AV}{fs:List α->List AV}(hf0:fs []= [])(hfs:∀x l,fs (x::l)=f x::fs l)(hR:∀x a v,R x a->C a v->VR (sJ ρ w) (f x) v):
 ∀{l:List α} {as:List AV} {vs:List Value},cM R l as->cM C as vs->LR (sJ ρ w) (fs l) vs
 | [],[],[],_,_=>by rw[hf0];exact LR.nil _
 |x::l,a::as,v::vs,⟨h1,h2⟩,⟨h3,h4⟩=>by rw[hfs];exact LR.cons (hR x a v h1 h3) (pp hf0 hfs hR h2 h4)
 | [],_::_,_,h,_=>h.elim
 |_::_,[],_,h,_=>h.elim
 | [],[],_::_,_,h=>h.elim
 |_::_,_::_,[],_,h=>h.elim
def LR.cn:∀{as:List AV} {vs:List Value},LR ρ as vs->cM (λa v=>Cn ρ w a v) as vs:=by
 intro as
 induction as with
 |nil=>intro vs h;rw[h.nil_inv];trivial
 |cons a as ih=>intro vs h;obtain⟨v,E',rfl,hv,h'⟩:=h.cons_inv;exact⟨.inl hv,ih h'⟩
def Tvs.look{L:Nat->Option (Nat×Nat)}{z:Sy}{l:List Sh}{as:List AV}{vs:List Value}(ha:cM (Tv (λ_=>none) [] L z) l as)(h:cM (λa v=>Cn ρ w a v) as vs):LR (sJ ρ w) (nI bI z l) vs:=
 pp (C:=λa v=>Cn ρ w a v) (fs:=nI bI z) rfl (λ_ _=>rfl) (λ_ _ _ h hv=>Tv.look h hv) ha h
def TvA.look{L:Nat->Option (Nat×Nat)}{z:Sy}{x:Sa}{a:AV}{v:Value}(h:TvA (λ_=>none) [] L z x a)(hv:ZY ρ w a v):VR (sJ ρ w) (jy bI z x) v:=by
 cases x with
 |c x=>
  rcases hv with hv|⟨o9,_,_,_,e,ev⟩
  ·exact Tv.look h hv
  ·subst e
   have h:Tv (λ_=>none) [] L z x (.cptr o9):=h
   cases x with
   |i k t=>have h:cw (.cptr o9)=some (k,z.i t):=h;cases h
   |b t=>have h:dO (.cptr o9)=some (z.p t):=h;cases h
   |s t=>have h:gp (.cptr o9)=some (z.s t):=h;cases h
   |o=>exact .any1 v (by rw[ev.1];rfl)
   |v m t=>exact(RdC.nocp h).elim
   |vb t=>exact(RdC.nocp h).elim
   |pi k n=>have h:cw (.cptr o9)=some (k,n):=h;cases h
   |pb q=>obtain⟨q',h1,_⟩:=h;cases h1
   |ps l=>have h:gp (.cptr o9)=some l:=h;cases h
   |pv m l=>exact(RdC.nocp h).elim
   |pvb l=>exact(RdC.nocp h).elim
   |np=>have h:AV.cptr o9= .nilp:=h;cases h
   |li k n=>have h:AV.cptr o9= .int k n:=h;cases h
   |nz=>have h:AV.cptr o9= .nils:=h;cases h
   |p j=>obtain⟨_,_,_,hc⟩:=h;cases hc
   |m j=>obtain⟨_,_,_,hc⟩:=h;cases hc
   |fn f j=>obtain⟨_,_,_,hc⟩:=h;cases hc
   |g j es t=>obtain⟨_,_,_,_,_,_,hc⟩:=h;simp at hc
   |gb j t=>obtain⟨_,_,_,_,_,hc⟩:=h;simp at hc
 |ag l=>
  obtain⟨as,e,ha⟩:=h;subst e;rcases hv with(hv|⟨_,e,_⟩)|⟨_,_,_,_,e,_⟩
  ·cases hv with
   |agg _ cs h1 h2=>obtain⟨q1,q2⟩:=(Tvs.look ha (LR.of_arr h1 h2).cn).arr;exact .agg _ cs q1 q2
  ·cases e
  ·cases e
 |cp l=>
  obtain⟨as,e,ha⟩:=h;subst e;rcases hv with(hv|⟨_,e,_⟩)|⟨o9,blk,arr,ty,e,ev,hf,T',hc⟩
  ·cases hv with
   |cptr _ bl off arr ty hf hb r=>exact vC hf (nO hf) hb r λvs hl=>Tvs.look ha hl.cn
  ·cases e
  ·injection e with e;subst e;subst ev;obtain⟨e2,hr⟩:=Tvs.look ha hc;rw[aao,aaN (xs:=arr)] at e2;refine .cptr _ blk 0 arr ty hf (by omega) λj a u ha2 hu=>hr j a u ha2 ?_;have hj:j<(nI bI z l).length:=by
    rcases aah j (nI bI z l).length with h'|h'
    ·exact h'
    ·rw[aam h'] at ha2;cases ha2
   rw[aav (by omega),aa0];rw[aap] at hu;exact hu
def A3{ρ1 ρ2:Rho}{F:Nat->Option ABlk}{blk:List BSh}{L:Nat->Option (Nat×Nat)}{y:Sy}{x:Sh}{a:AV}{v:Value}(hp:xH x=true)(h:Tv F blk L y x a)(hv:VR ρ1 a v):VR ρ2 (put bI y x) v:=by
 cases x with
 |i k t=>have h:cw a=some (k,y.i t):=h;rw[bo hv h];exact .sI _ _
 |b t=>have h:dO a=some (y.p t):=h;obtain⟨b,e,hb⟩:=eR hv h;rw[e];exact .sB _ b hb
 |s t=>have h:gp a=some (y.s t):=h;obtain⟨s,e,hs⟩:=dD hv h;rw[e];show VR _ (.sS (y.s t)) _;rw[hs];exact .sS s
 |o=>exact .any1 v (jm hv h)
 |pi k n=>have h:cw a=some (k,n):=h;rw[bo hv h];exact .sI _ _
 |pb q=>obtain⟨q',h1,h2⟩:=h;obtain⟨b,e,hb⟩:=eR hv h1;rw[e];exact .sB _ b (hb.trans h2)
 |ps l=>have h:gp a=some l:=h;obtain⟨s,e,hs⟩:=dD hv h;rw[e];show VR _ (.sS l) _;rw[hs];exact .sS s
 |np=>have h:a= .nilp:=h;subst h;cases hv;exact .nilp
 |li k n=>have h:a= .int k n:=h;subst h;cases hv;exact .int _ _
 |nz=>have h:a= .nils:=h;subst h;cases hv;exact .nils
 |_=>cases hp
def vL{ρ1 ρ2:Rho}{F:Nat->Option ABlk}{blk:List BSh}{L:Nat->Option (Nat×Nat)}{y:Sy}:∀{l:List Sh} {as:List AV} {vs:List Value},xI l=true->cM (Tv F blk L y) l as->LR ρ1 as vs->LR ρ2 (nI bI y l) vs
 | [],[],vs,_,_,h=>by rw[h.nil_inv];exact LR.nil _
 |x::l,a::as,vs,hp,⟨h1,h2⟩,h=>by obtain⟨v,E',rfl,hv,h'⟩:=h.cons_inv;obtain⟨p1,p2⟩:=aD (show ac (xH x) (xI l) false=true from hp);exact LR.cons (A3 p1 h1 hv) (vL p2 h2 h')
 | [],_::_,_,_,h,_=>h.elim
 |_::_,[],_,_,h,_=>h.elim
def vM{ρ1 ρ2:Rho}{F:Nat->Option ABlk}{blk:List BSh}{L:Nat->Option (Nat×Nat)}{y:Sy}{x:Sa}{a:AV}{v:Value}(hp:xJ x=true)(h:TvA F blk L y x a)(hv:VR ρ1 a v):VR ρ2 (jy bI y x) v:=by
 cases x with
 |c x=>exact A3 hp h hv
 |ag l=>
  obtain⟨as,e,ha⟩:=h
  subst e
  cases hv with
  |agg _ cs h1 h2=>obtain⟨q1,q2⟩:=(vL (ρ2:=ρ2) hp ha (LR.of_arr h1 h2)).arr;exact .agg _ cs q1 q2
 |cp l=>cases hp
def sK{ρ1 ρ2:Rho}{F:Nat->Option ABlk}{blk:List BSh}{L:Nat->Option (Nat×Nat)}{y:Sy}:∀{l:List Sa} {as:List AV} {vs:List Value},xK l=true->cM (TvA F blk L y) l as->LR ρ1 as vs->LR ρ2 (nJ bI y l) vs
 | [],[],vs,_,_,h=>by rw[h.nil_inv];exact LR.nil _
 |x::l,a::as,vs,hp,⟨h1,h2⟩,h=>by obtain⟨v,E',rfl,hv,h'⟩:=h.cons_inv;obtain⟨p1,p2⟩:=aD (show ac (xJ x) (xK l) false=true from hp);exact LR.cons (vM p1 h1 hv) (sK p2 h2 h')
 | [],_::_,_,_,h,_=>h.elim
 |_::_,[],_,_,h,_=>h.elim
def Jk{ρ1 ρ2:Rho}{F:Nat->Option ABlk}{blk:List BSh}{L:Nat->Option (Nat×Nat)}{y:Sy}{x:Sr}{a:AV}{v:Value}(hp:Mo x=true)(h:TvR F blk L y x a)(hv:VR ρ1 a v):VR ρ2 (Dn bI y x) v:=by
 cases x with
 |one x=>exact vM hp h hv
 |tu l=>
  obtain⟨as,e,ha⟩:=h
  subst e
  cases hv with
  |tup _ cs h1 h2=>obtain⟨q1,q2⟩:=(sK (ρ2:=ρ2) hp ha (LR.of_arr h1 h2)).arr;exact .tup _ cs q1 q2
def RG{f:Nat}{S:FSpec}{zf:(z:Sy)->{y:Sy // S.pre z->S.post z y}}(hC:kQ P f S zf)(w0:World)(l:List AV):WG P w0 f l (Mq S zf l):=by
 intro vs k σ0 K ρ w R hS0 hG0 hl h0 hR;obtain⟨σ,eh,hS,h,af_⟩:=xE hS0 hG0 h0;have hG:Good w0 ρ σ.h w:=by rw[eh];exact hG0
 clear h0 hG0 hS0;obtain⟨l',b7,z1,b6,b9,hcn⟩:=Jj hS hG hl h;obtain⟨s0,hs0,z2⟩:=ce z1;obtain⟨s2,hs2,z4⟩:=ce z2;obtain⟨ai0,z5⟩:=ay z4;obtain⟨⟨hpr,ac3⟩,z6⟩:=aP z5;clear h z1 z2 z4 z5;obtain⟨hc1,hc2⟩:=aD ai0;obtain⟨hc3,hc4⟩:=aD hc2;obtain⟨p1,p2⟩:=ge (blk:=[]) hs0;obtain⟨f1,_⟩:=d_ hs2;have hln:=lB hs2 hpr;have l9:=p2 s2 f1 hpr hln;rw[kP] at l9;have hcv:=(hcn (mE hs0)).1;obtain⟨z,hz⟩:∃z,z=aN s2.tm:=⟨_,rfl⟩
 rw[←hz] at ac3 z6 l9 hc3 hc4;have z6:run (k (Dn bI (zf z).1 (S.res z))) b7 K=true:=z6;have hLb:=pp (C:=λa v=>ZY ρ w a v) (fs:=nJ bI z) rfl (λ_ _=>rfl) (λ_ _ _ h hv=>TvA.look h hv) l9 hcv;have hbl:S.blk= []:=by cases hb:S.blk with|nil=>rfl|cons _ _=>rw[hb] at hc1;cases hc1
 have hgz:Good w (sJ ρ w) (S.heap z) w:=by unfold FSpec.heap;rw[hbl];exact(ZX b9).addTab (z:=z) (blk:=[]) (af_.mono λb x h=>nO h)
 obtain⟨hcf,ag0⟩:=hC z ac3 w (sJ ρ w) vs hgz hLb;refine⟨hcf,ag0.mono λe w' he=>?_⟩;obtain⟨v,ρ',H',a,s,rfl,j9,ad7,hva,ac4,al8,hzf⟩:=he;obtain⟨t1,_,_⟩:=sz (ρ:=ρ') ac4 al8;rw[←hzf] at t1;have al_:Below w.heap.size w w':=j9.below.below λx=>by rw[ad7.own];exact λh=>h
 exact hR _ v b7 ρ w' z6 b6 (b9.later al_) (Rho.le.refl ρ) (Jk hc4 t1 hva)
end
end Go.Sym
namespace Go.Sym
theorem ak(s:List Nat):(mj s).length=s.length:=aaR ..
theorem ao{a:List Nat}(h:¬a= []):0<a.length:=List.length_pos_iff.2 h
def pq(n:Int):IntKind.wrap .u64 n=n%18446744073709551616:=rfl
def nP(n:Int):IntKind.wrap .u8 n=n%256:=rfl
noncomputable section
def Fm.ana_den{a q:Prop}{r:Sy->Prop}{f:Sy->Fm}(h1:a/\q)(h2:a/\q->∀y,r y->(f y).den):(Fm.an (a/\q) (Fm.al (λy=>q->r y) f)).den:=⟨h1,λh y hy=>h2 h y (hy h1.2)⟩
def cd{a q:Prop}{r:Sy->Prop}{f:Sy->Fm}(h1:a/\q)(h2:a/\q->∀y,r y->(f y).den):(Fm.an (a/\q) (Fm.al (λy=>q->r y) f)).den:=Fm.ana_den h1 h2
def ck{p:Prop}{f g:Fm}(h1:p->f.den)(h2:¬p->g.den):(Fm.two p f g).den:=⟨h1,h2⟩
def cg{p:Prop}{f:Fm}(h1:p)(h2:p->f.den):(Fm.an p f).den:=⟨h1,h2⟩
def cE{p:Sy->Prop}{f:Sy->Fm}(h:∀y,p y->(f y).den):(Fm.al p f).den:=h
def cr{p:Prop}(h:p):(Fm.at p).den:=h
abbrev Zf(S:FSpec):=(z:Sy)->{y:Sy // S.pre z->S.post z y}
abbrev Lf0(LS:Sy->LSpec):=(p z:Sy)->{y:Sy // (LS p).inv z->(LS p).post z y}
structure Ent where
 f:Nat
 S:FSpec
 zf:(z:Sy)->{y:Sy // S.pre z->S.post z y}
 look:Bool:=false
structure LEnt where
 fn:Nat
 id:Nat
 n:Nat
 ptm:List (Nat×Sa)
 LS:Sy->LSpec
 zf:(p z:Sy)->{y:Sy // (LS p).inv z->(LS p).post z y}
def WQ(l:List Ent)(f:Nat)(args:List AV):Option ((AV->Tr)->Tr):=
 List.rec (motive:=λ_=>Option ((AV->Tr)->Tr)) none (λe _ ih=>ac (Nat.beq e.f f) (some (ac e.look (Mq e.S e.zf args) (WI e.S e.zf args))) ih) l
def WR(l:List LEnt)(fn id:Nat):Option (Nat->T AV->(AEx->T AV->Tr)->Tr):=
 List.rec (motive:=λ_=>Option (Nat->T AV->(AEx->T AV->Tr)->Tr)) none (λe _ ih=>ac (ac (Nat.beq e.fn fn) (Nat.beq e.id id) false) (some (WO e.ptm e.LS e.zf e.n e.id)) ih) l
def nQ(m:List Memo)(c:List Ent)(l:List LEnt):Tab:=⟨m,WQ c,WR l⟩
def ia(P:Program)(e:Ent):Prop:=kQ P e.f e.S e.zf
def fJ(P:Program)(e:LEnt):Prop:=eW P e.fn e.id=true/\e.n=iV P e.fn e.id/\(∀p,(e.LS p).blk.length<=64)/\∀p z,(e.LS p).inv z->mF P e.fn e.id (e.LS p) z (e.zf p z).1
end
def Ok(P:Program)(f:Nat)(S:FSpec):Prop:=∃zf,kQ P f S zf
def ZZ(P:Program)(fn id:Nat)(LS:Sy->LSpec):Prop:=∃zf:Lf0 LS,eW P fn id=true/\(∀p,(LS p).blk.length<=64)/\∀p z,(LS p).inv z->mF P fn id (LS p) z (zf p z).1
def nR{P:Program}{m:List Memo}{c:List Ent}{l:List LEnt}(hm:∀x∈m,my P x)(hc:∀e∈c,ia P e)(hl:∀e∈l,fJ P e):TabOk P (nQ m c l) where
 memos:=hm
 con:=λw0 f args t h=>by
  replace h:WQ c f args=some t:=h
  clear hl hm
  induction c with
  |nil=>cases h
  |cons e c ih=>
   replace h:ac (Nat.beq e.f f) (some (ac e.look (Mq e.S e.zf args) (WI e.S e.zf args))) (WQ c f args)=some t:=h;rw[ar] at h;split at h
   ·rename_i hf
    have hf:=aae hf
    injection h with h
    subst hf;subst h
    cases hlk:e.look with
    |true=>exact RG (hc e aan) w0 args
    |false=>exact WL (hc e aan) w0 args
   ·exact ih (λe he=>hc e (aal _ he)) h
 blk:=λw0 fn id t h=>by
  replace h:WR l fn id=some t:=h
  clear hc hm
  induction l with
  |nil=>cases h
  |cons e l ih=>
   replace h:ac (ac (Nat.beq e.fn fn) (Nat.beq e.id id) false) (some (WO e.ptm e.LS e.zf e.n e.id)) (WR l fn id)=some t:=h;rw[ar] at h;split at h
   ·rename_i hf;obtain⟨h1,h2⟩:=aD hf;have h1:=aae h1;have h2:=aae h2;injection h with h;subst h1;subst h2;subst h;obtain⟨q1,q2,q3,q4⟩:=hl e aan;rw[q2];exact WP q1 q3 q4 w0
   ·exact ih (λe he=>hl e (aal _ he)) h
def WS{P:Program}{M:Tab}(hM:TabOk P M){n fn id:Nat}{LS:Sy->LSpec}(hl:eW P fn id=true)(c8:∀p,(LS p).blk.length<=64)(h:∀p z,(LS p).inv z->∃hn,((LS p).roundFm P M n fn id z hn).den)(hgl:∀p g ty l,(LS p).gl=some (g,ty,l)->g<1048576:=by intro p g ty l h;cases h):ZZ P fn id LS:=by
 have key:∀p z,∃y:{y:Sy // (LS p).inv z->(LS p).post z y},(LS p).inv z->mF P fn id (LS p) z y.1:=λp z=>by
  by_cases hz:(LS p).inv z
  ·obtain⟨y,h1,h2⟩:=RF hM hl (c8 p) (hgl p) (h p) _ z rfl hz;exact⟨⟨y,λ_=>h1⟩,λ_=>h2⟩
  ·exact⟨⟨⟨λ_=>0,λ_=>[],λ_=>False,λ_=>[]⟩,λh=>absurd h hz⟩,λh=>absurd h hz⟩
 exact⟨λp z=>Classical.choose (key p z),hl,c8,λp z hz=>abv (key p z) hz⟩
def Mt{P:Program}{f:Nat}{S:FSpec}{zf:Zf S}{look:Bool}(h:kQ P f S zf):ia P ⟨f,S,zf,look⟩:=h
def Jl{P:Program}{fn id:Nat}{ptm:List (Nat×Sa)}{LS:Sy->LSpec}{zf:Lf0 LS}(h:eW P fn id=true/\(∀p,(LS p).blk.length<=64)/\∀p z,(LS p).inv z->mF P fn id (LS p) z (zf p z).1):fJ P ⟨fn,id,iV P fn id,ptm,LS,zf⟩:=⟨h.1,rfl,h.2.1,h.2.2⟩
def mN{P:Program}:∀x∈([]:List Memo),my P x:=λ_ h=>by cases h
def eN{P:Program}:∀e∈([]:List Ent),ia P e:=λ_ h=>by cases h
def lN{P:Program}:∀e∈([]:List LEnt),fJ P e:=λ_ h=>by cases h
def eC{P:Program}{f:Nat}{S:FSpec}{zf:Zf S}{look:Bool}{l:List Ent}(h:kQ P f S zf)(hl:∀e∈l,ia P e):∀e∈(⟨f,S,zf,look⟩:Ent)::l,ia P e:=λe he=>by
 rcases List.mem_cons.1 he with rfl|he
 ·exact Mt h
 ·exact hl e he
def lC{P:Program}{fn id:Nat}{ptm:List (Nat×Sa)}{LS:Sy->LSpec}{zf:Lf0 LS}{l:List LEnt}(h:eW P fn id=true/\(∀p,(LS p).blk.length<=64)/\∀p z,(LS p).inv z->mF P fn id (LS p) z (zf p z).1)(hl:∀e∈l,fJ P e):∀e∈(⟨fn,id,iV P fn id,ptm,LS,zf⟩:LEnt)::l,fJ P e:=λe he=>by
 rcases List.mem_cons.1 he with rfl|he
 ·exact Jl h
 ·exact hl e he
end Go.Sym
namespace Go.Sym
noncomputable section
def WT(n:Nat)(_:Nat->Tr)(ih:Nat->St->Lf->Hn->Fm)(σ:St)(K:Lf)(hn:Hn):Fm:=
 ac (Nat.ble n 1) (ih 0 σ K hn) (St.rec (motive:=λ_=>Fm) (λ_ _ fs _ _=>ac (ac (Nat.beq n 2) (Nat.beq fs 0) false) (.al (λ_=>True) λy=>I1 (y.p 0) .fail .fail (ih 0) (ih 1) σ K hn) .ff) σ)
def FD(t:Tr):St->Lf->Hn->Fm:=Tr.rec (motive:=λ_=>St->Lf->Hn->Fm) UG ZN eRd eWr ZO WT ZQ I1 ZR eSk t
def EvM(r:Fin->Bool)(Φ:AV->St->Prop):Prop:=∀K:Fin,(∀a σ,Φ a σ->K a σ=true)->r K=true
def EvM.congr{r r':Fin->Bool}{Φ:AV->St->Prop}(h:∀K,r K=r' K)(he:EvM r' Φ):EvM r Φ:=λK hK=>(h K).trans (he K hK)
def WU{p:Prop}{t e:Tr}{it ie:St->Lf->Hn->Fm}{σ:St}{K:Lf}{hn:Hn}(h:(I1 p t e it ie σ K hn).den):(p->∃a,(it σ K a).den)/\(¬p->∃a,(ie σ K a).den):=by
 have both:∀a b,(Fm.two p (it σ K a) (ie σ K b)).den->(p->∃a,(it σ K a).den)/\(¬p->∃a,(ie σ K a).den):=λa b h=>⟨λq=>⟨a,h.1 q⟩,λq=>⟨b,h.2 q⟩⟩
 cases hn with
 |nil=>exact both _ _ h
 |both a b=>exact both _ _ h
 |yes a=>have h:(Fm.an p (it σ K a)).den:=h;exact⟨λ_=>⟨a,h.2 h.1⟩,λq=>absurd h.1 q⟩
 |no a=>have h:(Fm.an (¬p) (ie σ K a)).den:=h;exact⟨λq=>absurd q h.1,λ_=>⟨a,h.2 h.1⟩⟩
def WV:∀(t:Tr) (σ:St) (K:Lf) (hn:Hn),(FD t σ K hn).den->EvM (run t σ) λa a9=>∃hn',(K a a9 hn').den:=by
 intro t
 induction t with
 |fail=>intro σ K hn h;exact h.elim
 |ret a=>intro σ K hn h Q hQ;exact hQ _ _ ⟨hn,h⟩
 |rd b k ih=>
  intro σ K hn h
  cases σ with
  |mk H n fs t w=>
   have h:(ac (Nat.ble (Nat.succ b) n) (T.getK H b Fm.ff λx=>lZ fs b t λt=>FD (k x) (.mk H n fs t w) K hn) .ff).den:=h;rw[ar] at h;split at h
   ·rename_i hb;have hb:=aay hb;rw[T.getK_eq] at h;split at h
    ·exact h.elim
    ·rename_i x hx;rw[kM] at h;refine(ih x _ K hn h).congr λK=>?_;rw[io,if_pos (show b<n from hb),hx]
   ·exact h.elim
 |wr b x k ih=>
  intro σ K hn h
  cases σ with
  |mk H n fs t w=>
   have h:(ac (Nat.ble (Nat.succ b) n) (T.getK H b Fm.ff λ_=>T.setK H b x λH=>lZ fs b t λt=>mA fs b w λw=>FD k (.mk H n fs t w) K hn) .ff).den:=h;rw[ar] at h;split at h
   ·rename_i hb;have hb:=aay hb;rw[T.getK_eq] at h;split at h
    ·exact h.elim
    ·rename_i y hy;rw[T.setK_eq,kM,ph] at h;refine(ih _ K hn h).congr λK=>?_;rw[ky,if_pos (show b<n from hb),hy]
   ·exact h.elim
 |new x k ih=>
  intro σ K hn h
  cases σ with
  |mk H n fs t w=>
   have h:(ac (Nat.ble n 1000000000) (T.getK H n (T.setK H n x λH=>fN (Nat.succ n) λm=>FD (k n) (.mk H m fs t w) K hn) λ_=>Fm.ff) .ff).den:=h;rw[ar] at h;split at h
   ·rename_i hb;have hb:=aay hb;rw[T.getK_eq] at h;split at h
    ·rename_i hx;rw[T.setK_eq,rx] at h;refine(ih n _ K hn h).congr λK=>?_;rw[gT,if_pos hb,hx]
    ·exact h.elim
   ·exact h.elim
 |pick n k ih=>
  intro σ K hn h;have h:(ac (Nat.ble n 1) (FD (k 0) σ K hn) (St.rec (motive:=λ_=>Fm) (λ_ _ fs _ _=>ac (ac (Nat.beq n 2) (Nat.beq fs 0) false) (.al (λ_=>True) λy=>I1 (y.p 0) .fail .fail (FD (k 0)) (FD (k 1)) σ K hn) .ff) σ)).den:=h;rw[ar] at h;split at h
  ·rename_i hb;refine(ih 0 σ K hn h).congr λK=>?_;show ac (Nat.ble n 1) (run (k 0) σ K) _=_;rw[ar,if_pos hb]
  ·cases σ with
   |mk H m fs t w=>
    have h:(ac (ac (Nat.beq n 2) (Nat.beq fs 0) false) (Fm.al (λ_=>True) λy=>I1 (y.p 0) .fail .fail (FD (k 0)) (FD (k 1)) (.mk H m fs t w) K hn) .ff).den:=h;rw[ar] at h;split at h
    ·rename_i hc;rw[ar] at hc;split at hc
     ·rename_i h2
      have h2:=aae h2
      have hfs:=aae hc
      subst h2;subst hfs
      obtain⟨a,ha⟩:=(WU (h ⟨λ_=>0,λ_=>[],λ_=>True,λ_=>[]⟩ trivial)).1 trivial
      obtain⟨b,hb⟩:=(WU (h ⟨λ_=>0,λ_=>[],λ_=>False,λ_=>[]⟩ trivial)).2 id
      intro Q hQ
      have e1:=ih 0 _ K a ha Q hQ
      have e2:=ih 1 _ K b hb Q hQ
      show iI (λi=>run (k i) (.mk H m 0 t w) Q) 2=true
      refine ng.mpr λi hi=>?_
      match i,hi with
      |0,_=>exact e1
      |1,_=>exact e2
     ·cases hc
    ·exact h.elim
 |sub t k iht ihk=>
  intro σ K hn h
  cases σ with
  |mk H n fs tc w=>
   intro Q hQ
   rw[gU]
   refine iht _ _ _ h _ λa a9 ⟨hn',h2⟩=>?_
   cases a9 with
   |mk h' n' f' t' w'=>
    have h2:(ac (Nat.beq fs 0) (FD (k a n n' t' w') (.mk h' n' fs tc w) K hn')
     (kL fs (T.keys t' id []) tc λt2=>iQ fs w' w λw2=>FD (k a n n' t' w') (.mk h' n' fs t2 w2) K hn')).den:=h2
    rw[ar,pX,nH] at h2;by_cases hf:fs=0
    ·subst hf;rw[if_pos (show Nat.beq 0 0=true from rfl)] at h2;exact ihk a n n' t' w' _ K hn' h2 Q hQ
    ·have:¬Nat.beq fs 0=true:=λhb=>hf (aae hb);rw[if_neg this] at h2;simp only [if_neg hf];exact ihk a n n' t' w' _ K hn' h2 Q hQ
 |ask p t e iht ihe=>
  intro σ K hn h;obtain⟨h1,h2⟩:=WU (t:=t) (e:=e) h;by_cases hp:p
  ·obtain⟨a,h1⟩:=h1 hp;exact(iht σ K a h1).congr λK=>fq _ _ _ _ hp
  ·obtain⟨a,h2⟩:=h2 hp;exact(ihe σ K a h2).congr λK=>ft _ _ _ _ hp
 |req p t ih=>intro σ K hn h;have h:(Fm.an p (FD t σ K hn)).den:=h;exact(ih σ K hn (h.2 h.1)).congr λK=>fu _ _ _ h.1
 |sk p z k ih=>intro σ K hn h;have h:(Fm.al p λy=>FD (k y) σ K hn).den:=h;exact ih z.1 σ K hn (h z.1 z.2)
def Z0(x D:Tm):Fm:=match x,D with | .g l,.g m=>.at (l=m) | .s l,.s m=>.at (l=m)|_,_=>.ff
def RH{x D:Tm}(h:(Z0 x D).den):x=D:=by cases x <;> cases D <;> first|exact h.elim|exact congrArg _ h
def FE(n:Nat)(r:Sr)(l:List BSh)(t0:Nat)(D:Tm):Lf:=λa σ _=>match fi n σ.h r l a with
 |some s=>.an s.pr (match s.tm with | [(t,x)]=>ac (Nat.beq t t0) (Z0 x D) .ff|_=>.ff)
 |none=>.ff
def FSpec.callFmP(S:FSpec)(t0:Nat)(D:Sy->Tm)(P:Program)(M:Tab)(n f:Nat)(z:Sy)(h:Hn):Fm:=
 FD (nu P (xf P M n) f (S.argsA z) λa=>Dq (S.out z) (S.res z) a .ret) (start (S.heap z) (base+64)) (FE (List.length S.blk) (S.res z) (S.out z) t0 (D z)) h
def Mu{P:Program}{M:Tab}(hM:TabOk P M){n f:Nat}{S:FSpec}{t0:Nat}{D:Sy->Tm}(hp:∀z,S.pre z->S.post z (aN [(t0,D z)]))(h:∀z,S.pre z->∃hn,(S.callFmP t0 D P M n f z hn).den):Ok P f S:=by
 refine⟨λz=>⟨aN [(t0,D z)],hp z⟩,λz hz w ρ vs hG hl=>?_⟩;obtain⟨hn,hd⟩:=h z hz;refine iP (qM P hM w n).1 f (S.argsA z) vs (λa=>Dq (S.out z) (S.res z) a .ret) (start (S.heap z) (base+64)) (λa s=>dP (∃hn',(FE (List.length S.blk) (S.res z) (S.out z) t0 (D z) a s hn').den)) ρ w _ (nG (by decide) (by decide)) hG hl (WV _ _ _ _ hd _ λa σ hd=>fG.2 hd) λav v a9 ρ' w' q1 q2 q3 q4 q5=>?_;obtain⟨a',d8,ρ2,q1,q2,q3,q4',q5⟩:=FA q2 q3 q5 q1;obtain⟨hn',hd'⟩:=fG.1 (show dP (∃hn',(FE (List.length S.blk) (S.res z) (S.out z) t0 (D z) a' d8 hn').den)=true from q1);unfold FE at hd';split at hd'
 ·rename_i s hs;obtain⟨h1,h2⟩:=hd';replace h2:=h2 h1;split at h2
  ·rename_i t l htm;rw[ar] at h2;split at h2
   ·rename_i ht;have ht:=aae ht;have h3:l=D z:=RH h2;subst ht;exact⟨v,ρ2,_,_,s,rfl,q3,q4.trans q4',q5,hs,h1,by rw[htm,h3]⟩
   ·exact h2.elim
  ·exact h2.elim
 ·exact hd'.elim
end
end Go.Sym
namespace Go.Sym
noncomputable section
variable{H:Type}{enc:TypeId×Value->H}{P:Program}{W:World}
def jD(W:World):Rho:=⟨λ_ _=>none,λ_=>undef,λ_=>False,λb=>match W.heap[b]? with|some (.cells c t _)=>some (c,t)|_=>none,λb=>match W.heap[b]? with|some (.cells c t _)=>some (c,t)|_=>none⟩
def A4{b:Nat}{c:Array Value}{t:TypeId}{fr:_}(h:W.heap[b]? =some (.cells c t fr)):(jD W).frz b=some (c,t):=by show(match W.heap[b]? with|some (.cells c t _)=>some (c,t)|_=>none)=_;rw[h]
def Z1(W:World){T:T ABlk}(hT:∀b x,T.get b=some x->BR (jD W) W.heap.size W b x)(hO:∀b k I l,¬T.get b=some (.obj k I l)):Good W (jD W) T W:=
 ⟨⟨Kept.refl _ _ _,hT,(λb g h hh=>by cases hh),(λb g h b' g' h' hh=>by cases hh),(λb g h x hh=>by cases hh),(λb arr ty hh=>by
  have hh:(match W.heap[b]? with|some (.cells c t _)=>some (c,t)|_=>none)=some (arr,ty):=hh;split at hh
  ·rename_i c t fr e;injection hh with hh;injection hh with h1 h2;subst h1;subst h2;exact⟨⟨fr,e⟩,λb' g h hh=>by cases hh⟩
  ·cases hh),(λb x hh _=>hh),(λb k I l h=>absurd h (hO b k I l))⟩,λx h=>h.elim⟩
def pt{base n:Nat}{a:Addr}{cs:List Value}(h:W.cells? base a n=some cs)(hn:0<n):cs.length=n/\∃arr t fr,W.heap[a.block]? =some (.cells arr t fr)/\a.spot=none/\a.off+n<=arr.size/\∀j,j<n->arr[a.off+j]? =cs[j]? :=by
 obtain⟨h1,h2,h3⟩:=World.cells?_some h;refine⟨h2, ?_⟩;have c0:=h3 0 hn;have l6:∀j,j<n->∃v,W.cell? (a.add j)=some v/\cs[j]? =some v:=λj hj=>by have:=h3 j hj;rw[aak (by omega)] at this;exact⟨_,this,aak (by omega)⟩
 obtain⟨v0,e0,_⟩:=l6 0 hn;unfold World.cell? Addr.add at e0;rw[if_pos rfl] at e0;split at e0
 ·rename_i arr t fr hb;have hs:a.spot=none:=by
   cases hs:a.spot with
   |none=>rfl
   |some x=>rw[hs] at e0;cases e0
  have key:∀j,j<n->arr[a.off+j]? =cs[j]? :=λj hj=>by
   obtain⟨v,e1,e2⟩:=l6 j hj;rw[e2, ←e1];unfold World.cell? Addr.add;by_cases hj0:j=0
   ·subst hj0;rw[if_pos rfl,hb];simp [hs]
   ·rw[if_neg hj0];show _=(match W.heap[a.block]? with|some (.cells c _ _)=>_|_=>none);rw[hb];rfl
  refine⟨arr,t,fr,hb,hs, ?_,key⟩;obtain⟨v,_,e2⟩:=l6 (n-1) (by omega);have:=key (n-1) (by omega);rw[e2] at this;have:=(Array.getElem?_eq_some_iff.1 this).1;omega
 ·cases e0
def Jm(a:Addr)(k:Nat):(a.add k).block=a.block:=by unfold Addr.add;split <;> rfl
def RI(a:Addr)(k:Nat):(a.add k).off=a.off+k:=by
 unfold Addr.add;split
 ·rename_i h;rw[h];rfl
 ·rfl
def qb{e:TypeId}{N:Nat}:∀{l:List (DataW H)},(∀k∈DataW.weightsAll P e l,k<=N)->∀d∈l,∀k∈d.weights P e,k<=N
 |d::l,h,x,hx,k,hk=>by
  rw[DataW.weightsAll] at h;rcases List.mem_cons.1 hx with rfl|hx
  ·exact h k (abq _ hk)
  ·exact qb (λk hk=>h k (abr _ hk)) x hx k hk
def eA{N:Nat}:∀{ts:List TypeId} {l:List (DataW H)},(∀k∈DataW.weightsEach P ts l,k<=N)->∀(i:Nat) (t:TypeId) (d:DataW H),ts[i]? =some t->l[i]? =some d->∀k∈d.weights P t,k<=N
 | [],_,_,_,_,_,ht,_,_,_=>by cases ht
 |_::_,[],_,_,_,_,_,hd,_,_=>by cases hd
 |u::ts,x::l,h,0,t,d,ht,hd,k,hk=>by rw[DataW.weightsEach] at h;injection ht with ht;injection hd with hd;subst ht;subst hd;exact h k (abq _ hk)
 |u::ts,x::l,h,i+1,t,d,ht,hd,k,hk=>by rw[DataW.weightsEach] at h;exact eA (ts:=ts) (l:=l) (λk hk=>h k (abr _ hk)) i t d ht hd k hk
def sL{sp:Nat->Bool}{held:Bool}{t e:TypeId}{m N:Nat}(hsp:∀b,sp b=true)(ht:P.underlying t=some (.slice e))(B':P.cellsOf e=bm (cU m))(l8:0<bm (cU m))(hbe:0<P.bytesOf e)(Q:G->Prop){n:Nat}(hel:∀cs x,DataW.trod enc P W 0 sp held n e cs=some x->(∀k∈x.1.weights P e,k<=N)->∃g,Q g/\LR (jD W) (bA (cU m) g 0) cs){cs:List Value}{x:DataW H×List MemPlace}(h:DataW.trod enc P W 0 sp held (n+1) t cs=some x)(hw:∀k∈x.1.weights P t,k<=N):
 ∃v l,cs= [v]/\VR (jD W) (.cv (.rows m l)) v/\(∀g∈l,Q g)/\l.length<=N:=by
 rcases DataW.trod_slice ht h with⟨rfl,rfl⟩|⟨a,len,cap,elems,rest,n',hn,rfl,rfl,hb,hlc,hcm,hll,hi,hr,_⟩
 ·exact⟨_,[],rfl,.cvnil _ rfl,(λ_ hg=>absurd hg aaS),aaq _⟩
 ·injection hn with hn;subst hn;rw[B'] at hi hr;obtain⟨hr1,hr2⟩:=hr (hsp _);have hw':∀k∈((elems.map (·.1)).length * P.bytesOf e+(rest.map (·.1)).length * P.bytesOf e)::(DataW.weightsAll P e (elems.map (·.1))++DataW.weightsAll P e (rest.map (·.1))),k<=N:=by have:=hw;simp only [DataW.weights,ht,aaC] at this;exact this
  have hlN:len<=N:=by have:=hw' _ aan;rw[aaR,hll] at this;have h2:len * 1<=len * P.bytesOf e:=Nat.mul_le_mul_left _ hbe;omega
  have hwe:∀d∈elems.map (·.1),∀k∈d.weights P e,k<=N:=qb λk hk=>hw' k (aal _ (abq _ hk));have each:∀i,i<len->∃g cs',Q g/\W.cells? 0 (a.add (i * bm (cU m))) (bm (cU m))=some cs'/\LR (jD W) (bA (cU m) g 0) cs':=λi hl=>by have e1:=hi i hl;rw[aak (by omega)] at e1;obtain⟨cs',e2,e3⟩:=Option.bind_eq_some_iff.1 e1;obtain⟨g,g1,g2⟩:=hel cs' _ e3 (hwe _ (abw (f:=λy:DataW H×List MemPlace=>y.1) (abd _)));exact⟨g,cs',g1,e2,g2⟩
  by_cases hc0:cap=0
  ·have:len=0:=by omega
   subst hc0;subst this;exact⟨_,[],rfl,.cvempty _ a rfl,(λ_ hg=>absurd hg aaS),aaq _⟩
  ·have first:∃arr ty fr,W.heap[a.block]? =some (.cells arr ty fr)/\a.spot=none/\a.off<=arr.size:=by
    by_cases hl:0<len
    ·obtain⟨g,cs',_,e2,_⟩:=each 0 hl;obtain⟨_,arr,ty,fr,q1,q2,q3,_⟩:=pt e2 l8;rw[abc] at q1 q2 q3;exact⟨arr,ty,fr,q1,q2,by have:(a.add 0).off=a.off:=rfl;omega⟩
    ·have e1:=hr2 0 (by omega);have h0:len=0:=by omega
     rw[show len+0=0 by omega,abc,aak (by omega)] at e1;obtain⟨cs',e2,_⟩:=Option.bind_eq_some_iff.1 e1;obtain⟨_,arr,ty,fr,q1,q2,q3,_⟩:=pt e2 l8;exact⟨arr,ty,fr,q1,q2,by have:(a.add 0).off=a.off:=rfl;omega⟩
   obtain⟨arr,ty,fr,hH,hS,hO⟩:=first
   have fr2:∀i,i<len->∃g cs',Q g/\LR (jD W) (bA (cU m) g 0) cs'/\a.off+i * bm (cU m)+bm (cU m)<=arr.size/\∀j,j<bm (cU m)->arr[a.off+i * bm (cU m)+j]? =cs'[j]? :=λi hl=>by obtain⟨g,cs',g1,e2,g2⟩:=each i hl;obtain⟨_,p7,ty',fr',q1,_,q3,q4⟩:=pt e2 l8;rw[Jm,hH] at q1;injection q1 with q1;injection q1 with q1;subst q1;rw[RI] at q3 q4;exact⟨g,cs',g1,g2,q3,q4⟩
   let f:_root_.Fin len->G:=λi=>Classical.choose (fr2 i.1 i.2);have hf:∀i:_root_.Fin len,∃cs',Q (f i)/\LR (jD W) (bA (cU m) (f i) 0) cs'/\a.off+i.1 * bm (cU m)+bm (cU m)<=arr.size/\∀j,j<bm (cU m)->arr[a.off+i.1 * bm (cU m)+j]? =cs'[j]? :=λi=>abv (fr2 i.1 i.2);refine⟨_,List.ofFn f,rfl, ?_,λg hg=>?_,by rw[List.length_ofFn];exact hlN⟩
   ·obtain⟨bl,off,spot⟩:=a;have hS:spot=none:=hS;subst hS;have hlen:(Ct.rows m (List.ofFn f)).len=len:=List.length_ofFn;have hr0:VR (jD W) (.cv (.rows m (List.ofFn f))) (.slice (some ⟨bl,off,none⟩) (Ct.rows m (List.ofFn f)).len cap):=by
     refine .cv (.rows m (List.ofFn f)) bl off cap arr ty (A4 hH) (by rw[hlen];exact hlc) ?_ λi j av v hi' hav hv=>?_
     ·rw[hlen];show off+len * bm (cU m)<=arr.size;by_cases hl:0<len
      ·obtain⟨_,_,_,q,_⟩:=hf ⟨len-1,by omega⟩;have q:off+(len-1) * bm (cU m)+bm (cU m)<=arr.size:=q;have e:len * bm (cU m)=(len-1) * bm (cU m)+bm (cU m):=by
        have:len=(len-1)+1:=by omega
        conv=>lhs;rw[this,aaC,Nat.one_mul]
       omega
      ·have:len=0:=by omega
       rw[this,abc];exact hO
     ·rw[hlen] at hi';obtain⟨cs',_,hL,_,q⟩:=hf ⟨i,hi'⟩;have hgi:aq (List.ofFn f) i=f ⟨i,hi'⟩:=by unfold aq;rw[aag,aak (by rw[List.length_ofFn];exact hi'),List.getElem_ofFn];rfl
      have hav:(bA (cU m) (aq (List.ofFn f) i) 0)[j]? =some av:=hav;rw[hgi] at hav;have hj:j<bm (cU m):=by
       have:=(List.getElem?_eq_some_iff.1 hav).1
       rwa [ry] at this
      have hv:arr[off+i * bm (cU m)+j]? =some v:=hv;have q:arr[off+i * bm (cU m)+j]? =cs'[j]? :=q j hj;rw[q] at hv;exact hL.2 j av v hav hv
    rw[hlen] at hr0;exact hr0
   ·obtain⟨i,rfl⟩:=List.mem_ofFn.1 hg;exact(hf i).choose_spec.1
end
end Go.Sym
namespace Go.Sym
open Go.RowKit (Below)
variable{P:Program}
structure ObStep(root:Nat)(fp fp':List Nat)(w w':World):Prop where
 os:w'.os=w.os
 tape:w'.tape=w.tape
 output:w'.output=w.output
 size:w.heap.size<=w'.heap.size
 block:∀k,k<w.heap.size->k∉root::fp->w'.heap[k]? =w.heap[k]?
 sub:∀x∈fp',x∈fp∨(w.heap.size<=x/\x<w'.heap.size)
noncomputable section
open Classical in
def nS(ρ:Rho)(b0 n:Nat)(fp':List Nat):Rho:=
 {at_:=λb g=>match ρ.at_ b g with|some h=>some h|none=>if b=b0/\1<=g/\g-1∈fp'/\n<=g-1 then some ⟨g-1,0,0⟩ else none,val:=ρ.val,own:=ρ.own,frz:=ρ.frz,frz0:=ρ.frz0}
def sM(ρ:Rho)(b0 n:Nat)(fp':List Nat):ρ.le (nS ρ b0 n fp'):=
 ⟨λb g h hh=>by show(match ρ.at_ b g with|some h=>some h|none=>_)=_;rw[hh],rfl,rfl,λ_ _ h=>h,rfl⟩
def eX{ρ:Rho}{b0 n:Nat}{fp':List Nat}{b g:Nat}{h:Home}(hh:(nS ρ b0 n fp').at_ b g=some h):
 ρ.at_ b g=some h∨(b=b0/\g=h.blk+1/\h=⟨h.blk,0,0⟩/\h.blk∈fp'/\n<=h.blk):=by
 have hh:(match ρ.at_ b g with|some h=>some h|none=>if b=b0/\1<=g/\g-1∈fp'/\n<=g-1 then some (⟨g-1,0,0⟩:Home) else none)=some h:=hh
 cases hr:ρ.at_ b g with
 |some h0=>rw[hr] at hh;exact .inl hh
 |none=>
  rw[hr] at hh
  by_cases hc:b=b0/\1<=g/\g-1∈fp'/\n<=g-1
  ·simp only [if_pos hc] at hh;injection hh with hh;subst hh;exact .inr ⟨hc.1,by show g=g-1+1;omega,rfl,hc.2.2.1,hc.2.2.2⟩
  ·simp only [if_neg hc] at hh;cases hh
def vN{ρ:Rho}{b0 n:Nat}{fp':List Nat}{x:Nat}(hx:x∈fp')(hn:n<=x)(h0:ρ.at_ b0 (x+1)=none):(nS ρ b0 n fp').at_ b0 (x+1)=some ⟨x,0,0⟩:=by show(match ρ.at_ b0 (x+1) with|some h=>some h|none=>if b0=b0/\1<=x+1/\x+1-1∈fp'/\n<=x+1-1 then some (⟨x+1-1,0,0⟩:Home) else none)=_;rw[h0];exact if_pos ⟨rfl,by omega,hx,hn⟩
def jE{b0 b:Nat}{q x:ABlk}(h0:b0+1<2 ^ 64)(h:((T.leaf:T ABlk).set b0 q).get b=some x):b=b0/\x=q:=by
 by_cases e:b=b0
 ·subst e;rw[T.get_set_same _ _ _ h0] at h;exact⟨rfl,(Option.some.inj h).symm⟩
 ·rw[T.get_set_ne _ e] at h;simp [T.get] at h
def RJ{w w':World}{ρ:Rho}{k b0:Nat}{C:List G->Nat->List Nat->World->Prop}(hC:∀l,rz (C l)){l l':List G}{h:Home}{fp fp':List Nat}(c8:b0+1<2 ^ 64)(hG:Good w ρ ((T.leaf:T ABlk).set b0 (.obj k (C l) l)) w)(o6:ρ.at_ b0 0=some h)(hs:h.shift=0)(hfp:∀x∈h.blk::fp,Own ρ w.heap.size x/\∃g hx,ρ.at_ b0 g=some hx/\hx.blk=x)(hfz:∀b x,ρ.frz b=some x->b∉h.blk::fp)(hI:C l' h.blk fp' w')(p8:ObStep h.blk fp fp' w w'):
 Good w (nS ρ b0 w.heap.size fp') ((T.leaf:T ABlk).set b0 (.obj k (C l') l')) w':=by
 have l6:((T.leaf:T ABlk).set b0 (.obj k (C l') l')).get b0=some (.obj k (C l') l'):=T.get_set_same _ _ _ c8
 have af3:((T.leaf:T ABlk).set b0 (.obj k (C l) l)).get b0=some (.obj k (C l) l):=T.get_set_same _ _ _ c8
 have hle:=sM ρ b0 w.heap.size fp'
 have hb0:∀b g h,ρ.at_ b g=some h->b=b0/\h.blk<w.heap.size:=λb g h hh=>by obtain⟨q1,x,q2⟩:=hG.dom _ _ _ hh;exact⟨(jE c8 q2).1,q1⟩
 have ac6:∀x,w.heap.size<=x->ρ.at_ b0 (x+1)=none:=λx hx=>by
  cases hr:ρ.at_ b0 (x+1) with
  |none=>rfl
  |some Z'=>
   rcases(hG.objO _ _ _ _ af3 _ _ hr).2 with e|e
   ·omega
   ·have:=(hb0 _ _ _ hr).2;omega
 have ab3:∀b,b<w.heap.size->b∉h.blk::fp->w'.heap[b]? =w.heap[b]? :=p8.block
 refine⟨⟨⟨p8.os,p8.tape,p8.output,p8.size,λb hb o7=>ab3 b hb (λhm=>?_)⟩,λb x hx=>?_,λb g h2 hh=>?_,λb g h1 b' g' h2 hh1 hh2 e=>?_,λb g h2 x hh hx=>?_,λb arr ty hf=>?_,hG.frzB,λb k2 I2 l2 hx g h2 hh=>?_⟩,λx hx=>?_⟩
 ·rcases(hfp _ hm).1 with h1|h1
  ·omega
  ·exact o7 h1
 ·obtain⟨rfl,rfl⟩:=jE c8 hx;refine⟨hC l',h,fp',hle.at_ _ _ _ o6,hs,λy hy=>?_,hI⟩;have old:y∈h.blk::fp->Own (nS ρ b w.heap.size fp') w.heap.size y/\∃g hx,(nS ρ b w.heap.size fp').at_ b g=some hx/\hx.blk=y:=λhm=>by obtain⟨q1,g,hx,q2,q3⟩:=hfp _ hm;exact⟨q1,g,hx,hle.at_ _ _ _ q2,q3⟩
  rcases List.mem_cons.1 hy with e|hy
  ·exact old (e▸aan)
  ·rcases p8.sub y hy with h1|⟨h1,h2⟩
   ·exact old (aal _ h1)
   ·exact⟨.inl h1,y+1,_,vN hy h1 (ac6 y h1),rfl⟩
 ·rcases eX hh with h1|⟨rfl,_,_,h3,h4⟩
  ·obtain⟨rfl,q⟩:=hb0 _ _ _ h1;exact⟨aa4 q p8.size,_,l6⟩
  ·rcases p8.sub _ h3 with h5|⟨_,h5⟩
   ·obtain⟨_,g2,hx,q2,q3⟩:=hfp _ (aal _ h5);have:=(hb0 _ _ _ q2).2;omega
   ·exact⟨h5,_,l6⟩
 ·rcases eX hh1 with a1|⟨a1,a2,a3,a4,a5⟩
  ·rcases eX hh2 with c1|⟨c1,c2,c3,c4,c5⟩
   ·exact hG.inj _ _ _ _ _ _ a1 c1 e
   ·have:=(hb0 _ _ _ a1).2;omega
  ·rcases eX hh2 with c1|⟨c1,c2,c3,c4,c5⟩
   ·have:=(hb0 _ _ _ c1).2;omega
   ·exact⟨a1.trans c1.symm,by rw[a3,c3,e]⟩
 ·obtain⟨rfl,rfl⟩:=jE c8 hx;trivial
 ·obtain⟨⟨fr,q1⟩,q2⟩:=hG.frz _ _ _ hf;have c9:b<w.heap.size:=(Array.getElem?_eq_some_iff.1 q1).1;refine⟨⟨fr,(ab3 b c9 (hfz _ _ hf)).trans q1⟩,λb' g h2 hh e=>?_⟩;rcases eX hh with a1|⟨a1,a2,a3,a4,a5⟩
  ·obtain⟨x,r1,r2⟩:=q2 _ _ _ a1 e;obtain⟨rfl,rfl⟩:=jE c8 r1;exact absurd r2 (λh=>h)
  ·omega
 ·obtain⟨rfl,e⟩:=jE c8 hx;rcases eX hh with a1|⟨a1,a2,a3,a4,a5⟩
  ·exact hG.objO _ _ _ _ af3 _ _ a1
  ·exact⟨.inl a5,.inr a2⟩
 ·obtain⟨b,g,h2,q1,q2,q3⟩:=hG.ownB x hx;exact⟨b,g,h2,q1,hle.at_ _ _ _ q2,q3⟩
def RK{f k:Nat}{C:List G->Nat->List Nat->World->Prop}{S:FSpec}{al:List Sa}(hC:∀l,rz (C l))(tR:Sy->List G)(av:Sy->AV)(tm:Sy->List (Nat×Tm))(e1:S.args= .c (.p 0)::al)(e2:S.blk= [.obj k C 20])(e3:S.gl=none)(af4:∀z,S.pre z->S.post z (aN (tm z)))(ac4:∀z,∃s,fi 1 ((T.leaf:T ABlk).set base (.obj k (C (tR z)) (tR z))) (S.res z) (S.out z) (av z)=some s/\s.pr/\s.tm=tm z)(ag1:∀(args:Array Value) (w:World),(callFunc f args).run P w= .ok (.enter f args) w)(ai1:∀z,S.pre z->∀(w:World) (ρ:Rho) (root:Nat) (fp:List Nat) (vs:List Value),(∀b x,ρ.frz b=some x->b∉root::fp/\∃fr,w.heap[b]? =some (.cells x.1 x.2 fr))->(∀x∈root::fp,x<w.heap.size)->LR ρ (nJ bI z al) vs->C (z.g 20) root fp w->
  Calls P f (Value.pointer (some ⟨root,0,none⟩)::vs).toArray w λe w'=>∃v fp',e= .returned v/\C (tR z) root fp' w'/\ObStep root fp fp' w w'/\∀ρ',VR ρ' (av z) v):Ok P f S:=by
 refine⟨λz=>⟨aN (tm z),af4 z⟩,λz hz w ρ vs hG hl=>?_⟩
 have hH:S.heap z=(T.leaf:T ABlk).set base (.obj k (C (z.g 20)) (z.g 20)):=by unfold FSpec.heap;rw[e3,e2];rfl
 rw[hH] at hG
 unfold FSpec.argsA at hl
 rw[e1] at hl
 obtain⟨v0,E',rfl,h0,q9⟩:=LR.cons_inv (show LR ρ (.ptr base 0 0::nJ bI z al) vs from hl)
 have c8:base+1<2 ^ 64:=by decide
 have af3:((T.leaf:T ABlk).set base (.obj k (C (z.g 20)) (z.g 20))).get base=some (.obj k (C (z.g 20)) (z.g 20)):=T.get_set_same _ _ _ c8
 cases h0 with
 |ptr b g o h hh ho=>
  obtain⟨ae6,h1,fp,o6,hs,hfp,hI⟩:=hG.blk _ _ af3
  rw[hh] at o6;injection o6 with o6;subst o6
  have hfz:∀b x,ρ.frz b=some x->b∉h.blk::fp:=λb x hf hm=>by obtain⟨_,g,hx,q2,q3⟩:=hfp _ hm;exact hG.frzE (show ρ.frz b=some (x.1,x.2) from hf) q2 af3 (λh=>h) q3
  have hc:=ai1 z hz w ρ h.blk fp E' (λb x hf=>⟨hfz b x hf,(hG.frz _ _ _ (show ρ.frz b=some (x.1,x.2) from hf)).1⟩) (λx hm=>by obtain⟨_,g,hx,q2,q3⟩:=hfp _ hm;have:=(hG.dom _ _ _ q2).1;omega) q9 hI
  rw[hs]
  refine⟨λargs=>ag1 args w,callsIn_wide.2 (hc.mono ?_)⟩
  rintro e w' ⟨v,fp',rfl,hI',p8,hv⟩
  obtain⟨s,p1,p2,p3⟩:=ac4 z
  refine⟨v,nS ρ base w.heap.size fp',_,av z,s,rfl,RJ hC c8 hG hh hs hfp hfz hI' p8,sM _ _ _ _,hv _, ?_,p2,by rw[p3]⟩
  rw[e2];exact p1
def Z2{f k:Nat}{C:List G->Nat->List Nat->World->Prop}{S:FSpec}(hC:∀l,rz (C l))(tR:Sy->List G)(av:Sy->AV)(tm:Sy->List (Nat×Tm))(e2:S.blk= [])(e3:S.gl=none)(af4:∀z,S.pre z->S.post z (aN (tm z)))(ac4:∀z,∃s,fi 0 ((T.leaf:T ABlk).set (base+64) (.obj k (C (tR z)) (tR z))) (S.res z) (S.out z) (av z)=some s/\s.pr/\s.tm=tm z)(ag1:∀(args:Array Value) (w:World),(callFunc f args).run P w= .ok (.enter f args) w)(ai1:∀z,S.pre z->∀(w:World) (ρ:Rho) (vs:List Value),LR ρ (S.argsA z) vs->
  Calls P f vs.toArray w λe w'=>∃v root fp',e= .returned v/\C (tR z) root fp' w'/\Below w.heap.size w w'/\(∀x∈root::fp',w.heap.size<=x/\x<w'.heap.size)/\∀ρ':Rho,ρ'.at_ (base+64) 0=some ⟨root,0,0⟩->VR ρ' (av z) v):Ok P f S:=by
 refine⟨λz=>⟨aN (tm z),af4 z⟩,λz hz w ρ vs hG hl=>?_⟩
 have hH:S.heap z=(T.leaf:T ABlk):=by unfold FSpec.heap;rw[e3,e2];rfl
 rw[hH] at hG
 have c8:base+64+1<2 ^ 64:=by decide
 refine⟨λargs=>ag1 args w,callsIn_wide.2 ((ai1 z hz w ρ vs hl).mono ?_)⟩
 rintro e w' ⟨v,root,fp',rfl,hI,hb,m6,hv⟩
 obtain⟨s,p1,p2,p3⟩:=ac4 z
 have o7:∀b g,ρ.at_ b g=none:=λb g=>by
  cases hr:ρ.at_ b g with
  |none=>rfl
  |some h=>obtain⟨_,x,q⟩:=hG.dom _ _ _ hr;simp [T.get] at q
 let ρ1:Rho:={at_:=λb g=>if b=base+64/\g=0 then some ⟨root,0,0⟩ else ρ.at_ b g,val:=ρ.val,own:=ρ.own,frz:=ρ.frz,frz0:=ρ.frz0}
 have h1:ρ1.at_ (base+64) 0=some ⟨root,0,0⟩:=by show(if base+64=base+64/\(0:Nat)=0 then some (⟨root,0,0⟩:Home) else ρ.at_ (base+64) 0)=_;exact if_pos ⟨rfl,rfl⟩
 have h1i:∀b g h,ρ1.at_ b g=some h->b=base+64/\g=0/\h=⟨root,0,0⟩:=λb g h hh=>by
  have hh:(if b=base+64/\g=0 then some (⟨root,0,0⟩:Home) else ρ.at_ b g)=some h:=hh;split at hh
  ·rename_i hc;injection hh with hh;exact⟨hc.1,hc.2,hh.symm⟩
  ·rw[o7] at hh;cases hh
 have F':ρ.le ρ1:=⟨(λb g h hh=>by rw[o7] at hh;cases hh),rfl,rfl,λ_ _ h=>h,rfl⟩
 have j6:=sM ρ1 (base+64) w.heap.size fp'
 have hinv:∀b g h,(nS ρ1 (base+64) w.heap.size fp').at_ b g=some h->b=base+64/\h=⟨h.blk,0,0⟩/\h.blk∈root::fp'/\(g=0∨g=h.blk+1):=λb g h hh=>by
  rcases eX hh with a1|⟨a1,a2,a3,a4,a5⟩
  ·obtain⟨q1,q2,rfl⟩:=h1i _ _ _ a1;exact⟨q1,rfl,aan,.inl q2⟩
  ·exact⟨a1,a3,aal _ a4,.inr a2⟩
 have l6:((T.leaf:T ABlk).set (base+64) (.obj k (C (tR z)) (tR z))).get (base+64)=some (.obj k (C (tR z)) (tR z)):=T.get_set_same _ _ _ c8
 refine⟨v,nS ρ1 (base+64) w.heap.size fp',(T.leaf:T ABlk).set (base+64) (.obj k (C (tR z)) (tR z)),av z,s,rfl, ?_,F'.trans j6,hv _ (j6.at_ _ _ _ h1),by rw[e2];exact p1,p2,by rw[p3]⟩
 refine⟨⟨Kept.of hb,λb x hx=>?_,λb g h2 hh=>?_,λb g a b' g' c hh1 hh2 e=>?_,λb g h2 x hh hx=>?_,λb arr ty hf=>?_,hG.frzB,λb k2 I2 l2 hx g h2 hh=>?_⟩,λx hx=>?_⟩
 ·obtain⟨rfl,rfl⟩:=jE c8 hx;refine⟨hC _,⟨root,0,0⟩,fp',j6.at_ _ _ _ h1,rfl,λy hy=>⟨.inl (m6 y hy).1, ?_⟩,hI⟩;rcases List.mem_cons.1 hy with e|hy
  ·exact⟨0,_,j6.at_ _ _ _ h1,e.symm⟩
  ·refine⟨y+1,_,vN hy (m6 y (aal _ hy)).1 ?_,rfl⟩;show(if base+64=base+64/\y+1=0 then some (⟨root,0,0⟩:Home) else ρ.at_ (base+64) (y+1))=none;rw[if_neg (by omega)];exact o7 _ _
 ·obtain⟨rfl,_,q3,_⟩:=hinv _ _ _ hh;exact⟨(m6 _ q3).2,_,l6⟩
 ·obtain⟨q1,q2,_,_⟩:=hinv _ _ _ hh1;obtain⟨r1,r2,_,_⟩:=hinv _ _ _ hh2;exact⟨q1.trans r1.symm,by rw[q2,r2,e]⟩
 ·obtain⟨rfl,rfl⟩:=jE c8 hx;trivial
 ·obtain⟨⟨fr,q1⟩,_⟩:=hG.frz _ _ _ hf;have c9:b<w.heap.size:=(Array.getElem?_eq_some_iff.1 q1).1;refine⟨⟨fr,(hb.block b c9).trans q1⟩,λb' g h2 hh e=>?_⟩;obtain⟨_,_,q3,_⟩:=hinv _ _ _ hh;have:=(m6 _ q3).1;omega
 ·obtain⟨_,_,q3,q4⟩:=hinv _ _ _ hh;exact⟨.inl (m6 _ q3).1,q4⟩
 ·obtain⟨b,g,h2,q1,q2,q3⟩:=hG.ownB x hx;rw[o7] at q2;cases q2
end
end Go.Sym
namespace Go.Sym
def QO{P:Program}{f:Nat}{S:FSpec}(h:∀z,¬S.pre z):Ok P f S:=⟨λz=>⟨⟨λ_=>0,λ_=>[],λ_=>False,λ_=>[]⟩,λhp=>absurd hp (h z)⟩,λz hz=>absurd hz (h z)⟩
def ai{P:Program}{f:Nat}{S:FSpec}{l:List Ent}(h:Ok P f S)(hl:∀e∈l,ia P e):∀e∈(⟨f,S,Classical.choose h,false⟩:Ent)::l,ia P e:=eC (Classical.choose_spec h) hl
def jX{P:Program}{f:Nat}{S:FSpec}{l:List Ent}(h:Ok P f S)(hl:∀e∈l,ia P e):∀e∈(⟨f,S,Classical.choose h,true⟩:Ent)::l,ia P e:=eC (Classical.choose_spec h) hl
def aG{P:Program}{fn id:Nat}{ptm:List (Nat×Sa)}{LS:Sy->LSpec}{l:List LEnt}(h:ZZ P fn id LS)(hl:∀e∈l,fJ P e):∀e∈(⟨fn,id,iV P fn id,ptm,LS,Classical.choose h⟩:LEnt)::l,fJ P e:=lC (Classical.choose_spec h) hl
def okF{P:Program}{m:List Memo}{c:List Ent}{l:List LEnt}{f:Nat}{S:FSpec}{T:Sy->Fm}{hn:Hn}(n:Nat)(hm:∀x∈m,my P x)(hc:∀e∈c,ia P e)(hl:∀e∈l,fJ P e)(hd:∀z,S.pre z->(T z).den)(he:∀z,S.callFm P (nQ m c l) n f z hn=T z:=by intro _;kernel_rfl):Ok P f S:=RC (nR hm hc hl) λz hz=>⟨hn,by rw[he];exact hd z hz⟩
def okP{P:Program}{m:List Memo}{c:List Ent}{l:List LEnt}{f:Nat}{S:FSpec}{T:Sy->Fm}{hn:Hn}{t0:Nat}{D:Sy->Tm}(n:Nat)(hm:∀x∈m,my P x)(hc:∀e∈c,ia P e)(hl:∀e∈l,fJ P e)(hd:∀z,S.pre z->(T z).den)(hp:∀z,S.pre z->S.post z (aN [(t0,D z)]):=by intro _ _;rfl)(he:∀z,S.callFmP t0 D P (nQ m c l) n f z hn=T z:=by intro _;kernel_rfl):Ok P f S:=Mu (nR hm hc hl) hp λz hz=>⟨hn,by rw[he];exact hd z hz⟩
def okLF{P:Program}{m:List Memo}{c:List Ent}{l:List LEnt}{fn id:Nat}{LS:Sy->LSpec}{T:Sy->Sy->Fm}{hn:Hn}(n:Nat)(hm:∀x∈m,my P x)(hc:∀e∈c,ia P e)(hl:∀e∈l,fJ P e)(hd:∀p z,(LS p).inv z->(T p z).den)(he:∀p z,(LS p).roundFm P (nQ m c l) n fn id z hn=T p z:=by intro _ _;kernel_rfl)(hi:eW P fn id=true:=by kernel_rfl)(c8:∀p,Nat.ble (LS p).blk.length 64=true:=by intro _;rfl)(hgl:∀p g ty l,(LS p).gl=some (g,ty,l)->g<1048576:=by intro p g ty l h;cases h):ZZ P fn id LS:=WS (nR hm hc hl) hi (λp=>Nat.le_of_ble_eq_true (c8 p)) (λp z hz=>⟨hn,by rw[he];exact hd p z hz⟩) hgl
def hD:Nat->Nat->Hn×Nat
 |0,n=>(.nil,n)
 |k+1,n=>match n%4 with
  |0=>(.nil,n/4)
  |1=>(.both (hD k (n/4)).1 (hD k (hD k (n/4)).2).1,(hD k (hD k (n/4)).2).2)
  |2=>(.yes (hD k (n/4)).1,(hD k (n/4)).2)
  |_=>(.no (hD k (n/4)).1,(hD k (n/4)).2)
def hC(k n:Nat):Hn:=(hD k n).1
def bB{P:Program}{c:List Ent}{l:List LEnt}{f:Nat}{S:FSpec}{T:Sy->Fm}(i j:Nat)(hc:∀e∈c,ia P e)(hl:∀e∈l,fJ P e)(hd:∀z,S.pre z->(T z).den)(he:∀z,S.callFm P (nQ [] c l) 1000 f z (hC i j)=T z:=by intro _;kernel_rfl):Ok P f S:=okF 1000 mN hc hl hd he
def bG{P:Program}{c:List Ent}{l:List LEnt}{fn id:Nat}{LS:Sy->LSpec}{T:Sy->Sy->Fm}(i j:Nat)(hc:∀e∈c,ia P e)(hl:∀e∈l,fJ P e)(hd:∀p z,(LS p).inv z->(T p z).den)(he:∀p z,(LS p).roundFm P (nQ [] c l) 1000 fn id z (hC i j)=T p z:=by intro _ _;kernel_rfl)(hi:eW P fn id=true:=by kernel_rfl)(c8:∀p,Nat.ble (LS p).blk.length 64=true:=by intro _;rfl)(hgl:∀p g ty l,(LS p).gl=some (g,ty,l)->g<1048576:=by intro p g ty l h;cases h):ZZ P fn id LS:=okLF 1000 mN hc hl hd he hi c8 hgl
abbrev Fm.ax(q:Prop):Fm:=.an True (.at q)
abbrev Fm.ct(q:Prop)(r:Sy->Prop)(f:Sy->Fm):Fm:=.an (True/\q) (.al (λy=>q->r y) f)
abbrev Fm.cl(a q:Prop)(r:Sy->Prop)(f:Sy->Fm):Fm:=.an (a/\q) (.al (λy=>q->r y) f)
def kf{p:Prop}(h:p:=by(try conv=>zeta);(repeat' with_reducible first|intro _|apply cd|apply ck|apply cg|apply cE|apply cr);all_goals first|omega|grind [ao,ak,aj]):p:=h
def iy{p:Prop}(h:p:=by(try conv=>zeta);(repeat' with_reducible first|intro _|apply cd|apply ck|apply cg|apply cE|apply cr);all_goals first|omega|grind [ao,ak,aj,List.append_assoc]):p:=h
def A5{p:Prop}(h:p:=by(try conv=>zeta);(repeat' with_reducible first|intro _|apply cd|apply ck|apply cg|apply cE|apply cr);all_goals first|omega|grind [ao,ak,aj,List.append_assoc,List.length_append,List.length_cons,List.length_nil,List.append_cancel_left_eq,List.cons.injEq]):p:=h
end Go.Sym
