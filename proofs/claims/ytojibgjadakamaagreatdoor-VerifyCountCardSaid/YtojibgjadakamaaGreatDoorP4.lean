/- Part 4: SymT, SymX, SymU, SymV, SymW, SymEv, SymSh, SymPu, SymMv, SymCo. Names and spaces are cut short by program. -/
import Derived.RangeFuncLeaves
import Derived.TacticsIn
import Derived.OrdersIn
import Derived.Test.YtojibgjadakamaaGreatDoorP3
set_option linter.all false
namespace Go.Sym
open Go.RowKit (Below)
section
variable{P:Program}{w0:World}{ρ:Rho}{w:World}{σ:St}{K:Fin}{nt:Nat}{env:T AV}{a:Act}
theorem Uv{dst:Option Nat}{av:AV}{v:Value}{k:T AV->Tr}(hv:VR ρ av v)(hE:ER ρ nt env a.tmps)(h:run (xU nt dst av env k) σ K=true):
  ∃env',run (k env') σ K=true/\ER ρ nt env' (a.put dst v).tmps/\(a.put dst v).defers=a.defers:=by
 cases dst with
 |none=>exact⟨env,h,hE,rfl⟩
 |some d=>
  obtain⟨hd,h⟩:=ar h
  have hd:=bu hd
  rw[T.setK_eq] at h
  refine⟨_,h,⟨?_,fun t b hb=>?_⟩,rfl⟩
  ·show(a.tmps.setIfInBounds d v).size=nt
   rw[abC];exact hE.size
  ·show ∃u,(a.tmps.setIfInBounds d v)[t]? =some u/\VR ρ b u
   by_cases e:t=d
   ·subst e
    have:=T.get_set_some _ _ hb
    subst this
    refine⟨v, ?_,hv⟩
    rw[aaC,if_pos rfl,if_pos (by rw[hE.size];omega)]
   ·rw[T.get_set_ne _ e] at hb
    obtain⟨u,hu,hr⟩:=hE.val t b hb
    exact⟨u,by rw[aaC,if_neg (fun e'=>e e'.symm)];exact hu,hr⟩
theorem JD{ops:Array Oper}{o:Oper}{yes no:Tr}(hE:ER ρ nt env a.tmps)(h:run (js ops env o yes no) σ K=true):
  (Region.wanted o (yielded ops a.tmps)=true/\run yes σ K=true)∨(Region.wanted o (yielded ops a.tmps)=false/\run no σ K=true):=by
 unfold js at h
 unfold Region.wanted
 split at h
 ·rename_i hg
  rw[hg];exact .inl ⟨rfl,h⟩
 ·rename_i j want hg
  rw[hg]
  split at h
  ·rename_i oj hj
   split at h
   ·rename_i d hd
    obtain⟨v,hv,h⟩:=nl h
    obtain⟨u,hu,hr⟩:=hE.val _ _ hv
    have hy:∀b,u= .bool b->yielded ops a.tmps j=some b:=fun b e=>by
     subst e;simp [yielded,hj,hd,hu]
    have hn:(∀b,u≠ .bool b)->yielded ops a.tmps j=none:=fun hn=>by
     simp only [yielded,hj,hd,hu,Option.bind_some]
     cases u <;> first|rfl|exact absurd rfl (hn _)
    cases hr with
    |bool b=>
     rcases bG h with⟨e,h⟩|⟨e,h⟩
     ·refine .inl ⟨?_,h⟩
      have:b=want:=by simpa using e
      subst this
      simp [hy b rfl]
     ·refine .inr ⟨?_,h⟩
      have:¬b=want:=by simpa using e
      simp [hy b rfl,this]
    |tup l cs h1 h2=>exact .inr ⟨by simp [hn (fun b e=>by cases e)],h⟩
    |sB p b hb=>
     cases want with
     |true=>
      rcases cO h with⟨hp,h⟩|⟨hp,h⟩
      ·exact .inl ⟨by simp [hy b rfl,hb.2 hp],h⟩
      ·exact .inr ⟨by simp [hy b rfl];cases b with|true=>exact absurd (hb.1 rfl) hp|false=>rfl,h⟩
     |false=>
      rcases cO h with⟨hp,h⟩|⟨hp,h⟩
      ·exact .inr ⟨by simp [hy b rfl,hb.2 hp],h⟩
      ·exact .inl ⟨by simp [hy b rfl];cases b with|true=>exact absurd (hb.1 rfl) hp|false=>rfl,h⟩
    |_=>exact(ak h).elim
   ·exact(ak h).elim
  ·exact(ak h).elim
theorem ER.known{p:Prop}{b:Bool}{d:Nat}(hE:ER ρ nt env a.tmps)(hd:env.get d=some (.sB p))(hu:a.tmps[d]? =some (.bool b)):ER ρ nt (env.set d (.bool b)) a.tmps:=by
 refine⟨hE.size,fun t x hx=>?_⟩
 by_cases e:t=d
 ·subst e
  have:=T.get_set_some _ _ hx
  subst this
  exact⟨_,hu,.bool b⟩
 ·rw[T.get_set_ne _ e] at hx
  exact hE.val t x hx
theorem N9{ops:Array Oper}{o:Oper}{yes no:T AV->Tr}(hE:ER ρ nt env a.tmps)(h:run (pg ops env o yes no) σ K=true):
  ∃env',ER ρ nt env' a.tmps/\((Region.wanted o (yielded ops a.tmps)=true/\run (yes env') σ K=true)∨(Region.wanted o (yielded ops a.tmps)=false/\run (no env') σ K=true)):=by
 unfold pg at h
 unfold Region.wanted
 split at h
 ·rename_i hg
  rw[hg];exact⟨env,hE,.inl ⟨rfl,h⟩⟩
 ·rename_i j want hg
  rw[hg]
  split at h
  ·rename_i oj hj
   split at h
   ·rename_i d hd
    obtain⟨v,hv,h⟩:=nl h
    obtain⟨u,hu,hr⟩:=hE.val _ _ hv
    have hy:∀b,u= .bool b->yielded ops a.tmps j=some b:=fun b e=>by
     subst e;simp [yielded,hj,hd,hu]
    have hn:(∀b,u≠ .bool b)->yielded ops a.tmps j=none:=fun hn=>by
     simp only [yielded,hj,hd,hu,Option.bind_some]
     cases u <;> first|rfl|exact absurd rfl (hn _)
    cases hr with
    |bool b=>
     refine⟨env,hE, ?_⟩
     rcases bG h with⟨e,h⟩|⟨e,h⟩
     ·refine .inl ⟨?_,h⟩
      have:b=want:=by simpa using e
      subst this
      simp [hy b rfl]
     ·refine .inr ⟨?_,h⟩
      have:¬b=want:=by simpa using e
      simp [hy b rfl,this]
    |tup l cs h1 h2=>exact⟨env,hE,.inr ⟨by simp [hn (fun b e=>by cases e)],h⟩⟩
    |sB p b hb=>
     rcases cO h with⟨hp,h⟩|⟨hp,h⟩
     ·have x9:b=true:=hb.2 hp
      subst x9
      rw[T.setK_eq] at h
      refine⟨_,hE.known hv hu, ?_⟩
      cases want with
      |true=>exact .inl ⟨by simp [hy true rfl],h⟩
      |false=>exact .inr ⟨by simp [hy true rfl],h⟩
     ·have hbf:b=false:=by cases b with|true=>exact absurd (hb.1 rfl) hp|false=>rfl
      subst hbf
      rw[T.setK_eq] at h
      refine⟨_,hE.known hv hu, ?_⟩
      cases want with
      |true=>exact .inr ⟨by simp [hy false rfl],h⟩
      |false=>exact .inl ⟨by simp [hy false rfl],h⟩
    |_=>exact(ak h).elim
   ·exact(ak h).elim
  ·exact(ak h).elim
theorem N_{rd:Option Nat}{ops:Array Oper}{en rn:cH}(hen:yF P w0 en)(hrn:N8 P w0 rn){k:T AV->Tr}{Q:Exit->Act->World->Prop}(ρ0:Rho)(ds:List Deferred)
  (hk:∀env' c9 ρ' a' w',run (k env') c9 K=true->SI c9->Good w0 ρ' c9.h w'->ρ0.le ρ'->ER ρ' nt env' a'.tmps->a'.defers=ds->Q .normal a' w'):
  ∀(l:List Oper) (env:T AV) (σ:St) (ρ:Rho) (a:Act) (w:World),run (NU P en rn nt ops l env k) σ K=true->SI σ->Good w0 ρ σ.h w->ρ0.le ρ->ER ρ nt env a.tmps->a.defers=ds->wpListIn (fR rd) 0 P ops Q l a w:=by
 intro l
 induction l with
 |nil=>intro env σ ρ a w h hS hG hle hE hd;exact hk _ _ _ _ _ h hS hG hle hE hd
 |cons o l ih=>
  intro env σ ρ a w h hS hG hle hE hd
  have h:run (pg ops env o (fun env=>NT P en rn env o.op fun v=>xU nt o.dst v env fun env=>NU P en rn nt ops l env k) (fun env=>xU nt o.dst (.tup []) env fun env=>NU P en rn nt ops l env k)) σ K=true:=h
  obtain⟨ak2,hE0,h⟩:=N9 hE h
  clear hE
  have hE:=hE0
  rcases h with⟨hw,h⟩|⟨hw,h⟩
  ·simp only [wpListIn,hw,if_true]
   refine JC hen hrn hS hG hE h fun av v c9 ρ' w' h1 h2 h3 h4 h5=>?_
   obtain⟨env',h6,h7,h8⟩:=Uv h5 (hE.mono h4) h1
   exact ih env' c9 ρ' _ w' h6 h2 h3 (hle.trans h4) h7 (h8.trans hd)
  ·simp only [wpListIn,hw,Bool.false_eq_true,if_false]
   obtain⟨env',h6,h7,h8⟩:=Uv (v:=undef) (.tup [] #[] rfl (by simp)) hE h
   exact⟨fun _ _=>trivial,ih env' σ ρ _ w h6 hS hG hle h7 (h8.trans hd)⟩
def DR(ρ:Rho):List Nat->List Deferred->Prop
 | [],[]=>True
 |b::df,d::ds=>(∃h,ρ.at_ b 0=some h/\d.target= .collected h.blk)/\DR ρ df ds
 |_,_=>False
theorem DR.mono{ρ ρ':Rho}(hle:ρ.le ρ'):∀{df:List Nat} {ds:List Deferred},DR ρ df ds->DR ρ' df ds
 | [],[],_=>trivial
 |_::_,_::_,⟨⟨h,h1,h2⟩,h3⟩=>⟨⟨h,hle.at_ _ _ _ h1,h2⟩,DR.mono hle h3⟩
 | [],_::_,h=>h.elim
 |_::_,[],h=>h.elim
theorem gk{r:Nat}{o o':Obj}(h:w.heap[r]? =some o)(ho:∀c t f,o≠ .cells c t f):(setObj r o').run P w= .ok () {w with heap:=w.heap.setIfInBounds r o'}:=by
 cases o <;> first|(exact absurd rfl (ho _ _ _))|(simp [setObj,Sem.run,h])
theorem Good.setObj{H:T ABlk}{b:Nat}{x0 x:ABlk}{h:Home}{o o':Obj}(hG:Good w0 ρ H w)(hb:H.get b=some x0)(d8:b+1<2 ^ 64)(hh:ρ.at_ b 0=some h)(hB:Own ρ w0.heap.size h.blk)(hw:w.heap[h.blk]? =some o)
  (hx:BR ρ w0.heap.size {w with heap:=w.heap.setIfInBounds h.blk o'} b x) (hgx:∀g,Ig g x:=by intro g;trivial) (hnf:¬xx x0) (hxo:∀k I l,x≠ .obj k I l:=by intro _ _ _ h;cases h):Good w0 ρ (H.set b x) {w with heap:=w.heap.setIfInBounds h.blk o'}:=by
 refine hG.turn (hnf:=hnf) (hxo:=hxo) (hrs:=⟨b,0,h,hh,rfl⟩) hb d8 h.blk hB ⟨rfl,rfl,rfl,by simp,fun k hk ho=>?_⟩ (by simp) (fun k hk _=>?_) (fun b' g h' i4 e=>(hG.inj _ _ _ _ _ _ i4 hh e).1) hx (fun g _=>hgx g)
 ·show(w.heap.setIfInBounds h.blk o')[k]? =_
  rw[aaC,if_neg (fun e=>by rcases hB with hB|hB;omega;exact ho (e▸hB))]
 ·show(w.heap.setIfInBounds h.blk o')[k]? =_
  rw[aaC,if_neg (fun e=>hk e.symm)]
theorem mn{r:Nat}{o o':Obj}(h:w.heap[r]? =some o):(w.heap.setIfInBounds r o')[r]? =some o':=by
 have:r<w.heap.size:=by
  rcases aaf r w.heap.size with h'|h'
  ·exact h'
  ·rw[aaN h'] at h;cases h
 rw[aaC,if_pos rfl,if_pos this]
theorem RR{fn:Func}{tmps:Array Value}{R:Ending->World->Prop}{k:Tr}(hk:∀c9 w',run k c9 K=true->SI c9->Good w0 ρ c9.h w'->LeavesInM Fence.wide 0 P fn tmps R [] .returning w'):
  ∀(df:List Nat) (ds:List Deferred) (σ:St) (w:World),run (uB df k) σ K=true->SI σ->Good w0 ρ σ.h w->DR ρ df ds->LeavesInM Fence.wide 0 P fn tmps R ds .returning w:=by
 intro df
 induction df with
 |nil=>
  intro ds σ w h hS hG hd
  cases ds with
  |nil=>exact hk _ _ h hS hG
  |cons _ _=>exact hd.elim
 |cons b df ih=>
  intro ds σ w h hS hG hd
  cases ds with
  |nil=>exact hd.elim
  |cons d ds=>
   obtain⟨⟨hm,hh,ht⟩,hd⟩:=hd
   have h:run (.rd b fun q=>(match q with | .dfr true=>.wr b (.dfr false) (uB df k)|_=>.fail)) σ K=true:=h
   obtain⟨q,d6,hq,e1,d5,h⟩:=bm hS h
   cases q with
   |dfr live=>
    cases live with
    |false=>exact(ak h).elim
    |true=>
     obtain⟨x8,i4,hB,d9⟩:=hG.blk _ _ hq
     rw[hh] at i4;injection i4 with i4;subst i4
     have d9:w.heap[hm.blk]? =some (.deferred (some [])):=d9
     obtain⟨x0,f9,U',e2,i5,d8,h⟩:=cI d5 h
     have d7:Good w0 ρ d6.h w:=by rw[e1];exact hG
     have i7:=d7.setObj (hnf:=nf e1 hq U' (fun h=>h)) (x:=.dfr false) (o':=.deferred none) U' d8 hh hB d9 ⟨hm,hh,hB,mn d9⟩
     refine⟨by simp,.inl ⟨hm.blk,_,ht, ?_,ih ds f9 _ h i5 (by rw[e2];exact i7) hd⟩⟩
     simp only [Instr.takeDeferred,aab,aS d9 (by simp),aae,gk d9 (by simp),aac]
   |_=>exact(ak h).elim
def Gd(tmps:Array Value):ResultVar->Sem Value
 | .tmp t=>pure (tmps.getD t undef)
 | .cell a t=>do loadVar t (←asAddr (tmps.getD a undef))
theorem BD(fn:Func)(tmps:Array Value):results fn tmps=(do
  let vs ←fn.results.mapM (Gd tmps)
  pure (if h:vs.size=1 then vs[0] else .tuple vs)):=by
 unfold results
 congr 1
theorem Ea{tmps:Array Value}{t:Nat}{v:Value}(h:tmps[t]? =some v):tmps.getD t undef=v:=by
 rw[aaS,h];rfl
theorem Wy{tmps:Array Value}(hE:ER ρ nt env tmps):∀(l:List ResultVar) (σ:St) (k:List AV->Tr),run (IV P env l k) σ K=true->SI σ->Good w0 ρ σ.h w->
  ∃avs vs c9,run (k avs) c9 K=true/\SI c9/\Good w0 ρ c9.h w/\LR ρ avs vs/\(l.mapM (Gd tmps)).run P w= .ok vs w:=by
 intro l
 induction l with
 |nil=>intro σ k h hS hG;exact⟨[],[],σ,h,hS,hG,LR.nil ρ,by simp⟩
 |cons r l ih=>
  intro σ k h hS hG
  cases r with
  |tmp t=>
   have h:run (T.getK env t .fail fun v=>IV P env l fun l=>k (v::l)) σ K=true:=h
   obtain⟨av,hv,h⟩:=nl h
   obtain⟨v,hu,hr⟩:=hE.val _ _ hv
   obtain⟨avs,vs,c9,h1,h2,h3,h5,h6⟩:=ih σ _ h hS hG
   refine⟨av::avs,v::vs,c9,h1,h2,h3,LR.cons hr h5, ?_⟩
   simp [List.mapM_cons,Gd,Ea hu,h6]
  |cell c t=>
   have h:run (T.getK env c .fail fun p=>xI P t p fun v=>IV P env l fun l=>k (v::l)) σ K=true:=h
   obtain⟨ap,hap,h⟩:=nl h
   obtain⟨p,hp,hr⟩:=hE.val _ _ hap
   obtain⟨av,d6,v,hb,d5,d7,hv,i3⟩:=yd (P:=P) hS hG hr h
   obtain⟨avs,vs,c9,h1,h2,h3,h5,h6⟩:=ih d6 _ hb d5 d7
   refine⟨av::avs,v::vs,c9,h1,h2,h3,LR.cons hv h5, ?_⟩
   have Zr:(do loadVar t (←asAddr p):Sem Value).run P w= .ok v w:=by
    cases hr with
    |ptr b g o hm hh ho=>
     simp only [Instr.loadAt,Instr.sureAddr,aab,aac,aae] at i3
     simp only [asAddr,aab,aac,aae]
     exact i3
    |gptr b2 g2 i2 o2 es2 X7 Zj Z0=>
     simp only [Instr.loadAt,Instr.sureAddr,aab,aac,aae] at i3
     simp only [asAddr,aab,aac,aae]
     exact i3
    |cptr l2 blk off arr YI hf hb r2=>
     simp only [Instr.loadAt,Instr.sureAddr,aab,aac,aae] at i3
     simp only [asAddr,aab,aac,aae]
     exact i3
    |_=>exact(ak h).elim
   have:(Gd tmps (.cell c t)).run P w= .ok v w:=by
    simp only [Gd,Ea hp];exact Zr
   simp [List.mapM_cons,this,h6]
def Ge:List Value->Value
 | [v]=>v
 |l=>.tuple l.toArray
theorem yG{fn:Func}{tmps:Array Value}{vs:List Value}{w':World}(h:(fn.results.toList.mapM (Gd tmps)).run P w= .ok vs w'):(results fn tmps).run P w= .ok (Ge vs) w':=by
 rw[BD,aab,Array.mapM_eq_mapM_toList,Sem.run_map,h]
 cases vs with
 |nil=>simp [Ge]
 |cons v vs=>
  cases vs with
  |nil=>simp [Ge]
  |cons u vs=>simp [Ge]
end
end Go.Sym
namespace Go.Sym
open Go.RowKit (Below)
section
variable{env env':T AV}
theorem aK{x:Operand}{k k':AV->Tr}(h:∀t,x= .tmp t->env.get t=env'.get t)(hk:∀a,k a=k' a):dY env x k=dY env' x k':=by
 have e:k=k':=funext hk
 subst e
 cases x with
 |tmp t=>
  show T.getK env t .fail k=T.getK env' t .fail k
  rw[T.getK_eq,T.getK_eq,h t rfl]
 |_=>rfl
theorem iB:∀{l:List Operand} {k k':List AV->Tr},(∀x∈l,∀t,x= .tmp t->env.get t=env'.get t)->(∀a,k a=k' a)->lX env l k=lX env' l k':=by
 intro l
 induction l with
 |nil=>intro k k' _ hk;exact hk []
 |cons x l ih=>
  intro k k' h hk
  exact aK (h x (by simp)) fun a=>ih (fun y hy=>h y (by simp [hy])) fun l=>hk (a::l)
theorem lg{o:Option Operand}{k k':Option AV->Tr}(h:∀x,o=some x->∀t,x= .tmp t->env.get t=env'.get t)(hk:∀a,k a=k' a):FF env o k=FF env' o k':=by
 cases o with
 |none=>exact hk none
 |some x=>exact aK (h x rfl) fun a=>hk (some a)
theorem jy:∀{l:List (Nat×Operand)} {k k':List (Nat×AV)->Tr},(∀x∈l,∀t,x.2= .tmp t->env.get t=env'.get t)->(∀a,k a=k' a)->gN env l k=gN env' l k':=by
 intro l
 induction l with
 |nil=>intro k k' _ hk;exact hk []
 |cons x l ih=>
  intro k k' h hk
  exact aK (h x (by simp)) fun a=>ih (fun y hy=>h y (by simp [hy])) fun l=>hk ((x.1,a)::l)
theorem BE{P:Program}{t:TypeId}{k k':TypeDesc->Tr}(hk:∀a,k a=k' a):bJ P t k=bJ P t k':=by rw[show k=k' from funext hk]
theorem te{b:Bool}{x x' y y':Tr}(h:x=x')(h':y=y'):ac b x y=ac b x' y':=by rw[h,h']
theorem Gf{P:Program}{en rn:cH}{op:Op}{k:AV->Tr}(h:∀t,Operand.tmp t∈op.operands->env.get t=env'.get t):NT P en rn env op k=NT P en rn env' op k:=by
 have one:∀x,x∈op.operands->∀t,x= .tmp t->env.get t=env'.get t:=fun x hx t e=>h t (by subst e;exact hx)
 cases op with
 |move x=>exact aK (one x (by simp [Op.operands])) fun _=>rfl
 |assign x=>exact aK (one x (by simp [Op.operands])) fun _=>rfl
 |pick c a b=>
  exact aK (one c (by simp [Op.operands])) fun v=>by
   cases v with
   |bool v=>exact te (aK (one a (by simp [Op.operands])) fun _=>rfl) (aK (one b (by simp [Op.operands])) fun _=>rfl)
   |sB p=>
    show Tr.ask p (ac true (dY env a k) (dY env b k)) (ac false (dY env a k) (dY env b k))=Tr.ask p (ac true (dY env' a k) (dY env' b k)) (ac false (dY env' a k) (dY env' b k))
    rw[aK (one a (by simp [Op.operands])) (fun _=>rfl:∀x,k x=k x),aK (one b (by simp [Op.operands])) (fun _=>rfl:∀x,k x=k x)]
   |_=>rfl
 |box t x=>exact aK (one x (by simp [Op.operands])) fun _=>rfl
 |build t ps=>exact jy (fun x hx=>one x.2 (by simp only [Op.operands,List.mem_toArray];exact List.mem_map.2 ⟨x,hx,rfl⟩)) fun _=>rfl
 |buildSlice t n ps=>exact jy (fun x hx=>one x.2 (by simp only [Op.operands,List.mem_toArray];exact List.mem_map.2 ⟨x,hx,rfl⟩)) fun _=>rfl
 |load t x=>exact aK (one x (by simp [Op.operands])) fun _=>rfl
 |store t x y=>exact aK (one x (by simp [Op.operands])) fun _=>aK (one y (by simp [Op.operands])) fun _=>rfl
 |nilCheck x=>exact aK (one x (by simp [Op.operands])) fun _=>rfl
 |binOp op t x y z=>exact aK (one x (by simp [Op.operands])) fun _=>aK (one y (by simp [Op.operands])) fun _=>rfl
 |unOp op t x=>exact aK (one x (by simp [Op.operands])) fun _=>rfl
 |convert s d x=>exact aK (one x (by simp [Op.operands])) fun _=>rfl
 |makeFunc fn first cap=>
  exact te (iB (fun x hx=>one x (by simp only [Op.operands,Array.mem_append];exact .inl (by simpa using hx))) fun _=>
   iB (fun x hx=>one x (by simp only [Op.operands,Array.mem_append];exact .inr (by simpa using hx))) fun _=>rfl) rfl
 |makeMap t r=>
  cases r with
  |none=>rfl
  |some x=>
   exact BE fun d=>by
    cases d with
    |map _ _=>exact aK (one x (by simp [Op.operands])) fun _=>rfl
    |_=>rfl
 |slice t x lo hi mx=>
  exact aK (one x (by simp [Op.operands])) fun _=>lg (fun y hy=>one y (by subst hy;simp [Op.operands])) fun _=>
   lg (fun y hy=>one y (by subst hy;simp [Op.operands])) fun _=>lg (fun y hy=>one y (by subst hy;simp [Op.operands])) fun _=>rfl
 |fieldAddr t x f=>exact aK (one x (by simp [Op.operands])) fun _=>rfl
 |field t x f=>exact aK (one x (by simp [Op.operands])) fun _=>rfl
 |indexAddr t x i=>exact aK (one x (by simp [Op.operands])) fun _=>aK (one i (by simp [Op.operands])) fun _=>rfl
 |index t x i=>exact aK (one x (by simp [Op.operands])) fun _=>aK (one i (by simp [Op.operands])) fun _=>rfl
 |lookup t x i ok=>exact aK (one x (by simp [Op.operands])) fun _=>aK (one i (by simp [Op.operands])) fun _=>rfl
 |mapUpdate t x y z=>exact aK (one x (by simp [Op.operands])) fun _=>aK (one y (by simp [Op.operands])) fun _=>aK (one z (by simp [Op.operands])) fun _=>rfl
 |makeSlice t x y=>exact aK (one x (by simp [Op.operands])) fun _=>aK (one y (by simp [Op.operands])) fun _=>rfl
 |entry x=>exact aK (one x (by simp [Op.operands])) fun _=>rfl
 |range t x=>exact aK (one x (by simp [Op.operands])) fun _=>rfl
 |next x s=>exact aK (one x (by simp [Op.operands])) fun _=>rfl
 |extract x i=>exact aK (one x (by simp [Op.operands])) fun _=>rfl
 |call c=>
  have j6:∀x∈c.args.toList,x∈(Op.call c).operands:=fun x hx=>by simp only [Op.operands,Call.operands,Array.mem_append];exact .inr (by simpa using hx)
  show(match c.callee with
   | .builtin b=>lX env c.args.toList fun l=>nh l fun l=>mc P b c.argTypes l k
   | .value f=>dY env f fun f=>lX env c.args.toList fun l=>DV P en rn f l k
   | .invoke _ _=>Tr.fail)=(match c.callee with
   | .builtin b=>lX env' c.args.toList fun l=>nh l fun l=>mc P b c.argTypes l k
   | .value f=>dY env' f fun f=>lX env' c.args.toList fun l=>DV P en rn f l k
   | .invoke _ _=>Tr.fail)
  cases hc:c.callee with
  |builtin b=>exact iB (fun x hx=>one x (j6 x hx)) fun _=>rfl
  |value f=>exact aK (one f (by simp [Op.operands,Call.operands,hc])) fun _=>iB (fun x hx=>one x (j6 x hx)) fun _=>rfl
  |invoke _ _=>rfl
 |_=>rfl
noncomputable def tk(P:Program)(en rn:cH)(ops:Array Oper)(env:T AV)(o:Oper):Tr:=js ops env o (NT P en rn env o.op .ret) (.ret (.tup []))
theorem JE{P:Program}{en rn:cH}{ops:Array Oper}{o:Oper}(h:∀t∈looks ops o,env.get t=env'.get t):tk P en rn ops env o=tk P en rn ops env' o:=by
 have h1:NT P en rn env o.op .ret=NT P en rn env' o.op .ret:=Gf fun t ht=>h t (by
  unfold looks
  refine abs _ (List.mem_filterMap.2 ⟨.tmp t,by simpa using ht,rfl⟩))
 unfold tk js
 rw[h1]
 split
 ·rfl
 ·rename_i j want hg
  split
  ·rename_i oj hj
   split
   ·rename_i d hd
    rw[T.getK_eq,T.getK_eq,h d]
    unfold looks
    refine List.mem_append_right _ ?_
    rw[hg]
    simp [hj,hd]
   ·rfl
  ·rfl
end
section
variable{X A:Type}
open Classical in
noncomputable def xy(H:Nat->X->A)(W:Nat->X->Prop)(S:Nat->Prop)(x:X):Nat->A
 |0=>H 0 x
 |m+1=>if S m/\W m x then H (m+1) x else xy H W S x m
variable{H:Nat->X->A}{W:Nat->X->Prop}{S S':Nat->Prop}{x:X}{n:Nat}
theorem uP(same:∀m,m<n->¬W m x->H (m+1) x=H m x):∀m,m<=n->(∀j,j<m->S j)->xy H W S x m=H m x:=by
 intro m
 induction m with
 |zero=>intro _ _;rfl
 |succ m ih=>
  intro hm hS
  unfold xy
  split
  ·rfl
  ·rename_i h
   rw[ih (by omega) (fun j hj=>hS j (by omega)),same m (by omega) (fun hw=>h ⟨hS m (by omega),hw⟩)]
theorem tf:∀m,(∀j,j<m->W j x->(S j↔S' j))->xy H W S x m=xy H W S' x m:=by
 intro m
 induction m with
 |zero=>intro _;rfl
 |succ m ih=>
  intro h
  unfold xy
  rw[ih fun j hj=>h j (by omega)]
  by_cases hw:W m x
  ·by_cases hs:S m
   ·rw[if_pos ⟨hs,hw⟩,if_pos ⟨(h m (by omega) hw).1 hs,hw⟩]
   ·rw[if_neg (fun c=>hs c.1),if_neg (fun c=>hs ((h m (by omega) hw).2 c.1))]
  ·rw[if_neg (fun c=>hw c.2),if_neg (fun c=>hw c.2)]
theorem mo {a : Nat} : ∀ m, a <= m -> (∀ j, a <= j -> j < m -> S j -> ¬ W j x) -> xy H W S x m = xy H W S x a := by
  intro m
  induction m with
  | zero => intro ha _; have : a = 0 := by omega
            subst this; rfl
  | succ m ih =>
    intro ha h
    by_cases e : a = m + 1
    · subst e; rfl
    · conv => lhs; unfold xy
      rw [if_neg (fun c => h m (by omega) (by omega) c.1 c.2)]
      exact ih (by omega) fun j h1 h2 => h j h1 (by omega)
variable{i:Nat}
theorem yH(same:∀m,m<n->¬W m x->H (m+1) x=H m x)(hi:i<n)(hS:¬S i)(h1:∀j,j<i->¬S j->¬W j x)(h2:∀j,i<j->j<n->S j->¬W j x):xy H W S x n=H i x:=by
 rw[mo (a:=i) n (by omega) fun j a b c=>by
  by_cases e:j=i
  ·subst e;exact absurd c hS
  ·exact h2 j (by omega) b c]
 rw[tf (S':=fun _=>True) i fun j hj hw=>⟨fun _=>trivial,fun _=>Classical.byContradiction fun hn=>h1 j hj hn hw⟩]
 exact uP same i (by omega) fun _ _=>trivial
theorem qj(hi:i<n)(l8:∀j,S' j↔S j∨j=i)(hw:W i x)(h2:∀j,i<j->j<n->S j->¬W j x):xy H W S' x n=H (i+1) x:=by
 rw[mo (a:=i+1) n (by omega) fun j a b c=>by
  rcases(l8 j).1 c with c|c
  ·exact h2 j (by omega) b c
  ·omega]
 unfold xy
 rw[if_pos ⟨(l8 i).2 (.inr rfl),hw⟩]
theorem yJ(l8:∀j,S' j↔S j∨j=i)(hw:¬W i x):xy H W S' x n=xy H W S x n:=
 tf n fun j hj hwj=>by
  rw[l8 j]
  exact⟨fun c=>c.elim id fun e=>by subst e;exact absurd hwj hw,.inl⟩
end
structure Tape' where
 E:Nat->T AV
 H:Nat->T ABlk
 N:Nat->Nat
 V:Nat->AV
 TT:Nat->T Unit
 WW:Nat->List Nat
def Tape'.note(c:Tape')(j:Nat):Note:=.mk (c.N j) (c.N (j+1)) (c.TT j) (c.WW j)
def Tape'.notes(c:Tape')(i:Nat):Nat->List (Nat×Note)
 |0=>[]
 |m+1=>(i+m,c.note (i+m))::c.notes i m
theorem Tape'.notes_first(c:Tape')(i:Nat)(ns:List (Nat×Note)):∀m,c.notes i (m+1)++ns=c.notes (i+1) m++(i,c.note i)::ns:=by
 intro m
 induction m with
 |zero=>rfl
 |succ m ih=>
  rw[Tape'.notes,List.cons_append,ih,show i+(m+1)=i+1+m by omega]
  rfl
theorem Tape'.mem_notes(c:Tape')(i:Nat):∀m p,p<m->(i+p,c.note (i+p))∈c.notes i m:=by
 intro m
 induction m with
 |zero=>intro p hp;omega
 |succ m ih=>
  intro p hp
  by_cases e:p=m
  ·subst e;exact aay
  ·exact aaw _ (ih p (by omega))
theorem Tape'.notes_congr(c d:Tape')(i:Nat):∀m,(∀j,i<=j->j<i+m->c.note j=d.note j)->c.notes i m=d.notes i m:=by
 intro m
 induction m with
 |zero=>intro _;rfl
 |succ m ih=>
  intro h
  rw[Tape'.notes,Tape'.notes,ih (fun j a b=>h j a (by omega)),h (i+m) (by omega) (by omega)]
def BF(dst:Option Nat)(v:AV)(env:T AV):T AV:=match dst with|none=>env|some d=>env.set d v
structure StepOk(P:Program)(en rn:cH)(nt:Nat)(ops:Array Oper)(c:Tape')(j:Nat)(o:Oper):Prop where
 loc:LocAt (tk P en rn ops (c.E j) o) (c.H j) (c.N j) (c.N j) .leaf [] (c.V j) (c.H (j+1)) (c.N (j+1)) (c.TT j) (c.WW j)
 env:c.E (j+1)=BF o.dst (c.V j) (c.E j)
 dst:∀d,o.dst=some d->d<nt
 lo:1<=c.N j
 hi:c.N j<=1000000001
def Tape'.before(c:Tape')(i:Nat)(env:T AV)(h:T ABlk)(n:Nat)(v:AV)(t:T Unit)(w:List Nat):Tape' where
 E j:=if j<=i then env else c.E j
 H j:=if j<=i then h else c.H j
 N j:=if j<=i then n else c.N j
 V j:=if j<=i then v else c.V j
 TT j:=if j<=i then t else c.TT j
 WW j:=if j<=i then w else c.WW j
theorem StepOk.later{P:Program}{en rn:cH}{nt:Nat}{ops:Array Oper}{c:Tape'}{j:Nat}{o:Oper}(h:StepOk P en rn nt ops c j o){i:Nat}(hi:i<j)(env:T AV)(hh:T ABlk)(n:Nat)(v:AV)(t:T Unit)(w:List Nat):
  StepOk P en rn nt ops (c.before i env hh n v t w) j o:=by
 obtain⟨h1,h2,h3,h4,h5⟩:=h
 have e1:¬j<=i:=by omega
 have e2:¬j+1<=i:=by omega
 refine⟨?_, ?_,h3, ?_, ?_⟩ <;> simp only [Tape'.before,if_neg e1,if_neg e2] <;> assumption
section
variable{P:Program}{w0:World}{ρ:Rho}{w:World}{σ:St}{K:Fin}{nt:Nat}{env:T AV}{a:Act}
theorem JF{dst:Option Nat}{v:AV}{k:T AV->Tr}(h:run (xU nt dst v env k) σ K=true):run (k (BF dst v env)) σ K=true/\∀d,dst=some d->d<nt:=by
 cases dst with
 |none=>exact⟨h,fun d hd=>by cases hd⟩
 |some d=>
  obtain⟨hd,h⟩:=ar h
  rw[T.setK_eq] at h
  exact⟨h,fun d' XC=>by injection XC with XC;subst XC;exact bu hd⟩
theorem Oa{t:Tr}{k:AV->Nat->Nat->T Unit->List Nat->Tr}{h:T ABlk}{n fs:Nat}{tc:T Unit}{w:List Nat}(hS:SI (.mk h n fs tc w))(hr:run (.sub t k) (.mk h n fs tc w) K=true):
  ∃a h' n' t' w',LocAt t h n n .leaf [] a h' n' t' w'/\∃tc2 w2,run (k a n n' t' w') (.mk h' n' fs tc2 w2) K=true/\SI (.mk h' n' fs tc2 w2):=by
 obtain⟨h1,h2,h3,h4,h5⟩:=hS
 rw[gf] at hr
 rcases loc t h n n .leaf [] (by omega) (aaa _) h2 (by simp) (fun b hb=>by simp [T.get] at hb) with hf|⟨a,h',n',t',w',L⟩
 ·rw[hf] at hr;cases hr
 ·rw[L.run] at hr
  have hle:=L.le
  have ZZ:=L.lid
  refine⟨a,h',n',t',w',L, ?_⟩
  simp only at hr
  split at hr
  ·exact⟨tc,w,hr,by omega,ZZ,by omega,h4,h5⟩
  ·refine⟨_,_,hr,by omega,ZZ,by omega,fun b hb=>?_,fun b hb=>?_⟩
   ·have Y1:∀b∈T.keys t' id [],b+1<2 ^ 64:=fun b hb=>by
     rcases sK t' id [] b hb with hb|⟨x,u,e,hx⟩
     ·cases hb
     ·have:=L.low x hx
      have e':b=x:=e
      subst e'
      omega
    rcases lV _ _ _ hb with hb|⟨hb,f7⟩
    ·exact eE _ _ _ Y1 (h4 b hb)
    ·exact jh _ _ _ Y1 (by have:=T.mem_keys t' id [] b () (L.sub b hb);simpa using this) f7
   ·have key:∀(l:List Nat) (t:T Unit),(∀b,t.get b=some ()->b<fs)->∀b,(fg fs l t).get b=some ()->b<fs:=by
     intro l
     induction l with
     |nil=>intro t ht b hb;exact ht b hb
     |cons x l ih=>
      intro t ht b hb
      refine ih _ (fun y hy=>?_) b hb
      by_cases e:fs<=x
      ·rw[Sym.note,if_pos e] at hy;exact ht y hy
      ·by_cases ey:y=x
       ·omega
       ·rw[Sym.note,if_neg e,T.get_set_ne _ ey] at hy;exact ht y hy
    exact key _ _ h5 b hb
theorem Uw{ops:Array Oper}{en rn:cH}{k:T AV->Tr}:∀(l:List Oper) (i:Nat) (env:T AV) (ns:List (Nat×Note)) (h:T ABlk) (n fs:Nat) (tc:T Unit) (w:List Nat),SI (.mk h n fs tc w)->
  run (DW P en rn nt ops l i env ns k) (.mk h n fs tc w) K=true->
  ∃c:Tape',c.E i=env/\c.H i=h/\c.N i=n/\(∀j o,l[j]? =some o->StepOk P en rn nt ops c (i+j) o)/\
   (∃tc' w',run (k (c.E (i+l.length))) (.mk (c.H (i+l.length)) (c.N (i+l.length)) fs tc' w') K=true/\SI (.mk (c.H (i+l.length)) (c.N (i+l.length)) fs tc' w'))/\
   nk (io ops.toList []) (c.notes i l.length++ns)=true:=by
 intro l
 induction l with
 |nil=>
  intro i env ns h n fs tc w hS hr
  have hr:run (ac (nk (io ops.toList []) ns) (k env) .fail) (.mk h n fs tc w) K=true:=hr
  obtain⟨hc,hr⟩:=ar hr
  exact⟨⟨fun _=>env,fun _=>h,fun _=>n,fun _=>.nilp,fun _=>.leaf,fun _=>[]⟩,rfl,rfl,rfl,fun j o ho=>by simp at ho,⟨tc,w,hr,hS⟩,hc⟩
 |cons o l ih=>
  intro i env ns h n fs tc w hS hr
  have hr:run (.sub (tk P en rn ops env o) fun v c c' t w=>xU nt o.dst v env fun env=>fN (Nat.succ i) fun i'=>DW P en rn nt ops l i' env ((i,.mk c c' t w)::ns) k) (.mk h n fs tc w) K=true:=hr
  obtain⟨v,h',n',t',w',L,tc2,w2,hr,i5⟩:=Oa hS hr
  obtain⟨hr,hd⟩:=JF hr
  have hr:=f_ hr
  obtain⟨c,e1,e2,e3,s8,X3,Zs⟩:=ih _ _ _ _ _ _ _ _ i5 hr
  have g1:∀m,i+1+m=i+(m+1):=fun m=>by omega
  have g2:∀m,¬i+(m+1)<=i:=fun m=>by omega
  have g3:¬i+1<=i:=by omega
  refine⟨c.before i env h n v t' w',by simp [Tape'.before],by simp [Tape'.before],by simp [Tape'.before],fun j o' ho=>?_, ?_, ?_⟩
  ·cases j with
   |zero=>
    simp at ho;subst ho
    refine⟨?_, ?_,hd, ?_, ?_⟩
    ·simp only [Tape'.before,aap,aaa,if_true,if_neg g3]
     have e2:c.H (i+1)=h':=e2
     have e3:c.N (i+1)=n':=e3
     rw[e2,e3];exact L
    ·simp only [Tape'.before,aap,aaa,if_true,if_neg g3]
     exact e1
    ·simp only [Tape'.before,aap,aaa,if_true];exact hS.1
    ·simp only [Tape'.before,aap,aaa,if_true];exact hS.2.1
   |succ j=>
    simp at ho
    have:=(s8 j o' ho).later (i:=i) (by omega) env h n v t' w'
    rw[g1] at this;exact this
  ·obtain⟨tc',w'',q1,q2⟩:=X3
   refine⟨tc',w'', ?_⟩
   simp only [aao,Tape'.before,if_neg (g2 _)]
   have g1':Nat.succ i+l.length=i+(l.length+1):=by omega
   rw[g1'] at q1 q2
   exact⟨q1,q2⟩
  ·rw[aao,Tape'.notes_first]
   have e0:(c.before i env h n v t' w').note i= .mk n n' t' w':=by
    have e3:c.N (i+1)=n':=e3
    simp only [Tape'.note,Tape'.before,aaa,if_true,if_neg g3,e3]
   rw[e0,Tape'.notes_congr _ c (i+1) l.length fun j a b=>by
    have e4:¬j<=i:=by omega
    have e5:¬j+1<=i:=by omega
    simp only [Tape'.note,Tape'.before,if_neg e4,if_neg e5]]
   exact Zs
end
theorem qk{t:T Unit}:∀{l:List Nat},ni t l=true->∀b∈l,t.get b=none:=by
 intro l
 induction l with
 |nil=>intro _ b hb;cases hb
 |cons x l ih=>
  intro h b hb
  have h:T.getK t x (ni t l) (fun _=>false)=true:=h
  rw[T.getK_eq] at h
  split at h
  ·rename_i hx
   rcases List.mem_cons.mp hb with e|hb
   ·subst e;exact hx
   ·exact ih h b hb
  ·cases h
theorem iX{c c':Nat}:∀{l:List Nat},cM c c' l=true->∀b∈l,¬(c<=b/\b<c'):=by
 intro l
 induction l with
 |nil=>intro _ b hb;cases hb
 |cons x l ih=>
  intro h b hb hc
  have h:ac (Nat.ble c x) (ac (Nat.ble (Nat.succ x) c') false (cM c c' l)) (cM c c' l)=true:=h
  rcases List.mem_cons.mp hb with e|hb
  ·subst e
   rw[show Nat.ble c b=true from Nat.ble_eq.mpr hc.1,show Nat.ble (Nat.succ b) c'=true from Nat.ble_eq.mpr hc.2] at h
   cases h
  ·refine ih ?_ b hb hc
   cases h1:Nat.ble c x with
   |false=>rw[h1] at h;exact h
   |true=>
    rw[h1] at h
    cases h2:Nat.ble (Nat.succ x) c' with
    |false=>rw[h2] at h;exact h
    |true=>rw[h2] at h;cases h
theorem yL{bs:List Nat}{c:Tape'}:∀{m:Nat} {ns:List (Nat×Note)},nk bs (c.notes 0 m++ns)=true->∀p q,p<q->q<m->(bs.getD q 0).testBit p=true∨Bg (c.note p) (c.note q)=true:=by
 intro m
 induction m with
 |zero=>intro ns _ p q _ h;omega
 |succ m ih=>
  intro ns h p q hp hq
  have h:ac ((c.notes 0 m++ns).all fun x=>ac ((bs.getD (0+m) 0).testBit x.1) true (Bg x.2 (c.note (0+m)))) (nk bs (c.notes 0 m++ns)) false=true:=h
  obtain⟨h1,h2⟩:=aM h
  by_cases e:q=m
  ·subst e
   have hm:=c.mem_notes 0 q p hp
   have:=List.all_eq_true.mp h1 _ (abs _ hm)
   simp only [aak] at this
   rw[ax] at this
   split at this
   ·rename_i hb;exact .inl hb
   ·exact .inr this
  ·exact ih h2 p q hp (by omega)
theorem ql:∀(l:List Oper) (acc:List Nat) (i:Nat),i<acc.length->(io l acc).getD i 0=acc.getD i 0:=by
 intro l
 induction l with
 |nil=>intro acc i _;rfl
 |cons o l ih=>
  intro acc i hi
  rw[io,ih _ _ (by simp;omega)]
  simp [aag,aaz hi]
def Eb(acc:List Nat)(o:Oper):Nat:=o.after.toList.foldl (fun s e=>if Region.binds .any e then s ||| 2 ^ e.on ||| acc.getD e.on 0 else s) 0
theorem Ob:∀(l:List Oper) (acc:List Nat) (k:Nat) (o:Oper),l[k]? =some o->∃YV,YV.length=acc.length+k/\(∀i,i<YV.length->(io l acc).getD i 0=YV.getD i 0)/\(io l acc).getD (acc.length+k) 0=Eb YV o:=by
 intro l
 induction l with
 |nil=>intro acc k o h;simp at h
 |cons o l ih=>
  intro acc k o' h
  cases k with
  |zero=>
   simp at h;subst h
   refine⟨acc,rfl,fun i hi=>ql _ _ _ hi, ?_⟩
   rw[io,ql _ _ _ (by simp)]
   simp [aag,Eb]
  |succ k=>
   simp at h
   obtain⟨YV,h1,h2,h3⟩:=ih (acc++ [Eb acc o]) k o' h
   simp only [aai,aaI] at h1 h3
   refine⟨YV,by omega,h2, ?_⟩
   rw[←h3,show acc.length+(k+1)=acc.length+1+k by omega]
   rfl
theorem Gg{acc:List Nat}{o:Oper}{i:Nat}(h:(Eb acc o).testBit i=true):∃e∈o.after,Region.binds .any e=true/\(e.on=i∨(acc.getD e.on 0).testBit i=true):=by
 have key:∀(l:List Edge) (s:Nat),(l.foldl (fun s e=>if Region.binds .any e then s ||| 2 ^ e.on ||| acc.getD e.on 0 else s) s).testBit i=true->
   s.testBit i=true∨∃e∈l,Region.binds .any e=true/\(e.on=i∨(acc.getD e.on 0).testBit i=true):=by
  intro l
  induction l with
  |nil=>intro s h;exact .inl h
  |cons e l ih=>
   intro s h
   rw[List.foldl_cons] at h
   rcases ih _ h with h|⟨e',he,h⟩
   ·split at h
    ·rename_i hb
     rw[Nat.testBit_or,Nat.testBit_or,Bool.or_eq_true,Bool.or_eq_true,Nat.testBit_two_pow] at h
     rcases h with(h|h)|h
     ·exact .inl h
     ·exact .inr ⟨e,by simp,hb,.inl (by simpa using h)⟩
     ·exact .inr ⟨e,by simp,hb,.inr h⟩
    ·exact .inl h
   ·exact .inr ⟨e',by simp [he],h⟩
 rcases key _ _ h with h|⟨e,he,h⟩
 ·simp at h
 ·exact⟨e,by simpa using he,h⟩
theorem Oc{ops:Array Oper}{j i:Nat}{o:Oper}(ho:ops[j]? =some o)(h:((io ops.toList []).getD j 0).testBit i=true):
  ∃e∈o.after,Region.binds .any e=true/\(e.on=i∨((io ops.toList []).getD e.on 0).testBit i=true):=by
 obtain⟨YV,h1,h2,h3⟩:=Ob ops.toList [] j o (by simpa using ho)
 simp only [List.length_nil,aak] at h1 h3
 rw[h3] at h
 obtain⟨e,he,hb,hc⟩:=Gg h
 refine⟨e,he,hb,hc.imp id fun hc=>?_⟩
 rcases aaf e.on YV.length with hl|hl
 ·rw[h2 _ hl];exact hc
 ·rw[aag,aaj hl] at hc;simp at hc
theorem tg{ops:Array Oper}(h:nj ops=true){j:Nat}{o:Oper}(ho:ops[j]? =some o):∀e∈o.after,Region.binds .any e=true->e.on<j:=by
 intro e he hb
 unfold nj at h
 have hm:(o,j)∈ops.toList.zipIdx:=by rw[abD];simpa using ho
 have:=List.all_eq_true.mp h _ hm
 simp only [Bool.and_eq_true] at this
 have:=List.all_eq_true.mp this.1 e (by simpa using he)
 simpa [hb] using this
theorem uQ{ops:Array Oper}(h:nj ops=true){i j:Nat}{p o:Oper}(hp:ops[i]? =some p)(ho:ops[j]? =some o)(hij:i<j):((io ops.toList []).getD j 0).testBit i=true∨uA ops p o=true:=by
 unfold nj at h
 have hm:(o,j)∈ops.toList.zipIdx:=by rw[abD];simpa using ho
 have x8:(p,i)∈ops.toList.zipIdx:=by rw[abD];simpa using hp
 have:=List.all_eq_true.mp h _ hm
 simp only [Bool.and_eq_true] at this
 have:=List.all_eq_true.mp this.2 _ x8
 simp only [Bool.or_eq_true,Bool.not_eq_true',decide_eq_false_iff_not] at this
 rcases this with(c|c)|c
 ·exact absurd hij c
 ·exact .inl c
 ·exact .inr c
theorem BG{ops:Array Oper}{a b:Oper}(h:uA ops a b=true):(∀d,a.dst=some d->d∉looks ops b)/\(∀d,b.dst=some d->d∉looks ops a)/\∀d,a.dst=some d->b.dst≠some d:=by
 unfold uA at h
 simp only [Bool.and_eq_true] at h
 obtain⟨⟨h1,h2⟩,h3⟩:=h
 refine⟨fun d hd=>?_,fun d hd=>?_,fun d hd he=>?_⟩
 ·rw[hd] at h1;simpa using h1
 ·rw[hd] at h2;simpa using h2
 ·rw[hd,he] at h3;simp at h3
section
variable{P:Program}{w0:World}{ρ:Rho}{w:World}{σ:St}{K:Fin}{nt:Nat}{env:T AV}{a:Act}
theorem Good.like{H H':T ABlk}(hG:Good w0 ρ H w)(h:∀b,H'.get b=H.get b):Good w0 ρ H' w:=
 ⟨⟨hG.below,fun b x hx=>hG.blk b x (by rw[←h];exact hx),fun b g x hx=>by rw[h];exact hG.dom b g x hx,hG.inj,fun b g y x hy hx=>hG.gens b g y x hy (by rw[←h];exact hx),fun b arr ty hf=>⟨(hG.frz b arr ty hf).1,fun b' g x hh e=>by rw[h];exact(hG.frz b arr ty hf).2 b' g x hh e⟩,hG.frzB,fun b k I l hb=>hG.objO b k I l (by rw[←h];exact hb)⟩,hG.ownB⟩
theorem ER.like{env':T AV}{tmps:Array Value}(hE:ER ρ nt env tmps)(h:∀d,env'.get d=env.get d):ER ρ nt env' tmps:=
 ⟨hE.size,fun t x hx=>hE.val t x (by rw[←h];exact hx)⟩
theorem Od{dst:Option Nat}{av:AV}{v:Value}(hv:VR ρ av v)(hE:ER ρ nt env a.tmps)(hd:∀d,dst=some d->d<nt):ER ρ nt (BF dst av env) (a.put dst v).tmps:=by
 cases dst with
 |none=>exact hE
 |some d=>
  have hd:=hd d rfl
  refine⟨?_,fun t b hb=>?_⟩
  ·show(a.tmps.setIfInBounds d v).size=nt
   rw[abC];exact hE.size
  ·show ∃u,(a.tmps.setIfInBounds d v)[t]? =some u/\VR ρ b u
   by_cases e:t=d
   ·subst e
    have:=T.get_set_some _ _ hb
    subst this
    refine⟨v, ?_,hv⟩
    rw[aaC,if_pos rfl,if_pos (by rw[hE.size];omega)]
   ·have hb:(env.set d av).get t=some b:=hb
    rw[T.get_set_ne _ e] at hb
    obtain⟨u,hu,hr⟩:=hE.val t b hb
    exact⟨u,by rw[aaC,if_neg (fun e'=>e e'.symm)];exact hu,hr⟩
theorem th{dst:Option Nat}{v:AV}{x:Nat}(h:dst≠some x):(BF dst v env).get x=env.get x:=by
 cases dst with
 |none=>rfl
 |some d=>exact T.get_set_ne _ (fun e=>h (by rw[e])) _
theorem Ec{dst:Option Nat}{v:AV}{x:Nat}(h:dst=some x)(hx:x+1<2 ^ 64):(BF dst v env).get x=some v:=by
 subst h;exact T.get_set_same _ _ _ hx
def gB(listed:Array Bool)(j:Nat):Prop:=listed.getD j false=true
theorem JG{listed:Array Bool}{i:Nat}(hi:i<listed.size)(j:Nat):gB (listed.setIfInBounds i true) j↔gB listed j∨j=i:=by
 unfold gB
 rw[aaS,aaC,aaS]
 by_cases e:i=j
 ·subst e;simp [hi]
 ·have e':¬j=i:=fun h=>e h.symm
  rw[if_neg e,or_iff_left e']
theorem yM{listed:Array Bool}{j:Nat}(h:listed.getD j true=false):¬gB listed j/\j<listed.size:=by
 rw[aaS] at h
 cases hj:listed[j]? with
 |none=>rw[hj] at h;cases h
 |some b=>
  rw[hj] at h
  refine⟨fun c=>?_,(Array.getElem?_eq_some_iff.1 hj).1⟩
  unfold gB at c
  rw[aaS,hj] at c
  have h:b=false:=h
  have c:b=true:=c
  rw[h] at c;cases c
def RS(ops:Array Oper)(o:Oper)(x:Nat):Prop:=x∈looks ops o∨o.dst=some x
def V2(ops:Array Oper)(j:Nat)(x:Nat):Prop:=∃o,ops[j]? =some o/\o.dst=some x
def RT(c:Tape')(j:Nat)(b:Nat):Prop:=QE (c.N j) (c.N (j+1)) (c.WW j) b
def V3(c:Tape')(j:Nat)(b:Nat):Prop:=Rw (c.N j) (c.N (j+1)) (c.TT j) b
open Classical in
theorem Oe{rd:Option Nat}{ops:Array Oper}{en rn:cH}(hen:yF P w0 en)(hrn:N8 P w0 rn)(hnt:nt<=1000000000)(hm:P.follows .mixedOrders=true){k:T AV->Tr}{Q:Exit->Act->World->Prop}(ρ0:Rho)(ds:List Deferred)
  (hk:∀env' c9 ρ' a' w',run (k env') c9 K=true->SI c9->Good w0 ρ' c9.h w'->ρ0.le ρ'->ER ρ' nt env' a'.tmps->a'.defers=ds->Q .normal a' w')
  (htm:nj ops=true) (h:run (DW P en rn nt ops ops.toList 0 env [] k) σ K=true) (hS:SI σ) (hG:Good w0 ρ σ.h w) (hle:ρ0.le ρ) (hE:ER ρ nt env a.tmps) (hd:a.defers=ds) (id:Nat):
  (Code.region id ops true).wpIn (fR rd) 0 P Q a w:=by
 cases σ with
 |mk h0 n0 fs tc ww=>
 obtain⟨c,e1,e2,e3,s8,⟨tc',w',X3,ab_⟩,Zs⟩:=Uw _ _ _ _ _ _ _ _ _ hS h
 rw[aaH,aak] at X3 ab_
 rw[aaH] at Zs
 have s8:∀j o,ops[j]? =some o->StepOk P en rn nt ops c j o:=fun j o ho=>by
  have:=s8 j o (by simpa using ho)
  rwa [aak] at this
 have f7:∀{j o},ops[j]? =some o->j<ops.size:=fun h=>(Array.getElem?_eq_some_iff.1 h).1
 have X4:∀{j},j<ops.size->∃o,ops[j]? =some o:=fun h=>⟨_,aaJ h⟩
 have hN1:∀j,j<ops.size->c.N j<=c.N (j+1):=fun j hj=>by
  obtain⟨o,ho⟩:=X4 hj
  exact(s8 j o ho).loc.le
 have hN:∀i j,i<=j->j<=ops.size->c.N i<=c.N j:=fun i j=>by
  induction j with
  |zero=>intro h1 _;rw[show i=0 by omega];exact aaa _
  |succ j ih=>
   intro h1 h2
   by_cases e:i=j+1
   ·subst e;exact aaa _
   ·exact aaR (ih (by omega) (by omega)) (hN1 j (by omega))
 have sameH:∀b m,m<ops.size->¬RT c m b->(c.H (m+1)).get b=(c.H m).get b:=fun b m hm hw=>by
  obtain⟨o,ho⟩:=X4 hm
  exact(s8 m o ho).loc.same b hw
 have sameE:∀x m,m<ops.size->¬V2 ops m x->(c.E (m+1)).get x=(c.E m).get x:=fun x m hm hw=>by
  obtain⟨o,ho⟩:=X4 hm
  rw[(s8 m o ho).env]
  exact th fun e=>hw ⟨o,ho,e⟩
 have ab1:∀j b,j<ops.size->RT c j b->V3 c j b:=fun j b hj hw=>by
  obtain⟨o,ho⟩:=X4 hj
  rcases hw with hw|hw
  ·exact .inl ((s8 j o ho).loc.sub b hw)
  ·exact .inr hw
 have apH:∀i j b,i<j->j<ops.size->¬((io ops.toList []).getD j 0).testBit i=true->(¬(V3 c i b/\RT c j b))/\¬(RT c i b/\V3 c j b):=fun i j b hij hj hnb=>by
  obtain⟨p,hp⟩:=X4 (show i<ops.size by omega)
  obtain⟨o,ho⟩:=X4 hj
  have G':=(yL Zs i j hij hj).resolve_left hnb
  have G':ac (ni (c.TT j) (c.WW i)) (ac (ni (c.TT i) (c.WW j)) (ac (cM (c.N i) (c.N (i+1)) (T.keys (c.TT j) _root_.id [])) (ac (cM (c.N i) (c.N (i+1)) (c.WW j)) true false) false) false) false=true:=G'
  obtain⟨h1,G'⟩:=aM G'
  obtain⟨h2,G'⟩:=aM G'
  obtain⟨h3,G'⟩:=aM G'
  obtain⟨h4,_⟩:=aM G'
  have Li:=(s8 i p hp).loc
  have Lj:=(s8 j o ho).loc
  have ak3:=hN (i+1) j (by omega) (by omega)
  have hNi:=hN1 i (by omega)
  constructor
  ·rintro⟨ht,hw⟩
   rcases hw with hw|hw
   ·rcases ht with ht|ht
    ·rw[qk h2 b hw] at ht;cases ht
    ·exact iX h4 b hw ht
   ·rcases ht with ht|ht
    ·have:=Li.low b ht;omega
    ·omega
  ·rintro⟨hw,ht⟩
   rcases hw with hw|hw
   ·rcases ht with ht|ht
    ·rw[qk h1 b hw] at ht;cases ht
    ·have:=Li.low b (Li.sub b hw);omega
   ·rcases ht with ht|ht
    ·exact iX h3 b (by have:=T.mem_keys (c.TT j) _root_.id [] b () ht;simpa using this) hw
    ·omega
 have apE:∀i j p o x,i<j->ops[i]? =some p->ops[j]? =some o->¬((io ops.toList []).getD j 0).testBit i=true->(¬(RS ops p x/\o.dst=some x))/\¬(p.dst=some x/\RS ops o x):=fun i j p o x hij hp ho hnb=>by
  obtain⟨h1,h2,h3⟩:=BG ((uQ htm hp ho hij).resolve_left hnb)
  constructor
  ·rintro⟨ht,hw⟩
   rcases ht with ht|ht
   ·exact h2 x hw ht
   ·exact h3 x ht hw
  ·rintro⟨hw,ht⟩
   rcases ht with ht|ht
   ·exact h1 x hw ht
   ·exact h3 x hw ht
 have main:∀(fuel:Nat) (listed:Array Bool) (g:T ABlk) (env':T AV) (ρ':Rho) (a':Act) (w':World),listed.size=ops.size->listed.toList.count false<=fuel->
   (∀j,gB listed j->∀i,((io ops.toList []).getD j 0).testBit i=true->gB listed i)->
   (∀b,g.get b=xy (fun m b=>(c.H m).get b) (RT c) (gB listed) b ops.size)->(∀x,env'.get x=xy (fun m x=>(c.E m).get x) (V2 ops) (gB listed) x ops.size)->
   Good w0 ρ' g w'->ρ0.le ρ'->ER ρ' nt env' a'.tmps->a'.defers=ds->wpAnyIn (fR rd) 0 P .any ops Q fuel listed a' w':=by
  intro fuel
  have fin:∀(listed:Array Bool) (g:T ABlk) (env':T AV) (ρ':Rho) (a':Act) (w':World),listed.size=ops.size->
    (∀b,g.get b=xy (fun m b=>(c.H m).get b) (RT c) (gB listed) b ops.size)->(∀x,env'.get x=xy (fun m x=>(c.E m).get x) (V2 ops) (gB listed) x ops.size)->
    Good w0 ρ' g w'->ρ0.le ρ'->ER ρ' nt env' a'.tmps->a'.defers=ds->Region.ready .any ops listed= []->Q .normal a' w':=by
   intro listed g env' ρ' a' w' u0 hg he i6 Yp hE' XC hr
   have Yo:∀m,∀j,j<m->j<ops.size->gB listed j:=by
    intro m
    induction m with
    |zero=>intro j hj;omega
    |succ m ih=>
     intro j hj hjs
     by_cases e:j<m
     ·exact ih j e hjs
     ·have e:j=m:=by omega
      subst e
      refine byContradiction fun hn=>?_
      obtain⟨o,ho⟩:=X4 hjs
      have:j∈Region.ready .any ops listed:=mem_ready.2 ⟨?_,o,ho,fun e he hb=>ih e.on (tg htm ho e he hb) (by have:=tg htm ho e he hb;omega)⟩
      ·rw[hr] at this;cases this
      ·unfold gB at hn
       rw[aaS,aaJ (by omega)] at hn⊢
       simpa using hn
   have hH:∀b,(c.H ops.size).get b=g.get b:=fun b=>by
    rw[hg b,uP (sameH b) ops.size (aaa _) fun j hj=>Yo (j+1) j (by omega) hj]
   have hEE:∀x,(c.E ops.size).get x=env'.get x:=fun x=>by
    rw[he x,uP (sameE x) ops.size (aaa _) fun j hj=>Yo (j+1) j (by omega) hj]
   exact hk _ _ ρ' a' w' X3 ab_ (i6.like hH) Yp (hE'.like hEE) XC
  induction fuel with
  |zero=>
   intro listed g env' ρ' a' w' u0 ai4 Q' hg he i6 Yp hE' XC
   have hr:Region.ready .any ops listed= []:=by
    rw[List.eq_nil_iff_forall_not_mem]
    intro j hj
    have:=(mem_ready.1 hj).1
    have hn:=yM this
    have:false∈listed.toList:=by
     rw[aaS,aaJ hn.2] at this
     have this:listed[j]'hn.2=false:=this
     rw[←this];simp
    have:=List.count_pos_iff.2 this
    omega
   exact⟨hr,fin listed g env' ρ' a' w' u0 hg he i6 Yp hE' XC hr⟩
  |succ fuel ih=>
   intro listed g env' ρ' a' w' u0 ai4 Q' hg he i6 Yp hE' XC
   refine⟨fin listed g env' ρ' a' w' u0 hg he i6 Yp hE' XC,fun i hi=>?_⟩
   obtain⟨hun,o,ho,XU⟩:=mem_ready.1 hi
   obtain⟨hnd,hil⟩:=yM hun
   have his:=f7 ho
   have st:=s8 i o ho
   have L:=st.loc
   have ag0:∀j,((io ops.toList []).getD i 0).testBit j=true->gB listed j:=fun j hj=>by
    obtain⟨e,he,hb,hc⟩:=Oc ho hj
    rcases hc with hc|hc
    ·subst hc;exact XU e he hb
    ·exact Q' _ (XU e he hb) j hc
   have later:∀j,i<j->j<ops.size->gB listed j->¬((io ops.toList []).getD j 0).testBit i=true:=fun j _ _ hj hb=>hnd (Q' j hj i hb)
   have sooner:∀j,j<i->¬gB listed j->¬((io ops.toList []).getD i 0).testBit j=true:=fun j _ hj hb=>hj (ag0 j hb)
   have ag1:∀b,V3 c i b->g.get b=(c.H i).get b:=fun b hb=>by
    rw[hg b]
    exact yH (sameH b) his hnd (fun j h1 h2 h3=>(apH j i b h1 his (sooner j h1 h2)).2 ⟨h3,hb⟩) fun j h1 h2 h3 h4=>(apH i j b h1 h2 (later j h1 h2 h3)).1 ⟨hb,h4⟩
   have ag2:∀x,RS ops o x->env'.get x=(c.E i).get x:=fun x hx=>by
    rw[he x]
    refine yH (sameE x) his hnd (fun j h1 h2 h3=>?_) fun j h1 h2 h3 h4=>?_
    ·obtain⟨p,hp,hpx⟩:=h3
     exact(apE j i p o x h1 hp ho (sooner j h1 h2)).2 ⟨hpx,hx⟩
    ·obtain⟨p,hp,hpx⟩:=h4
     exact(apE i j o p x h1 ho hp (later j h1 h2 h3)).1 ⟨hx,hpx⟩
   obtain⟨g',r1,r2,r3⟩:=L.like g ag1
   have i3:run (tk P en rn ops env' o) (.mk g (c.N i) (c.N i) .leaf []) (fun x s=>decide (x=c.V i/\s= .mk g' (c.N (i+1)) (c.N i) (c.TT i) (c.WW i)))=true:=by
    rw[JE (env':=c.E i) (fun t ht=>ag2 t (.inl ht)),r1]
    simp
   have hSi:SI (.mk g (c.N i) (c.N i) .leaf []):=⟨st.lo,st.hi,aaa _,by simp,fun b hb=>by simp [T.get] at hb⟩
   have next:∀(ρ2:Rho) (v:Value) (w2:World),Good w0 ρ2 g' w2->ρ'.le ρ2->VR ρ2 (c.V i) v->wpAnyIn (fR rd) 0 P .any ops Q fuel (listed.setIfInBounds i true) (a'.put o.dst v) w2:=by
    intro ρ2 v w2 i7 j9 hv
    have hds:=JG (listed:=listed) (i:=i) hil
    refine ih (listed.setIfInBounds i true) g' (BF o.dst (c.V i) env') ρ2 (a'.put o.dst v) w2 (by simp [u0]) ?_ (fun j hj q hq=>?_) (fun b=>?_) (fun x=>?_) i7 (Yp.trans j9) (Od hv (hE'.mono j9) st.dst) (by cases ak4:o.dst <;> exact XC)
    ·rw[Array.toList_setIfInBounds,List.count_set (by simpa using hil)]
     have e1:listed.toList[i]'(by simpa using hil)=false:=by
      rw[aaS,aaJ hil] at hun
      have hun:listed[i]'hil=false:=hun
      simpa using hun
     have:0<listed.toList.count false:=List.count_pos_iff.2 (by rw[←e1];exact abe _)
     rw[e1,if_pos (by rfl),if_neg (by decide)];omega
    ·rcases(hds j).1 hj with hj|hj
     ·exact(hds q).2 (.inl (Q' j hj q hq))
     ·subst hj;exact(hds q).2 (.inl (ag0 q hq))
    ·by_cases hw:RT c i b
     ·rw[r2 b (ab1 i b his hw)]
      exact(qj (H:=fun m b=>(c.H m).get b) his hds hw fun j h1 h2 h3 h4=>(apH i j b h1 h2 (later j h1 h2 h3)).1 ⟨ab1 i b his hw,h4⟩).symm
     ·rw[r3 b hw,hg b]
      exact(yJ (H:=fun m b=>(c.H m).get b) hds hw).symm
    ·by_cases hw:V2 ops i x
     ·have hx:o.dst=some x:=by
       obtain⟨o',ZI,hx⟩:=hw
       rw[ho] at ZI;injection ZI with ZI;rw[ZI];exact hx
      have ag3:x+1<2 ^ 64:=by have:x<nt:=st.dst x hx;omega
      have q1:(BF o.dst (c.V i) env').get x=(c.E (i+1)).get x:=by rw[st.env,Ec hx ag3,Ec hx ag3]
      rw[q1]
      refine(qj (H:=fun m x=>(c.E m).get x) his hds hw fun j h1 h2 h3 h4=>?_).symm
      obtain⟨p,hp,hpx⟩:=h4
      exact(apE i j o p x h1 ho hp (later j h1 h2 h3)).1 ⟨.inr hx,hpx⟩
     ·rw[th (fun e=>hw ⟨o,ho,e⟩),he x]
      exact(yJ (H:=fun m x=>(c.E m).get x) hds hw).symm
   unfold wpOpIn
   simp only [ho]
   rcases JD hE' i3 with⟨hw,hr⟩|⟨hw,hr⟩
   ·rw[if_pos hw]
    refine JC hen hrn hSi i6 hE' hr fun av v c9 ρ2 w2 q1 q2 q3 q4 q5=>?_
    obtain⟨z1,z2⟩:=of_decide_eq_true (show decide (av=c.V i/\c9= .mk g' (c.N (i+1)) (c.N i) (c.TT i) (c.WW i))=true from q1)
    subst z1;subst z2
    exact next ρ2 v w2 q3 q4 q5
   ·rw[if_neg (by rw[hw];simp)]
    obtain⟨z1,z2⟩:=of_decide_eq_true (show decide (AV.tup []=c.V i/\St.mk g (c.N i) (c.N i) .leaf []= .mk g' (c.N (i+1)) (c.N i) (c.TT i) (c.WW i))=true from hr)
    injection z2 with z2
    refine⟨fun _ _=>trivial,next ρ' undef w' (by rw[←z2];exact i6) (Rho.le.refl _) (by rw[←z1];exact .tup [] #[] rfl (by simp))⟩
 refine wpIn_region_any hm (main ops.size (Array.replicate ops.size false) h0 env ρ a _ (by simp) (by simp) (fun j hj=>?_) (fun b=>?_) (fun x=>?_) (hG.drawn _) hle hE hd)
 ·unfold gB at hj
  rw[aaS,abE] at hj
  split at hj <;> simp at hj
 ·have hn:∀j,¬gB (Array.replicate ops.size false) j:=fun j hj=>by
   unfold gB at hj
   rw[aaS,abE] at hj
   split at hj <;> simp at hj
  rw[mo (a:=0) ops.size (aal _) fun j _ _ hj=>absurd hj (hn j)]
  show h0.get b=(c.H 0).get b
  rw[e2]
 ·have hn:∀j,¬gB (Array.replicate ops.size false) j:=fun j hj=>by
   unfold gB at hj
   rw[aaS,abE] at hj
   split at hj <;> simp at hj
  rw[mo (a:=0) ops.size (aal _) fun j _ _ hj=>absurd hj (hn j)]
  show env.get x=(c.E 0).get x
  rw[e1]
end
end Go.Sym
namespace Go.Sym
open Go.RowKit (Below)
def T9:AEx->Exit
 | .normal=>.normal
 | .exit id=>.exit id
 | .goto l=>.goto l
 | .ret=>.ret
def JH(w0:World)(ρ:Rho)(K:Fin)(nt:Nat)(k:XK)(Q:Exit->Act->World->Prop):Prop:=
 ∀ex env' XZ c9 ρ' w' a',run (k ex env' XZ) c9 K=true->SI c9->Good w0 ρ' c9.h w'->ρ.le ρ'->ER ρ' nt env' a'.tmps->DR ρ' XZ a'.defers->Q (T9 ex) a' w'
def RW(ρ:Rho):Option Nat->Option Nat->Prop
 |none,r=>r=none
 |some l,r=>∃h,ρ.at_ l 0=some h/\r=some h.blk
theorem RW.mono{ρ ρ':Rho}(hle:ρ.le ρ'){dS rd:Option Nat}(h:RW ρ dS rd):RW ρ' dS rd:=by
 cases dS with
 |none=>exact h
 |some l=>obtain⟨x,h1,h2⟩:=h;exact⟨x,hle.at_ _ _ _ h1,h2⟩
inductive SubC:Code->Code->Prop where
 |refl (c:Code):SubC c c
 |seqL {a b c:Code} (h:SubC (.seq a b) c):SubC a c
 |seqR {a b c:Code} (h:SubC (.seq a b) c):SubC b c
 |condL {x:Operand} {a b c:Code} (h:SubC (.cond x a b) c):SubC a c
 |condR {x:Operand} {a b c:Code} (h:SubC (.cond x a b) c):SubC b c
 |block {id:Nat} {a c:Code} (h:SubC (.block id a) c):SubC a c
 |loop {a c:Code} (h:SubC (.loop a) c):SubC a c
def InF(P:Program)(f:Nat)(dS:Option Nat)(c:Code):Prop:=dS=none->xV c=true∨∃fn b,P.funcs[f]? =some fn/\fn.body=some b/\SubC c b
theorem InF.sub{P:Program}{f:Nat}{dS:Option Nat}{c d:Code}(h:InF P f dS c)(hs:∀b,SubC c b->SubC d b)(hj:xV c=false):InF P f dS d:=fun hr=>by
 rcases h hr with h|⟨fn,b,h1,h2,h3⟩
 ·rw[hj] at h;cases h
 ·exact .inr ⟨fn,b,h1,h2,hs b h3⟩
theorem InF.round{P:Program}{f l:Nat}{c:Code}:InF P f (some l) c:=fun h=>by cases h
def BH(P:Program)(w0:World)(x:X):Prop:=
 ∀(c:Code) (env:T AV) (nt f:Nat) (df:List Nat) (k:XK) (σ:St) (K:Fin) (ρ:Rho) (w:World) (a:Act) (Q:Exit->Act->World->Prop) (dS rd:Option Nat),RW ρ dS rd->SI σ->Good w0 ρ σ.h w->ER ρ nt env a.tmps->DR ρ df a.defers->
  run (x c env nt f dS df k) σ K=true->JH w0 ρ K nt k Q->InF P f dS c->c.wpIn (fR rd) 0 P Q a w
def iC(P:Program)(rd:Option Nat)(c:Code)(Q:Exit->Act->World->Prop)(a:Act)(w:World):Prop:=
 ∀(b:Frame) (k:List Item) (cs:List Frame),b.roundOf=(fR rd).round->(fR rd).fn b.fn->(fR rd).room (cs.length+1+0)->
  ∃e a' w',Q e a' w'/\ArrivesIn (Machine.fenced P (fR rd)) P (lone (b.atR a (.code c:: .inLoop c::k)) cs w) b k cs e a' w'
def Of(P:Program)(w0:World)(x:X):Prop:=
 ∀(c:Code) (env:T AV) (nt f:Nat) (df:List Nat) (k:XK) (σ:St) (K:Fin) (ρ:Rho) (w:World) (a:Act) (Q:Exit->Act->World->Prop) (dS rd:Option Nat),RW ρ dS rd->SI σ->Good w0 ρ σ.h w->ER ρ nt env a.tmps->DR ρ df a.defers->
  run (x (.loop c) env nt f dS df k) σ K=true->JH w0 ρ K nt k Q->InF P f dS (.loop c)->iC P rd c Q a w
section
variable{P:Program}{w0:World}{ρ:Rho}{w:World}{σ:St}{K:Fin}{nt:Nat}{env:T AV}{a:Act}
theorem Gh{k:T AV->Tr}:∀(l:List AV) (i:Nat) (t:T AV),run (IU l i t k) σ K=true->
  ∃c,run (k c) σ K=true/\∀o x,c.get o=some x->(∃(j:Nat),o=i+j/\l[j]? =some x)∨(t.get o=some x/\(o<i∨i+l.length<=o)):=by
 intro l
 induction l with
 |nil=>intro i t h;exact⟨t,h,fun o x hx=>.inr ⟨hx,by simp;omega⟩⟩
 |cons a l ih=>
  intro i t h
  have h:run (T.setK t i a fun t=>fN (Nat.succ i) fun i=>IU l i t k) σ K=true:=h
  rw[T.setK_eq] at h
  obtain⟨c,h1,h2⟩:=ih _ _ (f_ h)
  refine⟨c,h1,fun o x hx=>?_⟩
  rcases h2 o x hx with⟨j,e,hb⟩|⟨Xz,ho⟩
  ·exact .inl ⟨j+1,by omega,by simpa using hb⟩
  ·by_cases e:o=i
   ·subst e
    have:=T.get_set_some _ _ Xz
    exact .inl ⟨0,by omega,by rw[this];rfl⟩
   ·rw[T.get_set_ne _ e] at Xz
    exact .inr ⟨Xz,by simp at ho⊢;omega⟩
theorem Og{l:List AV}{vs:List Value}{n:Nat}{c:T AV}(hl:LR ρ l vs)(hn:l.length<=n)(hc:∀o x,c.get o=some x->(∃(j:Nat),o=0+j/\l[j]? =some x)∨((T.leaf:T AV).get o=some x/\(o<0∨0+l.length<=o))):
  ER ρ n c (vs.toArray++Array.replicate (n-vs.toArray.size) undef):=by
 refine⟨by simp [hl.1];omega,fun t x hx=>?_⟩
 rcases hc t x hx with⟨j,e,hj⟩|⟨h,_⟩
 ·have:t=j:=by omega
  subst this
  obtain⟨v,hv,hr⟩:=hl.get hj
  refine⟨v, ?_,hr⟩
  have f7:t<vs.length:=by
   rcases aaf t vs.length with h'|h'
   ·exact h'
   ·rw[aaj h'] at hv;cases hv
  rw[Array.getElem?_append_left (by simpa using f7)]
  simpa using hv
 ·simp [T.get] at h
def Ux(k:AV->Tr):List AV->Tr
 | [v]=>k v
 |l=>k (.tup l)
theorem Uy{l:List AV}{vs:List Value}{k:AV->Tr}(hl:LR ρ l vs)(h:run (Ux k l) σ K=true):∃av,run (k av) σ K=true/\VR ρ av (Ge vs):=by
 have tup:∀(l:List AV) (vs:List Value),LR ρ l vs->VR ρ (.tup l) (.tuple vs.toArray):=fun l vs hl=>by
  have:LR ρ l vs.toArray.toList:=by simpa using hl
  exact .tup _ _ this.arr.1 this.arr.2
 cases l with
 |nil=>rw[hl.nil_inv];exact⟨_,h,tup _ _ (LR.nil ρ)⟩
 |cons a l=>
  obtain⟨v,vs1,rfl,hv,YJ⟩:=hl.cons_inv
  cases l with
  |nil=>rw[YJ.nil_inv];exact⟨_,h,hv⟩
  |cons b l=>
   obtain⟨u,vs2,rfl,hu,XS⟩:=YJ.cons_inv
   exact⟨_,h,tup _ _ hl⟩
theorem jz{x:X}(hx:BH P w0 x):yF P w0 (pP P x):=by
 intro f l vs k σ K ρ w R hS hG hl h hR
 obtain⟨fn,hf,h⟩:=bO h
 obtain⟨c,hb,h⟩:=bO h
 obtain⟨Ye,h⟩:=md h
 have Ye:¬fn.name= "runtime.NumGoroutine" :=by simpa using Ye
 obtain⟨hlen,h⟩:=ar h
 have hlen:=bu hlen
 obtain⟨env,h,hc⟩:=Gh _ _ _ h
 have hE:=Og hl hlen hc
 refine⟨fun args=>?_,callsIn_of_wp_marks hf hb trivial ?_⟩
 ·simp [callFunc,hf,Ye,hb]
 ·refine hx c env fn.ntmps f [] _ σ K ρ w _ _ none none rfl hS hG hE trivial h (fun ex env' XZ c9 ρ' w' a' h1 h2 h3 h4 h5 h6=>?_) (fun _=>.inr ⟨fn,c,hf,hb,.refl c⟩)
  have main:run (uB XZ (IV P env' fn.results.toList fun l=>(match l with | [v]=>k v|l=>k (.tup l)))) c9 K=true->LeavesInM Fence.wide 0 P fn a'.tmps R a'.defers .returning w':=fun h=>by
   refine RR (fun f9 w2 g1 g2 g3=>?_) _ _ _ _ h h2 h3 h6
   obtain⟨avs,vs,X5,q1,q2,q3,q4,q5⟩:=Wy (P:=P) h5 _ _ _ g1 g2 g3
   have q1:run (Ux k avs) X5 K=true:=q1
   obtain⟨av,r1,r2⟩:=Uy q4 q1
   exact⟨Ge vs,yG q5,hR av _ X5 ρ' w2 r1 q2 q3 h4 r2⟩
  cases ex with
  |normal=>exact main h1
  |ret=>exact main h1
  |exit id=>exact(ak h1).elim
  |goto l=>exact(ak h1).elim
def QO(P:Program)(f:Nat)(arg:List Nat)(res:AV):Prop:=
 ∀(s:ByteArray) (w:World),bytesOf s=arg->Calls P f #[.string s] w fun e w'=>∃v,e= .returned v/\(∀ρ,VR ρ res v)/\Below w.heap.size w w'
def QP(P:Program)(f ty:Nat)(arg:List Nat)(res:AV):Prop:=
 ∀(blk:Nat) (arr:Array Value) (fr:Nat×Nat) (c:Nat) (w:World),w.heap[blk]? =some (.cells arr ty fr)->(∀(i n:Nat),arg[i]? =some n->arr[i]? =some (Value.int .u8 (n:Nat)))->arg.length<=c->c<=arr.size->
  Calls P f #[.slice (some ⟨blk,0,none⟩) arg.length c] w fun e w'=>∃v,e= .returned v/\(∀ρ,VR ρ res v)/\Below w.heap.size w w'
def QQ(P:Program)(f:Nat)(res:AV):Prop:=
 ∀(w:World),Calls P f #[] w fun e w'=>∃v,e= .returned v/\(∀ρ,VR ρ res v)/\Below w.heap.size w w'
def lj(P:Program):Memo->Prop
 | .mk f none arg res=>QO P f arg res
 | .mk f (some _) [] res=>QQ P f res
 | .mk f (some ty) (a::arg) res=>QP P f ty (a::arg) res
theorem Gi{a b:Option Nat}(h:Bk a b=true):a=b:=by
 cases a <;> cases b <;> first|rfl|(cases h;done)|(have:=aR h;subst this;rfl)
theorem lk{f:Nat}{ty:Option Nat}{arg:List Nat}{r:AV}:∀{l:List Memo},dH f ty arg l=some r->Memo.mk f ty arg r∈l:=by
 intro l
 induction l with
 |nil=>intro h;cases h
 |cons m l ih=>
  intro h
  cases m with
  |mk g u a q=>
   have h:ac (Nat.beq f g) (ac (Bk ty u) (ac (xG arg a) (some q) (dH f ty arg l)) (dH f ty arg l)) (dH f ty arg l)=some r:=h
   rw[ax,ax,ax] at h
   split at h
   ·rename_i h1
    split at h
    ·rename_i h2
     split at h
     ·rename_i h3
      injection h with h5
      have e1:=aR h1
      have e2:=Gi h2
      have e3:=(uF _ _).1 h3
      rw[e1,e2,e3,h5]
      exact aay
     ·exact aaw _ (ih h)
    ·exact aaw _ (ih h)
   ·exact aaw _ (ih h)
theorem Gj{f:Nat}(h:kG P f=true)(args:Array Value):(callFunc f args).run P w= .ok (.enter f args) w:=by
 unfold kG at h
 split at h
 ·rename_i fn hf
  split at h
  ·rename_i c hb
   have hn:¬fn.name= "runtime.NumGoroutine" :=by simpa using h
   simp [callFunc,hf,hn,hb]
  ·cases h
 ·cases h
theorem Good.later{H:T ABlk}{w':World}(hG:Good w0 ρ H w)(hb:Below w.heap.size w w'):Good w0 ρ H w':=
 ⟨⟨hG.below.trans (Kept.of (hb.mono hG.below.size)),fun b x hx=>(hG.blk b x hx).keep (Rho.le.refl ρ) fun g h hh=>hb.block _ (hG.dom _ _ _ hh).1,fun b g h hh=>by
  obtain⟨q1,q2⟩:=hG.dom b g h hh
  exact⟨abb q1 hb.size,q2⟩,hG.inj,hG.gens,fun b arr ty hf=>by
  obtain⟨⟨fr,q1⟩,q2⟩:=hG.frz b arr ty hf
  have f7:b<w.heap.size:=by
   rcases aaf b w.heap.size with h'|h'
   ·exact h'
   ·rw[aaN h'] at q1;cases q1
  exact⟨⟨fr,by rw[hb.block b f7];exact q1⟩,q2⟩,hG.frzB,hG.objO⟩,hG.ownB⟩
theorem JI{M:List Memo}(hM:∀m∈M,lj P m){en:cH}(hen:yF P w0 en):yF P w0 (IW P M en):=by
 intro f l vs k σ K ρ w R hS hG hl h hR
 have hit:∀(d6:St) (r:AV),run (ac (kG P f) (k r) .fail) d6 K=true->SI d6->Good w0 ρ d6.h w->(Calls P f vs.toArray w fun e w'=>∃v,e= .returned v/\(∀ρ,VR ρ r v)/\Below w.heap.size w w')->
   (∀args:Array Value,(callFunc f args).run P w= .ok (.enter f args) w)/\CallsIn Fence.wide 0 P f vs.toArray w R:=by
  intro d6 r h d5 d7 hc
  obtain⟨ht,h⟩:=ar h
  refine⟨Gj ht,(callsIn_wide.2 hc).mono fun e w' he=>?_⟩
  obtain⟨v,rfl,hv,hb⟩:=he
  exact hR r v d6 ρ w' h d5 (d7.later hb) (Rho.le.refl ρ) (hv ρ)
 rcases bG h with⟨_,h⟩|⟨_,h⟩
 case inr=>exact hen f l vs k σ K ρ w R hS hG hl h hR
 have other:∀d6,SI d6->d6.h=σ.h->run (en f l k) d6 K=true->(∀args:Array Value,(callFunc f args).run P w= .ok (.enter f args) w)/\CallsIn Fence.wide 0 P f vs.toArray w R:=fun d6 d5 e1 h=>
  hen f l vs k d6 K ρ w R d5 (by rw[e1];exact hG) hl h hR
 cases l with
 |nil=>
  have hv:=hl.nil_inv
  subst hv
  have h:run (cE (dH f (some 0) [] M) (en f [] k) fun r=>ac (kG P f) (k r) .fail) σ K=true:=h
  cases hr:dH f (some 0) [] M with
  |none=>rw[hr] at h;exact other σ hS rfl h
  |some r=>
   rw[hr] at h
   have hm:QQ P f r:=hM _ (lk hr)
   exact hit σ r h hS hG (hm w)
 |cons a l=>
  cases l with
  |cons a2 l=>exact other σ hS rfl h
  |nil=>
   have h:run (Ur P M f a k (en f [a] k)) σ K=true:=h
   obtain⟨v,C',rfl,hv,p7⟩:=hl.cons_inv
   have:=p7.nil_inv
   subst this
   cases hv with
   |str s=>
    have h:run (cE (dH f none (bytesOf s) M) (en f [.str (bytesOf s)] k) fun r=>ac (kG P f) (k r) .fail) σ K=true:=h
    cases hr:dH f none (bytesOf s) M with
    |none=>rw[hr] at h;exact other σ hS rfl h
    |some r=>
     rw[hr] at h
     have hm:QO P f (bytesOf s) r:=hM _ (lk hr)
     exact hit σ r h hS hG (hm s w rfl)
   |slc b g o n cap es a cc x6=>
    cases cap with
    |some _=>exact other σ hS rfl h
    |none=>
     rcases bG h with⟨ho,h⟩|⟨_,h⟩
     case inr=>exact other σ hS rfl h
     rcases bG h with⟨p8,h⟩|⟨_,h⟩
     case inr=>exact other σ hS rfl h
     have ho:=aR ho
     have p8:=aR p8
     obtain⟨q,d6,hq,e1,d5,h⟩:=bm hS h
     have d7:Good w0 ρ d6.h w:=by rw[e1];exact hG
     cases q with
     |cells c gen lo hi fl fh ro ty=>
      obtain⟨k1,z1⟩:=ar h
      obtain⟨k2,z2⟩:=ar z1
      obtain⟨k3,z3⟩:=ar z2
      have k1:=aR k1
      have k2:=bu k2
      have k3:=bu k3
      obtain⟨av,z4,hlen,j8⟩:=RJ z3
      obtain⟨bs,XM,z5⟩:=bO z4
      cases hr:dH f (some ty) bs M with
      |none=>
       have z6:run (cE (dH f (some ty) bs M) (en f [.slc b g o n none es] k) fun r=>ac (kG P f) (k r) .fail) d6 K=true:=z5
       rw[hr] at z6
       exact other d6 d5 e1 z6
      |some r=>
       have z6:run (cE (dH f (some ty) bs M) (en f [.slc b g o n none es] k) fun r=>ac (kG P f) (k r) .fail) d6 K=true:=z5
       rw[hr] at z6
       obtain⟨XR,XE⟩:=x6
       obtain⟨hm,hh,hos,ea,X8⟩:=XE.resolve_left (fun hc=>by omega)
       subst ho;subst p8
       have Ya:hm.shift=0:=by omega
       have hB:=hG.blk _ _ hq
       obtain⟨x8,q1,_,_,arr,fr,q3,q4,q5,q6⟩:=hB.2 g k2
       rw[hh] at q1;injection q1 with q1;subst q1
       obtain⟨Y0,Y9⟩:=ta (o0:=0) XM j8 (fun o tag a ho ht=>q6 o tag a ho ht) Ya
       rw[hlen] at Y0
       have X7:QP P f ty bs r:=by
        have hm3:=hM _ (lk hr)
        cases bs with
        |nil=>simp at Y0;omega
        |cons _ _=>exact hm3
       refine hit d6 r z6 d5 d7 ?_
       have:=X7 hm.blk arr fr cc w q3 (fun i m hi=>by have:=Y9 i m hi;rwa [aak] at this) (by rw[Y0];exact XR) (by rw[Ya] at X8;omega)
       rw[Y0] at this
       rw[ea,Ya];exact this
     |_=>exact(ak h).elim
   |_=>exact other σ hS rfl h
theorem mq{M:Tab}{x:X}(hx:BH P w0 x)(hl:Of P w0 x):Of P w0 (FX P M x):=by
 intro c env nt f df k σ K ρ w a Q dS rd hW hS hG hE hD h hQ hC b kk cs ZR hb hr
 have h:run (x c env nt f dS df fun ex env df=>(match ex with
  | .normal=>x (.loop c) env nt f dS df k
  |ex=>k ex env df)) σ K=true:=h
 have hc:c.wpIn (fR rd) 0 P (fun e a' w'=>match e with | .normal=>iC P rd c Q a' w'|e=>Q e a' w') a w:=by
  refine hx c env nt f df _ σ K ρ w a _ dS rd hW hS hG hE hD h (fun ex env' XZ c9 ρ' w' a' h1 h2 h3 h4 h5 h6=>?_) (hC.sub (fun _=>.loop) rfl)
  cases ex with
  |normal=>exact hl c env' nt f XZ k c9 K ρ' w' a' Q dS rd (hW.mono h4) h2 h3 h5 h6 h1 (fun ex2 Z1 df2 f9 ρ2 w2 a2 g1 g2 g3 g4 g5 g6=>hQ ex2 Z1 df2 f9 ρ2 w2 a2 g1 g2 g3 (h4.trans g4) g5 g6) hC
  |exit id=>exact hQ (.exit id) env' XZ c9 ρ' w' a' h1 h2 h3 h4 h5 h6
  |goto l=>exact hQ (.goto l) env' XZ c9 ρ' w' a' h1 h2 h3 h4 h5 h6
  |ret=>exact hQ .ret env' XZ c9 ρ' w' a' h1 h2 h3 h4 h5 h6
 obtain⟨e,a₁,w₁,hq,XG⟩:=hc b (.inLoop c::kk) cs ZR hb hr
 cases e with
 |normal=>
  obtain⟨e₂,a₂,w₂,hq₂,harr₂⟩:=hq b kk cs ZR hb hr
  exact⟨e₂,a₂,w₂,hq₂,.of_steps (StepsIn.trans XG (.one (fenced_calm hb hr rfl) stepR_inLoop)) harr₂⟩
 |exit id=>exact⟨_,a₁,w₁,hq,.pass (x:=.inLoop c) rfl (fun _ _=>.inl (by simp)) XG⟩
 |goto l=>exact⟨_,a₁,w₁,hq,.pass (x:=.inLoop c) rfl (fun _ _=>.inl (by simp)) XG⟩
 |ret=>exact⟨_,a₁,w₁,hq,.pass (x:=.inLoop c) rfl (fun _ _=>.inl (by simp)) XG⟩
 |panic ch=>exact⟨_,a₁,w₁,hq,.pass (x:=.inLoop c) rfl (fun _ _=>.inl (by simp)) XG⟩
 |outgrown=>exact⟨_,a₁,w₁,hq,.pass (x:=.inLoop c) rfl (fun _ _=>.inl (by simp)) XG⟩
theorem Uz{av:AV}{v:Value}{t e:Tr}(hv:VR ρ av v)(h:run (QF av t e) σ K=true):∃b,v= .bool b/\(b=true->run t σ K=true)/\(b=false->run e σ K=true):=by
 cases hv with
 |bool b=>
  rcases bG h with⟨e1,h⟩|⟨e1,h⟩
  ·subst e1;exact⟨true,rfl,fun _=>h,(fun e=>by cases e)⟩
  ·subst e1;exact⟨false,rfl,(fun e=>by cases e),fun _=>h⟩
 |anyB b=>
  have hp:=uC (n:=2) h
  exact⟨b,rfl,fun _=>hp 0 (.inl rfl) (fun _=>rfl),fun _=>hp 1 (.inr (by omega)) (fun h=>absurd h (by omega))⟩
 |sB p b hb=>
  refine⟨b,rfl,fun e1=>?_,fun e1=>?_⟩
  ·rcases cO h with⟨_,h⟩|⟨hp,_⟩
   ·exact h
   ·exact absurd (hb.1 e1) hp
  ·rcases cO h with⟨hp,_⟩|⟨_,h⟩
   ·exact absurd (hb.2 hp) (by rw[e1];simp)
   ·exact h
 |_=>exact(ak h).elim
theorem Gk{rd:Option Nat}{c:Code}{Q:Exit->Act->World->Prop}(hc:c.wpIn (fR rd) 0 P (fun e a' w'=>match e with | .normal=>iC P rd c Q a' w'|e=>Q e a' w') a w):iC P rd c Q a w:=by
 intro b kk cs ZR hb hr
 obtain⟨e,a₁,w₁,hq,XG⟩:=hc b (.inLoop c::kk) cs ZR hb hr
 cases e with
 |normal=>
  obtain⟨e₂,a₂,w₂,hq₂,harr₂⟩:=hq b kk cs ZR hb hr
  exact⟨e₂,a₂,w₂,hq₂,.of_steps (StepsIn.trans XG (.one (fenced_calm hb hr rfl) stepR_inLoop)) harr₂⟩
 |exit id=>exact⟨_,a₁,w₁,hq,.pass (x:=.inLoop c) rfl (fun _ _=>.inl (by simp)) XG⟩
 |goto l=>exact⟨_,a₁,w₁,hq,.pass (x:=.inLoop c) rfl (fun _ _=>.inl (by simp)) XG⟩
 |ret=>exact⟨_,a₁,w₁,hq,.pass (x:=.inLoop c) rfl (fun _ _=>.inl (by simp)) XG⟩
 |panic ch=>exact⟨_,a₁,w₁,hq,.pass (x:=.inLoop c) rfl (fun _ _=>.inl (by simp)) XG⟩
 |outgrown=>exact⟨_,a₁,w₁,hq,.pass (x:=.inLoop c) rfl (fun _ _=>.inl (by simp)) XG⟩
theorem Ed{rd:Option Nat}{c:Code}{Q:Exit->Act->World->Prop}(h:iC P rd c Q a w):(Code.loop c).wpIn (fR rd) 0 P Q a w:=by
 intro b k cs ZR hb hr
 obtain⟨e,a',w',hq,XG⟩:=h b k cs ZR hb hr
 exact⟨e,a',w',hq,.of_steps (.one (fenced_calm hb hr rfl) stepR_loop) XG⟩
theorem yN{l:Nat}{r:Loop}(h:w.heap[l]? =some (.loop r))(hb:r.state≠ .busy):(Instr.endLoop l).run P w= .ok r.pending {w with heap:=w.heap.setIfInBounds l (.loop {r with state:=.exhausted})}:=by
 have O':(r.state== .busy)=false:=by
  cases hs:r.state <;> first|rfl|exact absurd hs hb
 simp only [Instr.endLoop,Instr.getLoop,aab,aS h (by simp),aae,aac,O',Bool.false_eq_true,if_false,gk h (by simp)]
def UA(z:Tr)(go:Code->Tr):Option Code->Tr
 |none=>z
 |some c=>go c
theorem JJ{M:Tab}{x:X}(hx:BH P w0 x){g:Operand}{ps:Array Tmp}{as bd:Code}{f:Nat}{df:List Nat}{k:XK}{Q:Exit->Act->World->Prop}{dS rd:Option Nat}(hW:RW ρ dS rd)(hS:SI σ)(hG:Good w0 ρ σ.h w)(hE:ER ρ nt env a.tmps)(hD:DR ρ df a.defers)
  (h:run (FX P M x (.rangeFunc g ps as bd) env nt f dS df k) σ K=true) (hQ:JH w0 ρ K nt k Q):(Code.rangeFunc g ps as bd).wpIn (fR rd) 0 P Q a w:=by
 cases dS with
 |some _=>exact(ak h).elim
 |none=>
 have hW:rd=none:=hW
 subst hW
 show(Code.rangeFunc g ps as bd).wpIn Fence.wide 0 P Q a w
 have h:run (.new (.dfr true) fun d=>.new (.loop .ready none f nt env ps.toList as bd d) fun l=>dY env g fun g=>
   Bj P x g l id (fun c=>ac (xV c) (x c env nt f none (d::df) k) .fail) (k .normal env (d::df))) σ K=true:=h
 obtain⟨d,d6,Y7,ai5,e1,d5,h⟩:=dI hS h
 obtain⟨t9,d7⟩:=hG.alloc Y7 ai5 (.dfr true) (.deferred (some [])) 0 0 (fun ρ' hle q9 _=>⟨_,q9,.new hG.below.size,by simp⟩)
 rw[←e1] at d7
 obtain⟨l,f9,hn2,ai6,e2,i5,h⟩:=dI d5 h
 refine wpIn_rangeFunc fun ZQ _=>?_
 obtain⟨j9,i7⟩:=d7.alloc hn2 ai6 (.loop .ready none f nt env ps.toList as bd d) (.loop {state:=.ready,pending:=none,fn:=ZQ,tmps:=a.tmps,params:=ps,assign:=as,body:=bd,defers:=w.heap.size}) 0 0
  (fun ρ' hle q9 _=>⟨_,q9,.new (by have:=hG.below.size;simp;omega),a.tmps,_,ZQ,hE.mono (t9.trans hle),hle.at_ _ _ _ (Rho.put_at _ _ _ _),Array.getElem?_push_size⟩)
 rw[←e2] at i7
 obtain⟨av,X5,e3,Yh,h,hv⟩:=sP (x:=g) i5 i7 (hE.mono (t9.trans j9)) h
 rw[←e3] at i7
 generalize hgv:a.eval g=gv at hv
 cases hv with
 |func fn l1 m1 first captured h1 h2 r1 r2 hf=>
  cases fn with
  |func i=>
   have q1:=LR.of_arr h1 r1
   have q2:=LR.of_arr h2 r2
   have hl:=Rho.put_at (ρ.put d 0 ⟨w.heap.size,0,0⟩) l 0 ⟨(w.heap.push (.deferred (some []))).size,0,0⟩
   have hd:=j9.at_ _ _ _ (Rho.put_at ρ d 0 ⟨w.heap.size,0,0⟩)
   simp only [Bj] at h
   have j6:=(q1.append (LR.cons (.yld l _ hl) (LR.nil _))).append q2
   obtain⟨hcf,hci⟩:=jz hx i _ _ _ X5 K _ _ (rangePost Fence.wide 0 P (w.heap.push (.deferred (some []))).size Q {a with defers:=[{target:=.collected w.heap.size,args:= #[]}]++a.defers}) Yh i7 j6 h
    (fun av v c9 ρ' w' g1 g2 g3 g4 g5=>by
     obtain⟨q,σ4,hq,e4,hS4,g1⟩:=bm g2 g1
     have hG4:Good w0 ρ' σ4.h w':=by rw[e4];exact g3
     cases q with
     |loop st jump fn nt' tmps YM o7 bd' d'=>
      have p7:=g4.at_ _ _ _ hl
      obtain⟨hm,hh,hB,XV,XC,fn2,b1,b2,d9⟩:=g3.blk _ _ hq
      rw[p7] at hh;injection hh with hh;subst hh
      have fin:st≠ .busy->run (.wr l (.loop .exhausted jump fn nt' tmps YM o7 bd' d') (UA (k .normal env (d::df)) (fun c=>ac (xV c) (x c env nt f none (d::df) k) .fail) jump)) σ4 K=true->
        rangePost Fence.wide 0 P (w.heap.push (.deferred (some []))).size Q {a with defers:=[{target:=.collected w.heap.size,args:= #[]}]++a.defers} (.returned v) w':=fun hb g1=>by
       obtain⟨x0,σ5,U',e5,hS5,d8,g1⟩:=cI hS4 g1
       have hG5:=hG4.setObj (hnf:=nf e4 hq U' (fun h=>h)) (x:=.loop .exhausted jump fn nt' tmps YM o7 bd' d') (o':=.loop {state:=.exhausted,pending:=jump,fn:=fn2,tmps:=XV,params:=YM.toArray,assign:=o7,body:=bd',defers:=XC.blk}) U' d8 p7 hB d9
        ⟨_,p7,hB,XV,XC,fn2,b1,b2,mn d9⟩
       rw[←e5] at hG5
       refine⟨jump,_,yN d9 hb, ?_⟩
       have hDD:DR ρ' (d::df) ([{target:=.collected w.heap.size,args:= #[]}]++a.defers):=⟨⟨_,g4.at_ _ _ _ hd,rfl⟩,hD.mono (t9.trans (j9.trans g4))⟩
       have hEE:ER ρ' nt env a.tmps:=hE.mono (t9.trans (j9.trans g4))
       cases jump with
       |none=>exact hQ .normal env (d::df) σ5 ρ' _ {a with defers:=[{target:=.collected w.heap.size,args:= #[]}]++a.defers} g1 hS5 hG5 (t9.trans (j9.trans g4)) hEE hDD
       |some c=>
        obtain⟨hj,g1⟩:=ar g1
        exact hx c env nt f (d::df) k σ5 K ρ' _ {a with defers:=[{target:=.collected w.heap.size,args:= #[]}]++a.defers} Q none none rfl hS5 hG5 hEE hDD g1
         (fun ex2 Z1 df2 f9 ρ2 w2 a2 c1 c2 c3 c4 c5 c6=>hQ ex2 Z1 df2 f9 ρ2 w2 a2 c1 c2 c3 ((t9.trans (j9.trans g4)).trans c4) c5 c6) (fun _=>.inl hj)
      cases st with
      |busy=>exact(ak g1).elim
      |ready=>exact fin (by simp) (by cases jump <;> exact g1)
      |done=>exact fin (by simp) (by cases jump <;> exact g1)
      |exhausted=>exact fin (by simp) (by cases jump <;> exact g1)
     |_=>exact(ak g1).elim)
   have ea:(first++ #[Value.func (.yield (w.heap.push (.deferred (some []))).size) #[] #[]])++captured=(first.toList++ [Value.func (.yield (w.heap.push (.deferred (some []))).size) #[] #[]]++captured.toList).toArray:=by apply Array.ext';simp
   refine⟨(w.heap.push (.deferred (some []))).size,[{target:=.collected w.heap.size,args:= #[]}],{w with heap:=(w.heap.push (.deferred (some []))).push (.loop {state:=.ready,pending:=none,fn:=ZQ,tmps:=a.tmps,params:=ps,assign:=as,body:=bd,defers:=w.heap.size})},{target:=.fn (.func i) captured,args:=first++ #[.func (.yield (w.heap.push (.deferred (some []))).size) #[] #[]]},{w with heap:=(w.heap.push (.deferred (some []))).push (.loop {state:=.ready,pending:=none,fn:=ZQ,tmps:=a.tmps,params:=ps,assign:=as,body:=bd,defers:=w.heap.size})},i,_,_, ?_, ?_,fun _ _=>trivial, ?_,fun h=>absurd h (by simp [Fence.wide]),hci⟩
   ·simp only [Instr.enterLoop,Fence.wide,aab,run_newObj,aae,aac]
   ·have ai7:∀v,a.eval (.const v)=v:=fun _=>rfl
    simp only [resolve,hgv,Deferred.ofValue,List.map_toArray,aaB,List.map_nil,ai7,aac]
   ·show(callFunc i ((first++ #[Value.func (.yield (w.heap.push (.deferred (some []))).size) #[] #[]])++captured)).run P _=_
    rw[ea]
    exact hcf _
  |_=>exact(ak h).elim
 |_=>exact(ak h).elim
theorem JK{k:T AV->Tr}:∀(ps:List Nat) (as:List AV) (vs:List Value) (t:T AV) (tmps:Array Value),LR ρ as vs->ER ρ nt t tmps->run (DX ps as nt t k) σ K=true->
  ∃t',run (k t') σ K=true/\ps.length=vs.length/\ER ρ nt t' ((ps.zip vs).foldl (fun tmps x=>tmps.setIfInBounds x.1 x.2) tmps):=by
 intro ps
 induction ps with
 |nil=>
  intro as vs t tmps hl hE h
  cases as with
  |nil=>rw[hl.nil_inv];exact⟨t,h,rfl,hE⟩
  |cons _ _=>exact(ak h).elim
 |cons p ps ih=>
  intro as vs t tmps hl hE h
  cases as with
  |nil=>exact(ak h).elim
  |cons av as=>
   obtain⟨v,C',rfl,hv,p7⟩:=hl.cons_inv
   have h:run (ac (Nat.ble (Nat.succ p) nt) (T.setK t p av fun t=>DX ps as nt t k) .fail) σ K=true:=h
   obtain⟨hp,h⟩:=ar h
   have hp:=bu hp
   rw[T.setK_eq] at h
   have hE':ER ρ nt (t.set p av) (tmps.setIfInBounds p v):=by
    refine⟨by rw[abC];exact hE.size,fun i b hb=>?_⟩
    by_cases e:i=p
    ·subst e
     have:=T.get_set_some _ _ hb
     subst this
     exact⟨v,by rw[aaC,if_pos rfl,if_pos (by rw[hE.size];omega)],hv⟩
    ·rw[T.get_set_ne _ e] at hb
     obtain⟨u,hu,hr⟩:=hE.val i b hb
     exact⟨u,by rw[aaC,if_neg (fun e'=>e e'.symm)];exact hu,hr⟩
   obtain⟨t',q1,q2,q3⟩:=ih as C' _ _ p7 hE' h
   exact⟨t',q1,by simp [q2],q3⟩
theorem Gl{l:Nat}{r:Loop}{vs:List Value}(h:w.heap[l]? =some (.loop r))(hn:r.params.size=vs.length):(Instr.yield l vs.toArray).run P w= .ok (.round l r.fn ((r.params.toList.zip vs).foldl (fun tmps x=>tmps.setIfInBounds x.1 x.2) r.tmps) r.assign r.body) w:=by
 have e:r.params.zip vs.toArray=(r.params.toList.zip vs).toArray:=by
  apply Array.ext';simp
 simp only [Instr.yield,Instr.getLoop,aab,aS h (by simp),aae,aac,List.size_toArray,hn,ne_eq,not_true_eq_false,if_false,e,List.foldl_toArray']
theorem qm{l:Nat}{r:Loop}(h:w.heap[l]? =some (.loop r))(hb:r.state= .ready):(Instr.beginRound l).run P w= .ok () {w with heap:=w.heap.setIfInBounds l (.loop {r with state:=.busy})}:=by
 simp only [Instr.beginRound,Instr.getLoop,aab,aS h (by simp),aae,aac,gk h (by simp),hb]
theorem uR{l:Nat}{r:Loop}(jump:Option Code)(h:w.heap[l]? =some (.loop r)):(Instr.endRound l jump).run P w= .ok (.bool jump.isNone) {w with heap:=w.heap.setIfInBounds l (.loop {r with state:=if jump.isNone then .ready else .done,pending:=jump})}:=by
 simp only [Instr.endRound,Instr.getLoop,aab,aS h (by simp),aae,aac,gk h (by simp)]
theorem ti{x:X}(hx:BH P w0 x):N8 P w0 (Bh x):=by
 intro l as vs k σ K ρ w R hS hG hl h hR
 obtain⟨q,d6,hq,e1,d5,h⟩:=bm hS h
 have d7:Good w0 ρ d6.h w:=by rw[e1];exact hG
 cases q with
 |loop st jump fn nt tmps ps asg bd d=>
  obtain⟨hm,hh,hB,XV,hd,ZQ,b1,b2,d9⟩:=hG.blk _ _ hq
  obtain⟨env,h,hlen,hE⟩:=JK _ _ _ _ _ hl b1 h
  refine⟨hm,hh,_,_,_,_,Gl d9 (by simpa using hlen),roundIn_of_wpIn trivial ?_⟩
  refine hx asg env nt fn [] _ d6 K ρ w _ _ (some l) (some hm.blk) ⟨hm,hh,rfl⟩ d5 d7 hE trivial h (fun ex env' XZ c9 ρ' w' a' g1 g2 g3 g4 g5 g6=>?_) .round
  cases ex with
  |normal=>
   cases XZ with
   |cons _ _=>exact(ak g1).elim
   |nil=>
    obtain⟨q2,f9,ZM,e2,i5,g1⟩:=bm g2 g1
    have i7:Good w0 ρ' f9.h w':=by rw[e2];exact g3
    cases q2 with
    |loop st2 ac0 fn2 nt2 ag4 ps2 as2 bd2 d2=>
     cases st2 with
     |ready=>
      have i4:=g4.at_ _ _ _ hh
      obtain⟨X7,Zj,hB2,Z2,hd2,ag5,c1,c2,XF⟩:=g3.blk _ _ ZM
      rw[i4] at Zj;injection Zj with Zj;subst Zj
      obtain⟨x0,X5,U',e3,Yh,d8,g1⟩:=cI i5 g1
      have XD:=i7.setObj (hnf:=nf e2 ZM U' (fun h=>h)) (x:=.loop .busy ac0 fn2 nt2 ag4 ps2 as2 bd2 d2) (o':=.loop {state:=.busy,pending:=ac0,fn:=ag5,tmps:=Z2,params:=ps2.toArray,assign:=as2,body:=bd2,defers:=hd2.blk}) U' d8 i4 hB2 XF
       ⟨_,i4,hB2,Z2,hd2,ag5,c1,c2,mn XF⟩
      rw[←e3] at XD
      refine⟨_,qm XF rfl, ?_⟩
      refine hx bd env' nt fn2 [] _ X5 K ρ' _ a' _ (some l) (some hm.blk) ⟨hm,i4,rfl⟩ Yh XD g5 g6 g1 (fun ex3 ak5 df3 σ4 ρ4 w4 a4 k1 k2 k3 k4 k5 k6=>?_) .round
      have fin:∀jp,run (gO l jp k) σ4 K=true->∃v w5,(Instr.endRound hm.blk jp).run P w4= .ok v w5/\R (.returned v) w5:=fun jp k1=>by
       obtain⟨q3,σ5,hq3,e5,hS5,k1⟩:=bm k2 k1
       have hG5:Good w0 ρ4 σ5.h w4:=by rw[e5];exact k3
       cases q3 with
       |loop st3 ak0 fn3 nt3 Zt ps3 as3 bd3 d3=>
        have hh4:=k4.at_ _ _ _ i4
        obtain⟨hm3,Zq,hB3,YC,hd3,ab2,c3,c4,Yf⟩:=k3.blk _ _ hq3
        rw[hh4] at Zq;injection Zq with Zq;subst Zq
        obtain⟨x1,σ6,R',e6,hS6,ag6,k1⟩:=cI hS5 k1
        refine⟨_,_,uR jp Yf, ?_⟩
        cases jp with
        |none=>
         have hG6:=hG5.setObj (hnf:=nf e5 hq3 R' (fun h=>h)) (x:=.loop .ready none fn3 nt3 Zt ps3 as3 bd3 d3) (o':=.loop {state:=.ready,pending:=none,fn:=ab2,tmps:=YC,params:=ps3.toArray,assign:=as3,body:=bd3,defers:=hd3.blk}) R' ag6 hh4 hB3 Yf
          ⟨_,hh4,hB3,YC,hd3,ab2,c3,c4,mn Yf⟩
         have e6:σ6.h=σ5.h.set l (.loop .ready none fn3 nt3 Zt ps3 as3 bd3 d3):=e6
         rw[←e6] at hG6
         exact hR (.bool true) _ σ6 ρ4 _ k1 hS6 hG6 (g4.trans k4) (.bool true)
        |some jc=>
         have hG6:=hG5.setObj (hnf:=nf e5 hq3 R' (fun h=>h)) (x:=.loop .done (some jc) fn3 nt3 Zt ps3 as3 bd3 d3) (o':=.loop {state:=.done,pending:=some jc,fn:=ab2,tmps:=YC,params:=ps3.toArray,assign:=as3,body:=bd3,defers:=hd3.blk}) R' ag6 hh4 hB3 Yf
          ⟨_,hh4,hB3,YC,hd3,ab2,c3,c4,mn Yf⟩
         have e6:σ6.h=σ5.h.set l (.loop .done (some jc) fn3 nt3 Zt ps3 as3 bd3 d3):=e6
         rw[←e6] at hG6
         exact hR (.bool false) _ σ6 ρ4 _ k1 hS6 hG6 (g4.trans k4) (.bool false)
       |_=>exact(ak k1).elim
      cases df3 with
      |cons _ _=>exact(ak k1).elim
      |nil=>
       cases ex3 with
       |normal=>exact fin none k1
       |ret=>exact fin (some .ret) k1
       |exit id=>exact fin (some (.exit id)) k1
       |goto t=>exact fin (some (.goto t)) k1
     |_=>exact(ak g1).elim
    |_=>exact(ak g1).elim
  |_=>exact(ak g1).elim
 |_=>exact(ak h).elim
def RU(P:Program)(w0:World)(f:Nat)(l:List AV)(t:(AV->Tr)->Tr):Prop:=
 ∀(vs:List Value) (k:AV->Tr) (σ:St) (K:Fin) (ρ:Rho) (w:World) (R:Ending->World->Prop),SI σ->Good w0 ρ σ.h w->LR ρ l vs->run (t k) σ K=true->
  (∀av v c9 ρ' w',run (k av) c9 K=true->SI c9->Good w0 ρ' c9.h w'->ρ.le ρ'->VR ρ' av v->R (.returned v) w')->
  (∀args:Array Value,(callFunc f args).run P w= .ok (.enter f args) w)/\CallsIn Fence.wide 0 P f vs.toArray w R
def QR(P:Program)(w0:World)(fn id:Nat)(t:Nat->T AV->(AEx->T AV->Tr)->Tr):Prop:=
 ∀(c:Code) (env:T AV) (nt:Nat) (k:XK) (σ:St) (K:Fin) (ρ:Rho) (w:World) (a:Act) (Q:Exit->Act->World->Prop),SI σ->Good w0 ρ σ.h w->ER ρ nt env a.tmps->a.defers= []->
  run (t nt env fun ex env=>k ex env []) σ K=true->JH w0 ρ K nt k Q->(∃f b,P.funcs[fn]? =some f/\f.body=some b/\SubC (.block id c) b)->(Code.block id c).wpIn (fR none) 0 P Q a w
structure TabOk(P:Program)(M:Tab):Prop where
 memos:∀m∈M.memos,lj P m
 con:∀w0 f l t,M.con f l=some t->RU P w0 f l t
 blk:∀w0 fn id t,M.blk fn id=some t->QR P w0 fn id t
theorem yO{M:Tab}(hM:TabOk P M){en:cH}(hen:yF P w0 en):yF P w0 (IX P M en):=by
 intro f l vs k σ K ρ w R hS hG hl h hR
 have h:run (cE (M.con f l) (IW P M.memos en f l k) fun t=>t k) σ K=true:=h
 cases hc:M.con f l with
 |none=>rw[hc] at h;exact JI hM.memos hen f l vs k σ K ρ w R hS hG hl h hR
 |some t=>rw[hc] at h;exact hM.con w0 f l t hc vs k σ K ρ w R hS hG hl h hR
theorem uS{M:Tab}(hM:TabOk P M){x:X}(hx:BH P w0 x)(hl:Of P w0 x):BH P w0 (FX P M x):=by
 intro c env nt f df k σ K ρ w a Q dS rd hW hS hG hE hD h hQ hC
 have here:∀{ex:AEx},run (k ex env df) σ K=true->Q (T9 ex) a w:=fun h=>hQ _ env df σ ρ w a h hS hG (Rho.le.refl ρ) hE hD
 cases c with
 |skip=>exact wpIn_skip (here (ex:=.normal) h)
 |label l=>exact wpIn_label (here (ex:=.normal) h)
 |ret=>exact wpIn_ret (here (ex:=.ret) h)
 |exit id=>exact wpIn_exit (here (ex:=.exit id) h)
 |goto l=>exact wpIn_goto (here (ex:=.goto l) h)
 |region id ops draw=>
  cases draw with
  |true=>
   obtain⟨hm,h⟩:=ar h
   obtain⟨hnt,h⟩:=ar h
   obtain⟨htm,h⟩:=ar h
   exact Oe (yO hM (jz hx)) (ti hx) (bu hnt) hm ρ a.defers (fun env' c9 ρ' a' w' h1 h2 h3 h4 h5 h6=>hQ .normal env' df c9 ρ' w' a' h1 h2 h3 h4 h5 (by rw[h6];exact hD.mono h4)) htm h hS hG (Rho.le.refl ρ) hE rfl id
  |false=>
   refine wpIn_region_list (N_ (yO hM (jz hx)) (ti hx) ρ a.defers (fun env' c9 ρ' a' w' h1 h2 h3 h4 h5 h6=>?_) _ env σ ρ a w h hS hG (Rho.le.refl ρ) hE rfl)
   exact hQ .normal env' df c9 ρ' w' a' h1 h2 h3 h4 h5 (by rw[h6];exact hD.mono h4)
 |seq c d=>
  refine wpIn_seq (hx c env nt f df _ σ K ρ w a _ dS rd hW hS hG hE hD h (fun ex env' XZ c9 ρ' w' a' h1 h2 h3 h4 h5 h6=>?_) (hC.sub (fun _=>.seqL) rfl))
  cases ex with
  |normal=>exact hx d env' nt f XZ k c9 K ρ' w' a' Q dS rd (hW.mono h4) h2 h3 h5 h6 h1 (fun ex2 Z1 df2 f9 ρ2 w2 a2 g1 g2 g3 g4 g5 g6=>hQ ex2 Z1 df2 f9 ρ2 w2 a2 g1 g2 g3 (h4.trans g4) g5 g6) (hC.sub (fun _=>.seqR) rfl)
  |exit id=>exact hQ (.exit id) env' XZ c9 ρ' w' a' h1 h2 h3 h4 h5 h6
  |goto l=>exact hQ (.goto l) env' XZ c9 ρ' w' a' h1 h2 h3 h4 h5 h6
  |ret=>exact hQ .ret env' XZ c9 ρ' w' a' h1 h2 h3 h4 h5 h6
 |cond x c d=>
  obtain⟨av,d6,e1,d5,h,hv⟩:=sP hS hG hE h
  have d7:Good w0 ρ d6.h w:=by rw[e1];exact hG
  obtain⟨b,hxv,ht,he⟩:=Uz hv h
  refine wpIn_cond hxv ?_
  cases b with
  |true=>exact hx c env nt f df k d6 K ρ w a Q dS rd hW d5 d7 hE hD (ht rfl) hQ (hC.sub (fun _=>.condL) rfl)
  |false=>exact hx d env nt f df k d6 K ρ w a Q dS rd hW d5 d7 hE hD (he rfl) hQ (hC.sub (fun _=>.condR) rfl)
 |block id c=>
  cases hc:(match dS,df with|none,[]=>M.blk f id|_,_=>none) with
  |some t=>
   have h:run (cE (match dS,df with|none,[]=>M.blk f id|_,_=>none) (x c env nt f dS df fun ex env df=>(match ex with
    | .exit YR=>ac (Nat.beq YR id) (k .normal env df) (k (.exit YR) env df)
    |ex=>k ex env df)) fun t=>t nt env fun ex env=>k ex env df) σ K=true:=h
   rw[hc] at h
   cases dS with
   |some _=>cases hc
   |none=>
    cases df with
    |cons _ _=>cases hc
    |nil=>
     have hd0:a.defers= []:=by
      cases hd:a.defers with
      |nil=>rfl
      |cons _ _=>rw[hd] at hD;exact hD.elim
     have hW:rd=none:=hW
     subst hW
     refine hM.blk w0 f id t hc c env nt k σ K ρ w a Q hS hG hE hd0 h hQ ?_
     rcases hC rfl with hj|hj
     ·cases hj
     ·exact hj
  |none=>
  have h:run (cE (match dS,df with|none,[]=>M.blk f id|_,_=>none) (x c env nt f dS df fun ex env df=>(match ex with
   | .exit YR=>ac (Nat.beq YR id) (k .normal env df) (k (.exit YR) env df)
   |ex=>k ex env df)) fun t=>t nt env fun ex env=>k ex env df) σ K=true:=h
  rw[hc] at h
  refine wpIn_block (hx c env nt f df _ σ K ρ w a _ dS rd hW hS hG hE hD h (fun ex env' XZ c9 ρ' w' a' h1 h2 h3 h4 h5 h6=>?_) (hC.sub (fun _=>.block) rfl))
  cases ex with
  |normal=>exact hQ .normal env' XZ c9 ρ' w' a' h1 h2 h3 h4 h5 h6
  |exit YR=>
   rcases bG h1 with⟨e,h1'⟩|⟨e,h1'⟩
   ·have e:=aR e
    show(if YR=id then Q .normal a' w' else Q (.exit YR) a' w')
    rw[if_pos e]
    exact hQ .normal env' XZ c9 ρ' w' a' h1' h2 h3 h4 h5 h6
   ·show(if YR=id then Q .normal a' w' else Q (.exit YR) a' w')
    rw[if_neg (fun e'=>by subst e';simp at e)]
    exact hQ (.exit YR) env' XZ c9 ρ' w' a' h1' h2 h3 h4 h5 h6
  |goto l=>exact hQ (.goto l) env' XZ c9 ρ' w' a' h1 h2 h3 h4 h5 h6
  |ret=>exact hQ .ret env' XZ c9 ρ' w' a' h1 h2 h3 h4 h5 h6
 |loop c=>exact Ed (mq hx hl c env nt f df k σ K ρ w a Q dS rd hW hS hG hE hD h hQ hC)
 |rangeFunc g ps as bd=>exact JJ hx hW hS hG hE hD h hQ
 |_=>exact(ak h).elim
end
end Go.Sym
namespace Go.Sym
open Go.RowKit (Below)
theorem uT(P:Program){M:Tab}(hM:TabOk P M)(w0:World):∀n:Nat,BH P w0 (Bl P M n)/\Of P w0 (Bl P M n):=by
 intro n
 induction n with
 |zero=>exact⟨fun c env nt f df k σ K ρ w a Q dS rd hW hS hG hE hD h hQ hC=>(ak h).elim,fun c env nt f df k σ K ρ w a Q dS rd hW hS hG hE hD h hQ hC=>(ak h).elim⟩
 |succ n ih=>exact⟨uS hM ih.1 ih.2,mq ih.1 ih.2⟩
theorem qn{H:T ABlk}{next:Nat}(h1:1<=next)(h2:next<=1000000001):SI (start H next):=
 ⟨h1,h2,aal _,by simp,fun y hy=>by simp [T.get] at hy⟩
end Go.Sym
namespace Go.Sym
open Go.RowKit (Below)
def EvTo(r:Fin->Bool)(Φ:AV->St->Prop):Prop:=∃a σ,(∀K,r K=K a σ)/\Φ a σ
def Wz(p:Prop):Prop:=p
theorem EvTo.done{Φ:AV->St->Prop}{a:AV}{σ:St}(h:Wz (Φ a σ)):EvTo (fun K=>K a σ) Φ:=⟨a,σ,fun _=>rfl,h⟩
theorem EvTo.ask{p:Prop}{f g:Fin->Bool}{Φ:AV->St->Prop}(h1:p->EvTo f Φ)(h2:¬p->EvTo g Φ):EvTo (fun K=>dP ((p->f K=true)/\(¬p->g K=true))) Φ:=by
 by_cases hp:p
 ·obtain⟨a,σ,e,h⟩:=h1 hp
  refine⟨a,σ,fun K=>?_,h⟩
  rw[←e K,Bool.eq_iff_iff,dX]
  exact⟨fun q=>q.1 hp,fun q=>⟨fun _=>q,fun n=>absurd hp n⟩⟩
 ·obtain⟨a,σ,e,h⟩:=h2 hp
  refine⟨a,σ,fun K=>?_,h⟩
  rw[←e K,Bool.eq_iff_iff,dX]
  exact⟨fun q=>q.2 hp,fun q=>⟨fun n=>absurd n hp,fun _=>q⟩⟩
theorem EvTo.yes{p:Prop}{f g:Fin->Bool}{Φ:AV->St->Prop}(hp:p)(h:EvTo f Φ):EvTo (fun K=>dP ((p->f K=true)/\(¬p->g K=true))) Φ:=EvTo.ask (fun _=>h) fun n=>absurd hp n
theorem EvTo.no{p:Prop}{f g:Fin->Bool}{Φ:AV->St->Prop}(hp:¬p)(h:EvTo g Φ):EvTo (fun K=>dP ((p->f K=true)/\(¬p->g K=true))) Φ:=EvTo.ask (fun n=>absurd n hp) fun _=>h
theorem EvTo.req{p:Prop}{f:Fin->Bool}{Φ:AV->St->Prop}(hp:p)(h:EvTo f Φ):EvTo (fun K=>dP (p/\f K=true)) Φ:=by
 obtain⟨a,σ,e,h⟩:=h
 refine⟨a,σ,fun K=>?_,h⟩
 rw[←e K,Bool.eq_iff_iff,dX]
 exact⟨fun q=>q.2,fun q=>⟨hp,q⟩⟩
theorem EvTo.mono{r:Fin->Bool}{Φ Ψ:AV->St->Prop}(h:EvTo r Φ)(hi:∀a σ,Φ a σ->Ψ a σ):EvTo r Ψ:=by
 obtain⟨a,σ,e,q⟩:=h
 exact⟨a,σ,e,hi a σ q⟩
end Go.Sym
namespace Go.Sym
noncomputable section
inductive Hn where
 |nil
 |both (a b:Hn)
 |yes (a:Hn)
 |no (a:Hn)
inductive Fm where
 |tt
 |ff
 |at(p:Prop)
 |an (p:Prop) (f:Fm)
 |two (p:Prop) (f g:Fm)
 |al (p:Sy->Prop) (f:Sy->Fm)
def Fm.den:Fm->Prop
 | .tt=>True
 | .ff=>False
 | .at p=>p
 | .an p f=>p/\(p->f.den)
 | .two p f g=>(p->f.den)/\(¬p->g.den)
 | .al p f=>∀y,p y->(f y).den
abbrev Lf:=AV->St->Hn->Fm
def kM(fs b:Nat)(t:T Unit)(k:T Unit->Fm):Fm:=ac (Nat.ble fs b) (k t) (T.setK t b () k)
def ll(fs b:Nat)(w:List Nat)(k:List Nat->Fm):Fm:=ac (Nat.ble fs b) (k w) (k (b::w))
def jA(fs:Nat):List Nat->T Unit->(T Unit->Fm)->Fm:=fun l=>
 List.rec (motive:=fun _=>T Unit->(T Unit->Fm)->Fm) (fun t k=>k t) (fun b _ ih t k=>kM fs b t fun t=>ih t k) l
def gV(fs:Nat):List Nat->List Nat->(List Nat->Fm)->Fm:=fun l=>
 List.rec (motive:=fun _=>List Nat->(List Nat->Fm)->Fm) (fun t k=>k t) (fun b _ ih t k=>ll fs b t fun t=>ih t k) l
theorem jC(fs b:Nat)(t:T Unit)(k:T Unit->Fm):kM fs b t k=k (note fs b t):=by
 unfold kM note
 rw[ax,T.setK_eq]
 by_cases h:fs<=b
 ·simp [aa7,h]
 ·have:Nat.ble fs b=false:=by
   cases hb:Nat.ble fs b with
   |false=>rfl
   |true=>exact absurd (Nat.ble_eq.mp hb) h
  simp [this,h]
theorem nC(fs b:Nat)(w:List Nat)(k:List Nat->Fm):ll fs b w k=k (gd fs b w):=by
 unfold ll gd
 rw[ax]
 by_cases h:fs<=b
 ·simp [aa7,h]
 ·have:Nat.ble fs b=false:=by
   cases hb:Nat.ble fs b with
   |false=>rfl
   |true=>exact absurd (Nat.ble_eq.mp hb) h
  simp [this,h]
theorem oH(fs:Nat):∀(l:List Nat) (t:T Unit) (k:T Unit->Fm),jA fs l t k=k (fg fs l t):=by
 intro l
 induction l with
 |nil=>intro t k;rfl
 |cons b l ih=>intro t k;show kM fs b t (fun t=>jA fs l t k)=_;rw[jC,ih];rfl
theorem mr(fs:Nat):∀(l:List Nat) (t:List Nat) (k:List Nat->Fm),gV fs l t k=k (eM fs l t):=by
 intro l
 induction l with
 |nil=>intro t k;rfl
 |cons b l ih=>intro t k;show ll fs b t (fun t=>gV fs l t k)=_;rw[nC,ih];rfl
def QS(_:St)(_:Lf)(_:Hn):Fm:=.ff
def UB(a:AV)(σ:St)(K:Lf)(h:Hn):Fm:=K a σ h
def W3(b:Nat)(_:ABlk->Tr)(ih:ABlk->St->Lf->Hn->Fm)(σ:St)(K:Lf)(hn:Hn):Fm:=
 St.rec (motive:=fun _=>Fm) (fun h n fs t w=>ac (Nat.ble (Nat.succ b) n) (T.getK h b .ff fun x=>kM fs b t fun t=>ih x (.mk h n fs t w) K hn) .ff) σ
def W4(b:Nat)(x:ABlk)(_:Tr)(ih:St->Lf->Hn->Fm)(σ:St)(K:Lf)(hn:Hn):Fm:=
 St.rec (motive:=fun _=>Fm) (fun h n fs t w=>ac (Nat.ble (Nat.succ b) n) (T.getK h b .ff fun _=>T.setK h b x fun h=>kM fs b t fun t=>ll fs b w fun w=>ih (.mk h n fs t w) K hn) .ff) σ
def UC(x:ABlk)(_:Nat->Tr)(ih:Nat->St->Lf->Hn->Fm)(σ:St)(K:Lf)(hn:Hn):Fm:=
 St.rec (motive:=fun _=>Fm) (fun h n fs t w=>ac (Nat.ble n 1000000000) (T.getK h n (T.setK h n x fun h=>fN (Nat.succ n) fun m=>ih n (.mk h m fs t w) K hn) fun _=>.ff) .ff) σ
def UD(n:Nat)(_:Nat->Tr)(ih:Nat->St->Lf->Hn->Fm)(σ:St)(K:Lf)(hn:Hn):Fm:=ac (Nat.ble n 1) (ih 0 σ K hn) .ff
def UE(_:Tr)(_:AV->Nat->Nat->T Unit->List Nat->Tr)(it:St->Lf->Hn->Fm)(ik:AV->Nat->Nat->T Unit->List Nat->St->Lf->Hn->Fm)(σ:St)(K:Lf)(hn:Hn):Fm:=
 St.rec (motive:=fun _=>Fm) (fun h n fs t w=>it (.mk h n n .leaf []) (fun a c9 hn=>
  St.rec (motive:=fun _=>Fm) (fun h' n' _ t' w'=>ac (Nat.beq fs 0) (ik a n n' t' w' (.mk h' n' fs t w) K hn)
   (jA fs (T.keys t' id []) t fun t2=>gV fs w' w fun w2=>ik a n n' t' w' (.mk h' n' fs t2 w2) K hn)) c9) hn) σ
def Gm(p:Prop)(_ _:Tr)(it ie:St->Lf->Hn->Fm)(σ:St)(K:Lf)(hn:Hn):Fm:=
 Hn.rec (motive:=fun _=>Fm) (.two p (it σ K .nil) (ie σ K .nil)) (fun a b _ _=>.two p (it σ K a) (ie σ K b)) (fun a _=>.an p (it σ K a)) (fun a _=>.an (¬p) (ie σ K a)) hn
def UF(p:Prop)(_:Tr)(it:St->Lf->Hn->Fm)(σ:St)(K:Lf)(hn:Hn):Fm:=.an p (it σ K hn)
def W5(p:Sy->Prop)(_:{y:Sy // p y})(_:Sy->Tr)(ik:Sy->St->Lf->Hn->Fm)(σ:St)(K:Lf)(hn:Hn):Fm:=.al p fun y=>ik y σ K hn
def BI(t:Tr):St->Lf->Hn->Fm:=Tr.rec (motive:=fun _=>St->Lf->Hn->Fm) QS UB W3 W4 UC UD UE Gm UF W5 t
theorem EvTo.congr{r r':Fin->Bool}{Φ:AV->St->Prop}(h:∀K,r K=r' K)(he:EvTo r' Φ):EvTo r Φ:=by
 obtain⟨a,σ,e,q⟩:=he
 exact⟨a,σ,fun K=>(h K).trans (e K),q⟩
theorem JL:∀(t:Tr) (σ:St) (K:Lf) (hn:Hn),(BI t σ K hn).den->EvTo (run t σ) fun a c9=>∃Yi,(K a c9 Yi).den:=by
 intro t
 induction t with
 |fail=>intro σ K hn h;exact h.elim
 |ret a=>intro σ K hn h;exact⟨a,σ,fun _=>rfl,hn,h⟩
 |rd b k ih=>
  intro σ K hn h
  cases σ with
  |mk H n fs t w=>
   have h:(ac (Nat.ble (Nat.succ b) n) (T.getK H b Fm.ff fun x=>kM fs b t fun t=>BI (k x) (.mk H n fs t w) K hn) .ff).den:=h
   rw[ax] at h
   split at h
   ·rename_i hb
    have hb:=aas hb
    rw[T.getK_eq] at h
    split at h
    ·exact h.elim
    ·rename_i x hx
     rw[jC] at h
     refine(ih x _ K hn h).congr fun K=>?_
     rw[gA,if_pos (show b<n from hb),hx]
   ·exact h.elim
 |wr b x k ih=>
  intro σ K hn h
  cases σ with
  |mk H n fs t w=>
   have h:(ac (Nat.ble (Nat.succ b) n) (T.getK H b Fm.ff fun _=>T.setK H b x fun H=>kM fs b t fun t=>ll fs b w fun w=>BI k (.mk H n fs t w) K hn) .ff).den:=h
   rw[ax] at h
   split at h
   ·rename_i hb
    have hb:=aas hb
    rw[T.getK_eq] at h
    split at h
    ·exact h.elim
    ·rename_i y hy
     rw[T.setK_eq,jC,nC] at h
     refine(ih _ K hn h).congr fun K=>?_
     rw[jf,if_pos (show b<n from hb),hy]
   ·exact h.elim
 |new x k ih=>
  intro σ K hn h
  cases σ with
  |mk H n fs t w=>
   have h:(ac (Nat.ble n 1000000000) (T.getK H n (T.setK H n x fun H=>fN (Nat.succ n) fun m=>BI (k n) (.mk H m fs t w) K hn) fun _=>Fm.ff) .ff).den:=h
   rw[ax] at h
   split at h
   ·rename_i hb
    have hb:=aas hb
    rw[T.getK_eq] at h
    split at h
    ·rename_i hx
     rw[T.setK_eq,je] at h
     refine(ih n _ K hn h).congr fun K=>?_
     rw[ge,if_pos hb,hx]
    ·exact h.elim
   ·exact h.elim
 |pick n k ih=>
  intro σ K hn h
  have h:(ac (Nat.ble n 1) (BI (k 0) σ K hn) .ff).den:=h
  rw[ax] at h
  split at h
  ·rename_i hb
   refine(ih 0 σ K hn h).congr fun K=>?_
   show ac (Nat.ble n 1) (run (k 0) σ K) _=_
   rw[ax,if_pos hb]
  ·exact h.elim
 |sub t k iht ihk=>
  intro σ K hn h
  cases σ with
  |mk H n fs tc w=>
   obtain⟨a,c9,e,Yi,h2⟩:=iht _ _ _ h
   cases c9 with
   |mk h' n' f' t' w'=>
    have h2:(ac (Nat.beq fs 0) (BI (k a n n' t' w') (.mk h' n' fs tc w) K Yi)
     (jA fs (T.keys t' id []) tc fun t2=>gV fs w' w fun w2=>BI (k a n n' t' w') (.mk h' n' fs t2 w2) K Yi)).den:=h2
    rw[ax,oH,mr] at h2
    by_cases hf:fs=0
    ·subst hf
     rw[if_pos (show Nat.beq 0 0=true from rfl)] at h2
     refine(ihk a n n' t' w' _ K Yi h2).congr fun K=>?_
     rw[gf,e];simp
    ·have:¬Nat.beq fs 0=true:=fun hb=>hf (aad hb)
     rw[if_neg this] at h2
     refine(ihk a n n' t' w' _ K Yi h2).congr fun K=>?_
     rw[gf,e];simp [hf]
 |ask p t e iht ihe=>
  intro σ K hn h
  have both:∀a b,(Fm.two p (BI t σ K a) (BI e σ K b)).den->EvTo (run (.ask p t e) σ) fun a c9=>∃Yi,(K a c9 Yi).den:=fun a b h=>by
   by_cases hp:p
   ·exact(iht σ K a (h.1 hp)).congr fun K=>eO _ _ _ _ hp
   ·exact(ihe σ K b (h.2 hp)).congr fun K=>eP _ _ _ _ hp
  cases hn with
  |nil=>exact both _ _ h
  |both a b=>exact both _ _ h
  |yes a=>
   have h:(Fm.an p (BI t σ K a)).den:=h
   exact(iht σ K a (h.2 h.1)).congr fun K=>eO _ _ _ _ h.1
  |no a=>
   have h:(Fm.an (¬p) (BI e σ K a)).den:=h
   exact(ihe σ K a (h.2 h.1)).congr fun K=>eP _ _ _ _ h.1
 |req p t ih=>
  intro σ K hn h
  have h:(Fm.an p (BI t σ K hn)).den:=h
  exact(ih σ K hn (h.2 h.1)).congr fun K=>eQ _ _ _ h.1
 |sk p z k ih=>
  intro σ K hn h
  have h:(Fm.al p fun y=>BI (k y) σ K hn).den:=h
  exact ih z.1 σ K hn (h z.1 z.2)
end
end Go.Sym
namespace Go.Sym
noncomputable section
inductive Tm where
 |i (n:Int)
 |s (l:List Nat)
 |p (q:Prop)
 |g (l:List G)
inductive Sh where
 |i (k:IntKind) (t:Nat)
 |b (t:Nat)
 |s (t:Nat)
 |o
 |v (m t:Nat)
 |vb (t:Nat)
 |pi (k:IntKind) (n:Int)
 |pb (q:Prop)
 |ps (l:List Nat)
 |pv (m:Nat) (l:List G)
 |pvb (l:List Nat)
 |np
 |p (j:Nat)
 |m (j:Nat)
 |g (j es t:Nat)
 |gb (j t:Nat)
 |fn (f j:Nat)
 |li (k:IntKind) (n:Int)
 |nz
inductive Sa where
 |c (x:Sh)
 |ag (l:List Sh)
 |cp (l:List Sh)
inductive Sr where
 |one (a:Sa)
 |tu (l:List Sa)
inductive BSh where
 |cells (ty:Nat) (l:List Sh)
 |grow (m ty t:Nat)
 |growb (ty t:Nat)
 |sm (m t:Nat)
 |arr (m ty t:Nat)
 |arb (ty t:Nat)
 |obj (k:Nat) (C:List G->Nat->List Nat->World->Prop) (t:Nat)
abbrev kz:=Nat->Nat×Nat
def put(γ:kz)(y:Sy)(x:Sh):AV:=match x with
 | .i k t=>.sI k (y.i t)
 | .b t=>.sB (y.p t)
 | .s t=>.sS (y.s t)
 | .o=>.any1
 | .v m t=>.cv (.rows m (y.g t))
 | .vb t=>.cv (.bytes (y.s t))
 | .pi k n=>.sI k n
 | .pb q=>.sB q
 | .ps l=>.sS l
 | .pv m l=>.cv (.rows m l)
 | .pvb l=>.cv (.bytes l)
 | .np=>.nilp
 | .p j=>.ptr (γ j).1 0 0
 | .m j=>.map (γ j).1
 | .g j es t=>.gsl (γ j).1 (γ j).2 (y.g t).length es
 | .gb j t=>.gsl (γ j).1 (γ j).2 (y.s t).length 1
 | .fn f j=>.func (.func f) [] [.ptr (γ j).1 0 0]
 | .li k n=>.int k n
 | .nz=>.nils
def oT(γ:kz)(y:Sy)(l:List Sh):List AV:=List.rec (motive:=fun _=>List AV) [] (fun x _ ih=>put γ y x::ih) l
def iD(γ:kz)(y:Sy)(a:Sa):AV:=match a with
 | .c x=>put γ y x
 | .ag l=>.agg (oT γ y l)
 | .cp l=>.cptr (oT γ y l)
def qp(γ:kz)(y:Sy)(l:List Sa):List AV:=List.rec (motive:=fun _=>List AV) [] (fun x _ ih=>iD γ y x::ih) l
def BJ(γ:kz)(y:Sy)(r:Sr):AV:=match r with
 | .one a=>iD γ y a
 | .tu l=>.tup (qp γ y l)
def JM:List AV->Nat->T Cell->T Cell
 | [],_,t=>t
 |a::l,i,t=>JM l (i+1) (t.set i (.mk 0 a))
def lm(γ:kz)(y:Sy)(j:Nat)(b:BSh):ABlk:=match b with
 | .cells ty l=>.cells (JM (oT γ y l) 0 .leaf) 0 0 (List.length l) 0 0 false ty
 | .grow m ty t=>.grow (.rows m (y.g t)) (γ j).2 ty
 | .growb ty t=>.grow (.bytes (y.s t)) (γ j).2 ty
 | .sm m t=>.smap m (y.g t)
 | .arr m ty t=>.grow (.rows m (y.g t)) 0 ty
 | .arb ty t=>.grow (.bytes (y.s t)) 0 ty
 | .obj k C t=>.obj k (C (y.g t)) (y.g t)
def ef(γ:kz)(y:Sy):List BSh->Nat->T ABlk->T ABlk
 | [],_,H=>H
 |b::l,j,H=>ef γ y l (j+1) (H.set (γ j).1 (lm γ y j b))
def bL:kz:=fun j=>(base+j,0)
structure PS where
 tm:List (Nat×Tm)
 loc:List (Nat×Nat×Nat)
 ln:List (Nat×Nat×Nat)
 pr:Prop
 fz:List Nat
def iZ:PS:=⟨[],[],[],True,[]⟩
def bA{α:Type}(n:Nat)(l:List (Nat×α)):Option α:=List.rec (motive:=fun _=>Option α) none (fun x _ ih=>ac (Nat.beq x.1 n) (some x.2) ih) l
def V4(l:List (Nat×Tm))(n:Nat):Int:=match bA n l with|some (.i x)=>x|_=>0
def Gn(l:List (Nat×Tm))(n:Nat):List Nat:=match bA n l with|some (.s x)=>x|_=>[]
def V5(l:List (Nat×Tm))(n:Nat):Prop:=match bA n l with|some (.p x)=>x|_=>False
def BK(l:List (Nat×Tm))(n:Nat):List G:=match bA n l with|some (.g x)=>x|_=>[]
def aX(l:List (Nat×Tm)):Sy:=⟨V4 l,Gn l,V5 l,BK l⟩
def PS.and(s:PS)(p:Prop):PS:=match s with|⟨tm,loc,ln,pr,fz⟩=>⟨tm,loc,ln,p/\pr,fz⟩
def PS.fzn(s:PS)(b:Nat):PS:=match s with|⟨tm,loc,ln,pr,fz⟩=>⟨tm,loc,ln,pr,b::fz⟩
def PS.name(s:PS)(x:Nat×Nat×Nat):PS:=match s with|⟨tm,loc,ln,pr,fz⟩=>⟨tm,x::loc,ln,pr,fz⟩
def PS.add(s:PS)(t:Nat)(x:Tm):Option PS:=match s with
 |⟨tm,loc,ln,pr,fz⟩=>(match bA t tm with
  |none=>some ⟨(t,x)::tm,loc,ln,pr,fz⟩
  |some _=>none)
def PS.must(s:PS)(p:Prop):Option PS:=some (s.and p)
def PS.at_(s:PS)(j b g:Nat):Option PS:=match s with
 |⟨tm,loc,ln,pr,fz⟩=>(match bA j loc with
  |none=>ac (jm b loc) (some ⟨tm,(j,b,g)::loc,ln,pr,fz⟩) none
  |some (b',g')=>ac (Nat.beq b b') (ac (Nat.beq g g') (some ⟨tm,loc,ln,pr,fz⟩) none) none)
def PS.len_(s:PS)(j tag n:Nat):Option PS:=match s with|⟨tm,loc,ln,pr,fz⟩=>some ⟨tm,loc,(j,tag,n)::ln,pr,fz⟩
def Ee(F:T ABlk)(m:Nat)(a:AV)(s:PS)(k:List G->PS->Option PS):Option PS:=match a with
 | .nils=>k [] s
 | .cv (.rows m' l)=>ac (Nat.beq m m') (k l s) none
 | .gsl b g n es=>T.getK F b none fun x=>(match x with
  | .grow (.rows m' l) gen _=>ac (Nat.ble (base+64) b) (ac (Nat.beq m m') (ac (Nat.beq g gen) (k l ((s.fzn b).and (l.length=n))) none) none) none
  | .froz (.rows m' l) gen=>ac (Nat.ble (base+64) b) (ac (Nat.beq m m') (ac (Nat.beq g gen) (ac (Nat.beq es (bp (cK m))) (k l ((s.fzn b).and (l.length=n))) none) none) none) none
  |_=>none)
 | .slc b g o len _ es=>T.getK F b none fun x=>(match x with
  | .cells c gen _ _ _ _ ro _=>ac (Nat.ble (base+64) b) (ac ro none (ac (Nat.ble g gen) (ac (Nat.ble 1 len) (ac (Nat.beq es (bp (cK m))) (ac (Nat.ble 1 es) (bz (NH c g (len * es) o) fun l=>bz (dF (cK m) len l) fun q=>(match q with
   |(gs,[])=>k gs (s.fzn b)
   |_=>none)) none) none) none) none)) none
  |_=>none)
 |_=>none
def uU(F:T ABlk)(a:AV)(s:PS)(k:List Nat->PS->Option PS):Option PS:=match a with
 | .nils=>k [] s
 | .cv (.bytes l)=>k l s
 | .gsl b g n es=>T.getK F b none fun x=>(match x with
  | .grow (.bytes l) gen _=>ac (Nat.ble (base+64) b) (ac (Nat.beq g gen) (k l ((s.fzn b).and (l.length=n))) none) none
  | .froz (.bytes l) gen=>ac (Nat.ble (base+64) b) (ac (Nat.beq g gen) (ac (Nat.beq es 1) (k l ((s.fzn b).and (l.length=n))) none) none) none
  |_=>none)
 | .slc b g o len _ es=>T.getK F b none fun x=>(match x with
  | .cells c gen _ _ _ _ ro _=>ac (Nat.ble (base+64) b) (ac ro none (ac (Nat.ble g gen) (ac (Nat.ble 1 len) (ac (Nat.beq es 1) (bz (NH c g len o) fun l=>bz (fG l) fun ns=>k (aO ns) ((s.fzn b).and (bj ns))) none) none) none)) none
  |_=>none)
 |_=>none
def iE(blk:List BSh)(j:Nat):Bool:=match blk[j]? with|some (.cells _ _)=>true|some (.obj _ _ _)=>true|some (.arr _ _ _)=>true|some (.arb _ _)=>true|_=>false
def uV(blk:List BSh)(j:Nat):Bool:=match blk[j]? with|some (.sm _ _)=>true|_=>false
def tj(F:T ABlk)(blk:List BSh)(x:Sh)(a:AV)(s:PS):Option PS:=match x with
 | .i k t=>(match cz a with|some (k',n)=>ac (decide (k=k')) (s.add t (.i n)) none|none=>none)
 | .b t=>(match dA a with|some q=>s.add t (.p q)|none=>none)
 | .s t=>(match fF a with|some l=>s.add t (.s l)|none=>none)
 | .o=>ac (fB a) (some s) none
 | .v m t=>Ee F m a s fun l s=>s.add t (.g l)
 | .vb t=>uU F a s fun l s=>s.add t (.s l)
 | .pi k n=>(match cz a with|some (k',n')=>ac (decide (k=k')) (s.must (n'=n)) none|none=>none)
 | .pb q=>(match dA a with|some q'=>s.must (q'↔q)|none=>none)
 | .ps l=>(match fF a with|some l'=>s.must (l'=l)|none=>none)
 | .pv m l=>Ee F m a s fun l' s=>s.must (l'=l)
 | .pvb l=>uU F a s fun l' s=>s.must (l'=l)
 | .np=>(match a with | .nilp=>some s|_=>none)
 | .p j=>(match a with | .ptr b g o=>ac (Nat.beq g 0) (ac (Nat.beq o 0) (ac (iE blk j) (s.at_ j b 0) none) none) none|_=>none)
 | .m j=>(match a with | .map b=>ac (uV blk j) (s.at_ j b 0) none|_=>none)
 | .g j es t=>(match a with | .gsl b g n p6=>ac (Nat.beq es p6) (bz (s.at_ j b g) fun s=>s.len_ j (2 * t) n) none|_=>none)
 | .gb j t=>(match a with | .gsl b g n p6=>ac (Nat.beq 1 p6) (bz (s.at_ j b g) fun s=>s.len_ j (2 * t+1) n) none|_=>none)
 | .fn f j=>(match a with | .func (.func f') [] [.ptr b g o]=>ac (Nat.beq f f') (ac (Nat.beq g 0) (ac (Nat.beq o 0) (ac (iE blk j) (s.at_ j b 0) none) none) none) none|_=>none)
 | .li k n=>(match a with | .int k' n'=>ac (decide (k=k')) (ac (decide (n=n')) (some s) none) none|_=>none)
 | .nz=>(match a with | .nils=>some s|_=>none)
def mt(F:T ABlk)(blk:List BSh)(l:List Sh)(as:List AV)(s:PS):Option PS:=
 List.rec (motive:=fun _=>List AV->PS->Option PS) (fun as s=>match as with | []=>some s|_=>none) (fun x _ ih as s=>match as with
  |a::as=>bz (tj F blk x a s) fun s=>ih as s
  | []=>none) l as s
def qq(F:T ABlk)(blk:List BSh)(x:Sa)(a:AV)(s:PS):Option PS:=match x with
 | .c x=>tj F blk x a s
 | .ag l=>(match a with | .agg as=>mt F blk l as s|_=>none)
 | .cp l=>(match a with | .cptr as=>mt F blk l as s|_=>none)
def gC(F:T ABlk)(blk:List BSh)(l:List Sa)(as:List AV)(s:PS):Option PS:=
 List.rec (motive:=fun _=>List AV->PS->Option PS) (fun as s=>match as with | []=>some s|_=>none) (fun x _ ih as s=>match as with
  |a::as=>bz (qq F blk x a s) fun s=>ih as s
  | []=>none) l as s
def JN(F:T ABlk)(blk:List BSh)(r:Sr)(a:AV)(s:PS):Option PS:=match r with
 | .one x=>qq F blk x a s
 | .tu l=>(match a with | .tup as=>gC F blk l as s|_=>none)
def mw(ty n:Nat)(q:ABlk)(g:Nat):Option (List AV):=match q with
 | .cells c gen lo hi fl fh ro XI=>ac ro none (ac (Nat.beq gen 0) (ac (Nat.beq lo 0) (ac (Nat.beq hi n) (ac (Nat.beq fl 0) (ac (Nat.beq fh 0) (ac (Nat.beq XI ty) (ac (Nat.beq g 0) (NH c 0 n 0) none) none) none) none) none) none) none)
 |_=>none
def fM(x:BSh)(q:ABlk)(g:Nat)(s:PS):Option PS:=match x with
 | .grow m ty t=>(match q with
  | .grow (.rows m' l) gen XI=>ac (Nat.beq m m') (ac (Nat.beq g gen) (ac (Nat.beq ty XI) (s.add t (.g l)) none) none) none
  |_=>none)
 | .growb ty t=>(match q with
  | .grow (.bytes l) gen XI=>ac (Nat.beq g gen) (ac (Nat.beq ty XI) (s.add t (.s l)) none) none
  |_=>none)
 | .sm m t=>(match q with
  | .smap m' l=>ac (Nat.beq m m') (ac (Nat.beq g 0) (s.add t (.g l)) none) none
  | .mapo [] _=>ac (Nat.beq g 0) (s.add t (.g [])) none
  |_=>none)
 | .arb ty t=>(match q with
  | .grow (.bytes l) gen XI=>ac (Nat.beq gen 0) (ac (Nat.beq g 0) (ac (Nat.beq ty XI) (bz (s.must (0<l.length)) fun s=>s.add t (.s l)) none) none) none
  |_=>none)
 | .arr m ty t=>(match q with
  | .grow (.rows m' l) gen XI=>ac (Nat.beq m m') (ac (Nat.beq gen 0) (ac (Nat.beq g 0) (ac (Nat.beq ty XI) (bz (s.must (0<l.length)) fun s=>s.add t (.g l)) none) none) none) none
  |_=>none)
 | .obj k C t=>(match q with
  | .obj k' I l=>ac (Nat.beq k k') (ac (Nat.beq g 0) (bz (s.must (I=C l)) fun s=>s.add t (.g l)) none) none
  |_=>none)
 | .cells _ _=>none
def nD(F:T ABlk)(blk:List BSh)(x:BSh)(q:ABlk)(g:Nat)(s:PS):Option PS:=match x with
 | .cells ty l=>bz (mw ty (List.length l) q g) fun as=>mt F blk l as s
 |x=>fM x q g s
def kN(blk:List BSh)(l:List (Nat×Nat×Nat))(s:PS):Option PS:=
 List.rec (motive:=fun _=>PS->Option PS) (fun s=>some s) (fun(x:Nat×Nat×Nat) _ ih s=>match blk[x.1]? with
  |some (.grow _ _ t)=>ac (Nat.beq x.2.1 (2 * t)) (bz (s.must ((BK s.tm t).length=x.2.2)) ih) none
  |some (.growb _ t)=>ac (Nat.beq x.2.1 (2 * t+1)) (bz (s.must ((Gn s.tm t).length=x.2.2)) ih) none
  |_=>none) l s
structure FSpec where
 args:List Sa
 blk:List BSh
 pre:Sy->Prop
 res:Sy->Sr
 out:Sy->List BSh
 post:Sy->Sy->Prop
 gl:Option (Nat×Nat×List Nat):=none
def gW(x:BSh):Bool:=match x with | .grow _ _ _=>false | .growb _ _=>false|_=>true
def sn(q:ABlk):Nat:=match q with | .cells _ g _ _ _ _ _ _=>g | .grow _ g _=>g | .froz _ g=>g|_=>0
def Gp(H:T ABlk)(blk:List BSh)(l:List BSh)(j:Nat)(s:PS):Option PS:=
 List.rec (motive:=fun _=>Nat->PS->Option PS) (fun _ s=>some s) (fun x _ ih j s=>match bA j s.loc with
  |some bg=>T.getK H bg.1 none fun q=>bz (nD H blk x q bg.2 s) fun s=>ih (Nat.succ j) s
  |none=>T.getK H (base+j) none fun q=>bz (nD H blk x q (sn q) (s.name (j,base+j,sn q))) fun s=>ih (Nat.succ j) s) l j s
def kO(n:Nat)(l:List (Nat×Nat×Nat)):Bool:=List.rec (motive:=fun _=>Bool) true (fun x l ih=>ac (Nat.ble (Nat.succ x.1) n) (ac (jm x.2.1 l) ih false) false) l
def yP(x y:BSh):Bool:=match x,y with
 | .cells _ _,.cells _ _=>true
 | .grow _ _ _,.grow _ _ _=>true
 | .growb _ _,.growb _ _=>true
 | .sm _ _,.sm _ _=>true
 | .arr _ _ _,.arr _ _ _=>true
 | .arb _ _,.arb _ _=>true
 | .obj k _ _,.obj k' _ _=>Nat.beq k k'
 |_,_=>false
def oI:List BSh->List BSh->Bool
 | [],_=>true
 |x::l,y::m=>ac (yP x y) (oI l m) false
 |_,_=>false
def Oh(bl:List BSh)(j:Nat):Bool:=match bl[j]? with|some (.grow _ _ _)=>true|some (.growb _ _)=>true|_=>false
def my(bl:List BSh)(n:Nat)(l:List (Nat×Nat×Nat)):Bool:=List.rec (motive:=fun _=>Bool) true (fun x _ ih=>ac (ac (Nat.ble (Nat.succ x.1) n) (ac (Nat.beq x.2.1 (base+x.1)) true (ac (Oh bl x.1) (Nat.ble (base+64) x.2.1) false)) (Nat.ble (base+64) x.2.1)) ih false) l
def qr(fz:List Nat)(l:List (Nat×Nat×Nat)):Bool:=List.rec (motive:=fun _=>Bool) true (fun b _ ih=>ac (jm b l) ih false) fz
def Gq(H:T ABlk)(l:List BSh)(j:Nat)(s:PS):Option PS:=
 List.rec (motive:=fun _=>Nat->PS->Option PS) (fun _ s=>some s) (fun x _ ih j s=>match bA j s.loc with
  |some _=>ih (Nat.succ j) s
  |none=>ac (gW x) (T.getK H (base+j) none fun q=>ih (Nat.succ j) (s.name (j,base+j,sn q))) (ih (Nat.succ j) s)) l j s
def gm(n:Nat)(H:T ABlk)(r:Sr)(l:List BSh)(a:AV):Option PS:=
 bz (JN H l r a iZ) fun s=>bz (Gq H (l.take n) 0 s) fun s=>bz (Gp H l l 0 s) fun s=>bz (kN l s.ln s) fun s=>ac (ac (my l n s.loc) (qr s.fz s.loc) false) (ac (kO (List.length l) s.loc) (some s) none) none
def QT(n:Nat)(r:Sr)(l:List BSh)(post:Sy->Prop):Lf:=fun a σ _=>match gm n σ.h r l a with
 |some s=>.an s.pr (.at (post (aX s.tm)))
 |none=>.ff
def FSpec.argsA(S:FSpec)(z:Sy):List AV:=qp bL z S.args
def addTab(o:Option (Nat×Nat×List Nat))(H:T ABlk):T ABlk:=match o with|none=>H|some (g,ty,l)=>H.set g (.tab ty l)
def Oi(o:Option (Nat×Nat×List Nat))(k:Tr):Tr:=match o with
 |none=>k
 |some (g,ty,l)=>ac (Nat.ble (Nat.succ g) 1048576) (.rd g fun q=>match q with
  | .tab XI l'=>ac (Nat.beq ty XI) (ac (xG l l') k .fail) .fail
  |_=>.fail) .fail
def FSpec.heap(S:FSpec)(z:Sy):T ABlk:=addTab S.gl (ef bL z S.blk 0 .leaf)
def BL(loc:List (Nat×Nat×Nat))(a:AV)(k:AV->Tr):Tr:=match a with
 | .gsl b g n es=>.rd b fun q=>(match q with
  | .grow c gen _=>ac (Nat.beq g gen) (ac (Nat.beq c.es es) (ac (ac (Nat.ble (base+64) b) (jm b loc) false) (.req (c.len=n) (.wr b (.froz c gen) (k (.cv c)))) .fail) .fail) .fail
  | .froz c gen=>ac (Nat.beq g gen) (ac (Nat.beq c.es es) (.req (c.len=n) (k (.cv c))) .fail) .fail
  |_=>.fail)
 |a=>k a
def Oj(loc:List (Nat×Nat×Nat))(m:Nat)(a:AV)(k:AV->Tr):Tr:=match a with
 | .slc b g o len cap es=>ac (Nat.beq es (bp (cK m))) (ng loc b g o len cap es (fun ty as k=>cE (dF (cK m) len as) .fail fun q=>(match q with|(gs,[])=>k (.rows m gs) ty|_=>.fail)) fun a=>BL loc a k) .fail
 |a=>BL loc a k
def frzB(loc:List (Nat×Nat×Nat))(a:AV)(k:AV->Tr):Tr:=match a with
 | .slc b g o len cap es=>ac (Nat.beq 1 es) (ng loc b g o len cap 1 (fun ty as k=>cE (fG as) .fail fun ns=>.req (bj ns) (k (.bytes (aO ns)) ty)) fun a=>BL loc a k) .fail
 |a=>BL loc a k
def WA(loc:List (Nat×Nat×Nat))(m b g:Nat)(k:Tr):Tr:=.rd b fun q=>match q with
 | .cells _ _ _ hi _ _ _ _=>ng loc b g 0 (hi/bp (cK m)) (some (hi/bp (cK m))) (bp (cK m)) (pH m (hi/bp (cK m))) fun _=>k
 |_=>k
def WB(loc:List (Nat×Nat×Nat))(b g:Nat)(k:Tr):Tr:=.rd b fun q=>match q with
 | .cells _ _ _ hi _ _ _ _=>ng loc b g 0 hi (some hi) 1 pJ fun _=>k
 |_=>k
def tl(loc:List (Nat×Nat×Nat))(blk:List BSh)(x:Sh)(a:AV)(k:AV->Tr):Tr:=match x with
 | .g j es t=>(match a with
  | .nils=>(match blk[j]? with|some (.grow m ty _)=>.new (.grow (.rows m []) 0 ty) fun b=>k (.gsl b 0 0 es)|_=>.fail)
  | .slc b g o len cap p6=>(match blk[j]? with
   |some (.grow m ty _)=>ac (Nat.beq es p6) (ng loc b g o len cap es (fun _ as k=>cE (dF (cK m) len as) .fail fun q=>(match q with|(gs,[])=>k (.rows m gs) ty|_=>.fail)) k) .fail
   |_=>.fail)
  |a=>k a)
 | .gb j t=>(match a with
  | .nils=>(match blk[j]? with|some (.growb ty _)=>.new (.grow (.bytes []) 0 ty) fun b=>k (.gsl b 0 0 1)|_=>.fail)
  | .slc b g o len cap p6=>(match blk[j]? with
   |some (.growb ty _)=>ac (Nat.beq 1 p6) (ng loc b g o len cap 1 (fun _ as k=>cE (fG as) .fail fun ns=>.req (bj ns) (k (.bytes (aO ns)) ty)) k) .fail
   |_=>.fail)
  |a=>k a)
 | .p j=>(match a with
  | .ptr b g o=>(match blk[j]? with|some (.arr m _ _)=>WA loc m b g (k (.ptr b g o))|some (.arb _ _)=>WB loc b g (k (.ptr b g o))|_=>k (.ptr b g o))
  |a=>k a)
 | .v m _=>Oj loc m a k
 | .pv m _=>Oj loc m a k
 | .vb _=>frzB loc a k
 | .pvb _=>frzB loc a k
 |_=>k a
def uW(loc:List (Nat×Nat×Nat))(blk:List BSh)(l:List Sh)(as:List AV)(k:List AV->Tr):Tr:=
 List.rec (motive:=fun _=>List AV->(List AV->Tr)->Tr) (fun as k=>k as) (fun x _ ih as k=>match as with
  | []=>k []
  |a::as=>tl loc blk x a fun a=>ih as fun as=>k (a::as)) l as k
def JO(loc:List (Nat×Nat×Nat))(blk:List BSh)(x:Sa)(a:AV)(k:AV->Tr):Tr:=match x with
 | .c x=>tl loc blk x a k
 | .ag l=>(match a with
  | .agg as=>ac (Nat.beq (List.length as) (List.length l)) (uW loc blk l as fun as=>k (.agg as)) .fail
  |a=>k a)
 | .cp _=>k a
def iF(loc:List (Nat×Nat×Nat))(blk:List BSh)(l:List Sa)(as:List AV)(k:List AV->Tr):Tr:=
 List.rec (motive:=fun _=>List AV->(List AV->Tr)->Tr) (fun as k=>k as) (fun x _ ih as k=>match as with
  | []=>k []
  |a::as=>JO loc blk x a fun a=>ih as fun as=>k (a::as)) l as k
def UG(x:Sh):Sh:=match x with | .g j es t=>.g j es t | .gb j t=>.gb j t|_=>.o
def Ol(x:Sa):Sa:=match x with | .c x=>.c (UG x) | .ag l=>.ag (l.map UG) | .cp l=>.cp l
def BM(blk:List BSh)(r:Sr)(a:AV)(k:AV->Tr):Tr:=match r with
 | .one x=>iF [] blk [Ol x] [a] fun as=>match as with | [a]=>k a|_=>.fail
 | .tu l=>(match a with
  | .tup as=>ac (Nat.beq (List.length (l.map Ol)) (List.length as)) (iF [] blk (l.map Ol) as fun as=>k (.tup as)) (k (.tup as))
  |a=>k a)
def FSpec.callFm(S:FSpec)(P:Program)(M:Tab)(n f:Nat)(z:Sy)(h:Hn):Fm:=
 BI (pP P (Bl P M n) f (S.argsA z) fun a=>BM (S.out z) (S.res z) a .ret) (start (S.heap z) (base+64)) (QT (List.length S.blk) (S.res z) (S.out z) (S.post z)) h
def UH(blk:List BSh)(x:BSh)(q:ABlk)(g:Nat)(s:PS)(k:PS->Tr):Tr:=match x with
 | .cells ty l=>cE (mw ty (List.length l) q g) .fail fun as=>uW s.loc blk l as fun as=>cE (mt .leaf blk l as s) .fail k
 |x=>cE (fM x q g s) .fail k
def tp(blk:List BSh)(l:List BSh)(j:Nat)(s:PS)(k:PS->Tr):Tr:=
 List.rec (motive:=fun _=>Nat->PS->(PS->Tr)->Tr) (fun _ s k=>k s) (fun x _ ih j s k=>cE (bA j s.loc) .fail fun bg=>.rd bg.1 fun q=>UH blk x q bg.2 s fun s=>ih (Nat.succ j) s k) l j s k
def nE(s:PS):kz:=fun j=>match bA j s.loc with|some p=>p|none=>(0,0)
def Ef(x:BSh)(g:Nat):Nat:=ac (gW x) g (g+1)
def oU(l:List BSh)(γ:kz):kz:=fun j=>match l[j]? with|some x=>((γ j).1,Ef x (γ j).2)|none=>γ j
def Om(l:List BSh)(k:List Nat->Tr):Tr:=List.rec (motive:=fun _=>(List Nat->Tr)->Tr) (fun k=>k []) (fun _ _ ih k=>.new (.grow (.bytes []) 0 0) fun b=>ih fun bs=>k (b::bs)) l k
def sq(n:Nat)(γ:kz)(bs:List Nat):kz:=fun j=>ac (Nat.ble (Nat.succ j) n) (γ j) (bs.getD (j-n) 0,0)
def RV(γ:kz)(y:Sy)(l:List BSh)(j:Nat)(k:Tr):Tr:=
 List.rec (motive:=fun _=>Nat->Tr->Tr) (fun _ k=>k) (fun x _ ih j k=>.wr (γ j).1 (lm γ y j x) (ih (Nat.succ j) k)) l j k
def RX(S:FSpec)(zf:(z:Sy)->{y:Sy // S.pre z->S.post z y})(args:List AV)(k:AV->Tr):Tr:=
 Oi S.gl <| iF [] S.blk S.args args fun args=>cE (gC .leaf S.blk S.args args iZ) .fail fun s=>tp S.blk S.blk 0 s fun s=>cE (kN S.blk s.ln s) .fail fun s=>ac (ac (Nat.ble (List.length S.blk) 64) (ac (oI S.blk (S.out (aX s.tm))) (kO (List.length S.blk) s.loc) false) false) (.req (s.pr/\S.pre (aX s.tm))
  (.sk (fun y=>S.pre (aX s.tm)->S.post (aX s.tm) y) (zf (aX s.tm)) fun y=>Om ((S.out (aX s.tm)).drop (List.length S.blk)) fun bs=>RV (sq (List.length S.blk) (oU S.blk (nE s)) bs) y (S.out (aX s.tm)) 0 (k (BJ (sq (List.length S.blk) (oU S.blk (nE s)) bs) y (S.res (aX s.tm)))))) .fail
end
end Go.Sym
namespace Go.Sym
open Go.RowKit (Below)
def lO(s:PS)(F:T ABlk):Nat->Option ABlk:=fun b=>if b∈s.fz then F.get b else none
def RdC(F:Nat->Option ABlk)(ct:Ct)(a:AV):Prop:=
 (a= .nils/\ct.len=0)∨a= .cv ct∨
 (∃b g es ty,a= .gsl b g ct.len es/\base+64<=b/\F b=some (.grow ct g ty))∨
 (∃(b g o:Nat) (cap:Option Nat) (c:T Cell) (gen lo hi fl fh ty:Nat) (as:List AV),a= .slc b g o ct.len cap ct.es/\base+64<=b/\F b=some (.cells c gen lo hi fl fh false ty)/\g<=gen/\1<=ct.len/\1<=ct.es/\
  NH c g (ct.len * ct.es) o=some as/\∀i,i<ct.len->∀(ρ:Rho) (vs:List Value),LR ρ ((as.drop (i * ct.es)).take ct.es) vs->LR ρ (ct.row i) vs)∨
 (∃b g,a= .gsl b g ct.len ct.es/\base+64<=b/\F b=some (.froz ct g))
def Tv(F:Nat->Option ABlk)(blk:List BSh)(L:Nat->Option (Nat×Nat))(y:Sy)(x:Sh)(a:AV):Prop:=match x with
 | .i k t=>cz a=some (k,y.i t)
 | .b t=>dA a=some (y.p t)
 | .s t=>fF a=some (y.s t)
 | .o=>fB a=true
 | .v m t=>RdC F (.rows m (y.g t)) a
 | .vb t=>RdC F (.bytes (y.s t)) a
 | .pi k n=>cz a=some (k,n)
 | .pb q=>∃q',dA a=some q'/\(q'↔q)
 | .ps l=>fF a=some l
 | .pv m l=>RdC F (.rows m l) a
 | .pvb l=>RdC F (.bytes l) a
 | .np=>a= .nilp
 | .m j=>∃b,L j=some (b,0)/\a= .map b/\uV blk j=true
 | .p j=>∃b,L j=some (b,0)/\a= .ptr b 0 0/\iE blk j=true
 | .g j es t=>∃b g,L j=some (b,g)/\a= .gsl b g (y.g t).length es/\∃m ty,blk[j]? =some (.grow m ty t)
 | .gb j t=>∃b g,L j=some (b,g)/\a= .gsl b g (y.s t).length 1/\∃ty,blk[j]? =some (.growb ty t)
 | .fn f j=>∃b,L j=some (b,0)/\a= .func (.func f) [] [.ptr b 0 0]/\iE blk j=true
 | .li k n=>a= .int k n
 | .nz=>a= .nils
structure PS.Le(s s':PS):Prop where
 tm:∀t x,bA t s.tm=some x->bA t s'.tm=some x
 loc:∀j p,bA j s.loc=some p->bA j s'.loc=some p
 ln:∀q,q∈s.ln->q∈s'.ln
 pr:s'.pr->s.pr
 mem:∀q,q∈s.loc->q∈s'.loc
 fz:∀b,b∈s.fz->b∈s'.fz
theorem PS.Le.refl(s:PS):s.Le s:=⟨fun _ _ h=>h,fun _ _ h=>h,fun _ h=>h,fun h=>h,fun _ h=>h,fun _ h=>h⟩
theorem PS.Le.trans{a b c:PS}(h:a.Le b)(h':b.Le c):a.Le c:=⟨fun t x q=>h'.tm t x (h.tm t x q),fun j p q=>h'.loc j p (h.loc j p q),fun q p=>h'.ln q (h.ln q p),fun p=>h.pr (h'.pr p),fun q p=>h'.mem q (h.mem q p),fun b p=>h'.fz b (h.fz b p)⟩
def qt(blk:List BSh)(s:PS):Prop:=∀j tag n,(j,tag,n)∈s.ln->(∃m ty t,blk[j]? =some (.grow m ty t)/\tag=2 * t/\(BK s.tm t).length=n)∨(∃ty t,blk[j]? =some (.growb ty t)/\tag=2 * t+1/\(Gn s.tm t).length=n)
noncomputable def PS.L(s:PS):Nat->Option (Nat×Nat):=fun j=>bA j s.loc
theorem dq{α:Type}(n:Nat)(x:Nat×α)(l:List (Nat×α)):bA n (x::l)=if x.1=n then some x.2 else bA n l:=by
 show ac (Nat.beq x.1 n) (some x.2) (bA n l)=_
 rw[ax]
 by_cases h:x.1=n
 ·rw[if_pos h,if_pos (by rw[h];exact Nat.beq_refl n)]
 ·rw[if_neg h,if_neg (fun e=>h (aad e))]
theorem PS.and_le(s:PS)(p:Prop):s.Le (s.and p)/\((s.and p).pr->p):=by
 cases s
 exact⟨⟨fun _ _ h=>h,fun _ _ h=>h,fun _ h=>h,fun h=>h.2,fun _ h=>h,fun _ h=>h⟩,fun h=>h.1⟩
theorem PS.fzn_le(s:PS)(b:Nat):s.Le (s.fzn b)/\b∈(s.fzn b).fz:=by
 cases s
 exact⟨⟨fun _ _ h=>h,fun _ _ h=>h,fun _ h=>h,fun h=>h,fun _ h=>h,fun _ h=>aaw _ h⟩,aay⟩
theorem nF{s sF:PS}{F:T ABlk}{b:Nat}(h:b∈s.fz)(hF:s.Le sF):lO sF F b=F.get b:=by unfold lO;rw[if_pos (hF.fz _ h)]
theorem PS.add_ok{s s':PS}{t:Nat}{x:Tm}(h:s.add t x=some s'):s.Le s'/\bA t s'.tm=some x:=by
 cases s with
 |mk tm loc ln pr fz=>
 unfold PS.add at h
 simp only at h
 split at h
 ·rename_i hn
  injection h with h
  subst h
  refine⟨⟨fun t' x' h'=>?_,fun _ _ h=>h,fun _ h=>h,fun h=>h,fun _ h=>h,fun _ h=>h⟩,by rw[dq,if_pos rfl]⟩
  rw[dq]
  split
  ·rename_i e
   simp only at e
   subst e
   have h':bA t tm=some x':=h'
   rw[hn] at h';cases h'
  ·exact h'
 ·cases h
theorem PS.must_ok{s s':PS}{p:Prop}(h:s.must p=some s'):s.Le s'/\(s'.pr->p):=by
 injection h with h
 subst h
 exact PS.and_le s p
theorem PS.at_ok{s s':PS}{j b g:Nat}(h:s.at_ j b g=some s'):s.Le s'/\bA j s'.loc=some (b,g):=by
 cases s with
 |mk tm loc ln pr fz=>
 unfold PS.at_ at h
 simp only at h
 split at h
 ·rename_i hn
  obtain⟨_,h⟩:=bh h
  injection h with h
  subst h
  refine⟨⟨fun _ _ h=>h,fun j' p h'=>?_,fun _ h=>h,fun h=>h,fun _ h=>aaw _ h,fun _ h=>h⟩,by rw[dq,if_pos rfl]⟩
  rw[dq]
  split
  ·rename_i e
   simp only at e
   subst e
   have h':bA j loc=some p:=h'
   rw[hn] at h';cases h'
  ·exact h'
 ·rename_i b' g' hn
  obtain⟨e1,h⟩:=bh h
  obtain⟨e2,h⟩:=bh h
  have e1:=aad e1
  have e2:=aad e2
  injection h with h
  subst h;subst e1;subst e2
  exact⟨.refl _,hn⟩
theorem PS.len_ok{s s':PS}{j tag n:Nat}(h:s.len_ j tag n=some s'):s.Le s'/\(j,tag,n)∈s'.ln:=by
 cases s with
 |mk tm loc ln pr fz=>
 injection h with h
 subst h
 exact⟨⟨fun _ _ h=>h,fun _ _ h=>h,fun _ h=>aaw _ h,fun h=>h,fun _ h=>h,fun _ h=>h⟩,aay⟩
theorem yQ{F:T ABlk}{m:Nat}{a:AV}{s s':PS}{k:List G->PS->Option PS}(h:Ee F m a s k=some s'):
  ∃l s1,k l s1=some s'/\s.Le s1/\(s1.pr->∀sF,s1.Le sF->RdC (lO sF F) (.rows m l) a):=by
 unfold Ee at h
 split at h
 ·exact⟨_,_,h,.refl _,fun _ _ _=>.inl ⟨rfl,rfl⟩⟩
 ·replace h:=bh h;obtain⟨e,h⟩:=h
  have e:=aad e
  subst e
  exact⟨_,_,h,.refl _,fun _ _ _=>.inr (.inl rfl)⟩
 ·rename_i b g n es
  replace h:=mi h;obtain⟨x,hx,h⟩:=h
  split at h
  ·rename_i m' l gen ty
   replace h:=bh h;obtain⟨e0,h⟩:=h
   replace h:=bh h;obtain⟨e1,h⟩:=h
   replace h:=bh h;obtain⟨e2,h⟩:=h
   have e1:=aad e1
   have e2:=aad e2
   subst e1;subst e2
   refine⟨_,_,h,(PS.fzn_le s b).1.trans (PS.and_le _ _).1,fun hp sF hF=>.inr (.inr (.inl ⟨b,g,es,ty, ?_,aas e0,(nF ((PS.and_le _ _).1.fz _ (PS.fzn_le s b).2) hF).trans hx⟩))⟩
   show AV.gsl b g n es= .gsl b g l.length es
   rw[←(PS.and_le _ _).2 hp]
  ·rename_i m' l gen
   replace h:=bh h;obtain⟨e0,h⟩:=h
   replace h:=bh h;obtain⟨e1,h⟩:=h
   replace h:=bh h;obtain⟨e2,h⟩:=h
   replace h:=bh h;obtain⟨e3,h⟩:=h
   have e1:=aad e1
   have e2:=aad e2
   have e3:=aad e3
   subst e1;subst e2;subst e3
   refine⟨_,_,h,(PS.fzn_le s b).1.trans (PS.and_le _ _).1,fun hp sF hF=>.inr (.inr (.inr (.inr ⟨b,g, ?_,aas e0,(nF ((PS.and_le _ _).1.fz _ (PS.fzn_le s b).2) hF).trans hx⟩)))⟩
   show AV.gsl b g n _= .gsl b g l.length _
   rw[←(PS.and_le _ _).2 hp];rfl
  ·cases h
 ·rename_i b g o len cap es
  replace h:=mi h;obtain⟨x,hx,h⟩:=h
  split at h
  ·rename_i c gen lo hi fl fh ro ty
   replace h:=bh h;obtain⟨e0,h⟩:=h
   replace h:=RM h;obtain⟨e1,h⟩:=h
   replace h:=bh h;obtain⟨e2,h⟩:=h
   replace h:=bh h;obtain⟨e3,h⟩:=h
   replace h:=bh h;obtain⟨e4,h⟩:=h
   replace h:=bh h;obtain⟨e5,h⟩:=h
   replace h:=aN h;obtain⟨as,hl,h⟩:=h
   replace h:=aN h;obtain⟨q,hq,h⟩:=h
   split at h
   ·rename_i gs
    have e4:=aad e4
    subst e1
    obtain⟨c1,f1,f2,f3,f4⟩:=gi _ _ _ _ hq
    have f1:as=c1:=by simpa using f1
    subst f1
    subst e4
    subst f3
    exact⟨_,_,h,(PS.fzn_le s b).1,fun _ sF hF=>.inr (.inr (.inr (.inl ⟨b,g,o,cap,c,gen,lo,hi,fl,fh,ty,as,rfl,aas e0,(nF (PS.fzn_le s b).2 hF).trans hx,aas e2,aas e3,aas e5,hl,f4⟩)))⟩
   ·cases h
  ·cases h
 ·cases h
theorem tq{F:T ABlk}{a:AV}{s s':PS}{k:List Nat->PS->Option PS}(h:uU F a s k=some s'):
  ∃l s1,k l s1=some s'/\s.Le s1/\(s1.pr->∀sF,s1.Le sF->RdC (lO sF F) (.bytes l) a):=by
 unfold uU at h
 split at h
 ·exact⟨_,_,h,.refl _,fun _ _ _=>.inl ⟨rfl,rfl⟩⟩
 ·exact⟨_,_,h,.refl _,fun _ _ _=>.inr (.inl rfl)⟩
 ·rename_i b g n es
  replace h:=mi h;obtain⟨x,hx,h⟩:=h
  split at h
  ·rename_i l gen ty
   replace h:=bh h;obtain⟨e0,h⟩:=h
   replace h:=bh h;obtain⟨e2,h⟩:=h
   have e2:=aad e2
   subst e2
   refine⟨_,_,h,(PS.fzn_le s b).1.trans (PS.and_le _ _).1,fun hp sF hF=>.inr (.inr (.inl ⟨b,g,es,ty, ?_,aas e0,(nF ((PS.and_le _ _).1.fz _ (PS.fzn_le s b).2) hF).trans hx⟩))⟩
   show AV.gsl b g n es= .gsl b g l.length es
   rw[←(PS.and_le _ _).2 hp]
  ·rename_i l gen
   replace h:=bh h;obtain⟨e0,h⟩:=h
   replace h:=bh h;obtain⟨e2,h⟩:=h
   replace h:=bh h;obtain⟨e3,h⟩:=h
   have e2:=aad e2
   have e3:=aad e3
   subst e2;subst e3
   refine⟨_,_,h,(PS.fzn_le s b).1.trans (PS.and_le _ _).1,fun hp sF hF=>.inr (.inr (.inr (.inr ⟨b,g, ?_,aas e0,(nF ((PS.and_le _ _).1.fz _ (PS.fzn_le s b).2) hF).trans hx⟩)))⟩
   show AV.gsl b g n _= .gsl b g l.length _
   rw[←(PS.and_le _ _).2 hp];rfl
  ·cases h
 ·rename_i b g o len cap es
  replace h:=mi h;obtain⟨x,hx,h⟩:=h
  split at h
  ·rename_i c gen lo hi fl fh ro ty
   replace h:=bh h;obtain⟨e0,h⟩:=h
   replace h:=RM h;obtain⟨e1,h⟩:=h
   replace h:=bh h;obtain⟨e2,h⟩:=h
   replace h:=bh h;obtain⟨e3,h⟩:=h
   replace h:=bh h;obtain⟨e4,h⟩:=h
   replace h:=aN h;obtain⟨as,hl,h⟩:=h
   replace h:=aN h;obtain⟨ns,hq,h⟩:=h
   have e4:=aad e4
   subst e1;subst e4
   obtain⟨f1,f2⟩:=mg _ _ hq
   have hal:as.length=len:=by
    have:∀(n o:Nat) (l:List AV),NH c g n o=some l->l.length=n:=by
     intro n
     induction n with
     |zero=>intro o l h;injection h with h;subst h;rfl
     |succ n ih=>
      intro o l h
      replace h:=mi h;obtain⟨x,_,h⟩:=h
      cases x with
      |mk tag v=>
       replace h:=bh h;obtain⟨_,h⟩:=h
       rw[je] at h
       obtain⟨l',h1,h2⟩:=aN h
       injection h2 with h2
       subst h2
       simp [ih _ _ h1]
    exact this _ _ _ hl
   have Zl:(Ct.bytes (aO ns)).len=len:=by show(aO ns).length=len;rw[bP,f1,hal]
   refine⟨_,_,h,(PS.fzn_le s b).1.trans (PS.and_le _ _).1,fun hp sF hF=>.inr (.inr (.inr (.inl ⟨b,g,o,cap,c,gen,lo,hi,fl,fh,ty,as,by rw[Zl];rfl,aas e0,(nF ((PS.and_le _ _).1.fz _ (PS.fzn_le s b).2) hF).trans hx,aas e2,by rw[Zl];exact aas e3,aaa _,by rw[Zl];show NH c g (len * 1) o=_;rw[aaD];exact hl,fun i hi ρ vs E'=>?_⟩)))⟩
   rw[Zl] at hi
   have hia:i<as.length:=by omega
   have hd:(as.drop (i * 1)).take 1= [as[i]]:=by
    rw[aaD,aaU hia];rfl
   have E':LR ρ ((as.drop (i * 1)).take 1) vs:=E'
   rw[hd] at E'
   refine E'.one fun v hv=>?_
   obtain⟨n',q1,q2⟩:=f2 i as[i] (aah hia)
   obtain⟨q3,q4⟩:=iu _ _ _ ((PS.and_le _ _).2 hp) q1
   rw[bo hv q2,aag,q3]
   show VR ρ (.sI .u8 ((n'.toNat:Nat):Int)) _
   rw[show((n'.toNat:Nat):Int)=n' by omega]
   exact .sI _ _
  ·cases h
 ·cases h
theorem JP{l:List (Nat×Tm)}{t:Nat}{n:Int}(h:bA t l=some (.i n)):V4 l t=n:=by unfold V4;rw[h]
theorem qu{l:List (Nat×Tm)}{t:Nat}{n:List Nat}(h:bA t l=some (.s n)):Gn l t=n:=by unfold Gn;rw[h]
theorem RY{l:List (Nat×Tm)}{t:Nat}{n:Prop}(h:bA t l=some (.p n)):V5 l t=n:=by unfold V5;rw[h]
theorem lp{l:List (Nat×Tm)}{t:Nat}{n:List G}(h:bA t l=some (.g n)):BK l t=n:=by unfold BK;rw[h]
theorem yR{F:T ABlk}{blk:List BSh}{x:Sh}{a:AV}{s s':PS}(h:tj F blk x a s=some s'):
  s.Le s'/\∀sF,s'.Le sF->sF.pr->qt blk sF->Tv (lO sF F) blk sF.L (aX sF.tm) x a:=by
 unfold tj at h
 cases x with
 |i k t=>
  simp only at h
  split at h
  ·rename_i k' n hn
   replace h:=bh h;obtain⟨e,h⟩:=h
   have e:=of_decide_eq_true e
   subst e
   obtain⟨h1,h2⟩:=PS.add_ok h
   refine⟨h1,fun sF hF _ _=>?_⟩
   show cz a=some (k,V4 sF.tm t)
   rw[JP (hF.tm _ _ h2),hn]
  ·cases h
 |b t=>
  simp only at h
  split at h
  ·rename_i q hn
   obtain⟨h1,h2⟩:=PS.add_ok h
   refine⟨h1,fun sF hF _ _=>?_⟩
   show dA a=some (V5 sF.tm t)
   rw[RY (hF.tm _ _ h2),hn]
  ·cases h
 |s t=>
  simp only at h
  split at h
  ·rename_i q hn
   obtain⟨h1,h2⟩:=PS.add_ok h
   refine⟨h1,fun sF hF _ _=>?_⟩
   show fF a=some (Gn sF.tm t)
   rw[qu (hF.tm _ _ h2),hn]
  ·cases h
 |o=>
  replace h:=bh h;obtain⟨e,h⟩:=h
  injection h with h
  subst h
  exact⟨.refl _,fun sF _ _ _=>e⟩
 |v m t=>
  obtain⟨l,s1,hk,hle,hr⟩:=yQ h
  obtain⟨h1,h2⟩:=PS.add_ok hk
  refine⟨hle.trans h1,fun sF hF hp _=>?_⟩
  show RdC (lO sF F) (.rows m (BK sF.tm t)) a
  rw[lp (hF.tm _ _ h2)]
  exact hr (h1.pr (hF.pr hp)) sF (h1.trans hF)
 |vb t=>
  obtain⟨l,s1,hk,hle,hr⟩:=tq h
  obtain⟨h1,h2⟩:=PS.add_ok hk
  refine⟨hle.trans h1,fun sF hF hp _=>?_⟩
  show RdC (lO sF F) (.bytes (Gn sF.tm t)) a
  rw[qu (hF.tm _ _ h2)]
  exact hr (h1.pr (hF.pr hp)) sF (h1.trans hF)
 |pi k n=>
  simp only at h
  split at h
  ·rename_i k' n' hn
   replace h:=bh h;obtain⟨e,h⟩:=h
   have e:=of_decide_eq_true e
   subst e
   obtain⟨h1,h2⟩:=PS.must_ok h
   refine⟨h1,fun sF hF hp _=>?_⟩
   show cz a=some (k,n)
   rw[hn,h2 (hF.pr hp)]
  ·cases h
 |pb q=>
  simp only at h
  split at h
  ·rename_i q' hn
   obtain⟨h1,h2⟩:=PS.must_ok h
   exact⟨h1,fun sF hF hp _=>⟨q',hn,h2 (hF.pr hp)⟩⟩
  ·cases h
 |ps l=>
  simp only at h
  split at h
  ·rename_i l' hn
   obtain⟨h1,h2⟩:=PS.must_ok h
   refine⟨h1,fun sF hF hp _=>?_⟩
   show fF a=some l
   rw[hn,h2 (hF.pr hp)]
  ·cases h
 |pv m l=>
  obtain⟨l',s1,hk,hle,hr⟩:=yQ h
  obtain⟨h1,h2⟩:=PS.must_ok hk
  refine⟨hle.trans h1,fun sF hF hp _=>?_⟩
  show RdC (lO sF F) (.rows m l) a
  rw[←h2 (hF.pr hp)]
  exact hr (h1.pr (hF.pr hp)) sF (h1.trans hF)
 |pvb l=>
  obtain⟨l',s1,hk,hle,hr⟩:=tq h
  obtain⟨h1,h2⟩:=PS.must_ok hk
  refine⟨hle.trans h1,fun sF hF hp _=>?_⟩
  show RdC (lO sF F) (.bytes l) a
  rw[←h2 (hF.pr hp)]
  exact hr (h1.pr (hF.pr hp)) sF (h1.trans hF)
 |np=>
  simp only at h
  split at h
  ·injection h with h
   subst h
   exact⟨.refl _,fun sF _ _ _=>rfl⟩
  ·cases h
 |li k n=>
  simp only at h
  split at h
  ·replace h:=bh h;obtain⟨e,h⟩:=h
   replace h:=bh h;obtain⟨e2,h⟩:=h
   have e:=of_decide_eq_true e
   have e2:=of_decide_eq_true e2
   injection h with h
   subst h;subst e;subst e2
   exact⟨.refl _,fun sF _ _ _=>rfl⟩
  ·cases h
 |nz=>
  simp only at h
  split at h
  ·injection h with h
   subst h
   exact⟨.refl _,fun sF _ _ _=>rfl⟩
  ·cases h
 |p j=>
  simp only at h
  split at h
  ·rename_i b g o
   replace h:=bh h;obtain⟨e1,h⟩:=h
   replace h:=bh h;obtain⟨e2,h⟩:=h
   replace h:=bh h;obtain⟨e3,h⟩:=h
   have e1:=aad e1
   have e2:=aad e2
   subst e1;subst e2
   obtain⟨h1,h2⟩:=PS.at_ok h
   exact⟨h1,fun sF hF _ _=>⟨b,hF.loc _ _ h2,rfl,e3⟩⟩
  ·cases h
 |fn f j=>
  simp only at h
  split at h
  ·rename_i f' b g o
   replace h:=bh h;obtain⟨e0,h⟩:=h
   replace h:=bh h;obtain⟨e1,h⟩:=h
   replace h:=bh h;obtain⟨e2,h⟩:=h
   replace h:=bh h;obtain⟨e3,h⟩:=h
   have e0:=aad e0
   have e1:=aad e1
   have e2:=aad e2
   subst e0;subst e1;subst e2
   obtain⟨h1,h2⟩:=PS.at_ok h
   exact⟨h1,fun sF hF _ _=>⟨b,hF.loc _ _ h2,rfl,e3⟩⟩
  ·cases h
 |m j=>
  simp only at h
  split at h
  ·rename_i b
   replace h:=bh h;obtain⟨e3,h⟩:=h
   obtain⟨h1,h2⟩:=PS.at_ok h
   exact⟨h1,fun sF hF _ _=>⟨b,hF.loc _ _ h2,rfl,e3⟩⟩
  ·cases h
 |g j es t=>
  simp only at h
  split at h
  ·rename_i b g n p6
   replace h:=bh h;obtain⟨e1,h⟩:=h
   have e1:=aad e1
   subst e1
   replace h:=aN h;obtain⟨s1,h1,h⟩:=h
   obtain⟨h1,h2⟩:=PS.at_ok h1
   obtain⟨h3,h4⟩:=PS.len_ok h
   refine⟨h1.trans h3,fun sF hF _ hl=>⟨b,g,hF.loc _ _ (h3.loc _ _ h2), ?_⟩⟩
   rcases hl _ _ _ (hF.ln _ h4) with⟨m,ty,t',eb,e,e2⟩|⟨ty,t',eb,e,e2⟩
   ·have:t'=t:=by omega
    subst this
    refine⟨?_,m,ty,eb⟩
    show AV.gsl b g n es= .gsl b g (BK sF.tm t').length es
    rw[e2]
   ·omega
  ·cases h
 |gb j t=>
  simp only at h
  split at h
  ·rename_i b g n p6
   replace h:=bh h;obtain⟨e1,h⟩:=h
   have e1:=aad e1
   subst e1
   replace h:=aN h;obtain⟨s1,h1,h⟩:=h
   obtain⟨h1,h2⟩:=PS.at_ok h1
   obtain⟨h3,h4⟩:=PS.len_ok h
   refine⟨h1.trans h3,fun sF hF _ hl=>⟨b,g,hF.loc _ _ (h3.loc _ _ h2), ?_⟩⟩
   rcases hl _ _ _ (hF.ln _ h4) with⟨m,ty,t',eb,e,e2⟩|⟨ty,t',eb,e,e2⟩
   ·omega
   ·have:t'=t:=by omega
    subst this
    refine⟨?_,ty,eb⟩
    show AV.gsl b g n 1= .gsl b g (Gn sF.tm t').length 1
    rw[e2]
  ·cases h
def All2{α β:Type}(R:α->β->Prop):List α->List β->Prop
 | [],[]=>True
 |a::l,b::m=>R a b/\All2 R l m
 |_,_=>False
theorem All2.imp{α β:Type}{R S:α->β->Prop}(h:∀a b,R a b->S a b):∀{l:List α} {m:List β},All2 R l m->All2 S l m
 | [],[],_=>trivial
 |_::_,_::_,⟨h1,h2⟩=>⟨h _ _ h1,All2.imp h h2⟩
 | [],_::_,h=>h.elim
 |_::_,[],h=>h.elim
theorem All2.len{α β:Type}{R:α->β->Prop}:∀{l:List α} {m:List β},All2 R l m->m.length=l.length
 | [],[],_=>rfl
 |_::_,_::_,⟨_,h2⟩=>by simp [All2.len h2]
 | [],_::_,h=>h.elim
 |_::_,[],h=>h.elim
theorem mz{F:T ABlk}{blk:List BSh}:∀{l:List Sh} {as:List AV} {s s':PS},mt F blk l as s=some s'->
  s.Le s'/\∀sF,s'.Le sF->sF.pr->qt blk sF->All2 (Tv (lO sF F) blk sF.L (aX sF.tm)) l as:=by
 intro l
 induction l with
 |nil=>
  intro as s s' h
  cases as with
  |nil=>injection h with h;subst h;exact⟨.refl _,fun _ _ _ _=>trivial⟩
  |cons _ _=>cases h
 |cons x l ih=>
  intro as s s' h
  cases as with
  |nil=>cases h
  |cons a as=>
   obtain⟨s1,h1,h2⟩:=aN (show bz (tj F blk x a s) (fun s=>mt F blk l as s)=some s' from h)
   obtain⟨q1,q2⟩:=yR (blk:=blk) h1
   obtain⟨r1,r2⟩:=ih h2
   exact⟨q1.trans r1,fun sF hF hp hl=>⟨q2 sF (r1.trans hF) hp hl,r2 sF hF hp hl⟩⟩
def TvA(F:Nat->Option ABlk)(blk:List BSh)(L:Nat->Option (Nat×Nat))(y:Sy)(x:Sa)(a:AV):Prop:=match x with
 | .c x=>Tv F blk L y x a
 | .ag l=>∃as,a= .agg as/\All2 (Tv F blk L y) l as
 | .cp l=>∃as,a= .cptr as/\All2 (Tv F blk L y) l as
def TvR(F:Nat->Option ABlk)(blk:List BSh)(L:Nat->Option (Nat×Nat))(y:Sy)(x:Sr)(a:AV):Prop:=match x with
 | .one x=>TvA F blk L y x a
 | .tu l=>∃as,a= .tup as/\All2 (TvA F blk L y) l as
theorem yS{F:T ABlk}{blk:List BSh}{x:Sa}{a:AV}{s s':PS}(h:qq F blk x a s=some s'):
  s.Le s'/\∀sF,s'.Le sF->sF.pr->qt blk sF->TvA (lO sF F) blk sF.L (aX sF.tm) x a:=by
 cases x with
 |c x=>exact yR h
 |ag l=>
  unfold qq at h
  simp only at h
  split at h
  ·obtain⟨h1,h2⟩:=mz (blk:=blk) h
   exact⟨h1,fun sF hF hp hl=>⟨_,rfl,h2 sF hF hp hl⟩⟩
  ·cases h
 |cp l=>
  unfold qq at h
  simp only at h
  split at h
  ·obtain⟨h1,h2⟩:=mz (blk:=blk) h
   exact⟨h1,fun sF hF hp hl=>⟨_,rfl,h2 sF hF hp hl⟩⟩
  ·cases h
theorem fx{F:T ABlk}{blk:List BSh}:∀{l:List Sa} {as:List AV} {s s':PS},gC F blk l as s=some s'->
  s.Le s'/\∀sF,s'.Le sF->sF.pr->qt blk sF->All2 (TvA (lO sF F) blk sF.L (aX sF.tm)) l as:=by
 intro l
 induction l with
 |nil=>
  intro as s s' h
  cases as with
  |nil=>injection h with h;subst h;exact⟨.refl _,fun _ _ _ _=>trivial⟩
  |cons _ _=>cases h
 |cons x l ih=>
  intro as s s' h
  cases as with
  |nil=>cases h
  |cons a as=>
   obtain⟨s1,h1,h2⟩:=aN (show bz (qq F blk x a s) (fun s=>gC F blk l as s)=some s' from h)
   obtain⟨q1,q2⟩:=yS (blk:=blk) h1
   obtain⟨r1,r2⟩:=ih h2
   exact⟨q1.trans r1,fun sF hF hp hl=>⟨q2 sF (r1.trans hF) hp hl,r2 sF hF hp hl⟩⟩
theorem JQ{F:T ABlk}{blk:List BSh}{x:Sr}{a:AV}{s s':PS}(h:JN F blk x a s=some s'):
  s.Le s'/\∀sF,s'.Le sF->sF.pr->qt blk sF->TvR (lO sF F) blk sF.L (aX sF.tm) x a:=by
 cases x with
 |one x=>exact yS h
 |tu l=>
  unfold JN at h
  simp only at h
  split at h
  ·obtain⟨h1,h2⟩:=fx (blk:=blk) h
   exact⟨h1,fun sF hF hp hl=>⟨_,rfl,h2 sF hF hp hl⟩⟩
  ·cases h
theorem qw{ty n g:Nat}{q:ABlk}{as:List AV}(h:mw ty n q g=some as):g=0/\∃c,q= .cells c 0 0 n 0 0 false ty/\NH c 0 n 0=some as:=by
 unfold mw at h
 split at h
 ·replace h:=RM h;obtain⟨e0,h⟩:=h
  replace h:=bh h;obtain⟨e1,h⟩:=h
  replace h:=bh h;obtain⟨e2,h⟩:=h
  replace h:=bh h;obtain⟨e3,h⟩:=h
  replace h:=bh h;obtain⟨e4,h⟩:=h
  replace h:=bh h;obtain⟨e5,h⟩:=h
  replace h:=bh h;obtain⟨e6,h⟩:=h
  replace h:=bh h;obtain⟨e7,h⟩:=h
  have e1:=aad e1
  have e2:=aad e2
  have e3:=aad e3
  have e4:=aad e4
  have e5:=aad e5
  have e6:=aad e6
  have e7:=aad e7
  subst e0 e1 e2 e3 e4 e5 e6 e7
  exact⟨rfl,_,rfl,h⟩
 ·cases h
def BT(ρ:Rho)(F:Nat->Option ABlk)(blk:List BSh)(L:Nat->Option (Nat×Nat))(y:Sy)(x:BSh)(q:ABlk)(g:Nat):Prop:=match x with
 | .cells ty l=>g=0/\∃c as,q= .cells c 0 0 l.length 0 0 false ty/\as.length=l.length/\(∀(j:Nat) (a:AV),as[j]? =some a->∃a0,c.get j=some (.mk 0 a0)/\∀v,VR ρ a0 v->VR ρ a v)/\All2 (Tv F blk L y) l as
 | .grow m ty t=>q= .grow (.rows m (y.g t)) g ty
 | .growb ty t=>q= .grow (.bytes (y.s t)) g ty
 | .arb ty t=>g=0/\q= .grow (.bytes (y.s t)) 0 ty/\0<(y.s t).length
 | .arr m ty t=>g=0/\q= .grow (.rows m (y.g t)) 0 ty/\0<(y.g t).length
 | .sm m t=>g=0/\(q= .smap m (y.g t)∨∃c,q= .mapo [] c/\y.g t= [])
 | .obj k C t=>g=0/\q= .obj k (C (y.g t)) (y.g t)
theorem ew{ρ:Rho}{F:T ABlk}{blk:List BSh}{x:BSh}{q:ABlk}{g:Nat}{s s':PS}(h:fM x q g s=some s'):
  s.Le s'/\∀sF,s'.Le sF->sF.pr->BT ρ (lO sF F) blk sF.L (aX sF.tm) x q g:=by
 unfold fM at h
 cases x with
 |cells ty l=>cases h
 |grow m ty t=>
  simp only at h
  split at h
  ·replace h:=bh h;obtain⟨e1,h⟩:=h
   replace h:=bh h;obtain⟨e2,h⟩:=h
   replace h:=bh h;obtain⟨e3,h⟩:=h
   have e1:=aad e1
   have e2:=aad e2
   have e3:=aad e3
   subst e1;subst e2;subst e3
   obtain⟨h1,h2⟩:=PS.add_ok h
   refine⟨h1,fun sF hF _=>?_⟩
   show ABlk.grow _ _ _=ABlk.grow (.rows m (BK sF.tm t)) g ty
   rw[lp (hF.tm _ _ h2)]
  ·cases h
 |growb ty t=>
  simp only at h
  split at h
  ·replace h:=bh h;obtain⟨e2,h⟩:=h
   replace h:=bh h;obtain⟨e3,h⟩:=h
   have e2:=aad e2
   have e3:=aad e3
   subst e2;subst e3
   obtain⟨h1,h2⟩:=PS.add_ok h
   refine⟨h1,fun sF hF _=>?_⟩
   show ABlk.grow _ _ _=ABlk.grow (.bytes (Gn sF.tm t)) g ty
   rw[qu (hF.tm _ _ h2)]
  ·cases h
 |sm m t=>
  simp only at h
  split at h
  ·replace h:=bh h;obtain⟨e2,h⟩:=h
   replace h:=bh h;obtain⟨e3,h⟩:=h
   have e2:=aad e2
   have e3:=aad e3
   subst e2;subst e3
   obtain⟨h1,h2⟩:=PS.add_ok h
   exact⟨h1,fun sF hF _=>⟨rfl,.inl (by show ABlk.smap _ _=ABlk.smap _ (BK sF.tm t);rw[lp (hF.tm _ _ h2)])⟩⟩
  ·replace h:=bh h;obtain⟨e3,h⟩:=h
   have e3:=aad e3
   subst e3
   obtain⟨h1,h2⟩:=PS.add_ok h
   exact⟨h1,fun sF hF _=>⟨rfl,.inr ⟨_,rfl,lp (hF.tm _ _ h2)⟩⟩⟩
  ·cases h
 |arb ty t=>
  simp only at h
  split at h
  ·replace h:=bh h;obtain⟨e2,h⟩:=h
   replace h:=bh h;obtain⟨e3,h⟩:=h
   replace h:=bh h;obtain⟨e4,h⟩:=h
   have e2:=aad e2
   have e3:=aad e3
   have e4:=aad e4
   subst e2;subst e3;subst e4
   obtain⟨s1,hm,h⟩:=aN h
   obtain⟨m1,m2⟩:=PS.must_ok hm
   obtain⟨h1,h2⟩:=PS.add_ok h
   refine⟨m1.trans h1,fun sF hF hp=>⟨rfl, ?_, ?_⟩⟩
   ·show ABlk.grow _ _ _=ABlk.grow (.bytes (Gn sF.tm t)) 0 ty
    rw[qu (hF.tm _ _ h2)]
   ·show 0<(Gn sF.tm t).length
    rw[qu (hF.tm _ _ h2)]
    exact m2 (h1.pr (hF.pr hp))
  ·cases h
 |arr m ty t=>
  simp only at h
  split at h
  ·replace h:=bh h;obtain⟨e1,h⟩:=h
   replace h:=bh h;obtain⟨e2,h⟩:=h
   replace h:=bh h;obtain⟨e3,h⟩:=h
   replace h:=bh h;obtain⟨e4,h⟩:=h
   have e1:=aad e1
   have e2:=aad e2
   have e3:=aad e3
   have e4:=aad e4
   subst e1;subst e2;subst e3;subst e4
   obtain⟨s1,hm,h⟩:=aN h
   obtain⟨m1,m2⟩:=PS.must_ok hm
   obtain⟨h1,h2⟩:=PS.add_ok h
   refine⟨m1.trans h1,fun sF hF hp=>⟨rfl, ?_, ?_⟩⟩
   ·show ABlk.grow _ _ _=ABlk.grow (.rows m (BK sF.tm t)) 0 ty
    rw[lp (hF.tm _ _ h2)]
   ·show 0<(BK sF.tm t).length
    rw[lp (hF.tm _ _ h2)]
    exact m2 (h1.pr (hF.pr hp))
  ·cases h
 |obj k C t=>
  simp only at h
  split at h
  ·replace h:=bh h;obtain⟨e2,h⟩:=h
   replace h:=bh h;obtain⟨e3,h⟩:=h
   have e2:=aad e2
   have e3:=aad e3
   subst e2;subst e3
   obtain⟨s1,hm,h⟩:=aN h
   obtain⟨m1,m2⟩:=PS.must_ok hm
   obtain⟨h1,h2⟩:=PS.add_ok h
   refine⟨m1.trans h1,fun sF hF hp=>⟨rfl, ?_⟩⟩
   show ABlk.obj _ _ _=ABlk.obj k (C (BK sF.tm t)) (BK sF.tm t)
   rw[lp (hF.tm _ _ h2),m2 (h1.pr (hF.pr hp))]
  ·cases h
theorem Gr{ρ:Rho}{F:T ABlk}{blk:List BSh}{x:BSh}{q:ABlk}{g:Nat}{s s':PS}(h:nD F blk x q g s=some s'):
  s.Le s'/\∀sF,s'.Le sF->sF.pr->qt blk sF->BT ρ (lO sF F) blk sF.L (aX sF.tm) x q g:=by
 cases x with
 |cells ty l=>
  obtain⟨as,h1,h2⟩:=aN (show bz (mw ty (List.length l) q g) (fun as=>mt F blk l as s)=some s' from h)
  obtain⟨e,c,eq,hl⟩:=qw h1
  obtain⟨q1,q2⟩:=mz (blk:=blk) h2
  obtain⟨r1,r2⟩:=pW hl
  refine⟨q1,fun sF hF hp hl=>⟨e,c,as,eq,r1,fun j a ha=>?_,q2 sF hF hp hl⟩⟩
  obtain⟨tag,t1,t2⟩:=r2 j a ha
  have:tag=0:=by omega
  subst this
  exact⟨a,by rw[←t1];congr 1;omega,fun _ h=>h⟩
 |grow m ty t=>obtain⟨h1,h2⟩:=ew (ρ:=ρ) (F:=F) (blk:=blk) (show fM (.grow m ty t) q g s=some s' from h);exact⟨h1,fun sF hF hp _=>h2 sF hF hp⟩
 |growb ty t=>obtain⟨h1,h2⟩:=ew (ρ:=ρ) (F:=F) (blk:=blk) (show fM (.growb ty t) q g s=some s' from h);exact⟨h1,fun sF hF hp _=>h2 sF hF hp⟩
 |arb ty t=>obtain⟨h1,h2⟩:=ew (ρ:=ρ) (F:=F) (blk:=blk) (show fM (.arb ty t) q g s=some s' from h);exact⟨h1,fun sF hF hp _=>h2 sF hF hp⟩
 |arr m ty t=>obtain⟨h1,h2⟩:=ew (ρ:=ρ) (F:=F) (blk:=blk) (show fM (.arr m ty t) q g s=some s' from h);exact⟨h1,fun sF hF hp _=>h2 sF hF hp⟩
 |sm m t=>obtain⟨h1,h2⟩:=ew (ρ:=ρ) (F:=F) (blk:=blk) (show fM (.sm m t) q g s=some s' from h);exact⟨h1,fun sF hF hp _=>h2 sF hF hp⟩
 |obj k C t=>obtain⟨h1,h2⟩:=ew (ρ:=ρ) (F:=F) (blk:=blk) (show fM (.obj k C t) q g s=some s' from h);exact⟨h1,fun sF hF hp _=>h2 sF hF hp⟩
theorem eS{blk:List BSh}:∀{l:List (Nat×Nat×Nat)} {s s':PS},kN blk l s=some s'->
  s.Le s'/\s'.tm=s.tm/\s'.loc=s.loc/\s'.ln=s.ln/\(s'.pr->∀j tag n,(j,tag,n)∈l->(∃m ty t,blk[j]? =some (.grow m ty t)/\tag=2 * t/\(BK s.tm t).length=n)∨(∃ty t,blk[j]? =some (.growb ty t)/\tag=2 * t+1/\(Gn s.tm t).length=n)):=by
 intro l
 induction l with
 |nil=>intro s s' h;injection h with h;subst h;exact⟨.refl _,rfl,rfl,rfl,fun _ j tag n h=>by cases h⟩
 |cons x l ih=>
  intro s s' h
  obtain⟨j,tag,n⟩:=x
  have h:(match blk[j]? with
   |some (.grow _ _ t)=>ac (Nat.beq tag (2 * t)) (bz (s.must ((BK s.tm t).length=n)) (kN blk l)) none
   |some (.growb _ t)=>ac (Nat.beq tag (2 * t+1)) (bz (s.must ((Gn s.tm t).length=n)) (kN blk l)) none
   |_=>none)=some s':=h
  split at h
  ·rename_i m ty t hb
   replace h:=bh h;obtain⟨e,h⟩:=h
   have e:=aad e
   replace h:=aN h;obtain⟨s1,h1,h⟩:=h
   obtain⟨q1,q2,q3,q4,q5⟩:=ih h
   have hm:=PS.must_ok h1
   injection h1 with h1
   subst h1
   refine⟨hm.1.trans q1,q2,q3,q4,fun hp j' Yz n' Y_=>?_⟩
   rcases List.mem_cons.1 Y_ with e'|Y_
   ·injection e' with e1 e2
    injection e2 with e2 e3
    subst e1;subst e2;subst e3
    exact .inl ⟨m,ty,t,hb,e,hm.2 (q1.pr hp)⟩
   ·exact q5 hp _ _ _ Y_
  ·rename_i ty t hb
   replace h:=bh h;obtain⟨e,h⟩:=h
   have e:=aad e
   replace h:=aN h;obtain⟨s1,h1,h⟩:=h
   obtain⟨q1,q2,q3,q4,q5⟩:=ih h
   have hm:=PS.must_ok h1
   injection h1 with h1
   subst h1
   refine⟨hm.1.trans q1,q2,q3,q4,fun hp j' Yz n' Y_=>?_⟩
   rcases List.mem_cons.1 Y_ with e'|Y_
   ·injection e' with e1 e2
    injection e2 with e2 e3
    subst e1;subst e2;subst e3
    exact .inr ⟨ty,t,hb,e,hm.2 (q1.pr hp)⟩
   ·exact q5 hp _ _ _ Y_
  ·cases h
theorem ki{blk:List BSh}{s s':PS}(h:kN blk s.ln s=some s')(hp:s'.pr):qt blk s':=by
 obtain⟨_,q2,_,q4,q5⟩:=eS h
 intro j tag n hm
 rw[q4] at hm
 rw[q2]
 exact q5 hp j tag n hm
end Go.Sym
namespace Go.Sym
open Go.RowKit (Below)
def hl:AV->Bool
 | .bool _=>true | .int _ _=>true | .str _=>true | .nilp=>true | .nils=>true | .sI _ _=>true | .sB _=>true | .sS _=>true | .any1=>true | .cv _=>true
 |_=>false
theorem nG:∀(g:G) (n i:Nat),∀a∈kR g n i,hl a=true:=by
 intro g n
 induction n with
 |zero=>intro i a h;cases h
 |succ n ih=>
  intro i a h
  rcases List.mem_cons.1 h with e|h
  ·subst e;rfl
  ·exact ih _ a h
theorem cV{ρ ρ':Rho}{a:AV}{v:Value}(hf:∀b x,ρ.frz b=some x->ρ'.frz b=some x)(h:VR ρ a v):hl a=true->VR ρ' a v:=by
 induction h with
 |bool b=>intro _;exact .bool b
 |int k n=>intro _;exact .int k n
 |str s=>intro _;exact .str s
 |nilp=>intro _;exact .nilp
 |nils=>intro _;exact .nils
 |sI k n=>intro _;exact .sI k n
 |sB p b h=>intro _;exact .sB p b h
 |sS s=>intro _;exact .sS s
 |any1 v h=>intro _;exact .any1 v h
 |cv c blk off cp arr ty hfz hc hb r ih=>
  intro _
  refine .cv c blk off cp arr ty (hf _ _ hfz) hc hb fun i j a v hi ha hv=>ih i j a v hi ha hv ?_
  cases c with
  |bytes s=>
   cases j with
   |zero=>simp [Ct.row] at ha;subst ha;rfl
   |succ j=>simp [Ct.row] at ha
  |rows m l=>
   have key:∀(xs:List Sc) (g:G) (q:Nat),∀a∈bx xs g q,hl a=true:=by
    intro xs
    induction xs with
    |nil=>intro g q a h;cases h
    |cons x xs ihx=>
     intro g q a h
     rcases List.mem_append.1 h with h|h
     ·cases x <;> simp [fe] at h
      case h n=>exact nG _ _ _ a h
      all_goals (subst h;rfl)
     ·exact ihx _ _ a h
   exact key _ _ _ a (abf ha)
 |cvnil c h=>intro _;exact .cvnil c h
 |cvempty c a h=>intro _;exact .cvempty c a h
 |_=>intro h;cases h
theorem lq{c:Ct}{i j:Nat}{a:AV}(ha:(c.row i)[j]? =some a):hl a=true:=by
 cases c with
 |bytes s=>
  cases j with
  |zero=>simp [Ct.row] at ha;subst ha;rfl
  |succ j=>simp [Ct.row] at ha
 |rows m l=>
  have key:∀(xs:List Sc) (g:G) (q:Nat),∀a∈bx xs g q,hl a=true:=by
   intro xs
   induction xs with
   |nil=>intro g q a h;cases h
   |cons x xs ihx=>
    intro g q a h
    rcases List.mem_append.1 h with h|h
    ·cases x <;> simp [fe] at h
     case h n=>exact nG _ _ _ a h
     all_goals (subst h;rfl)
    ·exact ihx _ _ a h
  exact key _ _ _ a (abf ha)
theorem VR.into{ρ ρ':Rho}(h1:∀b g h,ρ.at_ b g=some h->ρ'.at_ b g=some h)(h2:ρ'.val=ρ.val)(h3:∀b x,ρ.frz b=some x->ρ'.frz b=some x){a:AV}{v:Value}(h:VR ρ a v):VR ρ' a v:=by
 have sl:∀{b g o len:Nat} {cap:Option Nat} {es:Nat} {a:Addr} {c:Nat},SlOk ρ b g o len cap es a c->SlOk ρ' b g o len cap es a c:=by
  intro b g o len cap es a c h
  refine⟨h.1, ?_⟩
  have h2:=h.2
  cases cap with
  |some k=>obtain⟨e,x,hx,r⟩:=h2;exact⟨e,x,h1 _ _ _ hx,r⟩
  |none=>
   rcases h2 with h2|⟨x,hx,r⟩
   ·exact .inl h2
   ·exact .inr ⟨x,h1 _ _ _ hx,r⟩
 induction h with
 |bool b=>exact .bool b
 |int k n=>exact .int k n
 |str s=>exact .str s
 |nilp=>exact .nilp
 |ptr b g o h hh ho=>exact .ptr b g o h (h1 _ _ _ hh) ho
 |nils=>exact .nils
 |slc b g o len cap es a c h=>exact .slc b g o len cap es a c (sl h)
 |nilm=>exact .nilm
 |map b h hh=>exact .map b h (h1 _ _ _ hh)
 |func fn l m first captured e1 e2 r1 r2 hf i1 i2=>exact .func fn l m first captured e1 e2 i1 i2 hf
 |yld b h hh=>exact .yld b h (h1 _ _ _ hh)
 |nilf=>exact .nilf
 |iface t x v h ih=>exact .iface t x v ih
 |nili=>exact .nili
 |agg l cs h r ih=>exact .agg l cs h ih
 |tup l cs h r ih=>exact .tup l cs h ih
 |opq n=>rw[←h2];exact .opq n
 |opc n h=>rw[←h2];exact .opc n (by rw[h2];exact h)
 |anyB b=>exact .anyB b
 |anyI k n=>exact .anyI k n
 |osl n base len cap h=>exact .osl n base len cap (by rw[h2];exact h)
 |sI k n=>exact .sI k n
 |sB p b h=>exact .sB p b h
 |sS s=>exact .sS s
 |any1 v h=>exact .any1 v h
 |cptr l blk off arr ty hf hb r ih=>exact .cptr l blk off arr ty (h3 _ _ hf) hb ih
 |cv c blk off cp arr ty hf hc hb r ih=>exact .cv c blk off cp arr ty (h3 _ _ hf) hc hb ih
 |cvnil c h=>exact .cvnil c h
 |cvempty c a h=>exact .cvempty c a h
 |gsl b g n es h c hn hh hs hc hz=>exact .gsl b g n es h c hn (h1 _ _ _ hh) hs hc hz
 |gnil b g es=>exact .gnil b g es
 |gempty b g es a=>exact .gempty b g es a
 |gptr b g i o es h hh hs=>exact .gptr b g i o es h (h1 _ _ _ hh) hs
theorem JR(γ:kz)(y:Sy):∀(l:List Sh) (i:Nat),(oT γ y l)[i]? =(l[i]?).map (put γ y):=by
 intro l
 induction l with
 |nil=>intro i;rfl
 |cons x l ih=>intro i;cases i with
  |zero=>rfl
  |succ i=>exact ih i
theorem JS(γ:kz)(y:Sy):∀(l:List Sh),(oT γ y l).length=l.length:=by
 intro l
 induction l with
 |nil=>rfl
 |cons x l ih=>show(put γ y x::oT γ y l).length=_;simp [ih]
theorem tr:∀(l:List AV) (i:Nat) (t:T Cell) (o:Nat) (x:Cell),(JM l i t).get o=some x->
  (∃(j:Nat) (a:AV),o=i+j/\l[j]? =some a/\x= .mk 0 a)∨(t.get o=some x/\(o<i∨i+l.length<=o)):=by
 intro l
 induction l with
 |nil=>intro i t o x h;exact .inr ⟨h,by simp;omega⟩
 |cons a l ih=>
  intro i t o x h
  rcases ih (i+1) (t.set i (.mk 0 a)) o x h with⟨j,b,e,hb,hx⟩|⟨hx,ho⟩
  ·exact .inl ⟨j+1,b,by omega,by simpa using hb,hx⟩
  ·by_cases e:o=i
   ·subst e
    have:=T.get_set_some _ _ hx
    exact .inl ⟨0,a,by omega,rfl,this⟩
   ·rw[T.get_set_ne _ e] at hx
    exact .inr ⟨hx,by simp at ho⊢;omega⟩
theorem qx{γ:kz}{y:Sy}:∀(l:List BSh) (j:Nat) (H:T ABlk) (b:Nat) (X:ABlk),(ef γ y l j H).get b=some X->
  (∃i x,l[i]? =some x/\b=(γ (j+i)).1/\X=lm γ y (j+i) x)∨(H.get b=some X/\∀i,i<l.length->b≠(γ (j+i)).1):=by
 intro l
 induction l with
 |nil=>intro j H b X h;exact .inr ⟨h,fun i hi=>by simp at hi⟩
 |cons x l ih=>
  intro j H b X h
  rcases ih (j+1) _ b X h with⟨i,x',h1,h2,h3⟩|⟨h1,h2⟩
  ·exact .inl ⟨i+1,x',by simpa using h1,by rw[h2];congr 2;omega,by rw[h3];congr 1;omega⟩
  ·by_cases e:b=(γ j).1
   ·subst e
    have:=T.get_set_some _ _ h1
    exact .inl ⟨0,x,rfl,rfl,this⟩
   ·rw[T.get_set_ne _ e] at h1
    refine .inr ⟨h1,fun i hi=>?_⟩
    cases i with
    |zero=>exact e
    |succ i=>have:=h2 i (by simpa using hi);rwa [show j+1+i=j+(i+1) by omega] at this
theorem qy{γ:kz}{y:Sy}:∀(l:List BSh) (j:Nat) (H:T ABlk) (i:Nat) (x:BSh),l[i]? =some x->(∀i,i<l.length->(γ (j+i)).1+1<2 ^ 64)->
  (∀a b,a<l.length->b<l.length->(γ (j+a)).1=(γ (j+b)).1->a=b)->(ef γ y l j H).get (γ (j+i)).1=some (lm γ y (j+i) x):=by
 intro l
 induction l with
 |nil=>intro j H i x h;simp at h
 |cons z l ih=>
  intro j H i x h d8 ag7
  cases i with
  |zero=>
   simp at h;subst h
   have keep:∀(l:List BSh) (j':Nat) (H:T ABlk),(∀i,i<l.length->(γ (j'+i)).1≠(γ j).1)->(ef γ y l j' H).get (γ j).1=H.get (γ j).1:=by
    intro l
    induction l with
    |nil=>intro j' H _;rfl
    |cons q l ihl=>
     intro j' H o8
     show(ef γ y l (j'+1) (H.set (γ j').1 (lm γ y j' q))).get (γ j).1=_
     rw[ihl (j'+1) _ (fun i hi=>by have:=o8 (i+1) (by simpa using hi);rwa [show j'+(i+1)=j'+1+i by omega] at this),T.get_set_ne _ (Ne.symm (show(γ j').1≠(γ j).1 from o8 0 (by simp)))]
   show(ef γ y l (j+1) (H.set (γ j).1 (lm γ y j z))).get (γ j).1=_
   rw[keep l (j+1) _ (fun i hi e=>by
    have:=ag7 (i+1) 0 (by simpa using hi) (by simp) (by rw[show j+(i+1)=j+1+i by omega];exact e)
    omega),T.get_set_same _ _ _ (show(γ j).1+1<2 ^ 64 from d8 0 (by simp))]
   rfl
  |succ i=>
   have:=ih (j+1) (H.set (γ j).1 (lm γ y j z)) i x (by simpa using h) (fun i hi=>by have:=d8 (i+1) (by simpa using hi);rwa [show j+(i+1)=j+1+i by omega] at this) (fun a b ha hb e=>by
    have:=ag7 (a+1) (b+1) (by simpa using ha) (by simpa using hb) (by rw[show j+(a+1)=j+1+a by omega,show j+(b+1)=j+1+b by omega];exact e)
    omega)
   rw[show j+(i+1)=j+1+i by omega]
   exact this
section
variable(B:Nat)(ρ:Rho)(H:T ABlk)(w wf:World)(L:Nat->Option (Nat×Nat))(γ:kz)(n:Nat)(own:Nat->Prop)(frz0:Nat->Option (Array Value×TypeId))
def bv(j:Nat):Option Home:=match L j with
 |some (b,g)=>(match H.get b with
  |some (.grow c _ _)=>if c.len=0 then none else ρ.at_ b g
  |_=>ρ.at_ b g)
 |none=>none
def xz(j:Nat):Prop:=∃b g k I l,L j=some (b,g)/\H.get b=some (.obj k I l)
def qz(j:Nat)(h:Home):Prop:=bv ρ H L j=some h∨∃b g,L j=some (b,g)/\xz H L j/\(∃g',ρ.at_ b g'=some h)/\Own ρ B h.blk
open Classical in
noncomputable def qA(j g':Nat):Option Home:=if xz H L j then(match L j with
  |some (b,_)=>(match ρ.at_ b g' with|some h=>if Own ρ B h.blk then some h else none|none=>none)
  |none=>none) else if g'=(γ j).2 then bv ρ H L j else none
open Classical in
noncomputable def yT(b' g':Nat):Option Home:=if h:∃j,j<n/\(γ j).1=b' then qA B ρ H L γ (Classical.choose h) g' else none
open Classical in
noncomputable def jD(blk:Nat):Option (Array Value×TypeId):=match ρ.frz blk with
 |some x=>some x
 |none=>if wf.heap.size<=blk/\∀j h,qz B ρ H L j h->h.blk≠blk then(match w.heap[blk]? with|some (.cells arr ty _)=>some (arr,ty)|_=>none) else none
noncomputable def kA(vl:Nat->Value):Rho:=⟨yT B ρ H L γ n,vl,own,jD B ρ H w wf L,frz0⟩
end
structure MvHyp(w0:World)(ρ:Rho)(H:T ABlk)(F:Nat->Option ABlk)(w wf wb:World)(L:Nat->Option (Nat×Nat))(γ:kz)(blk:List BSh)(y:Sy)(own:Nat->Prop)(frz0:Nat->Option (Array Value×TypeId)):Prop where
 good:Good w0 ρ H w
 hb:∀j x,blk[j]? =some x->∃b g,L j=some (b,g)/\∃q,H.get b=some q/\BT ρ F blk L y x q g
 dom:∀j p,L j=some p->j<blk.length
 linj:∀j j' b g g',L j=some (b,g)->L j'=some (b,g')->j=j'
 ginj:∀a b,a<blk.length->b<blk.length->(γ a).1=(γ b).1->a=b
 g64:∀j,j<blk.length->(γ j).1+1<2 ^ 64
 g0:∀j x,blk[j]? =some x->gW x=true->(γ j).2=0
 kept:Kept own wb.heap.size wb w
 owns:∀j h,qz w0.heap.size ρ H L j h->Own ρ w0.heap.size h.blk->wb.heap.size<=h.blk∨own h.blk
 frF:∀b x,base+64<=b->F b=some x->H.get b=some x/\(∀j g,L j≠some (b,g))/\∀g h,ρ.at_ b g=some h->Own ρ w0.heap.size h.blk->wf.heap.size<=h.blk
 frz:∀b x,jD w0.heap.size ρ H w wf L b=some x->b<wb.heap.size->frz0 b=some x
section
variable{w0:World}{ρ:Rho}{H:T ABlk}{F:Nat->Option ABlk}{w wf wb:World}{L:Nat->Option (Nat×Nat)}{γ:kz}{blk:List BSh}{y:Sy}{own:Nat->Prop}{frz0:Nat->Option (Array Value×TypeId)}
theorem jE{j:Nat}{h:Home}(hh:bv ρ H L j=some h):∃b g,L j=some (b,g)/\ρ.at_ b g=some h:=by
 unfold bv at hh
 split at hh
 ·rename_i b g e
  split at hh
  ·split at hh
   ·cases hh
   ·exact⟨b,g,e,hh⟩
  ·exact⟨b,g,e,hh⟩
 ·cases hh
theorem cQ{B:Nat}{j:Nat}{h:Home}(hh:qz B ρ H L j h):∃b g g',L j=some (b,g)/\ρ.at_ b g'=some h:=by
 rcases hh with hh|⟨b,g,h1,_,⟨g',h2⟩,_⟩
 ·obtain⟨b,g,h1,h2⟩:=jE hh
  exact⟨b,g,g,h1,h2⟩
 ·exact⟨b,g,g',h1,h2⟩
theorem dL{B:Nat}{j g':Nat}{h:Home}(hh:qA B ρ H L γ j g'=some h):qz B ρ H L j h/\((xz H L j/\∃b g,L j=some (b,g)/\ρ.at_ b g'=some h)∨(¬xz H L j/\g'=(γ j).2/\bv ρ H L j=some h)):=by
 unfold qA at hh
 split at hh
 ·rename_i ho
  split at hh
  ·rename_i b g e
   split at hh
   ·rename_i h' e'
    split at hh
    ·rename_i x7
     injection hh with hh
     subst hh
     exact⟨.inr ⟨b,g,e,ho,⟨g',e'⟩,x7⟩,.inl ⟨ho,b,g,e,e'⟩⟩
    ·cases hh
   ·cases hh
  ·cases hh
 ·rename_i ho
  split at hh
  ·rename_i e;exact⟨.inl hh,.inr ⟨ho,e,hh⟩⟩
  ·cases hh
theorem QU(hm:MvHyp w0 ρ H F w wf wb L γ blk y own frz0){j g':Nat}(hj:j<blk.length):yT w0.heap.size ρ H L γ blk.length (γ j).1 g'=qA w0.heap.size ρ H L γ j g':=by
 unfold yT
 have he:∃j',j'<blk.length/\(γ j').1=(γ j).1:=⟨j,hj,rfl⟩
 rw[dif_pos he]
 obtain⟨h1,h2⟩:=aa6 he
 rw[hm.ginj _ _ h1 hj h2]
theorem dM(hm:MvHyp w0 ρ H F w wf wb L γ blk y own frz0){j:Nat}(hj:j<blk.length)(G':¬xz H L j):yT w0.heap.size ρ H L γ blk.length (γ j).1 (γ j).2=bv ρ H L j:=by
 rw[QU hm hj]
 unfold qA
 rw[if_neg G',if_pos rfl]
theorem iG(hm:MvHyp w0 ρ H F w wf wb L γ blk y own frz0){j b g g':Nat}{h:Home}(hj:j<blk.length)(ho:xz H L j)(hL:L j=some (b,g))(hh:ρ.at_ b g'=some h)(x7:Own ρ w0.heap.size h.blk):yT w0.heap.size ρ H L γ blk.length (γ j).1 g'=some h:=by
 rw[QU hm hj]
 unfold qA
 rw[if_pos ho]
 simp only [hL,hh,if_pos x7]
theorem dN{B:Nat}{b g:Nat}{h:Home}(hh:yT B ρ H L γ blk.length b g=some h):∃j,j<blk.length/\(γ j).1=b/\qA B ρ H L γ j g=some h:=by
 unfold yT at hh
 split at hh
 ·rename_i he
  obtain⟨h1,h2⟩:=aa6 he
  exact⟨_,h1,h2,hh⟩
 ·cases hh
theorem dO{B:Nat}{b:Nat}{x:Array Value×TypeId}(h:ρ.frz b=some x):jD B ρ H w wf L b=some x:=by unfold jD;rw[h]
theorem yU(hm:MvHyp w0 ρ H F w wf wb L γ blk y own frz0){b g:Nat}{h:Home}{x:ABlk}{arr:Array Value}{ty:TypeId}{fr:Nat×Nat}(hh:ρ.at_ b g=some h)(hx:H.get b=some x)(hn:¬xx x)(hL:∀j g,L j≠some (b,g))(hb:wf.heap.size<=h.blk)
  (hw:w.heap[h.blk]? =some (.cells arr ty fr)):jD w0.heap.size ρ H w wf L h.blk=some (arr,ty):=by
 unfold jD
 cases hf:ρ.frz h.blk with
 |some x=>exact absurd rfl (hm.good.frzE (show ρ.frz h.blk=some (x.1,x.2) from hf) hh hx hn)
 |none=>
  have:wf.heap.size<=h.blk/\∀j h',qz w0.heap.size ρ H L j h'->h'.blk≠h.blk:=⟨hb,fun j h' hj e=>by
   obtain⟨b',g',g2,e1,e2⟩:=cQ hj
   have:=(hm.good.inj _ _ _ _ _ _ e2 hh e).1
   subst this
   exact hL _ _ e1⟩
  simp only [if_pos this,hw]
theorem yV{j:Nat}(h:iE blk j=true):(∃ty l,blk[j]? =some (.cells ty l))∨(∃k C t,blk[j]? =some (.obj k C t))∨(∃m ty t,blk[j]? =some (.arr m ty t))∨∃ty t,blk[j]? =some (.arb ty t):=by
 unfold iE at h
 split at h
 ·exact .inl ⟨_,_,by assumption⟩
 ·exact .inr (.inl ⟨_,_,_,by assumption⟩)
 ·exact .inr (.inr (.inl ⟨_,_,_,by assumption⟩))
 ·exact .inr (.inr (.inr ⟨_,_,by assumption⟩))
 ·cases h
theorem BN{j:Nat}(h:uV blk j=true):∃m t,blk[j]? =some (.sm m t):=by
 unfold uV at h
 split at h
 ·exact⟨_,_,by assumption⟩
 ·cases h
theorem su{j b g:Nat}{q:ABlk}(hL:L j=some (b,g))(hq:H.get b=some q)(hn:∀k I l,q≠ .obj k I l):¬xz H L j:=fun⟨b',g',k,I,l,e1,e2⟩=>by
 rw[hL] at e1;injection e1 with e1;injection e1 with e1 e1'
 subst e1
 rw[hq] at e2;injection e2 with e2
 exact hn _ _ _ e2
theorem RdC.vr{vl:Nat->Value}(hm:MvHyp w0 ρ H F w wf wb L γ blk y own frz0){ct:Ct}{a:AV}{v:Value}(h:RdC F ct a)(hv:VR ρ a v):VR (kA w0.heap.size ρ H w wf L γ blk.length own frz0 vl) (.cv ct) v:=by
 have Z3:∀b x,ρ.frz b=some x->(kA w0.heap.size ρ H w wf L γ blk.length own frz0 vl).frz b=some x:=fun b x h=>dO h
 rcases h with⟨e,h0⟩|e|⟨b,g,es,ty,e,hb,hF⟩|⟨b,g,o,cap,c,gen,lo,hi,fl,fh,ty,as,e,hb,hF,hg,h1,h2,hl,hr⟩|⟨b,g,e,hb,hF⟩
 ·subst e
  cases hv
  exact .cvnil _ h0
 ·subst e
  exact cV Z3 hv rfl
 ·subst e
  obtain⟨q1,q2,q3⟩:=hm.frF _ _ hb hF
  generalize Ys:ct.len=nn at hv
  cases hv with
  |gnil _ _ _=>exact .cvnil _ Ys
  |gempty _ _ _ a=>exact .cvempty _ a Ys
  |gsl _ _ _ _ h c hn hh hs hc hz=>
   subst Ys
   rcases hm.good.blk _ _ q1 with h0|⟨h',r1,r2,r3,arr,fr,r4,r5,r6,r7,r8⟩
   ·omega
   rw[hh] at r1;injection r1 with r1;subst r1
   refine .cv ct h.blk 0 c arr ty (yU hm hh q1 (fun h=>h) q2 (q3 _ _ hh r3) r4) hc (by omega) fun i j a v hi ha hv=>?_
   obtain⟨u,u1,u2⟩:=r8 i hi j a ha
   rw[aak,u1] at hv
   injection hv with hv
   subst hv
   exact cV Z3 u2 (lq ha)
 ·subst e
  obtain⟨q1,q2,q3⟩:=hm.frF _ _ hb hF
  cases hv with
  |slc _ _ _ _ _ _ ad cp x6=>
   obtain⟨K',r1,r2,_,arr,fr,r3,r4,r5,r6⟩:=(hm.good.blk _ _ q1).2 g hg
   obtain⟨XR,XE⟩:=x6
   have Z4:∃h,ρ.at_ b g=some h/\h.shift<=o/\ad=⟨h.blk,o-h.shift,none⟩:=by
    cases cap with
    |some k=>obtain⟨_,h,x1,x2,x3⟩:=XE;exact⟨h,x1,x2,x3⟩
    |none=>
     rcases XE with XE|⟨h,x1,x2,x3,_⟩
     ·omega
     ·exact⟨h,x1,x2,x3⟩
   obtain⟨h,x1,x2,x3⟩:=Z4
   rw[x1] at r1;injection r1 with r1;subst r1
   subst x3
   obtain⟨l1,l2⟩:=pW hl
   have i9:∀j,j<ct.len * ct.es->∃a u,as[j]? =some a/\arr[o-h.shift+j]? =some u/\VR ρ a u:=fun j hj=>by
    have ha:as[j]? =some (as[j]'(by omega)):=aah (by omega)
    obtain⟨tag,t1,t2⟩:=l2 j _ ha
    obtain⟨s1,u,s2,s3⟩:=r6 _ _ _ t1 (aaR t2 (aaa _))
    exact⟨_,u,ha,by rw[show o-h.shift+j=o+j-h.shift by omega];exact s2,s3⟩
   have X3:o-h.shift+ct.len * ct.es<=arr.size:=by
    have j4:1<=ct.len * ct.es:=Nat.mul_pos h1 h2
    obtain⟨a,u,_,hu,_⟩:=i9 (ct.len * ct.es-1) (by omega)
    rcases aaf (o-h.shift+(ct.len * ct.es-1)) arr.size with h'|h'
    ·omega
    ·rw[aaN h'] at hu;cases hu
   refine .cv ct h.blk (o-h.shift) cp arr ty (yU hm x1 q1 (fun h=>h) q2 (q3 _ _ x1 (r2 rfl)) r3) XR X3 fun i j a v hi ha hv=>?_
   have hrl:=ct.row_len i
   have hj:j<ct.es:=by
    rcases aaf j ct.es with h'|h'
    ·exact h'
    ·rw[aaj (by omega)] at ha;cases ha
   have ac_:i * ct.es+ct.es<=ct.len * ct.es:=by rw[←aaG];exact aat _ hi
   have Ym:∀q a0,((as.drop (i * ct.es)).take ct.es)[q]? =some a0->∃u,arr[o-h.shift+(i * ct.es+q)]? =some u/\VR ρ a0 u:=fun q a0 hq=>by
    rw[aaW] at hq
    split at hq
    ·rw[aax] at hq
     obtain⟨a1,u,e1,e2,e3⟩:=i9 (i * ct.es+q) (by omega)
     rw[hq] at e1
     injection e1 with e1
     subst e1
     exact⟨u,e2,e3⟩
    ·cases hq
   obtain⟨u,u1,u2⟩:=mh (A:=fun q=>arr[o-h.shift+(i * ct.es+q)]?) Ym (fun vs=>hr i hi ρ vs) j a ha
   rw[abp] at hv
   have u1:arr[o-h.shift+(i * ct.es+j)]? =some u:=u1
   rw[u1] at hv
   injection hv with hv
   subst hv
   exact cV Z3 u2 (lq ha)
 ·subst e
  obtain⟨q1,q2,q3⟩:=hm.frF _ _ hb hF
  exact cV Z3 (iv (hm.good.blk _ _ q1) hv) rfl
theorem UI{vl:Nat->Value}(hm:MvHyp w0 ρ H F w wf wb L γ blk y own frz0){j b g n es:Nat}{v:Value}(hL:L j=some (b,g))(hq:∀q,H.get b=some q->∃c ty,q= .grow c g ty/\c.len=n)(hv:VR ρ (.gsl b g n es) v):
  VR (kA w0.heap.size ρ H w wf L γ blk.length own frz0 vl) (.gsl (γ j).1 (γ j).2 n es) v:=by
 have hj:=hm.dom _ _ hL
 cases hv with
 |gnil _ _ _=>exact .gnil _ _ _
 |gempty _ _ _ a=>exact .gempty _ _ _ a
 |gsl _ _ _ _ h c hn hh hs hc hz=>
  refine .gsl _ _ _ _ h c hn ?_ hs hc hz
  show yT w0.heap.size ρ H L γ blk.length (γ j).1 (γ j).2=some h
  have G':¬xz H L j:=fun⟨b',g',k,I,l,e1,e2⟩=>by
   rw[hL] at e1;injection e1 with e1;injection e1 with e1 e1'
   subst e1
   obtain⟨c,ty,e,_⟩:=hq _ e2
   cases e
  rw[dM hm hj G']
  unfold bv
  rw[hL]
  simp only
  split
  ·rename_i c' g' XI e
   obtain⟨c2,YI,e2,e3⟩:=hq _ e
   injection e2 with e2
   subst e2
   rw[if_neg (by omega)];exact hh
  ·exact hh
theorem UJ{vl:Nat->Value}(hm:MvHyp w0 ρ H F w wf wb L γ blk y own frz0){j b:Nat}{v:Value}(hL:L j=some (b,0))(hc:iE blk j=true)(hv:VR ρ (.ptr b 0 0) v):VR (kA w0.heap.size ρ H w wf L γ blk.length own frz0 vl) (.ptr (γ j).1 0 0) v:=by
 cases hv with
 |ptr _ _ _ h hh ho=>
  have hj:=hm.dom _ _ hL
  refine .ptr _ _ _ h ?_ ho
  show yT w0.heap.size ρ H L γ blk.length (γ j).1 0=_
  rcases yV hc with⟨ty,l,hx⟩|⟨k,C,t,hx⟩|⟨m,ty,t,hx⟩|⟨ty,t,hx⟩
  ·obtain⟨b',g',q1,q,q2,q3⟩:=hm.hb j _ hx
   rw[hL] at q1;injection q1 with q1;injection q1 with q1 ZE
   subst q1;subst ZE
   obtain⟨_,c,as,e,_⟩:=q3
   have hJ:bv ρ H L j=some h:=by
    unfold bv
    rw[hL]
    simp only [q2,e,hh]
   have:=dM hm hj (su hL q2 (fun k I l e'=>by rw[e] at e';cases e'))
   rw[hm.g0 j _ hx rfl] at this
   rw[this];exact hJ
  ·obtain⟨b',g',q1,q,q2,q3⟩:=hm.hb j _ hx
   rw[hL] at q1;injection q1 with q1;injection q1 with q1 ZE
   subst q1;subst ZE
   obtain⟨_,e⟩:=q3
   subst e
   obtain⟨_,h',fp,r1,r2,r3,_⟩:=hm.good.blk _ _ q2
   rw[hh] at r1;injection r1 with r1;subst r1
   exact iG hm hj ⟨_,_,_,_,_,hL,q2⟩ hL hh (r3 _ aay).1
  ·obtain⟨b',g',q1,q,q2,q3⟩:=hm.hb j _ hx
   rw[hL] at q1;injection q1 with q1;injection q1 with q1 ZE
   subst q1;subst ZE
   obtain⟨_,e,j4⟩:=q3
   have o8:¬(Ct.rows m (y.g t)).len=0:=by show ¬(y.g t).length=0;omega
   have hJ:bv ρ H L j=some h:=by
    unfold bv
    rw[hL]
    simp only [q2,e]
    rw[if_neg o8];exact hh
   have:=dM hm hj (su hL q2 (fun k I l e'=>by rw[e] at e';cases e'))
   rw[hm.g0 j _ hx rfl] at this
   rw[this];exact hJ
  ·obtain⟨b',g',q1,q,q2,q3⟩:=hm.hb j _ hx
   rw[hL] at q1;injection q1 with q1;injection q1 with q1 ZE
   subst q1;subst ZE
   obtain⟨_,e,j4⟩:=q3
   have o8:¬(Ct.bytes (y.s t)).len=0:=by show ¬(y.s t).length=0;omega
   have hJ:bv ρ H L j=some h:=by
    unfold bv
    rw[hL]
    simp only [q2,e]
    rw[if_neg o8];exact hh
   have:=dM hm hj (su hL q2 (fun k I l e'=>by rw[e] at e';cases e'))
   rw[hm.g0 j _ hx rfl] at this
   rw[this];exact hJ
theorem Tv.vr{vl:Nat->Value}(hm:MvHyp w0 ρ H F w wf wb L γ blk y own frz0){x:Sh}{a:AV}{v:Value}(h:Tv F blk L y x a)(hv:VR ρ a v):VR (kA w0.heap.size ρ H w wf L γ blk.length own frz0 vl) (put γ y x) v:=by
 cases x with
 |i k t=>have h:cz a=some (k,y.i t):=h;rw[bo hv h];exact .sI _ _
 |b t=>
  have h:dA a=some (y.p t):=h
  obtain⟨b,e,hb⟩:=dZ hv h
  rw[e];exact .sB _ b hb
 |s t=>
  have h:fF a=some (y.s t):=h
  obtain⟨s,e,hs⟩:=di hv h
  rw[e]
  show VR _ (.sS (y.s t)) _
  rw[hs];exact .sS s
 |o=>exact .any1 v (il hv h)
 |v m t=>exact RdC.vr hm h hv
 |vb t=>exact RdC.vr hm h hv
 |pi k n=>have h:cz a=some (k,n):=h;rw[bo hv h];exact .sI _ _
 |pb q=>
  obtain⟨q',h1,h2⟩:=h
  obtain⟨b,e,hb⟩:=dZ hv h1
  rw[e];exact .sB _ b (hb.trans h2)
 |ps l=>
  have h:fF a=some l:=h
  obtain⟨s,e,hs⟩:=di hv h
  rw[e]
  show VR _ (.sS l) _
  rw[hs];exact .sS s
 |pv m l=>exact RdC.vr hm h hv
 |pvb l=>exact RdC.vr hm h hv
 |np=>
  have h:a= .nilp:=h
  subst h
  cases hv
  exact .nilp
 |li k n=>
  have h:a= .int k n:=h
  subst h
  cases hv
  exact .int _ _
 |nz=>
  have h:a= .nils:=h
  subst h
  cases hv
  exact .nils
 |p j=>
  obtain⟨b,hL,e,hc⟩:=h
  subst e
  exact UJ hm hL hc hv
 |fn f j=>
  obtain⟨b,hL,e,hc⟩:=h
  subst e
  cases hv with
  |func _ _ _ first captured h1 h2 r1 r2 hf=>
   refine .func _ _ _ _ _ h1 (by simpa using h2) (fun i a u ha hu=>by simp at ha) (fun i a u ha hu=>?_) rfl
   match i,ha with
   |0,ha=>
    injection ha with ha
    subst ha
    exact UJ hm hL hc (r2 0 _ u rfl hu)
 |m j=>
  obtain⟨b,hL,e,hc⟩:=h
  subst e
  cases hv with
  |map _ h hh=>
   have hj:=hm.dom _ _ hL
   refine .map _ h ?_
   show yT w0.heap.size ρ H L γ blk.length (γ j).1 0=_
   obtain⟨m,t,hx⟩:=BN hc
   obtain⟨b',g',q1,q,q2,q3⟩:=hm.hb j _ hx
   rw[hL] at q1;injection q1 with q1;injection q1 with q1 ZE
   subst q1;subst ZE
   have hq:(∃m l,q= .smap m l)∨∃es c,q= .mapo es c:=by
    rcases q3.2 with e|⟨c,e,_⟩
    ·exact .inl ⟨_,_,e⟩
    ·exact .inr ⟨_,_,e⟩
   have hJ:bv ρ H L j=some h:=by
    unfold bv
    rw[hL]
    rcases hq with⟨m,l,e⟩|⟨es,c,e⟩ <;> simp only [q2,e,hh]
   have:=dM hm hj (su hL q2 (fun k I l e'=>by rcases hq with⟨m,l,e⟩|⟨es,c,e⟩ <;> (rw[e] at e';cases e')))
   rw[hm.g0 j _ hx rfl] at this
   rw[this];exact hJ
 |g j es t=>
  obtain⟨b,g,hL,e,m,ty,hx⟩:=h
  subst e
  show VR _ (.gsl (γ j).1 (γ j).2 (y.g t).length es) v
  exact UI hm hL (fun q hq=>by
   obtain⟨b',g',q1,q',q2,q3⟩:=hm.hb j _ hx
   rw[hL] at q1;injection q1 with q1;injection q1 with q1 ZE
   subst q1;subst ZE
   rw[hq] at q2;injection q2 with q2
   subst q2
   exact⟨_,_,q3,rfl⟩) hv
 |gb j t=>
  obtain⟨b,g,hL,e,ty,hx⟩:=h
  subst e
  show VR _ (.gsl (γ j).1 (γ j).2 (y.s t).length 1) v
  exact UI hm hL (fun q hq=>by
   obtain⟨b',g',q1,q',q2,q3⟩:=hm.hb j _ hx
   rw[hL] at q1;injection q1 with q1;injection q1 with q1 ZE
   subst q1;subst ZE
   rw[hq] at q2;injection q2 with q2
   subst q2
   exact⟨_,_,q3,rfl⟩) hv
theorem uX{ρ ρ':Rho}{α:Type}{R:α->AV->Prop}{f:α->AV}{fs:List α->List AV}(YL:fs []= [])(Zh:∀x l,fs (x::l)=f x::fs l)(hR:∀x a v,R x a->VR ρ a v->VR ρ' (f x) v):
  ∀{l:List α} {as:List AV} {vs:List Value},All2 R l as->LR ρ as vs->LR ρ' (fs l) vs
 | [],[],vs,_,h=>by rw[YL,h.nil_inv];exact LR.nil _
 |x::l,a::as,vs,⟨h1,h2⟩,h=>by
  obtain⟨v,C',rfl,hv,h'⟩:=h.cons_inv
  rw[Zh]
  exact LR.cons (hR x a v h1 hv) (uX YL Zh hR h2 h')
 | [],_::_,_,h,_=>h.elim
 |_::_,[],_,h,_=>h.elim
theorem Tvs.lr{vl:Nat->Value}(hm:MvHyp w0 ρ H F w wf wb L γ blk y own frz0){l:List Sh}{as:List AV}{vs:List Value}(h:All2 (Tv F blk L y) l as)(hv:LR ρ as vs):LR (kA w0.heap.size ρ H w wf L γ blk.length own frz0 vl) (oT γ y l) vs:=
 uX rfl (fun _ _=>rfl) (fun _ _ _ h hv=>Tv.vr hm h hv) h hv
theorem tv{ρ ρ':Rho}{as bs:List AV}{bl off:Nat}{arr:Array Value}{ty:TypeId}(hf:ρ.frz bl=some (arr,ty))(hf':ρ'.frz bl=some (arr,ty))(hb:off+as.length<=arr.size)
  (r:∀(j:Nat) (a:AV) (v:Value),as[j]? =some a->arr[off+j]? =some v->VR ρ a v) (h:∀vs,LR ρ as vs->LR ρ' bs vs):VR ρ' (.cptr bs) (.pointer (some ⟨bl,off,none⟩)):=by
 have hl:LR ρ as ((arr.toList.drop off).take as.length):=by
  refine⟨by rw[aam,aan,aaH (xs:=arr)];omega,fun j a v ha hv=>r j a v ha ?_⟩
  rw[aaW] at hv
  split at hv
  ·rw[aax,aaP] at hv;exact hv
  ·cases hv
 obtain⟨e,hr⟩:=h _ hl
 rw[aam,aan,aaH (xs:=arr)] at e
 refine .cptr bs bl off arr ty hf' (by omega) fun j a v ha hv=>hr j a v ha ?_
 have hj:j<bs.length:=by
  rcases aaf j bs.length with h'|h'
  ·exact h'
  ·rw[aaj h'] at ha;cases ha
 rw[aar (by omega),aax,aaP];exact hv
theorem TvA.vr{vl:Nat->Value}(hm:MvHyp w0 ρ H F w wf wb L γ blk y own frz0){x:Sa}{a:AV}{v:Value}(h:TvA F blk L y x a)(hv:VR ρ a v):VR (kA w0.heap.size ρ H w wf L γ blk.length own frz0 vl) (iD γ y x) v:=by
 cases x with
 |c x=>exact Tv.vr hm h hv
 |ag l=>
  obtain⟨as,e,ha⟩:=h
  subst e
  cases hv with
  |agg _ cs h1 h2=>
   obtain⟨q1,q2⟩:=(Tvs.lr hm ha (LR.of_arr h1 h2)).arr
   exact .agg _ cs q1 q2
 |cp l=>
  obtain⟨as,e,ha⟩:=h
  subst e
  cases hv with
  |cptr _ bl off arr ty hf hb r=>exact tv hf (dO hf) hb r fun vs hl=>Tvs.lr hm ha hl
theorem TvAs.lr{vl:Nat->Value}(hm:MvHyp w0 ρ H F w wf wb L γ blk y own frz0){l:List Sa}{as:List AV}{vs:List Value}(h:All2 (TvA F blk L y) l as)(hv:LR ρ as vs):LR (kA w0.heap.size ρ H w wf L γ blk.length own frz0 vl) (qp γ y l) vs:=
 uX rfl (fun _ _=>rfl) (fun _ _ _ h hv=>TvA.vr hm h hv) h hv
theorem TvR.vr{vl:Nat->Value}(hm:MvHyp w0 ρ H F w wf wb L γ blk y own frz0){x:Sr}{a:AV}{v:Value}(h:TvR F blk L y x a)(hv:VR ρ a v):VR (kA w0.heap.size ρ H w wf L γ blk.length own frz0 vl) (BJ γ y x) v:=by
 cases x with
 |one x=>exact TvA.vr hm h hv
 |tu l=>
  obtain⟨as,e,ha⟩:=h
  subst e
  cases hv with
  |tup _ cs h1 h2=>
   obtain⟨q1,q2⟩:=(TvAs.lr hm ha (LR.of_arr h1 h2)).arr
   exact .tup _ cs q1 q2
theorem JT{j:Nat}{x:BSh}(hg:gW x=true->(γ j).2=0):Ig (γ j).2 (lm γ y j x):=by
 cases x with
 |cells ty l=>show(γ j).2<=0;rw[hg rfl];exact aaa _
 |grow m ty t=>exact aaa _
 |growb ty t=>exact aaa _
 |sm m t=>trivial
 |arr m ty t=>show(γ j).2<=0;rw[hg rfl];exact aaa _
 |arb ty t=>show(γ j).2<=0;rw[hg rfl];exact aaa _
 |obj k C t=>trivial
theorem Gs:∀(ks:List IntKind) (g:G) (j:Nat),∀a∈kS ks g j,hl a=true:=by
 intro ks
 induction ks with
 |nil=>intro g j a h;cases h
 |cons k ks ih=>
  intro g j a h
  rcases List.mem_cons.1 h with h|h
  ·subst h;rfl
  ·exact ih _ _ _ h
theorem JU{ρ ρ':Rho}(hf:∀b x,ρ.frz b=some x->ρ'.frz b=some x){b:Bool}{l:List AV}(p7:∀a∈l,hl a=true){v:Value}(h:VR ρ (Rs b l) v):VR ρ' (Rs b l) v:=by
 cases b with
 |true=>
  cases h with
  |agg _ cs h1 h2=>exact .agg _ cs h1 fun i a v ha hv=>cV hf (h2 i a v ha hv) (p7 a (abf ha))
 |false=>
  cases l with
  |nil=>exact cV hf h rfl
  |cons a l=>exact cV hf h (p7 a aay)
theorem Gt:∀(xs:List Sc) (g:G) (q:Nat),∀a∈bx xs g q,hl a=true:=by
 intro xs
 induction xs with
 |nil=>intro g q a h;cases h
 |cons x xs ihx=>
  intro g q a h
  rcases List.mem_append.1 h with h|h
  ·cases x <;> simp [fe] at h
   case h n=>exact nG _ _ _ a h
   all_goals (subst h;rfl)
  ·exact ihx _ _ a h
theorem MvHyp.to0{vl:Nat->Value}(hm:MvHyp w0 ρ H F w wf wb L γ blk y own frz0):Good0 wb (kA w0.heap.size ρ H w wf L γ blk.length own frz0 vl) (ef γ y blk 0 .leaf) w:=by
 have Z3:∀b x,ρ.frz b=some x->(kA w0.heap.size ρ H w wf L γ blk.length own frz0 vl).frz b=some x:=fun b x h=>dO h
 have w9:∀j x,blk[j]? =some x->(ef γ y blk 0 .leaf).get (γ j).1=some (lm γ y j x):=fun j x hx=>by
  have:=qy (γ:=γ) (y:=y) blk 0 .leaf j x hx (fun i hi=>by rw[aak];exact hm.g64 i hi) (fun a b ha hb e=>hm.ginj a b ha hb (by simpa using e))
  simpa using this
 refine⟨hm.kept,fun b X hX=>?_,fun b' g' h hh=>?_,fun b1 g1 h1 b2 g2 h2 q1 q2 e=>?_,fun b' g' h X hh hX=>?_,fun b arr ty hf=>?_,fun b x hf f7=>?_,fun b k I l hX g h hh=>?_⟩
 ·rcases qx blk 0 .leaf b X hX with⟨j,x,hx,e1,e2⟩|⟨h,_⟩
  case inr=>simp [T.get] at h
  rw[aak] at e1 e2
  subst e1;subst e2
  have hj:j<blk.length:=by
   rcases aaf j blk.length with h'|h'
   ·exact h'
   ·rw[aaj h'] at hx;cases hx
  obtain⟨b,g,hL,q,hq,x9⟩:=hm.hb j x hx
  have Y':∀h,bv ρ H L j=some h->Own ρ w0.heap.size h.blk->Own (kA w0.heap.size ρ H w wf L γ blk.length own frz0 vl) wb.heap.size h.blk:=fun h h1 h2=>hm.owns j h (.inl h1) h2
  cases x with
  |cells ty l=>
   obtain⟨eg,c,as,eq,hlen,i9,Yo⟩:=x9
   subst eg;subst eq
   have q9:=dM hm hj (su hL hq (fun _ _ _ e=>by cases e))
   obtain⟨K',r1,r2,_,arr,fr,r3,r4,r5,r6⟩:=(hm.good.blk _ _ hq).2 0 (aaa _)
   have hJ:bv ρ H L j=some K':=by unfold bv;rw[hL];simp only [hq,r1]
   have hz:=hm.g0 j _ hx rfl
   refine⟨fun o x ho=>?_,fun g hg=>?_⟩
   ·rcases tr _ _ _ _ _ ho with⟨i,a,e,ha,ex⟩|⟨h,_⟩
    ·have:i<l.length:=by
      rcases aaf i l.length with h'|h'
      ·exact h'
      ·rw[aaj (by rw[JS];exact h')] at ha;cases ha
     subst ex
     exact⟨aal _,by omega,aaa _⟩
    ·simp [T.get] at h
   ·have:g=0:=by omega
    subst this
    refine⟨K', ?_,fun _=>Y' K' hJ (r2 rfl),(fun h=>by cases h),arr,fr,r3,r4,r5,fun o tag a ho _=>?_⟩
    ·rw[hz] at q9
     show yT w0.heap.size ρ H L γ blk.length (γ j).1 0=_
     rw[q9];exact hJ
    ·rcases tr _ _ _ _ _ ho with⟨i,a',e,ha,ex⟩|⟨h,_⟩
     ·injection ex with ex1 ex2
      subst ex1;subst ex2
      rw[JR] at ha
      have e:o=i:=by omega
      subst e
      cases hli:l[o]? with
      |none=>rw[hli] at ha;cases ha
      |some xs=>
       rw[hli] at ha
       injection ha with ha
       subst ha
       have ag8:∀{l:List Sh} {as:List AV},All2 (Tv F blk L y) l as->∀(i:Nat) (xs:Sh),l[i]? =some xs->∃a,as[i]? =some a/\Tv F blk L y xs a:=by
        intro l
        induction l with
        |nil=>intro as _ i xs h;simp at h
        |cons x l ih=>
         intro as h i xs hi
         cases as with
         |nil=>exact h.elim
         |cons a as=>cases i with
          |zero=>simp at hi;subst hi;exact⟨a,rfl,h.1⟩
          |succ i=>simp at hi;obtain⟨b,h1,h2⟩:=ih h.2 i xs hi;exact⟨b,by simpa using h1,h2⟩
       obtain⟨a1,ha1,ht⟩:=ag8 Yo o xs hli
       obtain⟨a0,hc0,hwk⟩:=i9 o a1 ha1
       obtain⟨s1,u,s2,s3⟩:=r6 o 0 a0 hc0 (aaa _)
       exact⟨s1,u,s2,Tv.vr hm ht (hwk _ s3)⟩
     ·simp [T.get] at h
  |grow m ty t=>
   have x9:q= .grow (.rows m (y.g t)) g ty:=x9
   subst x9
   have q9:=dM hm hj (su hL hq (fun _ _ _ e=>by cases e))
   rcases aaM (Ct.rows m (y.g t)).len with h0|j4
   ·exact .inl h0
   ·rcases hm.good.blk _ _ hq with h0|⟨K',r1,r2,r3,arr,fr,r4,r5,r6,r7,r8⟩
    ·omega
    have hJ:bv ρ H L j=some K':=by unfold bv;rw[hL];simp only [hq];rw[if_neg (by omega)];exact r1
    refine .inr ⟨K', ?_,r2,Y' K' hJ r3,arr,fr,r4,r5,r6,r7,fun i hi j' a ha=>?_⟩
    ·show yT w0.heap.size ρ H L γ blk.length (γ j).1 (γ j).2=_
     rw[q9];exact hJ
    ·obtain⟨u,u1,u2⟩:=r8 i hi j' a ha
     exact⟨u,u1,cV Z3 u2 (lq ha)⟩
  |growb ty t=>
   have x9:q= .grow (.bytes (y.s t)) g ty:=x9
   subst x9
   have q9:=dM hm hj (su hL hq (fun _ _ _ e=>by cases e))
   rcases aaM (Ct.bytes (y.s t)).len with h0|j4
   ·exact .inl h0
   ·rcases hm.good.blk _ _ hq with h0|⟨K',r1,r2,r3,arr,fr,r4,r5,r6,r7,r8⟩
    ·omega
    have hJ:bv ρ H L j=some K':=by unfold bv;rw[hL];simp only [hq];rw[if_neg (by omega)];exact r1
    refine .inr ⟨K', ?_,r2,Y' K' hJ r3,arr,fr,r4,r5,r6,r7,fun i hi j' a ha=>?_⟩
    ·show yT w0.heap.size ρ H L γ blk.length (γ j).1 (γ j).2=_
     rw[q9];exact hJ
    ·obtain⟨u,u1,u2⟩:=r8 i hi j' a ha
     exact⟨u,u1,cV Z3 u2 (lq ha)⟩
  |arr m ty t=>
   obtain⟨eg,e,j4⟩:=x9
   subst eg;subst e
   have hz:=hm.g0 j _ hx rfl
   have q9:=dM hm hj (su hL hq (fun _ _ _ e=>by cases e))
   rw[hz] at q9
   have o8:¬(Ct.rows m (y.g t)).len=0:=by show ¬(y.g t).length=0;omega
   rcases hm.good.blk _ _ hq with h0|⟨K',r1,r2,r3,arr,fr,r4,r5,r6,r7,r8⟩
   ·exact absurd h0 o8
   have hJ:bv ρ H L j=some K':=by unfold bv;rw[hL];simp only [hq];rw[if_neg o8];exact r1
   refine .inr ⟨K',q9.trans hJ,r2,Y' K' hJ r3,arr,fr,r4,r5,r6,r7,fun i hi j' a ha=>?_⟩
   obtain⟨u,u1,u2⟩:=r8 i hi j' a ha
   exact⟨u,u1,cV Z3 u2 (lq ha)⟩
  |arb ty t=>
   obtain⟨eg,e,j4⟩:=x9
   subst eg;subst e
   have hz:=hm.g0 j _ hx rfl
   have q9:=dM hm hj (su hL hq (fun _ _ _ e=>by cases e))
   rw[hz] at q9
   have o8:¬(Ct.bytes (y.s t)).len=0:=by show ¬(y.s t).length=0;omega
   rcases hm.good.blk _ _ hq with h0|⟨K',r1,r2,r3,arr,fr,r4,r5,r6,r7,r8⟩
   ·exact absurd h0 o8
   have hJ:bv ρ H L j=some K':=by unfold bv;rw[hL];simp only [hq];rw[if_neg o8];exact r1
   refine .inr ⟨K',q9.trans hJ,r2,Y' K' hJ r3,arr,fr,r4,r5,r6,r7,fun i hi j' a ha=>?_⟩
   obtain⟨u,u1,u2⟩:=r8 i hi j' a ha
   exact⟨u,u1,cV Z3 u2 (lq ha)⟩
  |sm m t=>
   obtain⟨eg,ZM⟩:=x9
   subst eg
   have hz:=hm.g0 j _ hx rfl
   have G':¬xz H L j:=su hL hq (fun _ _ _ e=>by rcases ZM with h|⟨_,h,_⟩ <;> (rw[h] at e;cases e))
   have q9:=dM hm hj G'
   rw[hz] at q9
   rcases ZM with e|⟨c,e,e0⟩
   ·subst e
    obtain⟨K',r1,r2,es,clock,r3,r4,r5⟩:=hm.good.blk _ _ hq
    have hJ:bv ρ H L j=some K':=by unfold bv;rw[hL];simp only [hq,r1]
    refine⟨K',q9.trans hJ,Y' K' hJ r2,es,clock,r3,r4,fun i g e hi he=>?_⟩
    obtain⟨s1,s2⟩:=r5 i g e hi he
    exact⟨JU Z3 (Gs _ _ _) s1,JU Z3 (Gt _ _ _) s2⟩
   ·subst e
    obtain⟨K',r1,r2,es,r3,r4,r5⟩:=hm.good.blk _ _ hq
    have hJ:bv ρ H L j=some K':=by unfold bv;rw[hL];simp only [hq,r1]
    refine⟨K',q9.trans hJ,Y' K' hJ r2,es,c,r3,by rw[e0];exact r4,fun i g e hi he=>?_⟩
    rw[e0] at hi
    simp at hi
  |obj k C t=>
   obtain⟨eg,e⟩:=x9
   subst eg;subst e
   have hz:=hm.g0 j _ hx rfl
   have hO:xz H L j:=⟨_,_,_,_,_,hL,hq⟩
   obtain⟨ab3,K',fp,r1,r2,r3,r4⟩:=hm.good.blk _ _ hq
   refine⟨ab3,K',fp,iG hm hj hO hL r1 (r3 _ aay).1,r2,fun x hx=>?_,r4⟩
   obtain⟨s1,g,Xz,s2,s3⟩:=r3 x hx
   subst s3
   exact⟨hm.owns j Xz (.inr ⟨_,_,hL,hO,⟨g,s2⟩,s1⟩) s1,g,Xz,iG hm hj hO hL s2 s1,rfl⟩
 ·obtain⟨j,hj,e1,hG⟩:=dN hh
  obtain⟨b,g,g2,_,q9⟩:=cQ (dL hG).1
  refine⟨(hm.good.dom _ _ _ q9).1,lm γ y j blk[j], ?_⟩
  rw[←e1]
  exact w9 j blk[j] (aah hj)
 ·obtain⟨j1,hj1,e1,d7⟩:=dN q1
  obtain⟨j2,hj2,e3,i7⟩:=dN q2
  obtain⟨b1',g1',_,X1,V'⟩:=cQ (dL d7).1
  obtain⟨b2',g2',_,hL2,ai8⟩:=cQ (dL i7).1
  obtain⟨r1,r2⟩:=hm.good.inj _ _ _ _ _ _ V' ai8 e
  subst r1
  have:=hm.linj _ _ _ _ _ X1 hL2
  subst this
  exact⟨by rw[←e1, ←e3],r2⟩
 ·obtain⟨j,hj,e1,hG⟩:=dN hh
  have hxj:=aah hj
  have:=w9 j blk[j] hxj
  rw[e1,hX] at this
  injection this with this
  subst this
  rcases(dL hG).2 with⟨⟨b0,g0,k,I,l,hL,hq⟩,_⟩|⟨_,e2,_⟩
  ·obtain⟨b1,g1,X1,q,w8,x9⟩:=hm.hb j _ hxj
   rw[hL] at X1;injection X1 with X1;injection X1 with e3 e4
   subst e3
   rw[hq] at w8;injection w8 with w8
   generalize blk[j]=x at x9
   cases x with
   |cells ty l=>obtain⟨_,c,as,e,_⟩:=x9;rw[←w8] at e;cases e
   |grow m ty t=>have x9:q=_:=x9;rw[←w8] at x9;cases x9
   |growb ty t=>have x9:q=_:=x9;rw[←w8] at x9;cases x9
   |sm m t=>obtain⟨_,e|⟨c,e,_⟩⟩:=x9 <;> (rw[←w8] at e;cases e)
   |arr m ty t=>obtain⟨_,e,_⟩:=x9;rw[←w8] at e;cases e
   |arb ty t=>obtain⟨_,e,_⟩:=x9;rw[←w8] at e;cases e
   |obj k C t=>trivial
  ·rw[e2]
   exact JT fun e=>hm.g0 j _ hxj e
 ·have hf:jD w0.heap.size ρ H w wf L b=some (arr,ty):=hf
  unfold jD at hf
  split at hf
  ·rename_i x hx
   injection hf with hf
   subst hf
   refine⟨(hm.good.frz _ _ _ hx).1,fun b' g' h hh e=>?_⟩
   obtain⟨j,hj,e1,hG⟩:=dN hh
   obtain⟨b2,g2,g3,hL,q9⟩:=cQ (dL hG).1
   obtain⟨b1,g1,X1,q,w8,x9⟩:=hm.hb j _ (aah hj)
   rw[hL] at X1;injection X1 with X1;injection X1 with e3 e4
   subst e3
   refine absurd e (hm.good.frzE hx q9 w8 ?_)
   generalize blk[j]=x at x9
   cases x with
   |cells ty l=>obtain⟨_,c,as,e,_⟩:=x9;rw[e];exact fun h=>h
   |grow m ty t=>have x9:q=_:=x9;rw[x9];exact fun h=>h
   |growb ty t=>have x9:q=_:=x9;rw[x9];exact fun h=>h
   |sm m t=>obtain⟨_,e|⟨c,e,_⟩⟩:=x9 <;> (rw[e];exact fun h=>h)
   |arr m ty t=>obtain⟨_,e,_⟩:=x9;rw[e];exact fun h=>h
   |arb ty t=>obtain⟨_,e,_⟩:=x9;rw[e];exact fun h=>h
   |obj k C t=>obtain⟨_,e⟩:=x9;rw[e];exact fun h=>h
  ·split at hf
   ·rename_i hc
    split at hf
    ·rename_i m7 XI fr' hw
     injection hf with hf
     injection hf with e1 e2
     subst e1;subst e2
     refine⟨⟨fr',hw⟩,fun b' g' h hh e=>?_⟩
     obtain⟨j,hj,e1,hG⟩:=dN hh
     exact absurd e (hc.2 j h (dL hG).1)
    ·cases hf
   ·cases hf
 ·exact hm.frz b x hf f7
 ·obtain⟨j,hj,e1,hG⟩:=dN hh
  have hxj:=aah hj
  have hp:=w9 j blk[j] hxj
  rw[e1,hX] at hp
  injection hp with hp
  obtain⟨b0,g0,hL,q,hq,x9⟩:=hm.hb j _ hxj
  have hO:xz H L j:=by
   generalize blk[j]=x at x9 hp
   cases x with
   |obj k C t=>obtain⟨_,e⟩:=x9;subst e;exact⟨_,_,_,_,_,hL,hq⟩
   |_=>cases hp
  rcases dL hG with⟨hA,hc⟩
  rcases hc with⟨_,b2,g2,hL2,q9⟩|⟨hn,_⟩
  ·rw[hL] at hL2;injection hL2 with hL2;injection hL2 with e3 e4
   subst e3
   obtain⟨_,_,k0,I0,l0,e5,e6⟩:=hO
   rw[hL] at e5;injection e5 with e5;injection e5 with e5 _
   subst e5
   exact hm.owns j h hA (hm.good.objO _ _ _ _ e6 _ _ q9)
  ·exact absurd hO hn
end
end Go.Sym
namespace Go.Sym
open Go.RowKit (Below)
theorem UK{w0 w w':World}{ρ ρp:Rho}{H Hp H2:T ABlk}(hG:Good w0 ρ H w)(hP:Good0 w ρp Hp w')
  (hH2:∀b,H2.get b=match Hp.get b with|some X=>some X|none=>H.get b)
  (x7:∀x,ρp.own x->Own ρ w0.heap.size x) (Yq:ρp.val=ρ.val) (ac9:∀b x,ρ.frz b=some x->ρp.frz b=some x) (YL:ρp.frz0=ρ.frz)
  (hq:∀b g h,ρp.at_ b g=some h->ρ.at_ b g=some h∨(ρ.at_ b g=none/\∀b' g' h',ρ.at_ b' g'=some h'->h'.blk=h.blk->b'=b/\h'=h))
  (XO:∀b g h X,ρ.at_ b g=some h->Hp.get b=some X->Ig g X) (hex:∀b X,Hp.get b=some X->∃X0,H.get b=some X0/\¬xx X0)
  (ai9:∀b g h,ρ.at_ b g=some h->Hp.get b=none->¬ρp.own h.blk)
  (XJ:∀b k I l,Hp.get b=some (.obj k I l)->(∃k I l,H.get b=some (.obj k I l))∨∀g,ρ.at_ b g=none) (Z5:∀b X,Hp.get b=some X->(∃c n ty,X= .cells c 0 0 n 0 0 false ty)∨(∃c g ty,X= .grow c g ty)∨(∃m l,X= .smap m l)∨∃k I l,X= .obj k I l):
  ∃ρ2:Rho,Good w0 ρ2 H2 w'/\ρ.le ρ2/\(∀b g h,ρp.at_ b g=some h->ρ2.at_ b g=some h)/\ρ2.val=ρp.val/\ρ2.frz=ρp.frz:=by
 let ρ2:Rho:=⟨fun b g=>match ρ.at_ b g with|some h=>some h|none=>ρp.at_ b g,ρp.val,ρ.own,ρp.frz,ρ.frz0⟩
 have h21:∀b g h,ρ.at_ b g=some h->ρ2.at_ b g=some h:=fun b g h hh=>by
  show(match ρ.at_ b g with|some h=>some h|none=>ρp.at_ b g)=some h
  rw[hh]
 have h22:∀b g h,ρp.at_ b g=some h->ρ2.at_ b g=some h:=fun b g h hh=>by
  show(match ρ.at_ b g with|some h=>some h|none=>ρp.at_ b g)=some h
  rcases hq b g h hh with h'|⟨h',_⟩
  ·rw[h']
  ·rw[h'];exact hh
 have h23:∀b g h,ρ2.at_ b g=some h->ρ.at_ b g=some h∨(ρ.at_ b g=none/\ρp.at_ b g=some h):=fun b g h hh=>by
  have hh:(match ρ.at_ b g with|some h=>some h|none=>ρp.at_ b g)=some h:=hh
  cases hr:ρ.at_ b g with
  |some h'=>rw[hr] at hh;exact .inl hh
  |none=>rw[hr] at hh;exact .inr ⟨rfl,hh⟩
 have hle:ρ.le ρ2:=⟨h21,Yq,rfl,ac9,rfl⟩
 have hvp:∀a v,VR ρp a v->VR ρ2 a v:=fun a v h=>h.into h22 rfl fun _ _ h=>h
 have u0:=hG.below.size
 have ai_:=hP.below.size
 have l9:∀b g h,ρp.at_ b g=some h->ρ.at_ b g=none->∀b' g' h',ρ.at_ b' g'=some h'->h'.blk=h.blk->b'=b/\h'=h:=fun b g h hh hn=>by
  rcases hq b g h hh with h'|⟨_,h'⟩
  ·rw[hn] at h';cases h'
  ·exact h'
 have YW:∀x,Own ρp w.heap.size x->Own ρ2 w0.heap.size x:=fun x hx=>by
  rcases hx with hx|hx
  ·exact .inl (by omega)
  ·exact x7 x hx
 refine⟨ρ2,⟨⟨?_,fun b X hX=>?_,fun b g h hh=>?_,fun b g h b' g' h' q1 q2 e=>?_,fun b g h X hh hX=>?_,fun b arr ty hf=>?_,fun b x hf f7=>?_,fun b k I l hX g h hh=>?_⟩,fun x hx=>by obtain⟨b,g,h,q1,q2,q3⟩:=hG.ownB x hx;exact⟨b,g,h,q1,h21 _ _ _ q2,q3⟩⟩,hle,h22,rfl,rfl⟩
 ·refine hG.below.trans ⟨hP.below.os,hP.below.tape,hP.below.output,ai_,fun x hx ho=>hP.below.block x (by omega) fun hpo=>?_⟩
  rcases x7 x hpo with h|h
  ·omega
  ·exact ho h
 ·rw[hH2] at hX
  cases hp:Hp.get b with
  |some X'=>
   rw[hp] at hX
   injection hX with hX
   subst hX
   have hB:=hP.blk _ _ hp
   rcases Z5 _ _ hp with⟨c,n,ty,e⟩|⟨c,g,ty,e⟩|⟨m,l,e⟩|⟨k,I,l,e⟩
   ·subst e
    refine⟨hB.1,fun g hg=>?_⟩
    obtain⟨hm,r1,r2,r3,arr,fr,r4,r5,r6,r7⟩:=hB.2 g hg
    refine⟨hm,h22 _ _ _ r1,fun h=>YW _ (r2 h),r3,arr,fr,r4,r5,r6,fun o tag a ho ht=>?_⟩
    obtain⟨s1,u,s2,s3⟩:=r7 o tag a ho ht
    exact⟨s1,u,s2,hvp _ _ s3⟩
   ·subst e
    rcases hB with h0|⟨hm,r1,r2,r3,arr,fr,r4,r5,r6,r7,r8⟩
    ·exact .inl h0
    ·refine .inr ⟨hm,h22 _ _ _ r1,r2,YW _ r3,arr,fr,r4,r5,r6,r7,fun i hi j a ha=>?_⟩
     obtain⟨u,u1,u2⟩:=r8 i hi j a ha
     exact⟨u,u1,hvp _ _ u2⟩
   ·subst e
    obtain⟨hm,r1,r2,es,clock,r3,r4,r5⟩:=hB
    refine⟨hm,h22 _ _ _ r1,YW _ r2,es,clock,r3,r4,fun i g e hi he=>?_⟩
    obtain⟨s1,s2⟩:=r5 i g e hi he
    exact⟨hvp _ _ s1,hvp _ _ s2⟩
   ·subst e
    obtain⟨hl,hm,fp,r1,r2,r3,r4⟩:=hB
    refine⟨hl,hm,fp,h22 _ _ _ r1,r2,fun x hx=>?_,r4⟩
    obtain⟨s1,g,Xz,s2,s3⟩:=r3 x hx
    exact⟨YW _ s1,g,Xz,h22 _ _ _ s2,s3⟩
  |none=>
   rw[hp] at hX
   exact(hG.blk _ _ hX).keep hle fun g h hh=>hP.below.block _ (hG.dom _ _ _ hh).1 (ai9 b g h hh hp)
 ·rcases h23 b g h hh with hh|⟨hn,hh⟩
  ·obtain⟨q1,X,q2⟩:=hG.dom _ _ _ hh
   refine⟨by omega, ?_⟩
   rw[hH2]
   cases hp:Hp.get b with
   |some X'=>exact⟨_,rfl⟩
   |none=>exact⟨X,q2⟩
  ·obtain⟨q1,X,q2⟩:=hP.dom _ _ _ hh
   exact⟨q1,X,by rw[hH2,q2]⟩
 ·rcases h23 b g h q1 with q1|⟨Y7,q1⟩ <;> rcases h23 b' g' h' q2 with q2|⟨hn2,q2⟩
  ·exact hG.inj _ _ _ _ _ _ q1 q2 e
  ·exact l9 _ _ _ q2 hn2 _ _ _ q1 e
  ·obtain⟨r1,r2⟩:=l9 _ _ _ q1 Y7 _ _ _ q2 e.symm
   exact⟨r1.symm,r2.symm⟩
  ·exact hP.inj _ _ _ _ _ _ q1 q2 e
 ·rw[hH2] at hX
  cases hp:Hp.get b with
  |some X'=>
   rw[hp] at hX
   injection hX with hX
   subst hX
   rcases h23 b g h hh with hh|⟨hn,hh⟩
   ·exact XO _ _ _ _ hh hp
   ·exact hP.gens _ _ _ _ hh hp
  |none=>
   rw[hp] at hX
   rcases h23 b g h hh with hh|⟨hn,hh⟩
   ·exact hG.gens _ _ _ _ hh hX
   ·obtain⟨_,X2,q2⟩:=hP.dom _ _ _ hh
    rw[hp] at q2;cases q2
 ·have hf:ρp.frz b=some (arr,ty):=hf
  obtain⟨q1,q2⟩:=hP.frz _ _ _ hf
  have hnp:∀b' X,Hp.get b'=some X->¬xx X:=fun b' X hX hz=>by
   rcases Z5 _ _ hX with⟨c,n,ty,e⟩|⟨c,g,ty,e⟩|⟨m,l,e⟩|⟨k,I,l,e⟩ <;> (subst e;exact hz)
  refine⟨q1,fun b' g h hh e=>?_⟩
  rcases h23 b' g h hh with hh|⟨hn,hh⟩
  ·have f7:=(hG.dom _ _ _ hh).1
   have h1:=hP.frzB b _ hf (by omega)
   rw[YL] at h1
   obtain⟨X,y1,y2⟩:=(hG.frz _ _ _ h1).2 _ _ _ hh e
   refine⟨X, ?_,y2⟩
   rw[hH2]
   cases hp:Hp.get b' with
   |none=>exact y1
   |some X'=>
    obtain⟨X0,z1,z2⟩:=hex _ _ hp
    rw[y1] at z1;injection z1 with z1
    subst z1;exact absurd y2 z2
  ·obtain⟨X,y1,y2⟩:=q2 _ _ _ hh e
   exact absurd y2 (hnp _ _ y1)
 ·have hf:ρp.frz b=some x:=hf
  have h1:=hP.frzB b x hf (by omega)
  rw[YL] at h1
  exact hG.frzB _ _ h1 f7
 ·rw[hH2] at hX
  cases hp:Hp.get b with
  |some X'=>
   rw[hp] at hX
   injection hX with hX
   subst hX
   rcases h23 b g h hh with hh|⟨hn,hh⟩
   ·rcases XJ _ _ _ _ hp with⟨_,_,_,q⟩|q
    ·exact hG.objO _ _ _ _ q _ _ hh
    ·rw[q] at hh;cases hh
   ·exact YW _ (hP.objO _ _ _ _ hp _ _ hh)
  |none=>
   rw[hp] at hX
   rcases h23 b g h hh with hh|⟨hn,hh⟩
   ·exact hG.objO _ _ _ _ hX _ _ hh
   ·obtain⟨_,X2,q2⟩:=hP.dom _ _ _ hh
    rw[hp] at q2;cases q2
section
variable{P:Program}{w0:World}{ρ:Rho}{w:World}{σ:St}{K:Fin}
theorem dC{α:Type}{j:Nat}{p:α}:∀{loc:List (Nat×α)},bA j loc=some p->(j,p)∈loc:=by
 intro loc
 induction loc with
 |nil=>intro h;cases h
 |cons z l ih=>
  intro h
  rw[dq] at h
  split at h
  ·rename_i e
   injection h with h
   have:z=(j,p):=by rw[←e, ←h]
   rw[this];exact aay
  ·exact aaw _ (ih h)
def yW(K:Fin)(w0:World)(ρ:Rho)(w:World)(σ:St)(loc:List (Nat×Nat×Nat))(a:AV)(k:AV->Tr):Prop:=
 ∃a' c9 ρ',run (k a') c9 K=true/\SI c9/\Good w0 ρ' c9.h w/\ρ.le ρ'/\Stays loc σ.h c9.h/\∀ρ2,ρ'.le ρ2->∀v,VR ρ2 a v->VR ρ2 a' v
theorem uY{loc:List (Nat×Nat×Nat)}{a:AV}{k:AV->Tr}(hS:SI σ)(hG:Good w0 ρ σ.h w)(h:run (BL loc a k) σ K=true):yW K w0 ρ w σ loc a k:=by
 have same:run (k a) σ K=true->yW K w0 ρ w σ loc a k:=fun h=>⟨a,σ,ρ,h,hS,hG,.refl _,.refl _ _,fun _ _ _ h=>h⟩
 unfold BL at h
 cases a with
 |gsl b g n es=>
  have d8:=cN hS h
  replace h:=bm hS h;obtain⟨q,d6,hq,e1,d5,h⟩:=h
  have d7:Good w0 ρ d6.h w:=by rw[e1];exact hG
  have w8:d6.h.get b=some q:=by rw[e1];exact hq
  cases q with
  |grow c gen ty=>
   replace h:=ar h;obtain⟨k1,h⟩:=h
   replace h:=ar h;obtain⟨k2,h⟩:=h
   replace h:=ar h;obtain⟨k3,h⟩:=h
   replace h:=aW h;obtain⟨k4,h⟩:=h
   replace h:=cI d5 h;obtain⟨x0,f9,U',e2,i5,_,h⟩:=h
   have k1:=aR k1
   have k2:=aR k2
   obtain⟨k3a,k3b⟩:=aM k3
   have k3a:=bu k3a
   subst k1;subst k2;subst k4
   obtain⟨ρ',f1,f2,f3⟩:=d7.freeze w8 d8 k3a
   refine⟨_,f9,ρ',h,i5,by rw[e2];exact f2,f1,fun b' X hf hX=>?_,f3⟩
   obtain⟨x,R',t7⟩:=hf
   rw[e2,T.get_set_ne _ (fun e=>by subst e;rw[gT R' t7] at k3b;cases k3b),e1];exact hX
  |froz c gen=>
   replace h:=ar h;obtain⟨k1,h⟩:=h
   replace h:=ar h;obtain⟨k2,h⟩:=h
   replace h:=aW h;obtain⟨k4,h⟩:=h
   have k1:=aR k1
   have k2:=aR k2
   subst k1;subst k2;subst k4
   exact⟨_,d6,ρ,h,d5,d7,.refl _,fun b' X _ hX=>by rw[e1];exact hX,fun ρ2 j9 v hv=>iv ((d7.blk _ _ w8).keep (w':=w) j9 fun _ _ _=>rfl) hv⟩
  |_=>exact(ak h).elim
 |_=>exact same h
theorem yX{loc:List (Nat×Nat×Nat)}{blk:List BSh}{x:Sh}{a:AV}{k:AV->Tr}(hS:SI σ)(hG:Good w0 ρ σ.h w)(h:run (tl loc blk x a k) σ K=true):yW K w0 ρ w σ loc a k:=by
 have same:run (k a) σ K=true->yW K w0 ρ w σ loc a k:=fun h=>⟨a,σ,ρ,h,hS,hG,.refl _,.refl _ _,fun _ _ _ h=>h⟩
 have fresh:∀(ct:Ct) (ty es:Nat),ct.len=0->a= .nils->run (.new (.grow ct 0 ty) fun b=>k (.gsl b 0 0 es)) σ K=true->yW K w0 ρ w σ loc a k:=by
  intro ct ty es h0 ea h
  obtain⟨n,c9,hn,d8,e,l8,h⟩:=dI hS h
  refine⟨_,c9,ρ,h,l8,by rw[e];exact hG.none_new hn d8 h0,.refl _,fun b X _ hX=>?_,fun ρ2 _ v hv=>?_⟩
  ·rw[e,T.get_set_ne _ (fun e'=>by subst e';rw[hn] at hX;cases hX)];exact hX
  ·subst ea;cases hv;exact .gnil _ _ _
 have rowsMT:∀{m len:Nat} (tyf:Nat->Nat),∀(YG:Nat) (as:List AV) (kk:Ct->Nat->Tr) (c9:St),run (cE (dF (cK m) len as) .fail fun q=>(match q with|(gs,[])=>kk (.rows m gs) (tyf YG)|_=>.fail)) c9 K=true->
   ∃ct ty,run (kk ct ty) c9 K=true/\(as.length=ct.len * ct.es->∀i,i<ct.len->∀(ρ:Rho) (vs:List Value),LR ρ ((as.drop (i * ct.es)).take ct.es) vs->LR ρ (ct.row i) vs):=by
  intro m len tyf YG as kk c9 h
  replace h:=bO h;obtain⟨q,hq,h⟩:=h
  split at h
  ·rename_i gs
   obtain⟨c1,f1,f2,f3,f4⟩:=gi _ _ _ _ hq
   have f1:as=c1:=by simpa using f1
   subst f1
   exact⟨_,_,h,fun hlen i hi ρ vs=>f4 i (by rw[←f3];exact hi) ρ vs⟩
  ·exact(ak h).elim
 have rowsBT:∀(tyf:Nat->Nat),∀(YG:Nat) (as:List AV) (kk:Ct->Nat->Tr) (c9:St),run (cE (fG as) .fail fun ns=>.req (bj ns) (kk (.bytes (aO ns)) (tyf YG))) c9 K=true->
   ∃ct ty,run (kk ct ty) c9 K=true/\(as.length=ct.len * ct.es->∀i,i<ct.len->∀(ρ:Rho) (vs:List Value),LR ρ ((as.drop (i * ct.es)).take ct.es) vs->LR ρ (ct.row i) vs):=by
  intro tyf YG as kk c9 h
  replace h:=bO h;obtain⟨ns,hq,h⟩:=h
  replace h:=aW h;obtain⟨Ys,h⟩:=h
  obtain⟨f1,f2⟩:=mg _ _ hq
  refine⟨_,_,h,fun hlen i hi ρ vs E'=>?_⟩
  have hal:as.length=(aO ns).length:=by rw[bP,f1]
  have hi:i<(aO ns).length:=hi
  have hia:i<as.length:=by omega
  have hd:(as.drop (i * 1)).take 1= [as[i]]:=by
   rw[aaD,aaU hia];rfl
  have E':LR ρ ((as.drop (i * 1)).take 1) vs:=E'
  rw[hd] at E'
  refine E'.one fun v hv=>?_
  obtain⟨n',q1,q2⟩:=f2 i as[i] (aah hia)
  obtain⟨q3,q4⟩:=iu _ _ _ Ys q1
  rw[bo hv q2,aag,q3]
  show VR ρ (.sI .u8 ((n'.toNat:Nat):Int)) _
  rw[show((n'.toNat:Nat):Int)=n' by omega]
  exact .sI _ _
 have andthen:∀(b g o len es:Nat) (cap:Option Nat),a= .slc b g o len cap es->(∃c9,run (BL loc (.gsl b g len es) k) c9 K=true/\SI c9/\Good w0 ρ c9.h w/\Stays loc σ.h c9.h/\∀ρ2,ρ.le ρ2->∀v,VR ρ2 (.slc b g o len cap es) v->VR ρ2 (.gsl b g len es) v)->yW K w0 ρ w σ loc a k:=by
  intro b g o len es cap ea ⟨c9,h1,h2,h3,h4,h5⟩
  obtain⟨a',f9,ρ',q1,q2,q3,q4,q5,q6⟩:=uY h2 h3 h1
  subst ea
  exact⟨a',f9,ρ',q1,q2,q3,q4,h4.trans q5,fun ρ2 j9 v hv=>q6 ρ2 j9 v (h5 ρ2 (q4.trans j9) v hv)⟩
 have fv:∀m,run (Oj loc m a k) σ K=true->yW K w0 ρ w σ loc a k:=by
  intro m z
  unfold Oj at z
  cases a with
  |slc b g o len cap es=>
   replace z:=ar z;obtain⟨he,z⟩:=z
   exact andthen b g o len es cap rfl (dK hS hG (rowsMT fun ty=>ty) z)
  |_=>exact uY hS hG z
 have fb:run (frzB loc a k) σ K=true->yW K w0 ρ w σ loc a k:=by
  intro z
  unfold frzB at z
  cases a with
  |slc b g o len cap es=>
   replace z:=ar z;obtain⟨he,z⟩:=z
   have he:=aR he
   subst he
   exact andthen b g o len 1 cap rfl (dK hS hG (rowsBT fun ty=>ty) z)
  |_=>exact uY hS hG z
 unfold tl at h
 cases x with
 |g j es t=>
  simp only at h
  split at h
  ·split at h
   ·exact fresh _ _ _ rfl rfl h
   ·exact(ak h).elim
  ·rename_i b g o len cap p6
   split at h
   ·rename_i m ty t' _
    replace h:=ar h;obtain⟨e,h⟩:=h
    have e:=aR e
    subst e
    obtain⟨c9,h1,h2,h3,h4,h5⟩:=dK hS hG (rowsMT fun _=>ty) h
    exact⟨_,c9,ρ,h1,h2,h3,.refl _,h4,h5⟩
   ·exact(ak h).elim
  ·exact same h
 |gb j t=>
  simp only at h
  split at h
  ·split at h
   ·exact fresh _ _ _ rfl rfl h
   ·exact(ak h).elim
  ·rename_i b g o len cap p6
   split at h
   ·rename_i ty t' _
    replace h:=ar h;obtain⟨e,h⟩:=h
    have e:=aR e
    subst e
    obtain⟨c9,h1,h2,h3,h4,h5⟩:=dK hS hG (rowsBT fun _=>ty) h
    exact⟨_,c9,ρ,h1,h2,h3,.refl _,h4,h5⟩
   ·exact(ak h).elim
  ·exact same h
 |p j=>
  simp only at h
  split at h
  ·rename_i b g o
   split at h
   ·rename_i m _ _ _
    obtain⟨q,d6,hq,e1,d5,z⟩:=bm hS h
    have d7:Good w0 ρ d6.h w:=by rw[e1];exact hG
    have st1:Stays loc σ.h d6.h:=fun b' X _ hX=>by rw[e1];exact hX
    cases q with
    |cells c gen lo hi fl fh ro ty=>
     obtain⟨f9,z2,i5,i7,s8,_⟩:=dK d5 d7 gU z
     exact⟨_,f9,ρ,z2,i5,i7,.refl _,st1.trans s8,fun _ _ _ h=>h⟩
    |_=>exact⟨_,d6,ρ,z,d5,d7,.refl _,st1,fun _ _ _ h=>h⟩
   ·rename_i YI t2 _
    obtain⟨q,d6,hq,e1,d5,z⟩:=bm hS h
    have d7:Good w0 ρ d6.h w:=by rw[e1];exact hG
    have st1:Stays loc σ.h d6.h:=fun b' X _ hX=>by rw[e1];exact hX
    cases q with
    |cells c gen lo hi fl fh ro ty=>
     obtain⟨f9,z2,i5,i7,s8,_⟩:=dK d5 d7 jw z
     exact⟨_,f9,ρ,z2,i5,i7,.refl _,st1.trans s8,fun _ _ _ h=>h⟩
    |_=>exact⟨_,d6,ρ,z,d5,d7,.refl _,st1,fun _ _ _ h=>h⟩
   ·exact same h
  ·exact same h
 |v m t=>exact fv m h
 |pv m t=>exact fv m h
 |vb t=>exact fb h
 |pvb t=>exact fb h
 |_=>exact same h
def To2(ρ:Rho):List AV->List AV->Prop:=All2 fun a a'=>∀ρ2,ρ.le ρ2->∀v,VR ρ2 a v->VR ρ2 a' v
theorem To2.lr{ρ ρ2:Rho}(hle:ρ.le ρ2):∀{as o7:List AV} {vs:List Value},To2 ρ as o7->LR ρ2 as vs->LR ρ2 o7 vs
 | [],[],vs,_,h=>h
 |a::as,a'::o7,vs,⟨h1,h2⟩,h=>by
  obtain⟨v,C',rfl,hv,h'⟩:=h.cons_inv
  exact LR.cons (h1 ρ2 hle v hv) (To2.lr hle h2 h')
 | [],_::_,_,h,_=>h.elim
 |_::_,[],_,h,_=>h.elim
theorem To2.get{ρ:Rho}:∀{as o7:List AV} {i:Nat} {a':AV},To2 ρ as o7->o7[i]? =some a'->∃a,as[i]? =some a/\∀ρ2,ρ.le ρ2->∀v,VR ρ2 a v->VR ρ2 a' v
 | [],[],i,a',_,h=>by simp at h
 |a::as,b::o7,0,a',⟨h1,h2⟩,h=>by simp at h;subst h;exact⟨a,rfl,h1⟩
 |a::as,b::o7,i+1,a',⟨h1,h2⟩,h=>by simp at h;obtain⟨x,q1,q2⟩:=To2.get h2 h;exact⟨x,by simpa using q1,q2⟩
 | [],_::_,_,_,h,_=>h.elim
 |_::_,[],_,_,h,_=>h.elim
theorem tw{loc:List (Nat×Nat×Nat)}{blk:List BSh}:∀{l:List Sh} {as:List AV} {k:List AV->Tr} {σ:St} {ρ:Rho},SI σ->Good w0 ρ σ.h w->run (uW loc blk l as k) σ K=true->
  ∃o7 c9 ρ',run (k o7) c9 K=true/\SI c9/\Good w0 ρ' c9.h w/\ρ.le ρ'/\Stays loc σ.h c9.h/\(as.length=l.length->To2 ρ' as o7):=by
 intro l
 induction l with
 |nil=>intro as k σ ρ hS hG h;exact⟨as,σ,ρ,h,hS,hG,.refl _,.refl _ _,fun e=>by cases as with|nil=>exact trivial|cons _ _=>simp at e⟩
 |cons x l ih=>
  intro as k σ ρ hS hG h
  cases as with
  |nil=>exact⟨[],σ,ρ,h,hS,hG,.refl _,.refl _ _,fun e=>by simp at e⟩
  |cons a as=>
   have h:run (tl loc blk x a fun a=>uW loc blk l as fun as=>k (a::as)) σ K=true:=h
   obtain⟨a',d6,XX,h1,h2,h3,h4,h5,h6⟩:=yX hS hG h
   obtain⟨o7,f9,ρ2,q1,q2,q3,q4,q5,q6⟩:=ih h2 h3 h1
   exact⟨a'::o7,f9,ρ2,q1,q2,q3,h4.trans q4,h5.trans q5,fun e=>⟨fun ρ3 hle=>h6 ρ3 (q4.trans hle),q6 (by simpa using e)⟩⟩
theorem gX{loc:List (Nat×Nat×Nat)}{blk:List BSh}:∀{l:List Sa} {as:List AV} {k:List AV->Tr} {σ:St} {vs:List Value} {ρ:Rho},SI σ->Good w0 ρ σ.h w->LR ρ as vs->run (iF loc blk l as k) σ K=true->
  ∃o7 c9 ρ',run (k o7) c9 K=true/\SI c9/\Good w0 ρ' c9.h w/\ρ.le ρ'/\o7.length=as.length/\(l.length=as.length->LR ρ' o7 vs):=by
 intro l
 induction l with
 |nil=>intro as k σ vs ρ hS hG hl h;exact⟨as,σ,ρ,h,hS,hG,.refl _,rfl,fun _=>hl⟩
 |cons x l ih=>
  intro as k σ vs ρ hS hG hl h
  cases as with
  |nil=>exact⟨[],σ,ρ,h,hS,hG,.refl _,rfl,fun _=>hl⟩
  |cons a as=>
   obtain⟨v,C',rfl,hv,p7⟩:=hl.cons_inv
   have h:run (JO loc blk x a fun a=>iF loc blk l as fun as=>k (a::as)) σ K=true:=h
   have:∃a' c9 ρ',run (iF loc blk l as fun as=>k (a'::as)) c9 K=true/\SI c9/\Good w0 ρ' c9.h w/\ρ.le ρ'/\∀ρ2,ρ'.le ρ2->VR ρ2 a' v:=by
    cases x with
    |c x=>
     have h:run (tl loc blk x a fun a=>iF loc blk l as fun as=>k (a::as)) σ K=true:=h
     obtain⟨a',d6,XX,h1,h2,h3,h4,_,h6⟩:=yX hS hG h
     exact⟨a',d6,XX,h1,h2,h3,h4,fun ρ2 hle=>h6 ρ2 hle v ((hv.mono h4).mono hle)⟩
    |ag l'=>
     unfold JO at h
     simp only at h
     split at h
     ·rename_i as1 _
      obtain⟨hlen,h1⟩:=ar h
      have hlen:=aR hlen
      obtain⟨aj0,d6,XX,q1,q2,q3,q4,_,q6⟩:=tw hS hG h1
      refine⟨.agg aj0,d6,XX,q1,q2,q3,q4,fun ρ2 hle=>?_⟩
      cases hv with
      |agg _ cs e1 e2=>
       have XS:LR ρ2 as1 cs.toList:=(LR.of_arr e1 e2).mono (q4.trans hle)
       obtain⟨r1,r2⟩:=(To2.lr hle (q6 hlen) XS).arr
       exact .agg _ cs r1 r2
     ·exact⟨_,σ,ρ,h,hS,hG,.refl _,fun ρ2 hle=>hv.mono hle⟩
    |cp l'=>exact⟨_,σ,ρ,h,hS,hG,.refl _,fun ρ2 hle=>hv.mono hle⟩
   obtain⟨a',d6,XX,h1,h2,h3,h4,h5⟩:=this
   obtain⟨o7,f9,ρ2,q1,q2,q3,q6,q5,q4⟩:=ih h2 h3 (p7.mono h4) h1
   exact⟨a'::o7,f9,ρ2,q1,q2,q3,h4.trans q6,by simp [q5],fun e=>LR.cons (h5 ρ2 q6) (q4 (by simpa using e))⟩
theorem ls{F:T ABlk}{blk:List BSh}:∀{l:List Sa} {as:List AV} {s s':PS},gC F blk l as s=some s'->l.length=as.length:=by
 intro l
 induction l with
 |nil=>intro as s s' h;cases as with|nil=>rfl|cons _ _=>cases h
 |cons x l ih=>
  intro as s s' h
  cases as with
  |nil=>cases h
  |cons a as=>
   obtain⟨s1,_,h2⟩:=aN (show bz (qq F blk x a s) (fun s=>gC F blk l as s)=some s' from h)
   simp [ih h2]
theorem Gu{F:T ABlk}{blk:List BSh}:∀{l:List Sh} {as:List AV} {s s':PS},mt F blk l as s=some s'->l.length=as.length:=by
 intro l
 induction l with
 |nil=>intro as s s' h;cases as with|nil=>rfl|cons _ _=>cases h
 |cons x l ih=>
  intro as s s' h
  cases as with
  |nil=>cases h
  |cons a as=>
   obtain⟨s1,_,h2⟩:=aN (show bz (tj F blk x a s) (fun s=>mt F blk l as s)=some s' from h)
   simp [ih h2]
theorem jF(s:PS):lO s .leaf=fun _=>none:=by
 funext b
 unfold lO
 split
 ·simp [T.get]
 ·rfl
def uZ(ρ:Rho)(blk:List BSh)(H:T ABlk)(s':PS)(l:List BSh)(j:Nat):Prop:=
 ∀i x,l[i]? =some x->∃b g,bA (j+i) s'.loc=some (b,g)/\∃q,H.get b=some q/\∀ρ2,ρ.le ρ2->∀sF,s'.Le sF->sF.pr->qt blk sF->BT ρ2 (fun _=>none) blk sF.L (aX sF.tm) x q g
theorem yY{blk:List BSh}{k:PS->Tr}:∀{l:List BSh} {j:Nat} {s:PS} {σ:St} {ρ:Rho},SI σ->Good w0 ρ σ.h w->run (tp blk l j s k) σ K=true->
  ∃s' c9 ρ',run (k s') c9 K=true/\SI c9/\Good w0 ρ' c9.h w/\ρ.le ρ'/\s.Le s'/\Stays s.loc σ.h c9.h/\uZ ρ' blk c9.h s' l j:=by
 intro l
 induction l with
 |nil=>intro j s σ ρ hS hG h;exact⟨s,σ,ρ,h,hS,hG,.refl _,.refl _,.refl _ _,fun i x hx=>by simp at hx⟩
 |cons x l ih=>
  intro j s σ ρ hS hG h
  have h:run (cE (bA j s.loc) .fail fun bg=>.rd bg.1 fun q=>UH blk x q bg.2 s fun s=>tp blk l (Nat.succ j) s k) σ K=true:=h
  obtain⟨bg,Y2,h⟩:=bO h
  obtain⟨b,g⟩:=bg
  obtain⟨q,d6,hq,e1,d5,h⟩:=bm hS h
  have d7:Good w0 ρ d6.h w:=by rw[e1];exact hG
  have hqs:σ.h.get b=some q:=hq
  have fin:∀(s1:PS) (f9:St) (XX:Rho),s.Le s1->SI f9->Good w0 XX f9.h w->ρ.le XX->Stays s.loc d6.h f9.h->(∀ρ2,XX.le ρ2->∀sF,s1.Le sF->sF.pr->qt blk sF->BT ρ2 (fun _=>none) blk sF.L (aX sF.tm) x q g)->run (tp blk l (Nat.succ j) s1 k) f9 K=true->
    ∃s' c9 ρ',run (k s') c9 K=true/\SI c9/\Good w0 ρ' c9.h w/\ρ.le ρ'/\s.Le s'/\Stays s.loc σ.h c9.h/\uZ ρ' blk c9.h s' (x::l) j:=by
   intro s1 f9 XX hle i5 i7 hr s8 x9 h
   obtain⟨s',c9,ρ',q1,q2,q3,q0,q4,q5,q6⟩:=ih i5 i7 h
   have ag9:∀b X,(∃x,x∈s.loc/\x.2.1=b)->d6.h.get b=some X->c9.h.get b=some X:=fun b X ⟨x,R',t7⟩ hX=>
    q5 b X ⟨x,hle.mem _ R',t7⟩ (s8 b X ⟨x,R',t7⟩ hX)
   refine⟨s',c9,ρ',q1,q2,q3,hr.trans q0,hle.trans q4,fun b' X hf hX=>?_,fun i y hy=>?_⟩
   ·exact ag9 b' X hf (by rw[e1];exact hX)
   ·cases i with
    |zero=>
     simp at hy;subst hy
     exact⟨b,g,(hle.trans q4).loc _ _ Y2,q,ag9 b q ⟨_,dC Y2,rfl⟩ (by rw[e1];exact hqs),fun ρ2 j9 sF hF hp hl=>x9 ρ2 (q0.trans j9) sF (q4.trans hF) hp hl⟩
    |succ i=>
     obtain⟨b',g',r1,r2⟩:=q6 i y (by simpa using hy)
     exact⟨b',g',by rw[show j+(i+1)=Nat.succ j+i by omega];exact r1,r2⟩
  have hd:(∀ty l',x≠ .cells ty l')->run (cE (fM x q g s) .fail fun s=>tp blk l (Nat.succ j) s k) d6 K=true->
    ∃s' c9 ρ',run (k s') c9 K=true/\SI c9/\Good w0 ρ' c9.h w/\ρ.le ρ'/\s.Le s'/\Stays s.loc σ.h c9.h/\uZ ρ' blk c9.h s' (x::l) j:=fun _ h=>by
   obtain⟨s1,P',h⟩:=bO h
   have key:∀ρ2:Rho,s.Le s1/\∀sF,s1.Le sF->sF.pr->BT ρ2 (lO sF .leaf) blk sF.L (aX sF.tm) x q g:=fun ρ2=>ew (F:=.leaf) (blk:=blk) P'
   exact fin s1 d6 ρ (key ρ).1 d5 d7 (.refl _) (.refl _ _) (fun ρ2 _ sF hF hp _=>by have:=(key ρ2).2 sF hF hp;rwa [jF] at this) h
  cases x with
  |cells ty l'=>
   obtain⟨as,has,h⟩:=bO h
   obtain⟨o7,f9,XX,h1,h2,h3,h0,h4,h5⟩:=tw d5 d7 h
   obtain⟨s1,P',h⟩:=bO h1
   obtain⟨p1,p2⟩:=mz (blk:=blk) P'
   obtain⟨eg,c,eq,hl⟩:=qw has
   obtain⟨r1,r2⟩:=pW hl
   refine fin s1 f9 XX p1 h2 h3 h0 h4 (fun ρ2 j9 sF hF hp YK=>⟨eg,c,o7,eq,(Gu P').symm,fun j' a' Zz=>?_,by have:=p2 sF hF hp YK;rwa [jF] at this⟩) h
   obtain⟨a,ha,hto⟩:=(h5 r1).get Zz
   obtain⟨tag,t1,t2⟩:=r2 _ a ha
   have:tag=0:=by omega
   subst this
   exact⟨a,by rw[←t1];congr 1;omega,hto ρ2 j9⟩
  |grow m ty t=>exact hd (fun _ _ e=>by cases e) h
  |growb ty t=>exact hd (fun _ _ e=>by cases e) h
  |sm m t=>exact hd (fun _ _ e=>by cases e) h
  |arr m ty t=>exact hd (fun _ _ e=>by cases e) h
  |arb ty t=>exact hd (fun _ _ e=>by cases e) h
  |obj k C t=>exact hd (fun _ _ e=>by cases e) h
theorem JV{γ:kz}{y:Sy}{k:Tr}:∀{l:List BSh} {j:Nat} {σ:St},SI σ->run (RV γ y l j k) σ K=true->
  ∃c9,run k c9 K=true/\SI c9/\c9.h=ef γ y l j σ.h/\∀i,i<l.length->(γ (j+i)).1+1<2 ^ 64:=by
 intro l
 induction l with
 |nil=>intro j σ hS h;exact⟨σ,h,hS,rfl,fun i hi=>by simp at hi⟩
 |cons x l ih=>
  intro j σ hS h
  obtain⟨x0,d6,_,e1,d5,d8,h1⟩:=cI hS (show run (.wr (γ j).1 (lm γ y j x) (RV γ y l (Nat.succ j) k)) σ K=true from h)
  obtain⟨f9,q1,q2,q3,q4⟩:=ih d5 h1
  refine⟨f9,q1,q2,by rw[q3,e1];rfl,fun i hi=>?_⟩
  cases i with
  |zero=>exact d8
  |succ i=>have:=q4 i (by simpa using hi);rwa [show Nat.succ j+i=j+(i+1) by omega] at this
theorem BO{γ:kz}{y:Sy}:∀(l:List BSh) (j:Nat) (H:T ABlk) (b:Nat),(∀i,i<l.length->b≠(γ (j+i)).1)->(ef γ y l j H).get b=H.get b:=by
 intro l
 induction l with
 |nil=>intro j H b _;rfl
 |cons x l ih=>
  intro j H b o8
  show(ef γ y l (j+1) (H.set (γ j).1 (lm γ y j x))).get b=_
  rw[ih (j+1) _ b (fun i hi=>by have:=o8 (i+1) (by simpa using hi);rwa [show j+(i+1)=j+1+i by omega] at this),T.get_set_ne _ (show b≠(γ j).1 from o8 0 (by simp))]
theorem tz{n:Nat}:∀{l:List (Nat×Nat×Nat)},kO n l=true->∀x∈l,x.1<n:=by
 intro l
 induction l with
 |nil=>intro _ x hx;cases hx
 |cons z l ih=>
  intro h x hx
  obtain⟨h1,h2⟩:=aM (show ac (Nat.ble (Nat.succ z.1) n) (ac (jm z.2.1 l) (kO n l) false) false=true from h)
  obtain⟨h3,h4⟩:=aM h2
  rcases List.mem_cons.1 hx with e|hx
  ·subst e;exact aas h1
  ·exact ih h4 x hx
theorem tA{n:Nat}:∀{l:List (Nat×Nat×Nat)},kO n l=true->∀x∈l,∀z∈l,x.2.1=z.2.1->x=z:=by
 intro l
 induction l with
 |nil=>intro _ x hx;cases hx
 |cons a l ih=>
  intro h x hx z hz e
  obtain⟨h1,h2⟩:=aM (show ac (Nat.ble (Nat.succ a.1) n) (ac (jm a.2.1 l) (kO n l) false) false=true from h)
  obtain⟨h3,h4⟩:=aM h2
  replace hx:=List.mem_cons.1 hx
  replace hz:=List.mem_cons.1 hz
  rcases hx with e1|hx <;> rcases hz with e2|hz
  ·rw[e1,e2]
  ·subst e1;rw[gT hz e.symm] at h3;cases h3
  ·subst e2;rw[gT hx e] at h3;cases h3
  ·exact ih h4 x hx z hz e
theorem On{bl:List BSh}{j:Nat}(h:Oh bl j=true):∃x,bl[j]? =some x/\gW x=false:=by
 unfold Oh at h
 split at h
 ·rename_i hx;exact⟨_,hx,rfl⟩
 ·rename_i hx;exact⟨_,hx,rfl⟩
 ·cases h
theorem yZ{bl:List BSh}{n:Nat}:∀{l:List (Nat×Nat×Nat)},my bl n l=true->∀x∈l,(x.1<n->x.2.1=base+x.1∨(base+64<=x.2.1/\∃y,bl[x.1]? =some y/\gW y=false))/\(n<=x.1->base+64<=x.2.1):=by
 intro l
 induction l with
 |nil=>intro _ x hx;cases hx
 |cons a l ih=>
  intro h x hx
  obtain⟨h1,h2⟩:=aM (show ac (ac (Nat.ble (Nat.succ a.1) n) (ac (Nat.beq a.2.1 (base+a.1)) true (ac (Oh bl a.1) (Nat.ble (base+64) a.2.1) false)) (Nat.ble (base+64) a.2.1)) (my bl n l) false=true from h)
  rcases List.mem_cons.1 hx with e|hx
  ·subst e
   rw[ax] at h1
   split at h1
   ·rename_i hb
    have hb:=aas hb
    refine⟨fun _=>?_,fun h'=>by omega⟩
    rw[ax] at h1
    split at h1
    ·rename_i hq;exact .inl (aad hq)
    ·obtain⟨q1,q2⟩:=aM h1
     exact .inr ⟨aas q2,On q1⟩
   ·rename_i hb
    refine⟨fun h'=>absurd (Nat.ble_eq.mpr h') hb,fun _=>aas h1⟩
  ·exact ih h2 x hx
theorem Gv{l:List (Nat×Nat×Nat)}:∀{fz:List Nat},qr fz l=true->∀b∈fz,∀x∈l,x.2.1≠b:=by
 intro fz
 induction fz with
 |nil=>intro _ b hb;cases hb
 |cons c fz ih=>
  intro h b hb x hx e
  obtain⟨h1,h2⟩:=aM (show ac (jm c l) (qr fz l) false=true from h)
  rcases List.mem_cons.1 hb with e'|hb
  ·subst e';rw[gT hx e] at h1;cases h1
  ·exact ih h2 b hb x hx e
theorem y_:∀{l m:List BSh},oI l m=true->l.length<=m.length/\∀(j:Nat) (x y:BSh),l[j]? =some x->m[j]? =some y->yP x y=true:=by
 intro l
 induction l with
 |nil=>intro m h;exact⟨aal _,fun j x y hx=>by simp at hx⟩
 |cons a l ih=>
  intro m h
  cases m with
  |nil=>cases h
  |cons b m=>
   obtain⟨h1,h2⟩:=aM (show ac (yP a b) (oI l m) false=true from h)
   obtain⟨q1,q2⟩:=ih h2
   refine⟨by simp;omega,fun j x y hx hy=>?_⟩
   cases j with
   |zero=>simp at hx hy;subst hx;subst hy;exact h1
   |succ j=>exact q2 j x y (by simpa using hx) (by simpa using hy)
theorem fO{x y:BSh}(h:yP x y=true):gW x=gW y:=by cases x <;> cases y <;> first|rfl|(cases h;done)
theorem kj{x y:BSh}(h:yP x y=true):(∃k C t,x= .obj k C t)↔∃k C t,y= .obj k C t:=by
 cases x <;> cases y <;> first|(cases h;done)|exact⟨fun _=>⟨_,_,_,rfl⟩,fun _=>⟨_,_,_,rfl⟩⟩|exact⟨fun⟨_,_,_,e⟩=>(by cases e),fun⟨_,_,_,e⟩=>(by cases e)⟩
theorem Eg{s:PS}{j b g:Nat}(hn:bA j s.loc=none):s.Le (s.name (j,b,g)):=by
 cases s with
 |mk tm loc ln pr fz=>
 have hn:bA j loc=none:=hn
 refine⟨fun _ _ h=>h,fun j' p h'=>?_,fun _ h=>h,fun h=>h,fun _ h=>aaw _ h,fun _ h=>h⟩
 show bA j' ((j,b,g)::loc)=some p
 rw[dq]
 split
 ·rename_i e
  simp only at e
  subst e
  have h':bA j loc=some p:=h'
  rw[hn] at h';cases h'
 ·exact h'
theorem u_{H:T ABlk}:∀{l:List BSh} {j:Nat} {s s':PS},Gq H l j s=some s'->s.Le s'/\s'.ln=s.ln/\s'.tm=s.tm:=by
 intro l
 induction l with
 |nil=>intro j s s' h;injection h with h;subst h;exact⟨.refl _,rfl,rfl⟩
 |cons x l ih=>
  intro j s s' h
  have h:(match bA j s.loc with
   |some _=>Gq H l (Nat.succ j) s
   |none=>ac (gW x) (T.getK H (base+j) none fun q=>Gq H l (Nat.succ j) (s.name (j,base+j,sn q))) (Gq H l (Nat.succ j) s))=some s':=h
  split at h
  ·exact ih h
  ·rename_i hn
   rw[ax] at h
   split at h
   ·obtain⟨q,hq,h⟩:=mi h
    obtain⟨h1,h2,h3⟩:=ih h
    refine⟨(Eg hn).trans h1, ?_, ?_⟩
    ·rw[h2];cases s;rfl
    ·rw[h3];cases s;rfl
   ·exact ih h
theorem vg{ρ:Rho}{H:T ABlk}{blk:List BSh}:∀{l:List BSh} {j:Nat} {s s':PS},Gp H blk l j s=some s'->
  s.Le s'/\∀sF,s'.Le sF->sF.pr->qt blk sF->∀i x,l[i]? =some x->∃b g,sF.L (j+i)=some (b,g)/\∃q,H.get b=some q/\BT ρ (lO sF H) blk sF.L (aX sF.tm) x q g:=by
 intro l
 induction l with
 |nil=>intro j s s' h;injection h with h;subst h;exact⟨.refl _,fun sF _ _ _ i x hx=>by simp at hx⟩
 |cons x l ih=>
  intro j s s' h
  have key:∀(b g:Nat) (s0:PS) (q:ABlk),s.Le s0->bA j s0.loc=some (b,g)->H.get b=some q->(bz (nD H blk x q g s0) fun s=>Gp H blk l (Nat.succ j) s)=some s'->s.Le s'/\∀sF,s'.Le sF->sF.pr->qt blk sF->∀i y,(x::l)[i]? =some y->∃b g,sF.L (j+i)=some (b,g)/\∃q,H.get b=some q/\BT ρ (lO sF H) blk sF.L (aX sF.tm) y q g:=fun b g s0 q hle Y2 hq h=>by
   obtain⟨s1,h1,h⟩:=aN h
   obtain⟨p1,p2⟩:=Gr (ρ:=ρ) (blk:=blk) h1
   obtain⟨r1,r2⟩:=ih h
   refine⟨hle.trans (p1.trans r1),fun sF hF hp hl i y hy=>?_⟩
   cases i with
   |zero=>
    simp at hy;subst hy
    exact⟨b,g,hF.loc _ _ (r1.loc _ _ (p1.loc _ _ Y2)),q,hq,p2 sF (r1.trans hF) hp hl⟩
   |succ i=>
    obtain⟨b,g,q1,q2⟩:=r2 sF hF hp hl i y (by simpa using hy)
    exact⟨b,g,by rw[show j+(i+1)=Nat.succ j+i by omega];exact q1,q2⟩
  have h:(match bA j s.loc with
   |some bg=>T.getK H bg.1 none fun q=>bz (nD H blk x q bg.2 s) fun s=>Gp H blk l (Nat.succ j) s
   |none=>T.getK H (base+j) none fun q=>bz (nD H blk x q (sn q) (s.name (j,base+j,sn q))) fun s=>Gp H blk l (Nat.succ j) s)=some s':=h
  split at h
  ·rename_i bg Y2
   obtain⟨q,hq,h⟩:=mi h
   exact key bg.1 bg.2 s q (.refl _) Y2 hq h
  ·rename_i hn
   obtain⟨q,hq,h⟩:=mi h
   refine key (base+j) (sn q) (s.name (j,base+j,sn q)) q (Eg hn) ?_ hq h
   cases s with
   |mk tm loc ln pr fz=>
   show bA j ((j,base+j,sn q)::loc)=_
   rw[dq,if_pos rfl]
structure Fin2(bl:List BSh)(n:Nat)(s:PS)(len:Nat):Prop where
 t3:∀j b g,s.L j=some (b,g)->j<len/\(j<n->b=base+j∨(base+64<=b/\∃y,bl[j]? =some y/\gW y=false))/\(n<=j->base+64<=b)
 t4:∀j j' b g g',s.L j=some (b,g)->s.L j'=some (b,g')->j=j'
 t5:∀b,b∈s.fz->∀j g,s.L j≠some (b,g)
theorem Fin2.at0{n len:Nat}{s:PS}(h:Fin2 [] n s len){j b g:Nat}(hL:s.L j=some (b,g))(hj:j<n):b=base+j:=by
 rcases(h.t3 j b g hL).2.1 hj with h'|⟨_,y,hy,_⟩
 ·exact h'
 ·simp at hy
theorem Eh{bl:List BSh}{n len:Nat}{s:PS}(h5:my bl n s.loc=true)(h6:kO len s.loc=true)(h7:qr s.fz s.loc=true):Fin2 bl n s len where
 t3:=fun j b g hL=>by
  have hm:=dC hL
  obtain⟨q1,q2⟩:=yZ h5 _ hm
  exact⟨tz h6 _ hm,q1,q2⟩
 t4:=fun j j' b g g' h1 h2=>congrArg Prod.fst (tA h6 _ (dC h1) _ (dC h2) rfl)
 t5:=fun b hb j g hL=>Gv h7 b hb _ (dC hL) rfl
theorem qB{n:Nat}{ρ:Rho}{H:T ABlk}{r:Sr}{l:List BSh}{a:AV}{s:PS}(h:gm n H r l a=some s)(hp:s.pr):
  TvR (lO s H) l s.L (aX s.tm) r a/\(∀j x,l[j]? =some x->∃b g,s.L j=some (b,g)/\∃q,H.get b=some q/\BT ρ (lO s H) l s.L (aX s.tm) x q g)/\Fin2 l n s l.length:=by
 obtain⟨s1,h1,h⟩:=aN h
 obtain⟨s2,h2,h⟩:=aN h
 obtain⟨s3,h3,h⟩:=aN h
 obtain⟨s4,h4,h⟩:=aN h
 obtain⟨h5,h⟩:=bh h
 obtain⟨h6,h⟩:=bh h
 injection h with h
 subst h
 obtain⟨h5,h7⟩:=aM h5
 have YK:=ki h4 hp
 obtain⟨f1,_,_,_,_⟩:=eS h4
 obtain⟨p1,p2⟩:=JQ (blk:=l) h1
 obtain⟨st,_,_⟩:=u_ h2
 obtain⟨b1,b2⟩:=vg (ρ:=ρ) h3
 refine⟨p2 s4 (st.trans (b1.trans f1)) hp YK,fun j x hx=>?_,Eh h5 h6 h7⟩
 obtain⟨b,g,q1,q2⟩:=b2 s4 f1 hp YK j x hx
 exact⟨b,g,by rw[aak] at q1;exact q1,q2⟩
theorem gY{s:PS}{H:T ABlk}{b:Nat}{x:ABlk}(h:lO s H b=some x):H.get b=some x/\b∈s.fz:=by
 unfold lO at h
 split at h
 ·rename_i hb;exact⟨h,hb⟩
 ·cases h
def RZ(blk:List BSh)(j:Nat):Prop:=∃x,blk[j]? =some x/\gW x=true
def Ei(blk:List BSh)(j:Nat):Prop:=∃k C t,blk[j]? =some (.obj k C t)
structure FinRel(blk:List BSh)(ρ:Rho)(w:World)(ρ':Rho)(wx:World):Prop where
 kept:Kept ρ.own w.heap.size w wx
 frz:∀b x,ρ.frz b=some x->ρ'.frz b=some x
 frzB:∀b x,ρ'.frz0 b=some x->b<w.heap.size->ρ.frz b=some x
 ownx:∀x,ρ'.own x->∃j g h,h.blk=x/\ρ'.at_ (base+j) g=some h/\j<64/\(w.heap.size<=x∨(ρ.own x/\∃g',ρ.at_ (base+j) g'=some h))
 stb:∀j h,RZ blk j->ρ.at_ (base+j) 0=some h->ρ'.at_ (base+j) 0=some h
 objs:∀j g h,Ei blk j->ρ.at_ (base+j) g=some h->ρ'.at_ (base+j) g=some h
def OwnOk(ρ:Rho):Prop:=∀x,ρ.own x->∃j g h,h.blk=x/\ρ.at_ (base+j) g=some h/\j<64
theorem OwnOk.B{ρ:Rho}(h:OwnOk ρ):∀x,ρ.own x->∃b g h,b<base+64/\ρ.at_ b g=some h/\h.blk=x:=fun x hx=>by
 obtain⟨j,g,h,q1,q2,q3⟩:=h x hx
 exact⟨base+j,g,h,by omega,q2,q1⟩
theorem FinRel.of_le{blk:List BSh}{ρ ρ':Rho}{w:World}(hle:ρ.le ρ')(ho:OwnOk ρ)(hf:ρ.frz0=ρ.frz):FinRel blk ρ w ρ' w where
 kept:=Kept.refl _ _ _
 frz:=hle.frz
 frzB:=fun b x h _=>by rw[hle.frz0,hf] at h;exact h
 ownx:=fun x hx=>by
  rw[hle.own] at hx
  obtain⟨j,g,h,q1,q2,q3⟩:=ho x hx
  exact⟨j,g,h,q1,hle.at_ _ _ _ q2,q3,.inr ⟨hx,g,q2⟩⟩
 stb:=fun j h _ hh=>hle.at_ _ _ _ hh
 objs:=fun j g h _ hh=>hle.at_ _ _ _ hh
theorem Ej:base+64+1<2 ^ 64:=by decide
def zg(w0:World)(ρ:Rho)(H:T ABlk)(L:Nat->Option (Nat×Nat)):Nat->Prop:=fun x=>∃j h,qz w0.heap.size ρ H L j h/\h.blk=x/\Own ρ w0.heap.size x
theorem JW{B:Nat}(ρ:Rho)(H:T ABlk)(w:World)(L:Nat->Option (Nat×Nat))(b:Nat):jD B ρ H w w L b=ρ.frz b:=by
 unfold jD
 split
 ·rename_i x hx;exact hx.symm
 ·rename_i hx
  rw[hx]
  split
  ·rename_i hc
   rw[aaN hc.1]
  ·rfl
structure Lent(w0:World)(ρ:Rho)(H:T ABlk)(w:World)(L:Nat->Option (Nat×Nat))(blk:List BSh)(z:Sy):Prop where
 good:Good w0 ρ H w
 hb:∀j x,blk[j]? =some x->∃b g,L j=some (b,g)/\∃q,H.get b=some q/\BT ρ (fun _=>none) blk L z x q g
 dom:∀j p,L j=some p->j<blk.length
 inj:∀j j' b g g',L j=some (b,g)->L j'=some (b,g')->j=j'
 n64:blk.length<=64
noncomputable def zh(w0:World)(ρ:Rho)(H:T ABlk)(w:World)(L:Nat->Option (Nat×Nat))(blk:List BSh)(vl:Nat->Value):Rho:=kA w0.heap.size ρ H w w L bL blk.length (zg w0 ρ H L) ρ.frz vl
theorem Lent.mv{w0 w:World}{ρ:Rho}{H:T ABlk}{L:Nat->Option (Nat×Nat)}{blk:List BSh}{z:Sy}(hL:Lent w0 ρ H w L blk z):MvHyp w0 ρ H (fun _=>none) w w w L bL blk z (zg w0 ρ H L) ρ.frz:=
 {good:=hL.good,hb:=hL.hb,dom:=hL.dom,linj:=hL.inj,ginj:=fun a b _ _ e=>by have e:base+a=base+b:=e;omega,g64:=fun j hj=>by have:=Ej;have:=hL.n64;show base+j+1<_;omega,
  g0:=fun _ _ _ _=>rfl,kept:=Kept.refl _ _ _,owns:=fun j h h1 h2=>.inr ⟨j,h,h1,rfl,h2⟩,frF:=fun b x _ hF=>(by cases hF),frz:=fun b x h _=>by rw[JW] at h;exact h}
theorem zi{w0 w wf wb:World}{ρ:Rho}{H:T ABlk}{F:Nat->Option ABlk}{L:Nat->Option (Nat×Nat)}{γ:kz}{blk:List BSh}{y:Sy}{own:Nat->Prop}{frz0:Nat->Option (Array Value×TypeId)}(hm:MvHyp w0 ρ H F w wf wb L γ blk y own frz0)
  {j:Nat} {h:Home} (hh:qz w0.heap.size ρ H L j h) (x7:Own ρ w0.heap.size h.blk) (hj:j<blk.length):∃g,yT w0.heap.size ρ H L γ blk.length (γ j).1 g=some h:=by
 rcases hh with hh|⟨b,g,h1,h2,⟨g',h3⟩,_⟩
 ·by_cases ho:xz H L j
  ·obtain⟨b,g,e1,e2⟩:=jE hh
   exact⟨g,iG hm hj ho e1 e2 x7⟩
  ·exact⟨_,(dM hm hj ho).trans hh⟩
 ·exact⟨g',iG hm hj h2 h1 h3 x7⟩
theorem Lent.ownOk{vl:Nat->Value}{w0 w:World}{ρ:Rho}{H:T ABlk}{L:Nat->Option (Nat×Nat)}{blk:List BSh}{z:Sy}(hL:Lent w0 ρ H w L blk z):OwnOk (zh w0 ρ H w L blk vl):=fun x hx=>by
 obtain⟨j,h,q1,q2,q3⟩:=hx
 obtain⟨b,g,_,e,_⟩:=cQ q1
 have hj:=hL.dom _ _ e
 obtain⟨g',YA⟩:=zi hL.mv q1 (by rw[q2];exact q3) hj
 exact⟨j,g',h,q2,YA,abb hj hL.n64⟩
theorem Lent.to{vl:Nat->Value}{w0 w:World}{ρ:Rho}{H:T ABlk}{L:Nat->Option (Nat×Nat)}{blk:List BSh}{z:Sy}(hL:Lent w0 ρ H w L blk z):Good w (zh w0 ρ H w L blk vl) (ef bL z blk 0 .leaf) w:=
 ⟨hL.mv.to0,hL.ownOk.B⟩
def TabIn(ρ:Rho)(o:Option (Nat×Nat×List Nat)):Prop:=match o with|none=>True|some (g,ty,l)=>g<1048576/\ρ.frz g=some ((l.map fun n=>Value.int .u8 (Int.ofNat n)).toArray,ty)
theorem TabIn.mono{ρ ρ':Rho}{o:Option (Nat×Nat×List Nat)}(hf:∀b x,ρ.frz b=some x->ρ'.frz b=some x)(h:TabIn ρ o):TabIn ρ' o:=by
 match o,h with
 |none,_=>trivial
 |some (g,ty,l),h=>exact⟨h.1,hf _ _ h.2⟩
theorem JX{z:Sy}{blk:List BSh}{g:Nat}(hg:g<1048576):(ef bL z blk 0 .leaf).get g=none:=by
 cases e:(ef bL z blk 0 .leaf).get g with
 |none=>rfl
 |some X=>
  rcases qx blk 0 .leaf g X e with⟨i,x,_,eb,_⟩|⟨h,_⟩
  ·have eb:g=1048576+(0+i):=eb
   omega
  ·simp [T.get] at h
theorem JY:∀{a b:List Nat},xG a b=true->a=b
 | [],[],_=>rfl
 | [],_::_,h=>by cases h
 |_::_,[],h=>by cases h
 |x::a,y::b,h=>by
  obtain⟨h1,h2⟩:=aM (show ac (Nat.beq x y) (xG a b) false=true from h)
  rw[aad h1,JY h2]
theorem Good.addTab{w w0:World}{ρ:Rho}{z:Sy}{blk:List BSh}{o:Option (Nat×Nat×List Nat)}(hG:Good w0 ρ (ef bL z blk 0 .leaf) w)(ht:TabIn ρ o):Good w0 ρ (Go.Sym.addTab o (ef bL z blk 0 .leaf)) w:=by
 match o,ht with
 |none,_=>exact hG
 |some (g,ty,l),ht=>
  obtain⟨hg,hf⟩:=ht
  have hn:=JX (z:=z) (blk:=blk) hg
  have hs:((ef bL z blk 0 .leaf).set g (.tab ty l)).get g=some (.tab ty l):=T.get_set_same _ _ _ (by omega)
  have ho:∀b,b≠g->((ef bL z blk 0 .leaf).set g (.tab ty l)).get b=(ef bL z blk 0 .leaf).get b:=fun b hb=>T.get_set_ne _ hb _
  show Good w0 ρ ((ef bL z blk 0 .leaf).set g (.tab ty l)) w
  refine⟨⟨hG.below,fun b x hx=>?_,fun b g' h hh=>?_,hG.inj,fun b g' h x hh hx=>?_,fun b arr XI hb=>⟨(hG.frz _ _ _ hb).1,fun b' g' h hh e=>?_⟩,hG.frzB,fun b k I l' hx=>?_⟩,hG.ownB⟩
  ·by_cases e:b=g
   ·subst e;rw[hs] at hx;injection hx with hx;subst hx;exact⟨hg,hf⟩
   ·rw[ho _ e] at hx;exact hG.blk _ _ hx
  ·obtain⟨h1,x,h2⟩:=hG.dom _ _ _ hh
   exact⟨h1,x,by rw[ho _ (fun e=>by subst e;rw[hn] at h2;cases h2)];exact h2⟩
  ·by_cases e:b=g
   ·subst e;rw[hs] at hx;injection hx with hx;subst hx;trivial
   ·rw[ho _ e] at hx;exact hG.gens _ _ _ _ hh hx
  ·obtain⟨x,h1,h2⟩:=(hG.frz _ _ _ hb).2 _ _ _ hh e
   exact⟨x,by rw[ho _ (fun e=>by subst e;rw[hn] at h1;cases h1)];exact h1,h2⟩
  ·by_cases e:b=g
   ·subst e;rw[hs] at hx;cases hx
   ·rw[ho _ e] at hx;exact hG.objO _ _ _ _ hx
theorem Good.tabIn{w w0:World}{ρ:Rho}{z:Sy}{H:T ABlk}{o:Option (Nat×Nat×List Nat)}(hg:∀g ty l,o=some (g,ty,l)->g<1048576)(hG:Good w0 ρ (Go.Sym.addTab o H) w):TabIn ρ o:=by
 match o,hg,hG with
 |none,_,_=>trivial
 |some (g,ty,l),hg,hG=>
  have hs:(H.set g (.tab ty l)).get g=some (.tab ty l):=T.get_set_same _ _ _ (by have:=hg g ty l rfl;omega)
  exact hG.blk _ _ hs
theorem vh{w0 w:World}{ρ:Rho}{σ:St}{K:Fin}{o:Option (Nat×Nat×List Nat)}{k:Tr}(hS:SI σ)(hG:Good w0 ρ σ.h w)(h:run (Oi o k) σ K=true):∃c9,c9.h=σ.h/\SI c9/\run k c9 K=true/\TabIn ρ o:=by
 match o,h with
 |none,h=>exact⟨σ,rfl,hS,h,trivial⟩
 |some (g,ty,l),h=>
  obtain⟨f7,h⟩:=ar h
  have f7:=bu f7
  obtain⟨x,c9,h1,h2,h3,h4⟩:=bm hS h
  cases x with
  |tab XI l'=>
   obtain⟨e1,h5⟩:=ar h4
   obtain⟨e2,h6⟩:=ar h5
   have e1:=aad e1
   have e2:=JY e2
   subst e1;subst e2
   exact⟨c9,h2,h3,h6,f7,(hG.blk _ _ h1).2⟩
  |_=>exact(ak h4).elim
theorem frzE(w0:World)(ρ:Rho)(H:T ABlk)(w:World)(L:Nat->Option (Nat×Nat))(blk:List BSh)(vl:Nat->Value):(zh w0 ρ H w L blk vl).frz=(zh w0 ρ H w L blk vl).frz0:=by
 funext b
 exact JW ρ H w L b
theorem gp{ρ:Rho}{F:Nat->Option ABlk}{blk:List BSh}{L:Nat->Option (Nat×Nat)}{y:Sy}{x:BSh}{q:ABlk}{g:Nat}(h:BT ρ F blk L y x q g):(gW x=true->g=0)/\((∃k C t,x= .obj k C t)↔∃k I l,q= .obj k I l)/\¬xx q:=by
 cases x with
 |cells ty l=>obtain⟨e0,c,as,e,_⟩:=h;subst e;exact⟨fun _=>e0,⟨fun⟨_,_,_,e⟩=>(by cases e),fun⟨_,_,_,e⟩=>(by cases e)⟩,fun h=>h⟩
 |grow m ty t=>have h:q=_:=h;subst h;exact⟨fun e=>(by cases e),⟨fun⟨_,_,_,e⟩=>(by cases e),fun⟨_,_,_,e⟩=>(by cases e)⟩,fun h=>h⟩
 |growb ty t=>have h:q=_:=h;subst h;exact⟨fun e=>(by cases e),⟨fun⟨_,_,_,e⟩=>(by cases e),fun⟨_,_,_,e⟩=>(by cases e)⟩,fun h=>h⟩
 |arr m ty t=>obtain⟨e0,e,_⟩:=h;subst e;exact⟨fun _=>e0,⟨fun⟨_,_,_,e⟩=>(by cases e),fun⟨_,_,_,e⟩=>(by cases e)⟩,fun h=>h⟩
 |arb ty t=>obtain⟨e0,e,_⟩:=h;subst e;exact⟨fun _=>e0,⟨fun⟨_,_,_,e⟩=>(by cases e),fun⟨_,_,_,e⟩=>(by cases e)⟩,fun h=>h⟩
 |sm m t=>
  obtain⟨e0,e|⟨c,e,_⟩⟩:=h <;> (subst e;exact⟨fun _=>e0,⟨fun⟨_,_,_,e⟩=>(by cases e),fun⟨_,_,_,e⟩=>(by cases e)⟩,fun h=>h⟩)
 |obj k C t=>obtain⟨e0,e⟩:=h;subst e;exact⟨fun _=>e0,⟨fun _=>⟨_,_,_,rfl⟩,fun _=>⟨_,_,_,rfl⟩⟩,fun h=>h⟩
theorem QV{vl:Nat->Value}{w0 w wx w':World}{ρ ρ':Rho}{H H':T ABlk}{F:Nat->Option ABlk}{L LF:Nat->Option (Nat×Nat)}{blk out:List BSh}{z y:Sy}{γ:kz}(hL:Lent w0 ρ H w L blk z)(Yw:oI blk out=true)
  (hγ:∀j x b g,blk[j]? =some x->L j=some (b,g)->γ j=(b,Ef x g))
  (hγn:∀j,blk.length<=j->j<out.length->(γ j).2=0/\(∀g,ρ.at_ (γ j).1 g=none)/\(∃X0,H.get (γ j).1=some X0/\¬xx X0)/\(∀i b g,L i=some (b,g)->b≠(γ j).1)/\∀i,blk.length<=i->i<out.length->(γ i).1=(γ j).1->i=j)
  (d8:∀i,i<out.length->(γ i).1+1<2 ^ 64)
  (i6:Good wx ρ' H' w') (hF:FinRel blk (zh w0 ρ H w L blk vl) w ρ' wx) (hFF:∀b x,F b=some x->H'.get b=some x/\∀j g,LF j≠some (b,g))
  (t2:∀j x,out[j]? =some x->∃b g,LF j=some (b,g)/\∃q,H'.get b=some q/\BT ρ' F out LF y x q g)
  (t3:∀j b g,LF j=some (b,g)->j<out.length/\(j<blk.length->b=base+j∨(base+64<=b/\∃y,out[j]? =some y/\gW y=false))/\(blk.length<=j->base+64<=b)) (t4:∀j j' b g g',LF j=some (b,g)->LF j'=some (b,g')->j=j'):
  ∃ρ2:Rho,Good w0 ρ2 (ef γ y out 0 H) w'/\ρ.le ρ2/\(∀x a v,TvA F out LF y x a->VR ρ' a v->VR ρ2 (iD γ y x) v)/\∀x a v,TvR F out LF y x a->VR ρ' a v->VR ρ2 (BJ γ y x) v:=by
 obtain⟨hkl,Yw⟩:=y_ Yw
 have i7:=hL.good
 have hsx:=hF.kept.size
 have ac8:=hL.n64
 have j8:∀j,j<blk.length->∃x b g q,blk[j]? =some x/\L j=some (b,g)/\H.get b=some q/\BT ρ (fun _=>none) blk L z x q g:=fun j hj=>by
  obtain⟨b,g,q1,q,q2,q3⟩:=hL.hb j _ (aah hj)
  exact⟨_,b,g,q,aah hj,q1,q2,q3⟩
 have ac1:∀x,ρ'.own x->w.heap.size<=x∨zg w0 ρ H L x:=fun x hx=>by
  obtain⟨j,g,h,_,_,_,q|q⟩:=hF.ownx x hx
  ·exact .inl q
  ·exact .inr q.1
 have Za:∀b g h,base+64<=b->ρ'.at_ b g=some h->Own ρ' wx.heap.size h.blk->w.heap.size<=h.blk:=fun b g h hb hh ho=>by
  rcases ho with ho|ho
  ·omega
  ·obtain⟨j,g0,h0,q2,q3,hj,_⟩:=hF.ownx _ ho
   have:=(i6.inj _ _ _ _ _ _ q3 hh q2).1
   omega
 have X7:MvHyp wx ρ' H' F w' w w LF γ out y (zg w0 ρ H L) ρ.frz:=
  {good:=i6,hb:=t2,dom:=fun j p h=>(t3 j p.1 p.2 h).1,linj:=t4,
   ginj:=fun a b ha hb e=>by
    rcases aaf a blk.length with Zz|Zz <;> rcases aaf b blk.length with O'|O'
    ·obtain⟨x1,b1,g1,_,q1,q2,_⟩:=j8 a Zz
     obtain⟨x2,b2,g2,_,r1,r2,_⟩:=j8 b O'
     rw[hγ _ _ _ _ q1 q2,hγ _ _ _ _ r1 r2] at e
     have e:b1=b2:=e
     subst e
     exact hL.inj _ _ _ _ _ q2 r2
    ·obtain⟨x1,b1,g1,_,q1,q2,_⟩:=j8 a Zz
     rw[hγ _ _ _ _ q1 q2] at e
     exact absurd e ((hγn b O' hb).2.2.2.1 _ _ _ q2)
    ·obtain⟨x1,b1,g1,_,q1,q2,_⟩:=j8 b O'
     rw[hγ _ _ _ _ q1 q2] at e
     exact absurd e.symm ((hγn a Zz ha).2.2.2.1 _ _ _ q2)
    ·exact(hγn b O' hb).2.2.2.2 a Zz ha e,
   g64:=d8,
   g0:=fun j x hx s8=>by
    have ZF:j<out.length:=by
     rcases aaf j out.length with h'|h'
     ·exact h'
     ·rw[aaj h'] at hx;cases hx
    rcases aaf j blk.length with hj|hj
    ·obtain⟨x0,b,g,q,q1,q2,q3,q4⟩:=j8 j hj
     have hs:=fO (Yw j x0 x q1 hx)
     rw[hγ _ _ _ _ q1 q2]
     show ac (gW x0) g (g+1)=0
     rw[hs,s8]
     exact(gp q4).1 (hs.trans s8)
    ·exact(hγn j hj ZF).1,
   kept:=by
    refine hF.kept.trans ⟨i6.below.os,i6.below.tape,i6.below.output,i6.below.size,fun x hx ho=>i6.below.block x (by omega) fun hpo=>?_⟩
    rcases ac1 x hpo with h|h
    ·omega
    ·exact ho h,
   owns:=fun j h _ h2=>by
    rcases h2 with h2|h2
    ·exact .inl (by omega)
    ·exact ac1 _ h2,
   frF:=fun b x hb hF'=>⟨(hFF b x hF').1,(hFF b x hF').2,fun g h hh ho=>Za b g h hb hh ho⟩,
   frz:=fun b x hx f7=>by
    unfold jD at hx
    split at hx
    ·rename_i x' Xz
     injection hx with hx
     subst hx
     have:=hF.frzB b _ (i6.frzB b _ Xz (by omega)) f7
     have h:jD w0.heap.size ρ H w w L b=some x':=this
     rw[JW] at h
     exact h
    ·split at hx
     ·rename_i hc;omega
     ·cases hx}
 have hGp:=X7.to0 (vl:=ρ.val)
 have ac2:∀j x,out[j]? =some x->(ef γ y out 0 .leaf).get (γ j).1=some (lm γ y j x):=fun j x hx=>by
  have:=qy (γ:=γ) (y:=y) out 0 .leaf j x hx (fun i hi=>by rw[aak];exact X7.g64 i hi) (fun a b ha hb e=>X7.ginj a b ha hb (by simpa using e))
  simpa using this
 have YX:∀b X,(ef γ y out 0 .leaf).get b=some X->∃j x,out[j]? =some x/\b=(γ j).1/\X=lm γ y j x/\j<out.length:=fun b X hX=>by
  rcases qx out 0 .leaf b X hX with⟨j,x,hx,q1,q2⟩|⟨h,_⟩
  ·have hj:j<out.length:=by
    rcases aaf j out.length with h'|h'
    ·exact h'
    ·rw[aaj h'] at hx;cases hx
   exact⟨j,x,hx,by rw[q1,aak],by rw[q2,aak],hj⟩
  ·simp [T.get] at h
 have XY:∀b g h,(w.heap.size<=h.blk)->ρ.at_ b g=none->ρ.at_ b g=some h∨(ρ.at_ b g=none/\∀b' g' h',ρ.at_ b' g'=some h'->h'.blk=h.blk->b'=b/\h'=h):=fun b g h X_ hn=>
  .inr ⟨hn,fun b' g' h' i4 e=>by have:=(i7.dom _ _ _ i4).1;omega⟩
 have Z4:∀b g h,(kA wx.heap.size ρ' H' w' w LF γ out.length (zg w0 ρ H L) ρ.frz ρ.val).at_ b g=some h->
   ρ.at_ b g=some h∨(ρ.at_ b g=none/\∀b' g' h',ρ.at_ b' g'=some h'->h'.blk=h.blk->b'=b/\h'=h):=fun b g h hh=>by
  obtain⟨j,ZF,eb,hGj⟩:=dN hh
  obtain⟨hA,Zu⟩:=dL hGj
  have hxo:=aah ZF
  obtain⟨bF,gF,Zb,qo,YN,YY⟩:=t2 j _ hxo
  obtain⟨kb1,kb2,_⟩:=gp YY
  obtain⟨e3a,e3b,e3c⟩:=t3 _ _ _ Zb
  rcases aaf j blk.length with hj|hj
  ·obtain⟨x,b0,g0,q,q1,q2,q3,q4⟩:=j8 j hj
   have p9:=Yw j x _ q1 hxo
   have Y2:=hγ _ _ _ _ q1 q2
   rw[Y2] at eb
   have eb:b0=b:=eb
   subst eb
   rcases e3b hj with eF|⟨eF,xo',ab4,aj1⟩
   ·subst eF
    obtain⟨ka1,ka2,_⟩:=gp q4
    by_cases XJ:∃k C t,x= .obj k C t
    ·
     have ag_:=(kj p9).1 XJ
     obtain⟨k,I,l,eqo⟩:=kb2.1 ag_
     obtain⟨k0,I0,l0,eq⟩:=ka2.1 XJ
     subst eqo;subst eq
     have hOF:xz H' LF j:=⟨_,_,_,_,_,Zb,YN⟩
     have hOL:xz H L j:=⟨_,_,_,_,_,q2,q3⟩
     have ad4:ρ'.at_ (base+j) g=some h:=by
      rcases Zu with⟨_,b2,g2,e1,e2⟩|⟨hn,_⟩
      ·rw[Zb] at e1;injection e1 with e1;injection e1 with e1 _
       rw[←e1] at e2;exact e2
      ·exact absurd hOF hn
     have ad5:Ei blk j:=by obtain⟨k,C,t,e⟩:=XJ;exact⟨k,C,t,by rw[q1,e]⟩
     cases hr:ρ.at_ b0 g with
     |some h0=>
      have ho:=i7.objO _ _ _ _ q3 _ _ hr
      have h1:=hF.objs j g h0 ad5 (iG hL.mv hj hOL q2 hr ho)
      rw[ad4] at h1;injection h1 with h1
      subst h1
      exact .inl rfl
     |none=>
      have ho:=i6.objO _ _ _ _ YN _ _ ad4
      refine .inr ⟨rfl,fun b' g' h' i4 e=>?_⟩
      have f7:=(i7.dom _ _ _ i4).1
      rcases ho with ho|ho
      ·rw[←e] at ho;omega
      ·obtain⟨j2,g2,h2,s1,s2,_,Zc⟩:=hF.ownx _ ho
       obtain⟨u1,u2⟩:=i6.inj _ _ _ _ _ _ s2 ad4 s1
       have:j2=j:=by omega
       subst this;subst u2
       rcases Zc with Zc|⟨_,g5,Zc⟩
       ·rw[←e] at Zc;omega
       ·obtain⟨j3,_,e5,XD⟩:=dN (show yT w0.heap.size ρ H L bL blk.length (base+j2) g5=some h2 from Zc)
        have e5:base+j3=base+j2:=e5
        have:j3=j2:=by omega
        subst this
        obtain⟨b3,g3,g4,hL3,ad6⟩:=cQ (dL XD).1
        rw[q2] at hL3;injection hL3 with hL3;injection hL3 with e6 _
        subst e6
        exact i7.inj _ _ _ _ _ _ i4 ad6 e
    ·have hnO:¬xz H' LF j:=fun⟨b2,g2,k,I,l,e1,e2⟩=>by
      rw[Zb] at e1;injection e1 with e1;injection e1 with e1 _
      subst e1
      rw[YN] at e2;injection e2 with e2
      exact XJ ((kj p9).2 (kb2.2 ⟨k,I,l,e2⟩))
     have aj2:¬xz H L j:=fun⟨b2,g2,k,I,l,e1,e2⟩=>by
      rw[q2] at e1;injection e1 with e1;injection e1 with e1 _
      subst e1
      rw[q3] at e2;injection e2 with e2
      exact XJ (ka2.2 ⟨k,I,l,e2⟩)
     have hJ:g=(γ j).2/\bv ρ' H' LF j=some h:=by
      rcases Zu with⟨ho,_⟩|⟨_,e1,e2⟩
      ·exact absurd ho hnO
      ·exact⟨e1,e2⟩
     obtain⟨eg,hJ⟩:=hJ
     rw[Y2] at eg
     obtain⟨b1,g1,X1,V'⟩:=jE hJ
     rw[Zb] at X1;injection X1 with X1;injection X1 with e1 e2
     subst e1;subst e2
     cases s8:gW x with
     |true=>
      have eg:g=g0:=by rw[eg];show ac (gW x) g0 (g0+1)=g0;rw[s8];rfl
      have e0:=ka1 s8
      subst e0;subst eg
      have eF0:=kb1 ((fO p9).symm.trans s8)
      subst eF0
      have:∃h0,ρ.at_ b0 0=some h0/\bv ρ H L j=some h0:=by
       cases x with
       |cells ty l=>
        obtain⟨_,c,as,eq,_⟩:=q4
        subst eq
        obtain⟨h0,r1,_⟩:=(i7.blk _ _ q3).2 0 (aaa _)
        exact⟨h0,r1,by unfold bv;rw[q2];simp only [q3,r1]⟩
       |arr m ty t=>
        obtain⟨_,e,j4⟩:=q4
        subst e
        have o8:¬(Ct.rows m (z.g t)).len=0:=by show ¬(z.g t).length=0;omega
        rcases i7.blk _ _ q3 with h0|⟨h0,r1,_⟩
        ·exact absurd h0 o8
        ·exact⟨h0,r1,by unfold bv;rw[q2];simp only [q3];rw[if_neg o8];exact r1⟩
       |arb ty t=>
        obtain⟨_,e,j4⟩:=q4
        subst e
        have o8:¬(Ct.bytes (z.s t)).len=0:=by show ¬(z.s t).length=0;omega
        rcases i7.blk _ _ q3 with h0|⟨h0,r1,_⟩
        ·exact absurd h0 o8
        ·exact⟨h0,r1,by unfold bv;rw[q2];simp only [q3];rw[if_neg o8];exact r1⟩
       |sm m t=>
        obtain⟨_,e|⟨c,e,_⟩⟩:=q4
        ·subst e
         obtain⟨h0,r1,_⟩:=i7.blk _ _ q3
         exact⟨h0,r1,by unfold bv;rw[q2];simp only [q3,r1]⟩
        ·subst e
         obtain⟨h0,r1,_⟩:=i7.blk _ _ q3
         exact⟨h0,r1,by unfold bv;rw[q2];simp only [q3,r1]⟩
       |obj k C t=>exact absurd ⟨_,_,_,rfl⟩ XJ
       |grow m ty t=>cases s8
       |growb ty t=>cases s8
      obtain⟨h0,r1,hJ0⟩:=this
      have:=hF.stb j h0 ⟨x,q1,s8⟩ ((dM hL.mv hj aj2).trans hJ0)
      rw[V'] at this
      injection this with this
      subst this
      exact .inl r1
     |false=>
      have eg:g=g0+1:=by rw[eg];show ac (gW x) g0 (g0+1)=g0+1;rw[s8];rfl
      subst eg
      have hqg:∃ct ty,q= .grow ct g0 ty:=by
       cases x with
       |grow m ty t=>exact⟨_,_,q4⟩
       |growb ty t=>exact⟨_,_,q4⟩
       |_=>cases s8
      obtain⟨ct,ty,eq⟩:=hqg
      subst eq
      have G':ρ.at_ b0 (g0+1)=none:=by
       cases hn:ρ.at_ b0 (g0+1) with
       |none=>rfl
       |some hh=>
        have:g0+1<=g0:=i7.gens _ _ _ _ hn q3
        omega
      refine .inr ⟨G',fun b' g' h' i4 e=>?_⟩
      have f7:=(i7.dom _ _ _ i4).1
      have ad7:∃ct ty,qo= .grow ct gF ty/\ct.len≠0:=by
       have hso:=(fO p9).symm.trans s8
       have:∃ct ty,qo= .grow ct gF ty:=by
        generalize out[j]=xo at *
        cases xo with
        |grow m ty t=>exact⟨_,_,YY⟩
        |growb ty t=>exact⟨_,_,YY⟩
        |_=>cases hso
       obtain⟨ct,ty,e⟩:=this
       refine⟨ct,ty,e,fun h0=>?_⟩
       unfold bv at hJ
       rw[Zb] at hJ
       simp only [YN,e,if_pos h0] at hJ
       cases hJ
      obtain⟨cto,tyo,eqo,o8⟩:=ad7
      subst eqo
      rcases i6.blk _ _ YN with h0|⟨K',r1,r2,r3,_⟩
      ·exact absurd h0 o8
      rw[V'] at r1;injection r1 with r1;subst r1
      rcases r3 with r3|r3
      ·rw[←e] at r3;omega
      ·obtain⟨j2,g2,h2,s2',s3',_,Zc⟩:=hF.ownx _ r3
       obtain⟨u1,u2⟩:=i6.inj _ _ _ _ _ _ s3' V' s2'
       have:j2=j:=by omega
       subst this
       subst u2
       rcases Zc with Zc|⟨_,g5,Zc⟩
       ·rw[←e] at Zc;omega
       ·obtain⟨j3,_,e5,XD⟩:=dN (show yT w0.heap.size ρ H L bL blk.length (base+j2) g5=some h2 from Zc)
        have e5:base+j3=base+j2:=e5
        have:j3=j2:=by omega
        subst this
        obtain⟨b3,g3,g4,hL3,ad6⟩:=cQ (dL XD).1
        rw[q2] at hL3;injection hL3 with hL3;injection hL3 with e6 _
        subst e6
        exact i7.inj _ _ _ _ _ _ i4 ad6 e
   ·
    rw[hxo] at ab4;injection ab4 with ab4
    have Z6:gW x=false:=by rw[fO p9,ab4];exact aj1
    have hnO:¬xz H' LF j:=fun⟨b2,g2,k,I,l,e1,e2⟩=>by
     rw[Zb] at e1;injection e1 with e1;injection e1 with e1 _
     subst e1
     rw[YN] at e2;injection e2 with e2
     obtain⟨_,_,_,e⟩:=(kj p9).2 (kb2.2 ⟨k,I,l,e2⟩)
     rw[e] at Z6;cases Z6
    have hJ:g=(γ j).2/\bv ρ' H' LF j=some h:=by
     rcases Zu with⟨ho,_⟩|⟨_,e1,e2⟩
     ·exact absurd ho hnO
     ·exact⟨e1,e2⟩
    obtain⟨eg,hJ⟩:=hJ
    rw[Y2] at eg
    obtain⟨b1,g1,X1,V'⟩:=jE hJ
    rw[Zb] at X1;injection X1 with X1;injection X1 with e1 e2
    subst e1;subst e2
    have eg:g=g0+1:=by rw[eg];show ac (gW x) g0 (g0+1)=g0+1;rw[Z6];rfl
    subst eg
    have hqg:∃ct ty,q= .grow ct g0 ty:=by
     cases x with
     |grow m ty t=>exact⟨_,_,q4⟩
     |growb ty t=>exact⟨_,_,q4⟩
     |_=>cases Z6
    obtain⟨ct,ty,eq⟩:=hqg
    subst eq
    have G':ρ.at_ b0 (g0+1)=none:=by
     cases hn:ρ.at_ b0 (g0+1) with
     |none=>rfl
     |some hh=>
      have:g0+1<=g0:=i7.gens _ _ _ _ hn q3
      omega
    have ad7:∃ct ty,qo= .grow ct gF ty/\ct.len≠0:=by
     have hso:=(fO p9).symm.trans Z6
     have:∃ct ty,qo= .grow ct gF ty:=by
      generalize out[j]=xo at *
      cases xo with
      |grow m ty t=>exact⟨_,_,YY⟩
      |growb ty t=>exact⟨_,_,YY⟩
      |_=>cases hso
     obtain⟨ct,ty,e⟩:=this
     refine⟨ct,ty,e,fun h0=>?_⟩
     unfold bv at hJ
     rw[Zb] at hJ
     simp only [YN,e,if_pos h0] at hJ
     cases hJ
    obtain⟨cto,tyo,eqo,o8⟩:=ad7
    subst eqo
    rcases i6.blk _ _ YN with h0|⟨K',r1,r2,r3,_⟩
    ·exact absurd h0 o8
    rw[V'] at r1;injection r1 with r1;subst r1
    exact XY _ _ _ (Za _ _ _ eF V' r3) G'
  ·
   obtain⟨n1,n2,n3,n4,n5⟩:=hγn j hj ZF
   have eF:=e3c hj
   have G':ρ.at_ b g=none:=by rw[←eb];exact n2 g
   refine XY b g h ?_ G'
   have:∃g1,ρ'.at_ bF g1=some h/\Own ρ' wx.heap.size h.blk:=by
    rcases Zu with⟨⟨b5,g5,k,I,l,e8,e9⟩,b2,g2,e1,e2⟩|⟨hnO,_,hJ⟩
    ·rw[Zb] at e1;injection e1 with e1;injection e1 with e1 _
     subst e1
     rw[Zb] at e8;injection e8 with e8;injection e8 with e8 _
     subst e8
     exact⟨g,e2,i6.objO _ _ _ _ e9 _ _ e2⟩
    ·obtain⟨b1,g1,X1,V'⟩:=jE hJ
     rw[Zb] at X1;injection X1 with X1;injection X1 with e1 e2
     subst e1;subst e2
     refine⟨gF,V', ?_⟩
     generalize out[j]=xo at YY
     cases xo with
     |cells ty l=>
      obtain⟨e0,c,as,eq,_⟩:=YY
      subst e0;subst eq
      obtain⟨h0,r1,r2,_⟩:=(i6.blk _ _ YN).2 0 (aaa _)
      rw[V'] at r1;injection r1 with r1;subst r1
      exact r2 rfl
     |arr m ty t=>
      obtain⟨e0,e,j4⟩:=YY
      subst e0;subst e
      rcases i6.blk _ _ YN with h0|⟨h0,r1,_,r2,_⟩
      ·have h0:(y.g t).length=0:=h0
       omega
      ·rw[V'] at r1;injection r1 with r1;subst r1
       exact r2
     |arb ty t=>
      obtain⟨e0,e,j4⟩:=YY
      subst e0;subst e
      rcases i6.blk _ _ YN with h0|⟨h0,r1,_,r2,_⟩
      ·have h0:(y.s t).length=0:=h0
       omega
      ·rw[V'] at r1;injection r1 with r1;subst r1
       exact r2
     |sm m t=>
      obtain⟨e0,e|⟨c,e,_⟩⟩:=YY
      ·subst e0;subst e
       obtain⟨h0,r1,r2,_⟩:=i6.blk _ _ YN
       rw[V'] at r1;injection r1 with r1;subst r1
       exact r2
      ·subst e0;subst e
       obtain⟨h0,r1,r2,_⟩:=i6.blk _ _ YN
       rw[V'] at r1;injection r1 with r1;subst r1
       exact r2
     |obj k C t=>obtain⟨e0,e⟩:=YY;subst e;exact absurd ⟨_,_,_,_,_,Zb,YN⟩ hnO
     |grow m ty t=>
      have YY:qo=_:=YY
      subst YY
      rcases i6.blk _ _ YN with h0|⟨K',r1,r2,r3,_⟩
      ·unfold bv at hJ
       rw[Zb] at hJ
       simp only [YN,if_pos h0] at hJ
       cases hJ
      ·rw[V'] at r1;injection r1 with r1;subst r1
       exact r3
     |growb ty t=>
      have YY:qo=_:=YY
      subst YY
      rcases i6.blk _ _ YN with h0|⟨K',r1,r2,r3,_⟩
      ·unfold bv at hJ
       rw[Zb] at hJ
       simp only [YN,if_pos h0] at hJ
       cases hJ
      ·rw[V'] at r1;injection r1 with r1;subst r1
       exact r3
   obtain⟨g1,r1,r2⟩:=this
   exact Za _ _ _ eF r1 r2
 have Ym:∀j,j<out.length->(j<blk.length/\∃x b0 g0 q,blk[j]? =some x/\L j=some (b0,g0)/\H.get b0=some q/\BT ρ (fun _=>none) blk L z x q g0/\γ j=(b0,Ef x g0))∨blk.length<=j:=fun j hj=>by
  rcases aaf j blk.length with h|h
  ·obtain⟨x,b0,g0,q,q1,q2,q3,q4⟩:=j8 j h
   exact .inl ⟨h,x,b0,g0,q,q1,q2,q3,q4,hγ _ _ _ _ q1 q2⟩
  ·exact .inr h
 obtain⟨ρ2,m1,m2,m3,m4,m5⟩:=UK (H2:=ef γ y out 0 H) i7 hGp (fun b=>by
   cases hp:(ef γ y out 0 .leaf).get b with
   |some X=>
    obtain⟨j,x,hx,q1,q2,_⟩:=YX b X hp
    subst q1
    have:=qy (γ:=γ) (y:=y) out 0 H j x hx (fun i hi=>by rw[aak];exact X7.g64 i hi) (fun a b ha hb e=>X7.ginj a b ha hb (by simpa using e))
    rw[aak] at this
    rw[this,q2]
   |none=>
    refine BO _ _ _ _ fun i hi e=>?_
    rw[aak] at e
    have:=ac2 i _ (aah hi)
    rw[←e,hp] at this
    cases this)
  (fun x hx=>by
   obtain⟨_,_,_,_,q⟩:=hx
   exact q) rfl (fun b x hx=>dO (hF.frz _ _ (dO hx))) rfl
  Z4
  (fun b g h X hh hX=>by
   obtain⟨j,xo,hx,q1,q2,ZF⟩:=YX b X hX
   subst q1;subst q2
   rcases Ym j ZF with⟨hj,x,b0,g0,q,r1,r2,r3,r4,YF⟩|hj
   ·have p9:=Yw j x xo r1 hx
    rw[YF] at hh
    have XO:=i7.gens _ _ _ _ hh r3
    obtain⟨ka1,ka2,_⟩:=gp r4
    cases xo with
    |cells ty l=>
     cases x with
     |cells XI l'=>
      obtain⟨eg,cc,as,eq,_⟩:=r4
      subst eq
      exact XO
     |_=>cases p9
    |grow m ty t=>
     cases x with
     |grow m' XI t'=>
      have eq:q=_:=r4
      subst eq
      have XO:g<=g0:=XO
      show g<=(γ j).2
      rw[YF];show g<=g0+1;omega
     |_=>cases p9
    |growb ty t=>
     cases x with
     |growb XI t'=>
      have eq:q=_:=r4
      subst eq
      have XO:g<=g0:=XO
      show g<=(γ j).2
      rw[YF];show g<=g0+1;omega
     |_=>cases p9
    |sm m t=>trivial
    |obj k C t=>trivial
    |arr m ty t=>
     cases x with
     |arr m' XI t'=>
      obtain⟨eg,eq,_⟩:=r4
      subst eq
      exact XO
     |_=>cases p9
    |arb ty t=>
     cases x with
     |arb XI t'=>
      obtain⟨eg,eq,_⟩:=r4
      subst eq
      exact XO
     |_=>cases p9
   ·rw[(hγn j hj ZF).2.1 g] at hh;cases hh)
  (fun b X hX=>by
   obtain⟨j,xo,hx,q1,q2,ZF⟩:=YX b X hX
   subst q1
   rcases Ym j ZF with⟨hj,x,b0,g0,q,r1,r2,r3,r4,YF⟩|hj
   ·rw[YF];exact⟨q,r3,(gp r4).2.2⟩
   ·exact(hγn j hj ZF).2.2.1)
  (fun b g h hh hn ho=>by
   obtain⟨j,h0,q1,q2,x7⟩:=ho
   obtain⟨b0,g0,g1,hL',q9⟩:=cQ q1
   have hj:=hL.dom _ _ hL'
   have e:=(i7.inj _ _ _ _ _ _ q9 hh q2).1
   subst e
   obtain⟨x,b1,g1',q,r1,r2,r3,r4⟩:=j8 j hj
   rw[hL'] at r2;injection r2 with r2;injection r2 with e1 e2
   subst e1;subst e2
   have:=ac2 j _ (aah (by omega:j<out.length))
   rw[hγ _ _ _ _ r1 hL',hn] at this
   cases this)
  (fun b k I l hX=>by
   obtain⟨j,xo,hx,q1,q2,ZF⟩:=YX b _ hX
   subst q1
   rcases Ym j ZF with⟨hj,x,b0,g0,q,r1,r2,r3,r4,YF⟩|hj
   ·refine .inl ?_
    rw[YF]
    have p9:=Yw j x xo r1 hx
    cases xo with
    |obj k' C t=>
     obtain⟨k0,I0,l0,e⟩:=(gp r4).2.1.1 ((kj p9).2 ⟨_,_,_,rfl⟩)
     exact⟨k0,I0,l0,by rw[r3,e]⟩
    |_=>cases q2
   ·exact .inr (hγn j hj ZF).2.1)
  (fun b X hX=>by
   obtain⟨j,xo,hx,q1,q2,hj⟩:=YX b X hX
   subst q2
   cases xo with
   |cells ty c=>exact .inl ⟨_,_,_,rfl⟩
   |grow m ty t=>exact .inr (.inl ⟨_,_,_,rfl⟩)
   |growb ty t=>exact .inr (.inl ⟨_,_,_,rfl⟩)
   |sm m t=>exact .inr (.inr (.inl ⟨_,_,rfl⟩))
   |arr m ty t=>exact .inr (.inl ⟨_,_,_,rfl⟩)
   |arb ty t=>exact .inr (.inl ⟨_,_,_,rfl⟩)
   |obj k C t=>exact .inr (.inr (.inr ⟨_,_,_,rfl⟩)))
 exact⟨ρ2,m1,m2,fun x a v h hv=>(TvA.vr X7 h hv).into m3 m4 (fun b x hx=>by rw[m5];exact hx),fun x a v h hv=>(TvR.vr X7 h hv).into m3 m4 (fun b x hx=>by rw[m5];exact hx)⟩
def jG(P:Program)(f:Nat)(S:FSpec)(zf:(z:Sy)->{y:Sy // S.pre z->S.post z y}):Prop:=
 ∀z,S.pre z->∀(w:World) (ρ:Rho) (vs:List Value),Good w ρ (S.heap z) w->LR ρ (S.argsA z) vs->
  (∀args:Array Value,(callFunc f args).run P w= .ok (.enter f args) w)/\CallsIn Fence.wide 0 P f vs.toArray w fun e w'=>∃v ρ' H' a s,e= .returned v/\Good w ρ' H' w'/\ρ.le ρ'/\VR ρ' a v/\
   gm S.blk.length H' (S.res z) (S.out z) a=some s/\s.pr/\(zf z).1=aX s.tm
theorem Ek{blk:List BSh}{s1 s2:PS}{H:T ABlk}(hG:Good w0 ρ H w)(YD:kN blk s1.ln s1=some s2)(hp:s2.pr)(w9:uZ ρ blk H s1 blk 0)(d8:blk.length<=64)(ab3:kO blk.length s2.loc=true):Lent w0 ρ H w s2.L blk (aX s2.tm):=by
 obtain⟨f1,f2,f3,f4,_⟩:=eS YD
 have YK:=ki YD hp
 refine⟨hG,fun j x hx=>?_,fun j p h=>tz ab3 _ (dC h),fun j j' b g g' h1 h2=>?_,d8⟩
 ·obtain⟨b,g,q1,q,q2,q3⟩:=w9 j x hx
  rw[aak] at q1
  exact⟨b,g,f1.loc _ _ q1,q,q2,q3 ρ (.refl _) s2 f1 hp YK⟩
 ·have:=tA ab3 _ (dC h1) _ (dC h2) rfl
  exact congrArg Prod.fst this
theorem El{blk:List BSh}{s:PS}{j b g:Nat}{x:BSh}(hx:blk[j]? =some x)(hL:s.L j=some (b,g)):oU blk (nE s) j=(b,Ef x g):=by
 have e:nE s j=(b,g):=by unfold nE;rw[show bA j s.loc=some (b,g) from hL]
 unfold oU
 rw[hx,e]
theorem Oo{k:List Nat->Tr}:∀{l:List BSh} {σ:St},SI σ->Good w0 ρ σ.h w->run (Om l k) σ K=true->
  ∃bs c9,run (k bs) c9 K=true/\SI c9/\Good w0 ρ c9.h w/\bs.length=l.length/\(∀b X,σ.h.get b=some X->c9.h.get b=some X)/\(∀b∈bs,σ.h.get b=none/\∃X,c9.h.get b=some X/\¬xx X)/\bs.Nodup:=by
 intro l
 induction l generalizing k with
 |nil=>intro σ hS hG h;exact⟨[],σ,h,hS,hG,rfl,fun _ _ h=>h,(fun b hb=>by cases hb),List.nodup_nil⟩
 |cons x l ih=>
  intro σ hS hG h
  have h:run (.new (.grow (.bytes []) 0 0) fun b=>Om l fun bs=>k (b::bs)) σ K=true:=h
  obtain⟨n,d6,hn,d8,e1,d5,h1⟩:=dI hS h
  have d7:Good w0 ρ d6.h w:=by rw[e1];exact hG.none_new hn d8 rfl
  obtain⟨bs,f9,q1,q2,q3,q4,q5,q6,q7⟩:=ih (k:=fun bs=>k (n::bs)) d5 d7 h1
  have Y7:d6.h.get n=some (.grow (.bytes []) 0 0):=by rw[e1];exact T.get_set_same _ _ _ d8
  refine⟨n::bs,f9,q1,q2,q3,by simp [q4],fun b X hX=>q5 b X ?_,fun b hb=>?_,List.nodup_cons.2 ⟨fun hm=>?_,q7⟩⟩
  ·rw[e1,T.get_set_ne _ (fun e=>by subst e;rw[hn] at hX;cases hX)];exact hX
  ·rcases List.mem_cons.1 hb with e|hb
   ·subst e
    exact⟨hn,_,q5 _ _ Y7,fun h=>h⟩
   ·obtain⟨r1,r2⟩:=q6 b hb
    refine⟨?_,r2⟩
    have o8:b≠n:=fun e=>by subst e;rw[Y7] at r1;cases r1
    rw[e1,T.get_set_ne _ o8] at r1
    exact r1
  ·have:=(q6 n hm).1
   rw[Y7] at this
   cases this
theorem Lent.more{H':T ABlk}{L:Nat->Option (Nat×Nat)}{blk:List BSh}{z:Sy}{H:T ABlk}(hL:Lent w0 ρ H w L blk z)(hG:Good w0 ρ H' w)(h:∀b X,H.get b=some X->H'.get b=some X):Lent w0 ρ H' w L blk z:=
 ⟨hG,fun j x hx=>by obtain⟨b,g,q1,q,q2,q3⟩:=hL.hb j x hx;exact⟨b,g,q1,q,h _ _ q2,q3⟩,hL.dom,hL.inj,hL.n64⟩
theorem Oq{n:Nat}{γ:kz}{bs:List Nat}{j:Nat}(h:j<n):sq n γ bs j=γ j:=by
 unfold sq
 rw[ax,if_pos (Nat.ble_eq.mpr h)]
theorem Ot{n:Nat}{γ:kz}{bs:List Nat}{j:Nat}(h:n<=j):sq n γ bs j=(bs.getD (j-n) 0,0):=by
 unfold sq
 rw[ax,if_neg (fun e=>by have:=aas e;omega)]
theorem R0{f:Nat}{S:FSpec}{zf:(z:Sy)->{y:Sy // S.pre z->S.post z y}}(hC:jG P f S zf)(w0:World)(l:List AV):RU P w0 f l (RX S zf l):=by
 intro vs k σ0 K ρ w R hS0 ZN hl h0 hR
 obtain⟨σ,eh,hS,h,Zd⟩:=vh hS0 ZN h0
 have hG:Good w0 ρ σ.h w:=by rw[eh];exact ZN
 clear h0 ZN hS0
 obtain⟨l',d6,XX,z1,d5,d7,t9,hlen,hlr⟩:=gX hS hG hl h
 obtain⟨s0,Ya,z2⟩:=bO z1
 obtain⟨s1,f9,ρ2,z3,i5,i7,j9,ad8,_,w9⟩:=yY d5 d7 z2
 obtain⟨s2,Z0,z4⟩:=bO z3
 obtain⟨Z7,z5⟩:=ar z4
 obtain⟨⟨Z8,XU⟩,z6⟩:=aW z5
 clear h z1 z2 z3 z4 z5
 obtain⟨ad9,hc2⟩:=aM Z7
 obtain⟨hcK,hcL⟩:=aM hc2
 have ad9:=bu ad9
 obtain⟨p1,p2⟩:=fx (blk:=S.blk) Ya
 obtain⟨f1,f2,f3,f4,_⟩:=eS Z0
 have YK:=ki Z0 Z8
 have E':LR ρ2 l' vs:=(hlr (by rw[←hlen];exact ls Ya)).mono j9
 have j6:=p2 s2 (ad8.trans f1) Z8 YK
 rw[jF] at j6
 have hL0:=Ek i7 Z0 Z8 w9 ad9 hcL
 obtain⟨z,hz⟩:∃z,z=aX s2.tm:=⟨_,rfl⟩
 rw[←hz] at XU z6 j6 hL0 hcK
 have z6:run (Om ((S.out z).drop S.blk.length) fun bs=>RV (sq S.blk.length (oU S.blk (nE s2)) bs) (zf z).1 (S.out z) 0 (k (BJ (sq S.blk.length (oU S.blk (nE s2)) bs) (zf z).1 (S.res z)))) f9 K=true:=z6
 obtain⟨bs,σn,z7,hSn,hGn,Y0,hbk,X6,hbd⟩:=Oo i5 i7 z6
 have hL:=hL0.more hGn hbk
 have hLb:=TvAs.lr (vl:=ρ.val) hL.mv j6 E'
 obtain⟨hcf,Ze⟩:=hC z XU w _ vs ((hL.to (vl:=ρ.val)).addTab ((Zd.mono (t9.trans j9).frz).mono fun b x h=>dO h)) hLb
 refine⟨hcf,Ze.mono fun e w' he=>?_⟩
 obtain⟨v,ρ',H',a,s,rfl,i6,Yp,hva,YD,ad_,hzf⟩:=he
 obtain⟨X5,z8,Yh,e3,d8⟩:=JV hSn z7
 obtain⟨t1,t2,t3⟩:=qB (ρ:=ρ') YD ad_
 rw[←hzf] at t1 t2
 obtain⟨hkl,_⟩:=y_ hcK
 have hdl:bs.length=(S.out z).length-S.blk.length:=by rw[Y0,aan]
 have Y2:∀j,S.blk.length<=j->j<(S.out z).length->∃b,bs[j-S.blk.length]? =some b/\(sq S.blk.length (oU S.blk (nE s2)) bs j)=(b,0):=fun j h1 h2=>by
  have f7:j-S.blk.length<bs.length:=by omega
  refine⟨bs[j-S.blk.length],aah f7, ?_⟩
  rw[Ot h1,aag,aah f7];rfl
 obtain⟨ρ3,m1,m2,_,m3⟩:=QV (F:=lO s H') (γ:=sq S.blk.length (oU S.blk (nE s2)) bs) hL hcK (fun j x b g hx hl=>by
   have hj:j<S.blk.length:=by
    rcases aaf j S.blk.length with h'|h'
    ·exact h'
    ·rw[aaj h'] at hx;cases hx
   rw[Oq hj];exact El hx hl)
  (fun j h1 h2=>by
   obtain⟨b,r1,r2⟩:=Y2 j h1 h2
   rw[r2]
   have hm:=abf r1
   obtain⟨u1,u2⟩:=X6 b hm
   refine⟨rfl,fun g=>i7.none_at u1 g,u2,fun i b' g' hL' e=>?_,fun i h3 h4 e=>?_⟩
   ·obtain⟨b2,g2,q1,q,q2,_⟩:=hL0.hb i _ (aah (hL0.dom _ _ hL'))
    rw[hL'] at q1;injection q1 with q1;injection q1 with q1 _
    subst q1;subst e
    rw[u1] at q2;cases q2
   ·obtain⟨b3,r3,r4⟩:=Y2 i h3 h4
    rw[r4] at e
    have e:b3=b:=e
    subst e
    have hi1:i-S.blk.length<bs.length:=by omega
    have Y6:j-S.blk.length<bs.length:=by omega
    rw[aah hi1] at r3
    rw[aah Y6] at r1
    injection r3 with r3;injection r1 with r1
    have:=(List.getElem_inj (h₀:=hi1) (h₁:=Y6) hbd).1 (r3.trans r1.symm)
    omega)
  (fun i hi=>by have:=d8 i hi;rwa [aak] at this) i6 (FinRel.of_le Yp hL.ownOk (frzE _ _ _ _ _ _ _).symm) (fun b x hF=>⟨(gY hF).1,t3.t5 b (gY hF).2⟩) t2 (fun j b g h=>t3.t3 j b g h) t3.t4
 exact hR _ v X5 ρ3 w' z8 Yh (by rw[e3];exact m1) ((t9.trans j9).trans m2) (m3 _ _ _ t1 hva)
theorem Em{blk:List BSh}{r:Sr}{a:AV}{v:Value}{k:AV->Tr}(hS:SI σ)(hG:Good w0 ρ σ.h w)(hv:VR ρ a v)(h:run (BM blk r a k) σ K=true):
  ∃a' c9 ρ',run (k a') c9 K=true/\SI c9/\Good w0 ρ' c9.h w/\ρ.le ρ'/\VR ρ' a' v:=by
 cases r with
 |one x=>
  have hl:LR ρ [a] [v]:=LR.cons hv (LR.nil _)
  obtain⟨o7,c9,ρ',h1,h2,h3,h4,h5,h6⟩:=gX (loc:=[]) (blk:=blk) (l:=[Ol x]) (k:=fun as=>match as with | [a]=>k a|_=>.fail) hS hG hl h
  have h6:=h6 rfl
  match o7,h5,h6,h1 with
  | [a'],_,h6,h1=>
   obtain⟨u,us,e,hu,_⟩:=h6.cons_inv
   injection e with e _
   subst e
   exact⟨a',c9,ρ',h1,h2,h3,h4,hu⟩
 |tu l=>
  unfold BM at h
  simp only at h
  split at h
  ·rename_i as
   rcases bG h with⟨hl,h⟩|⟨_,h⟩
   ·have hl:=aR hl
    cases hv with
    |tup _ cs e1 e2=>
     obtain⟨o7,c9,ρ',h1,h2,h3,h4,h5,h6⟩:=gX hS hG (LR.of_arr e1 e2) h
     obtain⟨r1,r2⟩:=(h6 hl).arr
     exact⟨_,c9,ρ',h1,h2,h3,h4,.tup _ cs r1 r2⟩
   ·exact⟨_,σ,ρ,h,hS,hG,.refl _,hv⟩
  ·exact⟨_,σ,ρ,h,hS,hG,.refl _,hv⟩
theorem Ou{M:Tab}(hM:TabOk P M){n f:Nat}{S:FSpec}(h:∀z,S.pre z->∃hn,(S.callFm P M n f z hn).den):∃zf:(z:Sy)->{y:Sy // S.pre z->S.post z y},jG P f S zf:=by
 have key:∀z,∃y:{y:Sy // S.pre z->S.post z y},S.pre z->∃a σf s,(∀K,run (pP P (Bl P M n) f (S.argsA z) fun a=>BM (S.out z) (S.res z) a .ret) (start (S.heap z) (base+64)) K=K a σf)/\gm S.blk.length σf.h (S.res z) (S.out z) a=some s/\s.pr/\y.1=aX s.tm:=fun z=>by
  by_cases hz:S.pre z
  ·obtain⟨hn,hd⟩:=h z hz
   obtain⟨a,σf,e,Yi,hl⟩:=JL _ _ _ _ hd
   unfold QT at hl
   split at hl
   ·rename_i s hs
    exact⟨⟨aX s.tm,fun _=>hl.2 hl.1⟩,fun _=>⟨a,σf,s,e,hs,hl.1,rfl⟩⟩
   ·exact hl.elim
  ·exact⟨⟨⟨fun _=>0,fun _=>[],fun _=>False,fun _=>[]⟩,fun h=>absurd h hz⟩,fun h=>absurd h hz⟩
 refine⟨fun z=>Classical.choose (key z),fun z hz w ρ vs hG hl=>?_⟩
 obtain⟨a,σf,s,e,hs,hp,hy⟩:=aa6 (key z) hz
 refine jz (uT P hM w n).1 f (S.argsA z) vs (fun a=>BM (S.out z) (S.res z) a .ret) (start (S.heap z) (base+64)) (fun a' s'=>dP (a'=a/\s'=σf)) ρ w _ (qn (by decide) (by decide)) hG hl (by rw[e];exact dX.2 ⟨rfl,rfl⟩) fun av v c9 ρ' w' q1 q2 q3 q4 q5=>?_
 obtain⟨a',f9,ρ2,q1,q2,q3,q4',q5⟩:=Em q2 q3 q5 q1
 obtain⟨e1,e2⟩:=dX.1 (show dP (a'=a/\f9=σf)=true from q1)
 subst e1;subst e2
 exact⟨v,ρ2,_,_,s,rfl,q3,q4.trans q4',q5,hs,hp,hy⟩
end
end Go.Sym
