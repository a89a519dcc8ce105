/- Part 4. -/
import Derived.CallsIn
import Derived.RangeFuncLeaves
import Derived.TacticsIn
import Derived.OrdersIn
import Derived.Test.YtameaobnjjcobaaGreatDoorP3
set_option linter.all false
namespace Go.Sym
open Go.RowKit (Below)
def wz(a b:Int):ltI a b=decide (a<b):=by
 unfold ltI;split
 ·rename_i x y
  cases h:Nat.ble (Nat.succ x) y with
  |true=>have:=Nat.ble_eq.mp h;simp;omega
  |false=>have:=Yy h;simp;omega
 ·rfl
section
variable{P:Program}{w0:World}{ρ:Rho}{w:World}{σ:St}{K:Fin}{k:AV->Tr}
def zq{mx:Bool}:∀(l:List AV) (x:AV) (vs:List Value) (v:Value),LR ρ l vs->VR ρ x v->run (gh mx l x k) σ K=true->
 ∃r u,run (k r) σ K=true/\VR ρ r u/\(vs.foldlM (if mx then Builtin.max2 else Builtin.min2) v).run P w= .ok u w:=by
 intro l
 induction l with
 |nil=>intro x vs v hl hx h;rw[hl.nil_inv];exact⟨x,v,h,hx,by simp⟩
 |cons y l ih=>
  intro x vs v hl hx h
  obtain⟨u,m7,rfl,hu,l3⟩:=hl.cons_inv
  have step:∀(j:IntKind) (a b c:Int) (r0:AV),VR ρ r0 (.int j c)->run (gh mx l r0 k) σ K=true->((if mx then Builtin.max2 else Builtin.min2) (.int j a) (.int j b)).run P w= .ok (.int j c) w->
   ∃r u,run (k r) σ K=true/\VR ρ r u/\((Value.int j b::m7).foldlM (if mx then Builtin.max2 else Builtin.min2) (.int j a)).run P w= .ok u w:=λj a b c r0 hr0 h e=>by
   obtain⟨r,u,q1,q2,q3⟩:=ih r0 m7 (.int j c) l3 hr0 h
   exact⟨r,u,q1,q2,by rw[List.foldlM_cons,aap,e];exact q3⟩
  unfold gh at h
  split at h
  ·rename_i j a j' b;cases hx;cases hu;obtain⟨hj0,z1⟩:=ay h;clear h;have hj:=of_decide_eq_true hj0;clear hj0;subst hj;rcases bU z1 with⟨e,h⟩|⟨e,h⟩
   ·refine step j a b b _ (.int _ _) h ?_
    rw[ar] at e
    cases mx with
    |true=>simp [wz] at e;simp [Builtin.max2,e]
    |false=>simp [wz] at e;simp [Builtin.min2,e]
   ·refine step j a b a _ (.int _ _) h ?_
    rw[ar] at e
    cases mx with
    |true=>simp [wz] at e;simp [Builtin.max2];omega
    |false=>simp [wz] at e;simp [Builtin.min2];omega
  ·split at h
   ·rename_i j a j' b ea eb
    have e1:=bp hx ea
    have e2:=bp hu eb
    subst e1;subst e2
    obtain⟨hj0,z1⟩:=ay h
    clear h
    have hj:=of_decide_eq_true hj0
    clear hj0
    subst hj
    refine step j a b _ _ (.sI _ _) z1 ?_
    cases mx with
    |true=>
     simp only [if_true,Builtin.max2];by_cases hab:a<b
     ·have:max a b=b:=by omega
      simp [hab,this]
     ·have:max a b=a:=by omega
      simp [hab,this]
    |false=>
     simp only [Bool.false_eq_true,if_false,Builtin.min2];by_cases hab:b<a
     ·have:min a b=b:=by omega
      simp [hab,this]
     ·have:min a b=a:=by omega
      simp [hab,this]
   ·exact(ah h).elim
def Vq{tys:Array TypeId}{ty:TypeId}{args:List AV}{vs:List Value}(hS:SI σ)(hG:Good w0 ρ σ.h w)(hl:LR ρ args vs)(h:run (Eb true args k) σ K=true):Res P w0 ρ w k K (Builtin.max_ tys ty vs.toArray):=by
 cases args with
 |nil=>exact(ah h).elim
 |cons x rest=>obtain⟨v,m7,rfl,hv,l3⟩:=hl.cons_inv;obtain⟨r,u,q1,q2,q3⟩:=zq (P:=P) (w:=w) rest x m7 v l3 hv h;exact .plain q1 hS hG q2 (by simpa [Builtin.max_] using q3)
def HW{tys:Array TypeId}{ty:TypeId}{args:List AV}{vs:List Value}(hS:SI σ)(hG:Good w0 ρ σ.h w)(hl:LR ρ args vs)(h:run (J5 P tys args k) σ K=true):Res P w0 ρ w k K (Builtin.copy_ tys ty vs.toArray):=(ah h).elim
def KV{tys:Array TypeId}{ty t0 e:TypeId}{i:TypeInfo}{b g len:Nat}{t:List Nat}{y:AV}{v u:Value}(hS:SI σ)(hG:Good w0 ρ σ.h w)(hx:VR ρ (.gsl b g len 1) v)(hy:VR ρ y u)(hsb:BW y=some t)(h0:tys[0]? =some t0)(hd:P.underlying t0=some (.slice e))(hi:P.info? e=some i)(w8:i.size=1)(h:run (Tz b g len t k) σ K=true):Res P w0 ρ w k K (Builtin.copy_ tys ty #[v,u]):=by
 obtain⟨hlen,cs,hL,x6,i6⟩:=yY (P:=P) (w:=w) hG hy hsb
 have c7:=cX hS h
 obtain⟨q,b6,hq,e1,a9,z0⟩:=bG hS h
 clear h
 have b7:Good w0 ρ b6.h w:=by rw[e1];exact hG
 cases q with
 |grow c gen ty2=>
  cases c with
  |rows m l=>exact(ah z0).elim
  |bytes l0=>
  obtain⟨k1,z1⟩:=ay z0
  obtain⟨k2,z2⟩:=aQ z1
  obtain⟨x0,c9,hx0,e2,d6,_,z3⟩:=fo a9 z2
  clear z0 z1 z2
  have k1:=aaq k1
  subst k1
  have n6:b6.h.get b=some (.grow (.bytes l0) g ty2):=by rw[e1];exact hq
  have hml:min t.length len<=t.length:=Nat.min_le_left _ _
  have hmr:min t.length len<=len:=Nat.min_le_right _ _
  have hf:=i6 _ hml w rfl
  have ah_:∀n:Nat,goInt n=Value.int .i64 (n:Int):=λn=>rfl
  cases hx with
  |gsl _ _ _ _ hm cp hn hh E' hcc hz=>
   rcases b7.blk _ _ n6 with h0'|⟨t9,q1,q2,q3,arr,fr,q4,q5,q6,q7,q8⟩
   ·have h0':l0.length=0:=h0';omega
   rw[hh] at q1;injection q1 with q1;subst q1
   have q6:l0.length * 1<=hm.size:=q6
   have ak2:(cs.take (min t.length len)).length=min t.length len:=by rw[aax,x6];omega
   have hLt:LR ρ ((cC t).take (min t.length len)) (cs.take (min t.length len)):=⟨by rw[aax,aax,hL.1],λj a v ha hv=>by
    rw[abd] at ha hv;split at ha
    ·rename_i hj;rw[if_pos hj] at hv;exact hL.2 j a v ha hv
    ·cases ha⟩
   obtain⟨j8,s1,s2,s3,s4,s5,s6,s7⟩:=eZ hm.blk (cs.take (min t.length len)) 0 w arr ty2 fr q4 (by rw[ak2];omega)
   have j9:=run_storeCells_cells (P:=P) hm.blk 0 (cs.take (min t.length len)) 0 w (λj hj=>by
    simp only [World.cell?,q4]
    simp only [abn,Bool.false_eq_true,if_false,aaG]
    rw[aa0 (by omega)];rfl) (λj hj=>by
    simp only [World.frozen?,q4,aaG]
    cases hx:(decide (fr.1<=0+j) && decide (0+j<fr.2)) with
    |false=>rfl
    |true=>simp only [Bool.and_eq_true,decide_eq_true_eq] at hx;exact(q7 _ (by omega) hx.1 hx.2).elim) (hLt.ones (λa ha=>by have:=List.mem_of_mem_take ha;unfold cC at this;obtain⟨n,_,e⟩:=List.mem_map.1 this;rw[←e];rfl))
   rw[aaG] at j9
   have hnl:(t.take len++l0.drop t.length).length=len:=by rw[aav,aax,aaA];omega
   have K':Good w0 ρ (b6.h.set b (.grow (.bytes (t.take len++l0.drop t.length)) g ty2)) (w.setCells hm.blk 0 (cs.take (min t.length len))):=by
    refine b7.turn (hrs:=⟨b,g,hm,hh,rfl⟩) n6 c7 hm.blk q3 (Kept.of_set (s7 0 (aaD _)) s5 q3) (by omega) (λx hx _=>s5 x hx) (λb' g' h' f7 e'=>(hG.inj _ _ _ _ _ _ f7 hh e').1) ?_;refine .inr ⟨hm,hh,q2,q3,j8,fr,s1,by omega, ?_,q7,λi' hi' j a ha=>?_⟩
    ·show(t.take len++l0.drop t.length).length * 1<=hm.size;omega
    ·have hi':i'<(t.take len++l0.drop t.length).length:=hi'
     have ha: [AV.sI .u8 (((t.take len++l0.drop t.length).getD i' 0:Nat):Int)][j]? =some a:=ha
     cases j with
     |succ j=>simp at ha
     |zero=>
     simp only [abS] at ha
     injection ha with ha
     subst ha
     show ∃u,j8[i' * 1+0]? =some u/\_
     rw[aaU,aaG]
     by_cases hit:i'<min t.length len
     ·have J':(cC t)[i']? =some (.sI .u8 (Int.ofNat (t[i']'(by omega)))):=by unfold cC;rw[aaW,aaw (by omega)];rfl
      obtain⟨u,u1,u2⟩:=hL.get J';refine⟨u, ?_, ?_⟩
      ·have:=s3 i' (by rw[ak2];exact hit);rw[aaC] at this;rw[this,aaF hit];exact u1
      ·have:(t.take len++l0.drop t.length).getD i' 0=t[i']'(by omega):=by rw[aas,aaO (by rw[aax];omega),aaF (by omega),aaw (by omega)];rfl
       rw[this];exact u2
     ·have hi2:t.length<=i':=by omega
      obtain⟨u,u1,u2⟩:=q8 i' (show i'<l0.length by omega) 0 _ rfl;have u1:arr[i' * 1+0]? =some u:=u1;rw[aaU,aaG] at u1;refine⟨u,by rw[s4 i' (.inr (by rw[ak2];omega))];exact u1, ?_⟩;have:(t.take len++l0.drop t.length).getD i' 0=l0.getD i' 0:=by rw[aas,aaJ (by rw[aax];omega),aaH,aas];congr 2;rw[aax];omega
      rw[this];exact u2
   refine⟨_,c9,ρ,_,_,z3,d6,by rw[e2];exact K',.refl _,.sI _ _, ?_⟩
   have o8:Nat.min t.length len=min t.length len:=rfl
   simp only [Builtin.copy_,h0,aap,run_underlying hd,aau,hlen,o8,aA hi,w8,hf,j9,aar,ah_,abj,abS,ab2,abR]
  |gnil _ _ _=>
   have hb0:l0= []:=List.length_eq_zero_iff.1 k2
   refine⟨_,c9,ρ,_,w,z3,d6, ?_,.refl _,.sI _ _, ?_⟩
   ·rw[e2];exact b7.none_turn n6 c7 (by subst hb0;simp [Ct.len]) (λ_ h=>h) (λh=>h)
   ·have o8:Nat.min t.length 0=min t.length 0:=rfl;have hf0:(Builtin.firstCells 1 0 u).run P w= .ok #[] w:=by simpa using hf
    simp [Builtin.copy_,h0,run_underlying hd,hlen,aA hi,w8,hf0,goInt]
  |gempty _ _ _ a=>
   have hb0:l0= []:=List.length_eq_zero_iff.1 k2
   refine⟨_,c9,ρ,_,w,z3,d6, ?_,.refl _,.sI _ _, ?_⟩
   ·rw[e2];exact b7.none_turn n6 c7 (by subst hb0;simp [Ct.len]) (λ_ h=>h) (λh=>h)
   ·have o8:Nat.min t.length 0=min t.length 0:=rfl;have hf0:(Builtin.firstCells 1 0 u).run P w= .ok #[] w:=by simpa using hf
    simp [Builtin.copy_,h0,run_underlying hd,hlen,aA hi,w8,hf0,goInt,storeCells]
 |_=>exact(ah z0).elim
def KW{tys:Array TypeId}{ty:TypeId}{args:List AV}{vs:List Value}(hS:SI σ)(hG:Good w0 ρ σ.h w)(hl:LR ρ args vs)(h:run (J6 P tys args k) σ K=true):Res P w0 ρ w k K (Builtin.copy_ tys ty vs.toArray):=by
 unfold J6 at h;split at h
 ·rename_i d x;split at h
  ·rename_i t hsb;split at h
   ·rename_i t0 h0
    obtain⟨v,vs1,rfl,hv,hl1⟩:=hl.cons_inv
    obtain⟨u,vs2,rfl,hu,hl2⟩:=hl1.cons_inv
    have:=hl2.nil_inv
    subst this
    obtain⟨dd,hd,h⟩:=cG h
    cases dd with
    |slice e=>
     obtain⟨i,hi,h⟩:=cB h
     obtain⟨w8,h⟩:=ay h
     have w8:=aaq w8
     have grown:∀(a:AV) (a8:St),SI a8->Good w0 ρ a8.h w->VR ρ a v->run (J4 t k a) a8 K=true->Res P w0 ρ w k K (Builtin.copy_ tys ty #[v,u]):=by
      intro a a8 l6 f6 ha z
      cases a with
      |gsl b g len es=>obtain⟨l9,z1⟩:=ay z;have l9:=aaq l9;subst l9;exact KV l6 f6 ha hu hsb h0 hd hi w8 z1
      |_=>exact(ah z).elim
     cases d with
     |gsl b g len es=>exact grown _ _ hS hG hv h
     |slc b g o len cap es=>obtain⟨l9,z1⟩:=ay h;have l9:=aaq l9;obtain⟨a8,z3,l6,f6,_,B'⟩:=d_ hS hG kq z1;rw[l9] at hv;exact grown _ _ l6 f6 (B' ρ (.refl _) _ hv) z3
     |_=>exact(ah h).elim
    |_=>exact(ah h).elim
   ·exact(ah h).elim
  ·exact HW hS hG hl h
 ·exact(ah h).elim
end
end Go.Sym
namespace Go.Sym
open Go.RowKit (Below)
section
variable{P:Program}{w0:World}{ρ:Rho}{w:World}{σ:St}{K:Fin}{k:AV->Tr}
def HX{c:T Cell}{g o0:Nat}{hm:Home}{arr:Array Value}{l:List AV}{bs:List Nat}(h:JS l=some bs)(f8:∀(j:Nat) (a:AV),l[j]? =some a->∃tag,c.get (o0+j)=some (.mk tag a)/\tag<=g)(d7:∀o tag a,c.get o=some (.mk tag a)->tag<=g->hm.shift<=o/\∃v,arr[o-hm.shift]? =some v/\VR ρ a v)(hs:hm.shift=0):bs.length=l.length/\∀(i m:Nat),bs[i]? =some m->arr[o0+i]? =some (Value.int .u8 (m:Nat)):=by
 have key:∀(l:List AV) (bs:List Nat),JS l=some bs->bs.length=l.length/\∀(i m:Nat),bs[i]? =some m->l[i]? =some (AV.int .u8 (m:Nat)):=by
  intro l
  induction l with
  |nil=>intro bs h;injection h with h;subst h;exact⟨rfl,λi m hi=>by simp at hi⟩
  |cons a l ih=>
   intro bs h;unfold JS at h;split at h
   ·rename_i e;cases e
   ·rename_i n r' e;injection e with e1 e2;subst e1;subst e2;split at h
    ·split at h
     ·rename_i l' hl2
      injection h with h
      subst h
      obtain⟨q1,q2⟩:=ih _ hl2
      refine⟨by simp [q1],λi m hi=>?_⟩
      cases i with
      |zero=>simp at hi;subst hi;rfl
      |succ i=>simpa using q2 i m (by simpa using hi)
     ·cases h
    ·cases h
   ·cases h
 obtain⟨h1,h2⟩:=key l bs h
 refine⟨h1,λi m hi=>?_⟩
 obtain⟨tag,t1,t2⟩:=f8 i _ (h2 i m hi)
 obtain⟨_,v,r1,r2⟩:=d7 _ tag _ t1 t2
 rw[hs,show o0+i-0=o0+i by omega] at r1
 cases r2
 exact r1
def KX{i:Nat}{fn:Func}{row:Array Value->Sem Value}(hf:P.funcs[i]? =some fn)(hb:fn.body=none)(hn:¬fn.name= "runtime.NumGoroutine")(h1:Extern.findNext fn=none)(h2:Extern.find fn=some row)(args:Array Value):
 (callFunc i args).run P w=(do pure (Next.value (←row args))).run P w:=by
 simp [callFunc,hf,hn,hb,h1,h2]
def Qf{i:Nat}{args:List AV}{vs:List Value}(h:Ec P i=true)(hl:LR ρ args vs)(hr:run (P1 P i args k) σ K=true):∃av v,run (k av) σ K=true/\VR ρ av v/\(callFunc i vs.toArray).run P w= .ok (.value v) w:=by
 unfold Ec at h;unfold P1 at hr;split at h
 ·rename_i fn hf;rw[hf] at hr;split at h
  ·rename_i hb;have ho:=of_decide_eq_true h;rcases bU hr with⟨i5,hr⟩|⟨_,hr⟩
   ·have ac3:=of_decide_eq_true i5;have h1:Extern.findNext fn=none:=by unfold Extern.findNext;rw[ac3,ho];kernel_rfl
    have h2:Extern.find fn=some Extern.AbiNoEscape.same:=by unfold Extern.find;rw[ac3];kernel_rfl
    split at hr
    ·rename_i x;obtain⟨xv,m7,rfl,hxv,ap_⟩:=hl.cons_inv;have:=ap_.nil_inv;subst this;refine⟨_,_,hr,hxv, ?_⟩;rw[KX hf hb (by rw[ac3];decide) h1 h2];rfl
    ·exact(ah hr).elim
   ·exact(ah hr).elim
  ·cases h
 ·cases h
end
end Go.Sym
namespace Go.Sym
open Go.RowKit (Below)
def fR(rd:Option Nat):Fence:={Fence.wide with round:=rd}
def Qg(P:Program)(w0:World)(rn:cS):Prop:=
 ∀(l:Nat) (as:List AV) (vs:List Value) (k:AV->Tr) (σ:St) (K:Fin) (ρ:Rho) (w:World) (R:Ending->World->Prop),SI σ->Good w0 ρ σ.h w->LR ρ as vs->run (rn l as k) σ K=true->
  (∀av v a8 ρ' w',run (k av) a8 K=true->SI a8->Good w0 ρ' a8.h w'->ρ.le ρ'->VR ρ' av v->R (.returned v) w')->
  ∃h,ρ.at_ l 0=some h/\∃f tmps as bd,(Instr.yield h.blk vs.toArray).run P w= .ok (.round h.blk f tmps as bd) w/\RoundIn Fence.wide 0 P h.blk f tmps as bd w R
def zr(P:Program)(w0:World)(en:cS):Prop:=
 ∀(f:Nat) (l:List AV) (vs:List Value) (k:AV->Tr) (σ:St) (K:Fin) (ρ:Rho) (w:World) (R:Ending->World->Prop),SI σ->Good w0 ρ σ.h w->LR ρ l vs->run (en f l k) σ K=true->
  (∀av v a8 ρ' w',run (k av) a8 K=true->SI a8->Good w0 ρ' a8.h w'->ρ.le ρ'->VR ρ' av v->R (.returned v) w')->
  (∀args:Array Value,(callFunc f args).run P w= .ok (.enter f args) w)/\CallsIn Fence.wide 0 P f vs.toArray w R
section
variable{P:Program}{w0:World}{ρ:Rho}{w:World}{σ:St}{K:Fin}{k:AV->Tr}{nt:Nat}{env:T AV}{a:Act}{o:Oper}{next:Act->World->Prop}{Q:Exit->Act->World->Prop}{rd:Option Nat}
def Nxt(w0:World)(ρ:Rho)(K:Fin)(k:AV->Tr)(o:Oper)(a:Act)(next:Act->World->Prop):Prop:=
 ∀av v a8 ρ' w',run (k av) a8 K=true->SI a8->Good w0 ρ' a8.h w'->ρ.le ρ'->VR ρ' av v->next (a.put o.dst v) w'
def Nxt.mono{ρ':Rho}(h:Nxt w0 ρ K k o a next)(hle:ρ.le ρ'):Nxt w0 ρ' K k o a next:=λav v a8 ρ2 w' h1 h2 h3 h4 h5=>h av v a8 ρ2 w' h1 h2 h3 (hle.trans h4) h5
def cd{s:Sem Value}(he:execOp a.eval o=(do pure (.value (←s))))(hn:Nxt w0 ρ K k o a next)(hr:Res P w0 ρ w k K s)(hd:∀c,o.op≠ .defer c:=by assumption):o.wpIn (fR rd) 0 P a w next Q:=by
 obtain⟨av,a8,ρ',v,w',h1,h2,h3,h4,h5,h6⟩:=hr;refine⟨λ_ _=>trivial, ?_⟩;show o.uponIn (fR rd) 0 P a next Q ((o.semAt rd a.eval).run P w)
 rw[Oper.semAt_eq _ _ _ hd,he];simp only [aap,h6,aau,aar,Oper.uponIn_value];exact hn av v a8 ρ' w' h1 h2 h3 h4 h5
def jm{av:AV}{v:Value}(he:(execOp a.eval o).run P w= .ok (.value v) w)(hn:Nxt w0 ρ K k o a next)(hr:run (k av) σ K=true)(hS:SI σ)(hG:Good w0 ρ σ.h w)(hv:VR ρ av v)(hd:∀c,o.op≠ .defer c:=by assumption):o.wpIn (fR rd) 0 P a w next Q:=by
 refine⟨λ_ _=>trivial, ?_⟩;show o.uponIn (fR rd) 0 P a next Q ((o.semAt rd a.eval).run P w)
 rw[Oper.semAt_eq _ _ _ hd,he];exact hn av v σ ρ w hr hS hG (Rho.le.refl ρ) hv
def Es{s:Sem Unit}(he:execOp a.eval o=(do s;pure .skip))(hn:Nxt w0 ρ K k o a next)(hr:Hu P w0 ρ w (Kd k) K s)(hd:∀c,o.op≠ .defer c:=by assumption):o.wpIn (fR rd) 0 P a w next Q:=by
 obtain⟨a8,w',h1,h2,h3,h4⟩:=hr;refine⟨λ_ _=>trivial, ?_⟩;show o.uponIn (fR rd) 0 P a next Q ((o.semAt rd a.eval).run P w)
 rw[Oper.semAt_eq _ _ _ hd,he];simp only [aap,h4,aau,aar,Oper.uponIn_skip];exact hn _ _ a8 ρ w' h1 h2 h3 (Rho.le.refl ρ) (.tup [] #[] rfl (by simp))
def KY{en rn:cS}(hen:zr P w0 en)(hrn:Qg P w0 rn)(hS:SI σ)(hG:Good w0 ρ σ.h w)(hE:ER ρ nt env a.tmps)(h:run (P2 P en rn env o.op k) σ K=true)(hn:Nxt w0 ρ K k o a next):o.wpIn (fR rd) 0 P a w next Q:=by
 have ev:∀{σ:St} {x:Operand} {f:AV->Tr},SI σ->Good w0 ρ σ.h w->run (fB env x f) σ K=true->∃av a8,SI a8/\Good w0 ρ a8.h w/\run (f av) a8 K=true/\VR ρ av (a.eval x):=by intro σ x f hS hG h;obtain⟨av,a8,e,h1,h2,h3⟩:=ui hS hG hE h;exact⟨av,a8,h1,by rw[e];exact hG,h2,h3⟩
 have hd:∀c,o.op≠ .defer c:=λc hc=>by rw[hc] at h;exact ah h
 cases ho:o.op with
 |move x=>rw[ho] at h;obtain⟨av,b6,a9,b7,h,hv⟩:=ev hS hG h;exact jm (by simp only [execOp,ho];rfl) hn h a9 b7 hv
 |assign x=>rw[ho] at h;obtain⟨av,b6,a9,b7,h,hv⟩:=ev hS hG h;exact jm (by simp only [execOp,ho];rfl) hn h a9 b7 hv
 |pick c x y=>
  rw[ho] at h;obtain⟨av,b6,a9,b7,h,hv⟩:=ev hS hG h;obtain⟨b,hc,h⟩:=P4 hv h;rcases bU h with⟨e,h⟩|⟨e,h⟩
  ·subst e;obtain⟨av,c9,d6,f9,h,hv⟩:=ev a9 b7 h;exact jm (v:=a.eval x) (by simp only [execOp,ho,hc];rfl) hn h d6 f9 hv
  ·subst e;obtain⟨av,c9,d6,f9,h,hv⟩:=ev a9 b7 h;exact jm (v:=a.eval y) (by simp only [execOp,ho,hc];rfl) hn h d6 f9 hv
 |alloc t=>rw[ho] at h;exact cd (by simp only [execOp,ho]) hn (Kp hS hG h)
 |box t x=>rw[ho] at h;obtain⟨av,b6,a9,b7,h,hv⟩:=ev hS hG h;exact cd (by simp only [execOp,ho]) hn (Vl (t:=t) a9 b7 hv h)
 |build t ps=>
  rw[ho] at h;obtain⟨av,b6,e,a9,h,h1,h2⟩:=re hS hG hE h;have b7:Good w0 ρ b6.h w:=by rw[e];exact hG
  exact cd (s:=Instr.build t (ps.map λx=>(x.1,a.eval x.2))) (by simp only [execOp,ho]) hn (Ku a9 b7 (by rw[h1];simp [Function.comp_def]) (by simpa [Function.comp_def] using h2) h)
 |buildSlice t n ps=>
  rw[ho] at h;obtain⟨av,b6,e,a9,h,h1,h2⟩:=re hS hG hE h;have b7:Good w0 ρ b6.h w:=by rw[e];exact hG
  obtain⟨av2,c9,ρ2,h,d6,f9,d8,h2,e2⟩:=yS a9 b7 h2 h;exact cd (s:=Instr.buildSlice t n (ps.map λx=>(x.1,a.eval x.2))) (by simp only [execOp,ho]) (hn.mono d8) (tJ d6 f9 (by rw[e2,h1];simp [Function.comp_def]) (by simpa [Function.comp_def] using h2) h)
 |load t x=>rw[ho] at h;obtain⟨av,b6,a9,b7,h,hv⟩:=ev hS hG h;obtain⟨ap,c9,h,d6,e2,hp⟩:=El a9 b7 hv h;exact cd (by simp only [execOp,ho]) hn (P8 d6 (by rw[e2];exact b7) hp h)
 |store t x y=>rw[ho] at h;obtain⟨av,b6,a9,b7,h,hv⟩:=ev hS hG h;obtain⟨au,c9,d6,f9,h,hu⟩:=ev a9 b7 h;obtain⟨ap,σ3,h,hS3,e3,hp⟩:=El d6 f9 hv h;obtain⟨au2,σ4,ρ4,h,hS4,hG4,an1,hu⟩:=Kv hS3 (by rw[e3];exact f9) hu h;exact Es (by simp only [execOp,ho]) (hn.mono an1) (Ks hS4 hG4 (hp.mono an1) hu h)
 |nilCheck x=>rw[ho] at h;obtain⟨av,b6,a9,b7,h,hv⟩:=ev hS hG h;obtain⟨h,hc⟩:=wy hv h;refine jm (v:=a.eval x) ?_ hn h a9 b7 hv;rcases hc with⟨p,e⟩|⟨f,l,m,e⟩|⟨f,l,m,e⟩ <;> (simp only [execOp,ho,e];rfl)
 |binOp op t x y z=>rw[ho] at h;obtain⟨av,b6,a9,b7,h,hv⟩:=ev hS hG h;obtain⟨au,c9,d6,f9,h,hu⟩:=ev a9 b7 h;exact cd (by simp only [execOp,ho]) hn (Km (ox:=x) (oy:=y) d6 f9 hv hu h)
 |unOp op t x=>rw[ho] at h;obtain⟨av,b6,a9,b7,h,hv⟩:=ev hS hG h;exact cd (by simp only [execOp,ho]) hn (P7 a9 b7 hv h)
 |convert s d x=>rw[ho] at h;obtain⟨av,b6,a9,b7,h,hv⟩:=ev hS hG h;obtain⟨au,c9,h,d6,e2,hu⟩:=mZ a9 b7 hv h;exact cd (by simp only [execOp,ho]) hn (KE d6 (by rw[e2];exact b7) hu h)
 |makeFunc fn first cap=>
  rw[ho] at h;obtain⟨hf,h⟩:=ay h;obtain⟨l1,b6,e,a9,h,hl1⟩:=wo hS hG hE h;have b7:Good w0 ρ b6.h w:=by rw[e];exact hG
  obtain⟨l2,c9,e2,d6,h,hl2⟩:=wo a9 b7 hE h;have f9:Good w0 ρ c9.h w:=by rw[e2];exact b7
  have q1:LR ρ l1 (first.map a.eval).toList:=by simpa using hl1
  have q2:LR ρ l2 (cap.map a.eval).toList:=by simpa using hl2
  exact jm (v:=.func fn (first.map a.eval) (cap.map a.eval)) (by simp only [execOp,ho];rfl) hn h d6 f9 (.func fn l1 l2 _ _ q1.arr.1 q2.arr.1 q1.arr.2 q2.arr.2 hf)
 |makeMap t r=>
  rw[ho] at h
  cases r with
  |none=>exact cd (s:=Instr.makeMap t none) (by simp only [execOp,ho];rfl) hn (ry (λv hv=>by cases hv) hS hG h)
  |some x=>
   obtain⟨d,hu,h⟩:=cG h
   cases d with
   |map kt e=>obtain⟨av,b6,a9,b7,h,hv⟩:=ev hS hG h;obtain⟨j,n,rfl,h⟩:=wn h;generalize hc:a.eval x=cv at hv;cases hv;exact cd (s:=Instr.makeMap t (some (a.eval x))) (by simp only [execOp,ho];rfl) hn (ry (λv hv=>by injection hv with hv;exact⟨⟨kt,e,hu⟩,j,n,by rw[←hv,hc]⟩) a9 b7 h)
   |_=>exact(ah h).elim
 |slice t x lo hi mx=>
  rw[ho] at h;obtain⟨av,b6,a9,b7,h,hv⟩:=ev hS hG h;obtain⟨o1,c9,e2,d6,h,h1⟩:=B5 a9 b7 hE h;have f9:Good w0 ρ c9.h w:=by rw[e2];exact b7
  obtain⟨o2,σ3,e3,hS3,h,h2⟩:=B5 d6 f9 hE h;have K':Good w0 ρ σ3.h w:=by rw[e3];exact f9
  obtain⟨o3,σ4,e4,hS4,h,h3⟩:=B5 hS3 K' hE h;have hG4:Good w0 ρ σ4.h w:=by rw[e4];exact K'
  obtain⟨au,σ5,h,hS5,e5,hu⟩:=mZ hS4 hG4 hv h;exact cd (by simp only [execOp,ho]) hn (HG hS5 (by rw[e5];exact hG4) hu h1 h2 h3 h)
 |fieldAddr t x f=>rw[ho] at h;obtain⟨av,b6,a9,b7,h,hv⟩:=ev hS hG h;exact cd (by simp only [execOp,ho]) hn (wt a9 b7 hv h)
 |indexAddr t x i=>rw[ho] at h;obtain⟨av,b6,a9,b7,h,hv⟩:=ev hS hG h;obtain⟨au,c9,d6,f9,h,hu⟩:=ev a9 b7 h;obtain⟨at_,σ3,h,hS3,e3,ht⟩:=mZ d6 f9 hv h;exact cd (by simp only [execOp,ho]) hn (wu hS3 (by rw[e3];exact f9) ht hu h)
 |index t x i=>rw[ho] at h;obtain⟨av,b6,a9,b7,h,hv⟩:=ev hS hG h;obtain⟨au,c9,d6,f9,h,hu⟩:=ev a9 b7 h;exact cd (by simp only [execOp,ho]) hn (KA d6 f9 hv hu h)
 |range t x=>rw[ho] at h;obtain⟨av,b6,a9,b7,h,hv⟩:=ev hS hG h;exact cd (by simp only [execOp,ho]) hn (HU a9 b7 hv h)
 |next it s=>rw[ho] at h;obtain⟨av,b6,a9,b7,h,hv⟩:=ev hS hG h;exact cd (by simp only [execOp,ho]) hn (KU (ty:=o.type) a9 b7 hv h)
 |lookup t x i ok=>rw[ho] at h;obtain⟨av,b6,a9,b7,h,hv⟩:=ev hS hG h;obtain⟨au,c9,d6,f9,h,hu⟩:=ev a9 b7 h;exact cd (by simp only [execOp,ho]) hn (Cj d6 f9 hv hu h)
 |mapUpdate t m i v=>rw[ho] at h;obtain⟨av,b6,a9,b7,h,hv⟩:=ev hS hG h;obtain⟨au,c9,d6,f9,h,hu⟩:=ev a9 b7 h;obtain⟨aw,σ3,hS3,K',h,hw⟩:=ev d6 f9 h;exact Es (by simp only [execOp,ho]) hn (tK hS3 K' hv hu hw h)
 |extract t i=>rw[ho] at h;obtain⟨av,b6,a9,b7,h,hv⟩:=ev hS hG h;exact cd (by simp only [execOp,ho]) hn (Cc a9 b7 hv h)
 |call c=>
  rw[ho] at h
  have g8:c.args.map a.eval=(c.args.toList.map a.eval).toArray:=by apply Array.ext';simp
  have h:run (match c.callee with
   | .builtin b=>mP env c.args.toList λl=>oo l λl=>mS P b c.argTypes l k
   | .value f=>fB env f λf=>mP env c.args.toList λl=>Ed P en rn f l k
   | .invoke _ _=>.fail) σ K=true:=h
  cases hc:c.callee with
  |builtin b=>
   rw[hc] at h
   obtain⟨l0,σ0,e0,hS0,h,hl0⟩:=wo hS hG hE h
   have hG0:Good w0 ρ σ0.h w:=by rw[e0];exact hG
   obtain⟨l,b6,h,a9,e,hl⟩:=up hS0 hG0 hl0 h
   have b7:Good w0 ρ b6.h w:=by rw[e];exact hG0
   cases b with
   |append=>exact cd (s:=Builtin.append_ c.argTypes o.type (c.args.toList.map a.eval).toArray) (by simp only [execOp,ho,resolve,hc,g8,invoke,builtin];rfl) hn (Ci a9 b7 hl h)
   |len=>exact cd (s:=Builtin.len_ c.argTypes o.type (c.args.toList.map a.eval).toArray) (by simp only [execOp,ho,resolve,hc,g8,invoke,builtin];rfl) hn (HN a9 b7 hl h)
   |copy=>exact cd (s:=Builtin.copy_ c.argTypes o.type (c.args.toList.map a.eval).toArray) (by simp only [execOp,ho,resolve,hc,g8,invoke,builtin];rfl) hn (KW a9 b7 hl h)
   |max=>exact cd (s:=Builtin.max_ c.argTypes o.type (c.args.toList.map a.eval).toArray) (by simp only [execOp,ho,resolve,hc,g8,invoke,builtin];rfl) hn (Vq a9 b7 hl h)
   |_=>exact(ah h).elim
  |value f=>
   rw[hc] at h
   obtain⟨av,b6,a9,b7,h,hv⟩:=ev hS hG h
   obtain⟨l,c9,e,d6,h,hl⟩:=wo a9 b7 hE h
   have f9:Good w0 ρ c9.h w:=by rw[e];exact b7
   generalize hfv:a.eval f=fv at hv
   cases hv with
   |func fn l1 m1 first captured h1 h2 r1 r2 hf=>
    cases fn with
    |func i=>
     have q1:LR ρ l1 first.toList:=LR.of_arr h1 r1
     have q2:LR ρ m1 captured.toList:=LR.of_arr h2 r2;have ea:(first++(c.args.toList.map a.eval).toArray++captured)=(first.toList++c.args.toList.map a.eval++captured.toList).toArray:=by apply Array.ext';simp
     have he0:(execOp a.eval o).run P w=(callFunc i (first++(c.args.toList.map a.eval).toArray++captured)).run P w:=by simp only [execOp,ho,resolve,hc,hfv,Deferred.ofValue,g8,aap,aar,aau,invoke]
     have h:run (ac (Ec P i) (P1 P i (l1++l++m1) k) (en i (l1++l++m1) k)) c9 K=true:=h;rcases bU h with⟨i5,h⟩|⟨_,h⟩
     ·obtain⟨av,v,q3,q4,q5⟩:=Qf (w:=w) i5 ((q1.append hl).append q2) h;refine jm ?_ hn q3 d6 f9 q4;rw[he0,ea];exact q5
     obtain⟨hcf,hci⟩:=hen i (l1++l++m1) _ k c9 K ρ w (λe w'=>match e with
      | .returned v=>next (a.put o.dst v) w'
      | .panicked chain=>Q (.panic chain) a w'
      | .outgrown=>LetsOut Q) d6 f9 ((q1.append hl).append q2) h (λav v a8 ρ' w' g1 g2 g3 g4 g5=>hn av v a8 ρ' w' g1 g2 g3 g4 g5)
     refine⟨λ_ _=>trivial, ?_⟩;show o.uponIn (fR rd) 0 P a next Q ((o.semAt rd a.eval).run P w)
     have he:(execOp a.eval o).run P w= .ok (.enter i (first++(c.args.toList.map a.eval).toArray++captured)) w:=by rw[he0];exact hcf _
     rw[Oper.semAt_eq _ _ _ hd,he,Oper.uponIn_enter];refine⟨λh=>absurd h (by simp [fR,Fence.wide]), ?_⟩;rw[ea];exact hci.mono λe w' hr=>by cases e <;> exact hr
    |yield _=>exact absurd (show false=true from hf) (by decide)
    |_=>exact(ah h).elim
   |yld b hb hh=>
    have h:run (rn b l k) c9 K=true:=h;obtain⟨p7,f7,f,tmps,as,bd,q1,q2⟩:=hrn b l _ k c9 K ρ w (λe w'=>match e with
     | .returned v=>next (a.put o.dst v) w'
     | .panicked chain=>Q (.panic chain) a w'
     | .outgrown=>LetsOut Q) d6 f9 hl h (λav v a8 ρ' w' g1 g2 g3 g4 g5=>hn av v a8 ρ' w' g1 g2 g3 g4 g5)
    rw[hh] at f7;injection f7 with f7;subst f7;refine⟨λ_ _=>trivial, ?_⟩;show o.uponIn (fR rd) 0 P a next Q ((o.semAt rd a.eval).run P w)
    have he:(execOp a.eval o).run P w= .ok (.round hb.blk f tmps as bd) w:=by
     have:(execOp a.eval o).run P w=(Instr.yield hb.blk (#[]++(c.args.toList.map a.eval).toArray)).run P w:=by simp only [execOp,ho,resolve,hc,hfv,Deferred.ofValue,g8,aap,aar,aau,invoke]
     rw[this,Array.empty_append];exact q1
    rw[Oper.semAt_eq _ _ _ hd,he,Oper.uponIn_round];refine⟨λh=>absurd h (by simp [fR,Fence.wide]), ?_⟩;exact RoundIn.mono (show RoundIn (fR rd) (0-1) P hb.blk f tmps as bd w _ from q2) λe w' hr=>by cases e <;> exact hr
   |_=>exact(ah h).elim
  |invoke r m=>rw[hc] at h;exact(ah h).elim
 |_=>rw[ho] at h;exact(ah h).elim
end
end Go.Sym
namespace Go.Sym
open Go.RowKit (Below)
section
variable{P:Program}{w0:World}{ρ:Rho}{w:World}{σ:St}{K:Fin}{nt:Nat}{env:T AV}{a:Act}
def YC{dst:Option Nat}{av:AV}{v:Value}{k:T AV->Tr}(hv:VR ρ av v)(hE:ER ρ nt env a.tmps)(h:run (yG nt dst av env k) σ K=true):
 ∃env',run (k env') σ K=true/\ER ρ nt env' (a.put dst v).tmps/\(a.put dst v).defers=a.defers:=by
 cases dst with
 |none=>exact⟨env,h,hE,rfl⟩
 |some d=>
  obtain⟨hd,h⟩:=ay h
  have hd:=bV hd
  rw[T.setK_eq] at h
  refine⟨_,h,⟨?_,λt b hb=>?_⟩,rfl⟩
  ·show(a.tmps.setIfInBounds d v).size=nt;rw[ab3];exact hE.size
  ·show ∃u,(a.tmps.setIfInBounds d v)[t]? =some u/\VR ρ b u;by_cases e:t=d
   ·subst e;have:=T.get_set_some _ _ hb;subst this;refine⟨v, ?_,hv⟩;rw[aaX,if_pos rfl,if_pos (by rw[hE.size];omega)]
   ·rw[T.get_set_ne _ e] at hb;obtain⟨u,hu,hr⟩:=hE.val t b hb;exact⟨u,by rw[aaX,if_neg (λe'=>e e'.symm)];exact hu,hr⟩
def KZ{ops:Array Oper}{o:Oper}{yes no:Tr}(hE:ER ρ nt env a.tmps)(h:run (kn ops env o yes no) σ K=true):
 (Region.wanted o (yielded ops a.tmps)=true/\run yes σ K=true)∨(Region.wanted o (yielded ops a.tmps)=false/\run no σ K=true):=by
 unfold kn at h
 unfold Region.wanted
 split at h
 ·rename_i hg;rw[hg];exact .inl ⟨rfl,h⟩
 ·rename_i j want hg;rw[hg];split at h
  ·rename_i oj hj;split at h
   ·rename_i d hd
    obtain⟨v,hv,h⟩:=tH h
    obtain⟨u,hu,hr⟩:=hE.val _ _ hv
    have hy:∀b,u= .bool b->yielded ops a.tmps j=some b:=λb e=>by subst e;simp [yielded,hj,hd,hu]
    have hn:(∀b,u≠ .bool b)->yielded ops a.tmps j=none:=λhn=>by simp only [yielded,hj,hd,hu,Option.bind_some];cases u <;> first|rfl|exact absurd rfl (hn _)
    cases hr with
    |bool b=>
     rcases bU h with⟨e,h⟩|⟨e,h⟩
     ·refine .inl ⟨?_,h⟩;have:b=want:=by simpa using e
      subst this;simp [hy b rfl]
     ·refine .inr ⟨?_,h⟩;have:¬b=want:=by simpa using e
      simp [hy b rfl,this]
    |tup l cs h1 h2=>exact .inr ⟨by simp [hn (λb e=>by cases e)],h⟩
    |sB p b hb=>
     cases want with
     |true=>
      rcases du h with⟨hp,h⟩|⟨hp,h⟩
      ·exact .inl ⟨by simp [hy b rfl,hb.2 hp],h⟩
      ·exact .inr ⟨by simp [hy b rfl];cases b with|true=>exact absurd (hb.1 rfl) hp|false=>rfl,h⟩
     |false=>
      rcases du h with⟨hp,h⟩|⟨hp,h⟩
      ·exact .inr ⟨by simp [hy b rfl,hb.2 hp],h⟩
      ·exact .inl ⟨by simp [hy b rfl];cases b with|true=>exact absurd (hb.1 rfl) hp|false=>rfl,h⟩
    |_=>exact(ah h).elim
   ·exact(ah h).elim
  ·exact(ah h).elim
def ER.known{p:Prop}{b:Bool}{d:Nat}(hE:ER ρ nt env a.tmps)(hd:env.get d=some (.sB p))(hu:a.tmps[d]? =some (.bool b)):ER ρ nt (env.set d (.bool b)) a.tmps:=by
 refine⟨hE.size,λt x hx=>?_⟩;by_cases e:t=d
 ·subst e;have:=T.get_set_some _ _ hx;subst this;exact⟨_,hu,.bool b⟩
 ·rw[T.get_set_ne _ e] at hx;exact hE.val t x hx
def Qh{ops:Array Oper}{o:Oper}{yes no:T AV->Tr}(hE:ER ρ nt env a.tmps)(h:run (qg ops env o yes no) σ K=true):
 ∃env',ER ρ nt env' a.tmps/\((Region.wanted o (yielded ops a.tmps)=true/\run (yes env') σ K=true)∨(Region.wanted o (yielded ops a.tmps)=false/\run (no env') σ K=true)):=by
 unfold qg at h
 unfold Region.wanted
 split at h
 ·rename_i hg;rw[hg];exact⟨env,hE,.inl ⟨rfl,h⟩⟩
 ·rename_i j want hg;rw[hg];split at h
  ·rename_i oj hj;split at h
   ·rename_i d hd
    obtain⟨v,hv,h⟩:=tH h
    obtain⟨u,hu,hr⟩:=hE.val _ _ hv
    have hy:∀b,u= .bool b->yielded ops a.tmps j=some b:=λb e=>by subst e;simp [yielded,hj,hd,hu]
    have hn:(∀b,u≠ .bool b)->yielded ops a.tmps j=none:=λhn=>by simp only [yielded,hj,hd,hu,Option.bind_some];cases u <;> first|rfl|exact absurd rfl (hn _)
    cases hr with
    |bool b=>
     refine⟨env,hE, ?_⟩;rcases bU h with⟨e,h⟩|⟨e,h⟩
     ·refine .inl ⟨?_,h⟩;have:b=want:=by simpa using e
      subst this;simp [hy b rfl]
     ·refine .inr ⟨?_,h⟩;have:¬b=want:=by simpa using e
      simp [hy b rfl,this]
    |tup l cs h1 h2=>exact⟨env,hE,.inr ⟨by simp [hn (λb e=>by cases e)],h⟩⟩
    |sB p b hb=>
     rcases du h with⟨hp,h⟩|⟨hp,h⟩
     ·have o9:b=true:=hb.2 hp
      subst o9
      rw[T.setK_eq] at h
      refine⟨_,hE.known hv hu, ?_⟩
      cases want with
      |true=>exact .inl ⟨by simp [hy true rfl],h⟩
      |false=>exact .inr ⟨by simp [hy true rfl],h⟩
     ·have hbf:b=false:=by cases b with|true=>exact absurd (hb.1 rfl) hp|false=>rfl
      subst hbf
      rw[T.setK_eq] at h
      refine⟨_,hE.known hv hu, ?_⟩
      cases want with
      |true=>exact .inr ⟨by simp [hy false rfl],h⟩
      |false=>exact .inl ⟨by simp [hy false rfl],h⟩
    |_=>exact(ah h).elim
   ·exact(ah h).elim
  ·exact(ah h).elim
def Qi{rd:Option Nat}{ops:Array Oper}{en rn:cS}(hen:zr P w0 en)(hrn:Qg P w0 rn){k:T AV->Tr}{Q:Exit->Act->World->Prop}(ρ0:Rho)(ds:List Deferred)(hk:∀env' a8 ρ' a' w',run (k env') a8 K=true->SI a8->Good w0 ρ' a8.h w'->ρ0.le ρ'->ER ρ' nt env' a'.tmps->a'.defers=ds->Q .normal a' w'):
 ∀(l:List Oper) (env:T AV) (σ:St) (ρ:Rho) (a:Act) (w:World),run (P3 P en rn nt ops l env k) σ K=true->SI σ->Good w0 ρ σ.h w->ρ0.le ρ->ER ρ nt env a.tmps->a.defers=ds->wpListIn (fR rd) 0 P ops Q l a w:=by
 intro l
 induction l with
 |nil=>intro env σ ρ a w h hS hG hle hE hd;exact hk _ _ _ _ _ h hS hG hle hE hd
 |cons o l ih=>
  intro env σ ρ a w h hS hG hle hE hd
  have h:run (qg ops env o (λenv=>P2 P en rn env o.op λv=>yG nt o.dst v env λenv=>P3 P en rn nt ops l env k) (λenv=>yG nt o.dst (.tup []) env λenv=>P3 P en rn nt ops l env k)) σ K=true:=h
  obtain⟨as_,hE0,h⟩:=Qh hE h
  clear hE
  have hE:=hE0
  rcases h with⟨hw,h⟩|⟨hw,h⟩
  ·simp only [wpListIn,hw,if_true];refine KY hen hrn hS hG hE h λav v a8 ρ' w' h1 h2 h3 h4 h5=>?_;obtain⟨env',h6,h7,h8⟩:=YC h5 (hE.mono h4) h1;exact ih env' a8 ρ' _ w' h6 h2 h3 (hle.trans h4) h7 (h8.trans hd)
  ·simp only [wpListIn,hw,Bool.false_eq_true,if_false];obtain⟨env',h6,h7,h8⟩:=YC (v:=undef) (.tup [] #[] rfl (by simp)) hE h;exact⟨λ_ _=>trivial,ih env' σ ρ _ w h6 hS hG hle h7 (h8.trans hd)⟩
def DR(ρ:Rho):List Nat->List Deferred->Prop
 | [],[]=>True
 |b::df,d::ds=>(∃h,ρ.at_ b 0=some h/\d.target= .collected h.blk)/\DR ρ df ds
 |_,_=>False
def DR.mono{ρ ρ':Rho}(hle:ρ.le ρ'):∀{df:List Nat} {ds:List Deferred},DR ρ df ds->DR ρ' df ds
 | [],[],_=>trivial
 |_::_,_::_,⟨⟨h,h1,h2⟩,h3⟩=>⟨⟨h,hle.at_ _ _ _ h1,h2⟩,DR.mono hle h3⟩
 | [],_::_,h=>h.elim
 |_::_,[],h=>h.elim
def gO{r:Nat}{o o':Obj}(h:w.heap[r]? =some o)(ho:∀c t f,o≠ .cells c t f):(setObj r o').run P w= .ok () {w with heap:=w.heap.setIfInBounds r o'}:=by cases o <;> first|(exact absurd rfl (ho _ _ _))|(simp [setObj,Sem.run,h])
def Good.setObj{H:T ABlk}{b:Nat}{x0 x:ABlk}{h:Home}{o o':Obj}(hG:Good w0 ρ H w)(hb:H.get b=some x0)(c7:b+1<2 ^ 64)(hh:ρ.at_ b 0=some h)(hB:Own ρ w0.heap.size h.blk)(hw:w.heap[h.blk]? =some o)(hx:BR ρ w0.heap.size {w with heap:=w.heap.setIfInBounds h.blk o'} b x)(hgx:∀g,JH g x:=by intro g;trivial)(hnf:¬yu x0)(hxo:∀k I l,x≠ .obj k I l:=by intro _ _ _ h;cases h):Good w0 ρ (H.set b x) {w with heap:=w.heap.setIfInBounds h.blk o'}:=by
 refine hG.turn (hnf:=hnf) (hxo:=hxo) (hrs:=⟨b,0,h,hh,rfl⟩) hb c7 h.blk hB ⟨rfl,rfl,rfl,by simp,λk hk ho=>?_⟩ (by simp) (λk hk _=>?_) (λb' g h' f7 e=>(hG.inj _ _ _ _ _ _ f7 hh e).1) hx (λg _=>hgx g)
 ·show(w.heap.setIfInBounds h.blk o')[k]? =_;rw[aaX,if_neg (λe=>by rcases hB with hB|hB;omega;exact ho (e▸hB))]
 ·show(w.heap.setIfInBounds h.blk o')[k]? =_;rw[aaX,if_neg (λe=>hk e.symm)]
def na{r:Nat}{o o':Obj}(h:w.heap[r]? =some o):(w.heap.setIfInBounds r o')[r]? =some o':=by
 have:r<w.heap.size:=by
  rcases aat r w.heap.size with h'|h'
  ·exact h'
  ·rw[aa7 h'] at h;cases h
 rw[aaX,if_pos rfl,if_pos this]
def Vr{fn:Func}{tmps:Array Value}{R:Ending->World->Prop}{k:Tr}(hk:∀a8 w',run k a8 K=true->SI a8->Good w0 ρ a8.h w'->LeavesInM Fence.wide 0 P fn tmps R [] .returning w'):
 ∀(df:List Nat) (ds:List Deferred) (σ:St) (w:World),run (wl df k) σ K=true->SI σ->Good w0 ρ σ.h w->DR ρ df ds->LeavesInM Fence.wide 0 P fn tmps R ds .returning w:=by
 intro df
 induction df with
 |nil=>
  intro ds σ w h hS hG hd
  cases ds with
  |nil=>exact hk _ _ h hS hG
  |cons _ _=>exact hd.elim
 |cons b df ih=>
  intro ds σ w h hS hG hd
  cases ds with
  |nil=>exact hd.elim
  |cons d ds=>
   obtain⟨⟨hm,hh,ht⟩,hd⟩:=hd
   have h:run (.rd b λq=>(match q with | .dfr true=>.wr b (.dfr false) (wl df k)|_=>.fail)) σ K=true:=h
   obtain⟨q,b6,hq,e1,a9,h⟩:=bG hS h
   cases q with
   |dfr live=>
    cases live with
    |false=>exact(ah h).elim
    |true=>
     obtain⟨t9,f7,hB,d9⟩:=hG.blk _ _ hq
     rw[hh] at f7;injection f7 with f7;subst f7
     have d9:w.heap[hm.blk]? =some (.deferred (some [])):=d9
     obtain⟨x0,c9,hx0,e2,d6,c7,h⟩:=fo a9 h
     have b7:Good w0 ρ b6.h w:=by rw[e1];exact hG
     have f9:=b7.setObj (hnf:=nf e1 hq hx0 (λh=>h)) (x:=.dfr false) (o':=.deferred none) hx0 c7 hh hB d9 ⟨hm,hh,hB,na d9⟩
     refine⟨by simp,.inl ⟨hm.blk,_,ht, ?_,ih ds c9 _ h d6 (by rw[e2];exact f9) hd⟩⟩
     simp only [Instr.takeDeferred,aap,bv d9 (by simp),aau,gO d9 (by simp),aar]
   |_=>exact(ah h).elim
def HY(tmps:Array Value):ResultVar->Sem Value
 | .tmp t=>pure (tmps.getD t undef)
 | .cell a t=>do loadVar t (←asAddr (tmps.getD a undef))
def Ck(fn:Func)(tmps:Array Value):results fn tmps=(do
 let vs ←fn.results.mapM (HY tmps)
 pure (if h:vs.size=1 then vs[0] else .tuple vs)):=by
 unfold results
 congr 1
def Et{tmps:Array Value}{t:Nat}{v:Value}(h:tmps[t]? =some v):tmps.getD t undef=v:=by rw[aa8,h];rfl
def resT{tmps:Array Value}(hE:ER ρ nt env tmps):∀(l:List ResultVar) (σ:St) (k:List AV->Tr),run (Kf P env l k) σ K=true->SI σ->Good w0 ρ σ.h w->
 ∃avs vs a8,run (k avs) a8 K=true/\SI a8/\Good w0 ρ a8.h w/\LR ρ avs vs/\(l.mapM (HY tmps)).run P w= .ok vs w:=by
 intro l
 induction l with
 |nil=>intro σ k h hS hG;exact⟨[],[],σ,h,hS,hG,LR.nil ρ,by simp⟩
 |cons r l ih=>
  intro σ k h hS hG
  cases r with
  |tmp t=>
   have h:run (T.getK env t .fail λv=>Kf P env l λl=>k (v::l)) σ K=true:=h
   obtain⟨av,hv,h⟩:=tH h
   obtain⟨v,hu,hr⟩:=hE.val _ _ hv
   obtain⟨avs,vs,a8,h1,h2,h3,h5,h6⟩:=ih σ _ h hS hG
   refine⟨av::avs,v::vs,a8,h1,h2,h3,LR.cons hr h5, ?_⟩
   simp [List.mapM_cons,HY,Et hu,h6]
  |cell c t=>
   have h:run (T.getK env c .fail λp=>yx P t p λv=>Kf P env l λl=>k (v::l)) σ K=true:=h
   obtain⟨ap,hap,h⟩:=tH h
   obtain⟨p,hp,hr⟩:=hE.val _ _ hap
   obtain⟨av,b6,v,hb,a9,b7,hv,b9⟩:=yP (P:=P) hS hG hr h
   obtain⟨avs,vs,a8,h1,h2,h3,h5,h6⟩:=ih b6 _ hb a9 b7
   refine⟨av::avs,v::vs,a8,h1,h2,h3,LR.cons hv h5, ?_⟩
   have an2:(do loadVar t (←asAddr p):Sem Value).run P w= .ok v w:=by
    cases hr with
    |ptr b g o hm hh ho=>simp only [Instr.loadAt,Instr.sureAddr,aap,aar,aau] at b9;simp only [asAddr,aap,aar,aau];exact b9
    |gptr b2 g2 i2 o2 es2 hm2 hh2 hs2=>simp only [Instr.loadAt,Instr.sureAddr,aap,aar,aau] at b9;simp only [asAddr,aap,aar,aau];exact b9
    |cptr l2 blk off arr ty2 hf hb r2=>simp only [Instr.loadAt,Instr.sureAddr,aap,aar,aau] at b9;simp only [asAddr,aap,aar,aau];exact b9
    |_=>exact(ah h).elim
   have:(HY tmps (.cell c t)).run P w= .ok v w:=by simp only [HY,Et hp];exact an2
   simp [List.mapM_cons,this,h6]
def HZ:List Value->Value
 | [v]=>v
 |l=>.tuple l.toArray
def zs{fn:Func}{tmps:Array Value}{vs:List Value}{w':World}(h:(fn.results.toList.mapM (HY tmps)).run P w= .ok vs w'):(results fn tmps).run P w= .ok (HZ vs) w':=by
 rw[Ck,aap,Array.mapM_eq_mapM_toList,Sem.run_map,h]
 cases vs with
 |nil=>simp [HZ]
 |cons v vs=>
  cases vs with
  |nil=>simp [HZ]
  |cons u vs=>simp [HZ]
end
end Go.Sym
namespace Go.Sym
open Go.RowKit (Below)
section
variable{env env':T AV}
def aD{x:Operand}{k k':AV->Tr}(h:∀t,x= .tmp t->env.get t=env'.get t)(hk:∀a,k a=k' a):fB env x k=fB env' x k':=by
 have e:k=k':=funext hk
 subst e
 cases x with
 |tmp t=>show T.getK env t .fail k=T.getK env' t .fail k;rw[T.getK_eq,T.getK_eq,h t rfl]
 |_=>rfl
def jn:∀{l:List Operand} {k k':List AV->Tr},(∀x∈l,∀t,x= .tmp t->env.get t=env'.get t)->(∀a,k a=k' a)->mP env l k=mP env' l k':=by
 intro l
 induction l with
 |nil=>intro k k' _ hk;exact hk []
 |cons x l ih=>intro k k' h hk;exact aD (h x (by simp)) λa=>ih (λy hy=>h y (by simp [hy])) λl=>hk (a::l)
def mc{o:Option Operand}{k k':Option AV->Tr}(h:∀x,o=some x->∀t,x= .tmp t->env.get t=env'.get t)(hk:∀a,k a=k' a):Hs env o k=Hs env' o k':=by
 cases o with
 |none=>exact hk none
 |some x=>exact aD (h x rfl) λa=>hk (some a)
def kr:∀{l:List (Nat×Operand)} {k k':List (Nat×AV)->Tr},(∀x∈l,∀t,x.2= .tmp t->env.get t=env'.get t)->(∀a,k a=k' a)->iz env l k=iz env' l k':=by
 intro l
 induction l with
 |nil=>intro k k' _ hk;exact hk []
 |cons x l ih=>intro k k' h hk;exact aD (h x (by simp)) λa=>ih (λy hy=>h y (by simp [hy])) λl=>hk ((x.1,a)::l)
def Cl{P:Program}{t:TypeId}{k k':TypeDesc->Tr}(hk:∀a,k a=k' a):cq P t k=cq P t k':=by rw[show k=k' from funext hk]
def uw{b:Bool}{x x' y y':Tr}(h:x=x')(h':y=y'):ac b x y=ac b x' y':=by rw[h,h']
def H0{P:Program}{en rn:cS}{op:Op}{k:AV->Tr}(h:∀t,Operand.tmp t∈op.operands->env.get t=env'.get t):P2 P en rn env op k=P2 P en rn env' op k:=by
 have one:∀x,x∈op.operands->∀t,x= .tmp t->env.get t=env'.get t:=λx hx t e=>h t (by subst e;exact hx)
 cases op with
 |move x=>exact aD (one x (by simp [Op.operands])) λ_=>rfl
 |assign x=>exact aD (one x (by simp [Op.operands])) λ_=>rfl
 |pick c a b=>
  exact aD (one c (by simp [Op.operands])) λv=>by
   cases v with
   |bool v=>exact uw (aD (one a (by simp [Op.operands])) λ_=>rfl) (aD (one b (by simp [Op.operands])) λ_=>rfl)
   |sB p=>show Tr.ask p (ac true (fB env a k) (fB env b k)) (ac false (fB env a k) (fB env b k))=Tr.ask p (ac true (fB env' a k) (fB env' b k)) (ac false (fB env' a k) (fB env' b k));rw[aD (one a (by simp [Op.operands])) (λ_=>rfl:∀x,k x=k x),aD (one b (by simp [Op.operands])) (λ_=>rfl:∀x,k x=k x)]
   |_=>rfl
 |box t x=>exact aD (one x (by simp [Op.operands])) λ_=>rfl
 |build t ps=>exact kr (λx hx=>one x.2 (by simp only [Op.operands,List.mem_toArray];exact List.mem_map.2 ⟨x,hx,rfl⟩)) λ_=>rfl
 |buildSlice t n ps=>exact kr (λx hx=>one x.2 (by simp only [Op.operands,List.mem_toArray];exact List.mem_map.2 ⟨x,hx,rfl⟩)) λ_=>rfl
 |load t x=>exact aD (one x (by simp [Op.operands])) λ_=>rfl
 |store t x y=>exact aD (one x (by simp [Op.operands])) λ_=>aD (one y (by simp [Op.operands])) λ_=>rfl
 |nilCheck x=>exact aD (one x (by simp [Op.operands])) λ_=>rfl
 |binOp op t x y z=>exact aD (one x (by simp [Op.operands])) λ_=>aD (one y (by simp [Op.operands])) λ_=>rfl
 |unOp op t x=>exact aD (one x (by simp [Op.operands])) λ_=>rfl
 |convert s d x=>exact aD (one x (by simp [Op.operands])) λ_=>rfl
 |makeFunc fn first cap=>
  exact uw (jn (λx hx=>one x (by simp only [Op.operands,Array.mem_append];exact .inl (by simpa using hx))) λ_=>
   jn (λx hx=>one x (by simp only [Op.operands,Array.mem_append];exact .inr (by simpa using hx))) λ_=>rfl) rfl
 |makeMap t r=>
  cases r with
  |none=>rfl
  |some x=>
   exact Cl λd=>by
    cases d with
    |map _ _=>exact aD (one x (by simp [Op.operands])) λ_=>rfl
    |_=>rfl
 |slice t x lo hi mx=>
  exact aD (one x (by simp [Op.operands])) λ_=>mc (λy hy=>one y (by subst hy;simp [Op.operands])) λ_=>
   mc (λy hy=>one y (by subst hy;simp [Op.operands])) λ_=>mc (λy hy=>one y (by subst hy;simp [Op.operands])) λ_=>rfl
 |fieldAddr t x f=>exact aD (one x (by simp [Op.operands])) λ_=>rfl
 |indexAddr t x i=>exact aD (one x (by simp [Op.operands])) λ_=>aD (one i (by simp [Op.operands])) λ_=>rfl
 |index t x i=>exact aD (one x (by simp [Op.operands])) λ_=>aD (one i (by simp [Op.operands])) λ_=>rfl
 |lookup t x i ok=>exact aD (one x (by simp [Op.operands])) λ_=>aD (one i (by simp [Op.operands])) λ_=>rfl
 |mapUpdate t x y z=>exact aD (one x (by simp [Op.operands])) λ_=>aD (one y (by simp [Op.operands])) λ_=>aD (one z (by simp [Op.operands])) λ_=>rfl
 |range t x=>exact aD (one x (by simp [Op.operands])) λ_=>rfl
 |next x s=>exact aD (one x (by simp [Op.operands])) λ_=>rfl
 |extract x i=>exact aD (one x (by simp [Op.operands])) λ_=>rfl
 |call c=>
  have g8:∀x∈c.args.toList,x∈(Op.call c).operands:=λx hx=>by simp only [Op.operands,Call.operands,Array.mem_append];exact .inr (by simpa using hx)
  show(match c.callee with
   | .builtin b=>mP env c.args.toList λl=>oo l λl=>mS P b c.argTypes l k
   | .value f=>fB env f λf=>mP env c.args.toList λl=>Ed P en rn f l k
   | .invoke _ _=>Tr.fail)=(match c.callee with
   | .builtin b=>mP env' c.args.toList λl=>oo l λl=>mS P b c.argTypes l k
   | .value f=>fB env' f λf=>mP env' c.args.toList λl=>Ed P en rn f l k
   | .invoke _ _=>Tr.fail)
  cases hc:c.callee with
  |builtin b=>exact jn (λx hx=>one x (g8 x hx)) λ_=>rfl
  |value f=>exact aD (one f (by simp [Op.operands,Call.operands,hc])) λ_=>jn (λx hx=>one x (g8 x hx)) λ_=>rfl
  |invoke _ _=>rfl
 |_=>rfl
noncomputable def tk(P:Program)(en rn:cS)(ops:Array Oper)(env:T AV)(o:Oper):Tr:=kn ops env o (P2 P en rn env o.op .ret) (.ret (.tup []))
def K0{P:Program}{en rn:cS}{ops:Array Oper}{o:Oper}(h:∀t∈looks ops o,env.get t=env'.get t):tk P en rn ops env o=tk P en rn ops env' o:=by
 have h1:P2 P en rn env o.op .ret=P2 P en rn env' o.op .ret:=H0 λt ht=>h t (by unfold looks;refine abE _ (List.mem_filterMap.2 ⟨.tmp t,by simpa using ht,rfl⟩));unfold tk kn;rw[h1];split
 ·rfl
 ·rename_i j want hg;split
  ·rename_i oj hj;split
   ·rename_i d hd;rw[T.getK_eq,T.getK_eq,h d];unfold looks;refine abF _ ?_;rw[hg];simp [hj,hd]
   ·rfl
  ·rfl
end
section
variable{X A:Type}
open Classical in
noncomputable def rE(H:Nat->X->A)(W:Nat->X->Prop)(S:Nat->Prop)(x:X):Nat->A
 |0=>H 0 x
 |m+1=>if S m/\W m x then H (m+1) x else rE H W S x m
variable{H:Nat->X->A}{W:Nat->X->Prop}{S S':Nat->Prop}{x:X}{n:Nat}
def wA(same:∀m,m<n->¬W m x->H (m+1) x=H m x):∀m,m<=n->(∀j,j<m->S j)->rE H W S x m=H m x:=by
 intro m
 induction m with
 |zero=>intro _ _;rfl
 |succ m ih=>
  intro hm hS;unfold rE;split
  ·rfl
  ·rename_i h;rw[ih (by omega) (λj hj=>hS j (by omega)),same m (by omega) (λhw=>h ⟨hS m (by omega),hw⟩)]
def ux:∀m,(∀j,j<m->W j x->(S j↔S' j))->rE H W S x m=rE H W S' x m:=by
 intro m
 induction m with
 |zero=>intro _;rfl
 |succ m ih=>
  intro h;unfold rE;rw[ih λj hj=>h j (by omega)];by_cases hw:W m x
  ·by_cases hs:S m
   ·rw[if_pos ⟨hs,hw⟩,if_pos ⟨(h m (by omega) hw).1 hs,hw⟩]
   ·rw[if_neg (λc=>hs c.1),if_neg (λc=>hs ((h m (by omega) hw).2 c.1))]
  ·rw[if_neg (λc=>hw c.2),if_neg (λc=>hw c.2)]
def nb {a : Nat} : ∀ m, a <= m -> (∀ j, a <= j -> j < m -> S j -> ¬ W j x) -> rE H W S x m = rE H W S x a := by
  intro m
  induction m with
  | zero => intro ha _; have : a = 0 := by omega
            subst this; rfl
  | succ m ih =>
    intro ha h
    by_cases e : a = m + 1
    · subst e; rfl
    · conv => lhs; unfold rE
      rw [if_neg (λc => h m (by omega) (by omega) c.1 c.2)]
      exact ih (by omega) λj h1 h2 => h j h1 (by omega)
variable{i:Nat}
def zt(same:∀m,m<n->¬W m x->H (m+1) x=H m x)(hi:i<n)(hS:¬S i)(h1:∀j,j<i->¬S j->¬W j x)(h2:∀j,i<j->j<n->S j->¬W j x):rE H W S x n=H i x:=by
 rw[nb (a:=i) n (by omega) λj a b c=>by
  by_cases e:j=i
  ·subst e;exact absurd c hS
  ·exact h2 j (by omega) b c]
 rw[ux (S':=λ_=>True) i λj hj hw=>⟨λ_=>trivial,λ_=>Classical.byContradiction λhn=>h1 j hj hn hw⟩];exact wA same i (by omega) λ_ _=>trivial
def rF(hi:i<n)(l6:∀j,S' j↔S j∨j=i)(hw:W i x)(h2:∀j,i<j->j<n->S j->¬W j x):rE H W S' x n=H (i+1) x:=by
 rw[nb (a:=i+1) n (by omega) λj a b c=>by
  rcases(l6 j).1 c with c|c
  ·exact h2 j (by omega) b c
  ·omega]
 unfold rE;rw[if_pos ⟨(l6 i).2 (.inr rfl),hw⟩]
def zu(l6:∀j,S' j↔S j∨j=i)(hw:¬W i x):rE H W S' x n=rE H W S x n:=
 ux n λj hj hwj=>by rw[l6 j];exact⟨λc=>c.elim id λe=>by subst e;exact absurd hwj hw,.inl⟩
end
structure Tape' where
 E:Nat->T AV
 H:Nat->T ABlk
 N:Nat->Nat
 V:Nat->AV
 TT:Nat->T Unit
 WW:Nat->List Nat
def Tape'.note(c:Tape')(j:Nat):Note:=.mk (c.N j) (c.N (j+1)) (c.TT j) (c.WW j)
def Tape'.notes(c:Tape')(i:Nat):Nat->List (Nat×Note)
 |0=>[]
 |m+1=>(i+m,c.note (i+m))::c.notes i m
def Tape'.notes_first(c:Tape')(i:Nat)(ns:List (Nat×Note)):∀m,c.notes i (m+1)++ns=c.notes (i+1) m++(i,c.note i)::ns:=by
 intro m
 induction m with
 |zero=>rfl
 |succ m ih=>rw[Tape'.notes,List.cons_append,ih,show i+(m+1)=i+1+m by omega];rfl
def Tape'.mem_notes(c:Tape')(i:Nat):∀m p,p<m->(i+p,c.note (i+p))∈c.notes i m:=by
 intro m
 induction m with
 |zero=>intro p hp;omega
 |succ m ih=>
  intro p hp;by_cases e:p=m
  ·subst e;exact aaB
  ·exact aay _ (ih p (by omega))
def Tape'.notes_congr(c d:Tape')(i:Nat):∀m,(∀j,i<=j->j<i+m->c.note j=d.note j)->c.notes i m=d.notes i m:=by
 intro m
 induction m with
 |zero=>intro _;rfl
 |succ m ih=>intro h;rw[Tape'.notes,Tape'.notes,ih (λj a b=>h j a (by omega)),h (i+m) (by omega) (by omega)]
def Cm(dst:Option Nat)(v:AV)(env:T AV):T AV:=match dst with|none=>env|some d=>env.set d v
structure StepOk(P:Program)(en rn:cS)(nt:Nat)(ops:Array Oper)(c:Tape')(j:Nat)(o:Oper):Prop where
 loc:LocAt (tk P en rn ops (c.E j) o) (c.H j) (c.N j) (c.N j) .leaf [] (c.V j) (c.H (j+1)) (c.N (j+1)) (c.TT j) (c.WW j)
 env:c.E (j+1)=Cm o.dst (c.V j) (c.E j)
 dst:∀d,o.dst=some d->d<nt
 lo:1<=c.N j
 hi:c.N j<=1000000001
def Tape'.before(c:Tape')(i:Nat)(env:T AV)(h:T ABlk)(n:Nat)(v:AV)(t:T Unit)(w:List Nat):Tape' where
 E j:=if j<=i then env else c.E j
 H j:=if j<=i then h else c.H j
 N j:=if j<=i then n else c.N j
 V j:=if j<=i then v else c.V j
 TT j:=if j<=i then t else c.TT j
 WW j:=if j<=i then w else c.WW j
def StepOk.later{P:Program}{en rn:cS}{nt:Nat}{ops:Array Oper}{c:Tape'}{j:Nat}{o:Oper}(h:StepOk P en rn nt ops c j o){i:Nat}(hi:i<j)(env:T AV)(hh:T ABlk)(n:Nat)(v:AV)(t:T Unit)(w:List Nat):
 StepOk P en rn nt ops (c.before i env hh n v t w) j o:=by
 obtain⟨h1,h2,h3,h4,h5⟩:=h
 have e1:¬j<=i:=by omega
 have e2:¬j+1<=i:=by omega
 refine⟨?_, ?_,h3, ?_, ?_⟩ <;> simp only [Tape'.before,if_neg e1,if_neg e2] <;> assumption
section
variable{P:Program}{w0:World}{ρ:Rho}{w:World}{σ:St}{K:Fin}{nt:Nat}{env:T AV}{a:Act}
def K1{dst:Option Nat}{v:AV}{k:T AV->Tr}(h:run (yG nt dst v env k) σ K=true):run (k (Cm dst v env)) σ K=true/\∀d,dst=some d->d<nt:=by
 cases dst with
 |none=>exact⟨h,λd hd=>by cases hd⟩
 |some d=>obtain⟨hd,h⟩:=ay h;rw[T.setK_eq] at h;exact⟨h,λd' U'=>by injection U' with U';subst U';exact bV hd⟩
def Qj{t:Tr}{k:AV->Nat->Nat->T Unit->List Nat->Tr}{h:T ABlk}{n fs:Nat}{tc:T Unit}{w:List Nat}(hS:SI (.mk h n fs tc w))(hr:run (.sub t k) (.mk h n fs tc w) K=true):
 ∃a h' n' t' w',LocAt t h n n .leaf [] a h' n' t' w'/\∃tc2 w2,run (k a n n' t' w') (.mk h' n' fs tc2 w2) K=true/\SI (.mk h' n' fs tc2 w2):=by
 obtain⟨h1,h2,h3,h4,h5⟩:=hS
 rw[gD] at hr
 rcases loc t h n n .leaf [] (by omega) (aao _) h2 (by simp) (λb hb=>by simp [T.get] at hb) with hf|⟨a,h',n',t',w',L⟩
 ·rw[hf] at hr;cases hr
 ·rw[L.run] at hr;have hle:=L.le;have an3:=L.lid;refine⟨a,h',n',t',w',L, ?_⟩;simp only at hr;split at hr
  ·exact⟨tc,w,hr,by omega,an3,by omega,h4,h5⟩
  ·refine⟨_,_,hr,by omega,an3,by omega,λb hb=>?_,λb hb=>?_⟩
   ·have ae9:∀b∈T.keys t' id [],b+1<2 ^ 64:=λb hb=>by
     rcases ud t' id [] b hb with hb|⟨x,u,e,hx⟩
     ·cases hb
     ·have:=L.low x hx;have e':b=x:=e;subst e';omega
    rcases mM _ _ _ hb with hb|⟨hb,c8⟩
    ·exact eY _ _ _ ae9 (h4 b hb)
    ·exact jZ _ _ _ ae9 (by have:=T.mem_keys t' id [] b () (L.sub b hb);simpa using this) c8
   ·have key:∀(l:List Nat) (t:T Unit),(∀b,t.get b=some ()->b<fs)->∀b,(fO fs l t).get b=some ()->b<fs:=by
     intro l
     induction l with
     |nil=>intro t ht b hb;exact ht b hb
     |cons x l ih=>
      intro t ht b hb;refine ih _ (λy hy=>?_) b hb;by_cases e:fs<=x
      ·rw[Sym.note,if_pos e] at hy;exact ht y hy
      ·by_cases ey:y=x
       ·omega
       ·rw[Sym.note,if_neg e,T.get_set_ne _ ey] at hy;exact ht y hy
    exact key _ _ h5 b hb
def YD{ops:Array Oper}{en rn:cS}{k:T AV->Tr}:∀(l:List Oper) (i:Nat) (env:T AV) (ns:List (Nat×Note)) (h:T ABlk) (n fs:Nat) (tc:T Unit) (w:List Nat),SI (.mk h n fs tc w)->
 run (Ee P en rn nt ops l i env ns k) (.mk h n fs tc w) K=true->
 ∃c:Tape',c.E i=env/\c.H i=h/\c.N i=n/\(∀j o,l[j]? =some o->StepOk P en rn nt ops c (i+j) o)/\
  (∃tc' w',run (k (c.E (i+l.length))) (.mk (c.H (i+l.length)) (c.N (i+l.length)) fs tc' w') K=true/\SI (.mk (c.H (i+l.length)) (c.N (i+l.length)) fs tc' w'))/\
  ou (je ops.toList []) (c.notes i l.length++ns)=true:=by
 intro l
 induction l with
 |nil=>
  intro i env ns h n fs tc w hS hr
  have hr:run (ac (ou (je ops.toList []) ns) (k env) .fail) (.mk h n fs tc w) K=true:=hr
  obtain⟨hc,hr⟩:=ay hr
  exact⟨⟨λ_=>env,λ_=>h,λ_=>n,λ_=>.nilp,λ_=>.leaf,λ_=>[]⟩,rfl,rfl,rfl,λj o ho=>by simp at ho,⟨tc,w,hr,hS⟩,hc⟩
 |cons o l ih=>
  intro i env ns h n fs tc w hS hr
  have hr:run (.sub (tk P en rn ops env o) λv c c' t w=>yG nt o.dst v env λenv=>fN (Nat.succ i) λi'=>Ee P en rn nt ops l i' env ((i,.mk c c' t w)::ns) k) (.mk h n fs tc w) K=true:=hr
  obtain⟨v,h',n',t',w',L,tc2,w2,hr,d6⟩:=Qj hS hr
  obtain⟨hr,hd⟩:=K1 hr
  have hr:=jF hr
  obtain⟨c,e1,e2,e3,j9,ac0,af6⟩:=ih _ _ _ _ _ _ _ _ d6 hr
  have g1:∀m,i+1+m=i+(m+1):=λm=>by omega
  have g2:∀m,¬i+(m+1)<=i:=λm=>by omega
  have g3:¬i+1<=i:=by omega
  refine⟨c.before i env h n v t' w',by simp [Tape'.before],by simp [Tape'.before],by simp [Tape'.before],λj o' ho=>?_, ?_, ?_⟩
  ·cases j with
   |zero=>
    simp at ho;subst ho;refine⟨?_, ?_,hd, ?_, ?_⟩
    ·simp only [Tape'.before,aaG,aao,if_true,if_neg g3];have e2:c.H (i+1)=h':=e2;have e3:c.N (i+1)=n':=e3;rw[e2,e3];exact L
    ·simp only [Tape'.before,aaG,aao,if_true,if_neg g3];exact e1
    ·simp only [Tape'.before,aaG,aao,if_true];exact hS.1
    ·simp only [Tape'.before,aaG,aao,if_true];exact hS.2.1
   |succ j=>simp at ho;have:=(j9 j o' ho).later (i:=i) (by omega) env h n v t' w';rw[g1] at this;exact this
  ·obtain⟨tc',w'',q1,q2⟩:=ac0;refine⟨tc',w'', ?_⟩;simp only [aaI,Tape'.before,if_neg (g2 _)];have g1':Nat.succ i+l.length=i+(l.length+1):=by omega
   rw[g1'] at q1 q2;exact⟨q1,q2⟩
  ·rw[aaI,Tape'.notes_first];have e0:(c.before i env h n v t' w').note i= .mk n n' t' w':=by have e3:c.N (i+1)=n':=e3;simp only [Tape'.note,Tape'.before,aao,if_true,if_neg g3,e3]
   rw[e0,Tape'.notes_congr _ c (i+1) l.length λj a b=>by
    have e4:¬j<=i:=by omega
    have e5:¬j+1<=i:=by omega
    simp only [Tape'.note,Tape'.before,if_neg e4,if_neg e5]]
   exact af6
end
def rG{t:T Unit}:∀{l:List Nat},oq t l=true->∀b∈l,t.get b=none:=by
 intro l
 induction l with
 |nil=>intro _ b hb;cases hb
 |cons x l ih=>
  intro h b hb;have h:T.getK t x (oq t l) (λ_=>false)=true:=h;rw[T.getK_eq] at h;split at h
  ·rename_i hx;rcases List.mem_cons.mp hb with e|hb
   ·subst e;exact hx
   ·exact ih h b hb
  ·cases h
def jH{c c':Nat}:∀{l:List Nat},cW c c' l=true->∀b∈l,¬(c<=b/\b<c'):=by
 intro l
 induction l with
 |nil=>intro _ b hb;cases hb
 |cons x l ih=>
  intro h b hb hc;have h:ac (Nat.ble c x) (ac (Nat.ble (Nat.succ x) c') false (cW c c' l)) (cW c c' l)=true:=h;rcases List.mem_cons.mp hb with e|hb
  ·subst e;rw[show Nat.ble c b=true from Nat.ble_eq.mpr hc.1,show Nat.ble (Nat.succ b) c'=true from Nat.ble_eq.mpr hc.2] at h;cases h
  ·refine ih ?_ b hb hc
   cases h1:Nat.ble c x with
   |false=>rw[h1] at h;exact h
   |true=>
    rw[h1] at h
    cases h2:Nat.ble (Nat.succ x) c' with
    |false=>rw[h2] at h;exact h
    |true=>rw[h2] at h;cases h
def zx{bs:List Nat}{c:Tape'}:∀{m:Nat} {ns:List (Nat×Note)},ou bs (c.notes 0 m++ns)=true->∀p q,p<q->q<m->(bs.getD q 0).testBit p=true∨B0 (c.note p) (c.note q)=true:=by
 intro m
 induction m with
 |zero=>intro ns _ p q _ h;omega
 |succ m ih=>
  intro ns h p q hp hq;have h:ac ((c.notes 0 m++ns).all λx=>ac ((bs.getD (0+m) 0).testBit x.1) true (B0 x.2 (c.note (0+m)))) (ou bs (c.notes 0 m++ns)) false=true:=h;obtain⟨h1,h2⟩:=aC h;by_cases e:q=m
  ·subst e;have hm:=c.mem_notes 0 q p hp;have:=List.all_eq_true.mp h1 _ (abE _ hm);simp only [aaC] at this;rw[ar] at this;split at this
   ·rename_i hb;exact .inl hb
   ·exact .inr this
  ·exact ih h2 p q hp (by omega)
def rH:∀(l:List Oper) (acc:List Nat) (i:Nat),i<acc.length->(je l acc).getD i 0=acc.getD i 0:=by
 intro l
 induction l with
 |nil=>intro acc i _;rfl
 |cons o l ih=>intro acc i hi;rw[je,ih _ _ (by simp;omega)];simp [aas,aaO hi]
def Eu(acc:List Nat)(o:Oper):Nat:=o.after.toList.foldl (λs e=>if Region.binds .any e then s ||| 2 ^ e.on ||| acc.getD e.on 0 else s) 0
def Qk:∀(l:List Oper) (acc:List Nat) (k:Nat) (o:Oper),l[k]? =some o->∃ae3,ae3.length=acc.length+k/\(∀i,i<ae3.length->(je l acc).getD i 0=ae3.getD i 0)/\(je l acc).getD (acc.length+k) 0=Eu ae3 o:=by
 intro l
 induction l with
 |nil=>intro acc k o h;simp at h
 |cons o l ih=>
  intro acc k o' h
  cases k with
  |zero=>simp at h;subst h;refine⟨acc,rfl,λi hi=>rH _ _ _ hi, ?_⟩;rw[je,rH _ _ _ (by simp)];simp [aas,Eu]
  |succ k=>simp at h;obtain⟨ae3,h1,h2,h3⟩:=ih (acc++ [Eu acc o]) k o' h;simp only [aav,aaQ] at h1 h3;refine⟨ae3,by omega,h2, ?_⟩;rw[←h3,show acc.length+(k+1)=acc.length+1+k by omega];rfl
def H1{acc:List Nat}{o:Oper}{i:Nat}(h:(Eu acc o).testBit i=true):∃e∈o.after,Region.binds .any e=true/\(e.on=i∨(acc.getD e.on 0).testBit i=true):=by
 have key:∀(l:List Edge) (s:Nat),(l.foldl (λs e=>if Region.binds .any e then s ||| 2 ^ e.on ||| acc.getD e.on 0 else s) s).testBit i=true->
  s.testBit i=true∨∃e∈l,Region.binds .any e=true/\(e.on=i∨(acc.getD e.on 0).testBit i=true):=by
  intro l
  induction l with
  |nil=>intro s h;exact .inl h
  |cons e l ih=>
   intro s h
   rw[List.foldl_cons] at h
   rcases ih _ h with h|⟨e',he,h⟩
   ·split at h
    ·rename_i hb;rw[Nat.testBit_or,Nat.testBit_or,Bool.or_eq_true,Bool.or_eq_true,Nat.testBit_two_pow] at h;rcases h with(h|h)|h
     ·exact .inl h
     ·exact .inr ⟨e,by simp,hb,.inl (by simpa using h)⟩
     ·exact .inr ⟨e,by simp,hb,.inr h⟩
    ·exact .inl h
   ·exact .inr ⟨e',by simp [he],h⟩
 rcases key _ _ h with h|⟨e,he,h⟩
 ·simp at h
 ·exact⟨e,by simpa using he,h⟩
def Ql{ops:Array Oper}{j i:Nat}{o:Oper}(ho:ops[j]? =some o)(h:((je ops.toList []).getD j 0).testBit i=true):
 ∃e∈o.after,Region.binds .any e=true/\(e.on=i∨((je ops.toList []).getD e.on 0).testBit i=true):=by
 obtain⟨ae3,h1,h2,h3⟩:=Qk ops.toList [] j o (by simpa using ho)
 simp only [List.length_nil,aaC] at h1 h3
 rw[h3] at h
 obtain⟨e,he,hb,hc⟩:=H1 h
 refine⟨e,he,hb,hc.imp id λhc=>?_⟩
 rcases aat e.on ae3.length with hl|hl
 ·rw[h2 _ hl];exact hc
 ·rw[aas,aaz hl] at hc;simp at hc
def uy{ops:Array Oper}(h:ot ops=true){j:Nat}{o:Oper}(ho:ops[j]? =some o):∀e∈o.after,Region.binds .any e=true->e.on<j:=by
 intro e he hb;unfold ot at h;have hm:(o,j)∈ops.toList.zipIdx:=by rw[ab4];simpa using ho
 have:=List.all_eq_true.mp h _ hm;simp only [Bool.and_eq_true] at this;have:=List.all_eq_true.mp this.1 e (by simpa using he);simpa [hb] using this
def wB{ops:Array Oper}(h:ot ops=true){i j:Nat}{p o:Oper}(hp:ops[i]? =some p)(ho:ops[j]? =some o)(hij:i<j):((je ops.toList []).getD j 0).testBit i=true∨wk ops p o=true:=by
 unfold ot at h;have hm:(o,j)∈ops.toList.zipIdx:=by rw[ab4];simpa using ho
 have t9:(p,i)∈ops.toList.zipIdx:=by rw[ab4];simpa using hp
 have:=List.all_eq_true.mp h _ hm;simp only [Bool.and_eq_true] at this;have:=List.all_eq_true.mp this.2 _ t9;simp only [Bool.or_eq_true,Bool.not_eq_true',decide_eq_false_iff_not] at this;rcases this with(c|c)|c
 ·exact absurd hij c
 ·exact .inl c
 ·exact .inr c
def Co{ops:Array Oper}{a b:Oper}(h:wk ops a b=true):(∀d,a.dst=some d->d∉looks ops b)/\(∀d,b.dst=some d->d∉looks ops a)/\∀d,a.dst=some d->b.dst≠some d:=by
 unfold wk at h;simp only [Bool.and_eq_true] at h;obtain⟨⟨h1,h2⟩,h3⟩:=h;refine⟨λd hd=>?_,λd hd=>?_,λd hd he=>?_⟩
 ·rw[hd] at h1;simpa using h1
 ·rw[hd] at h2;simpa using h2
 ·rw[hd,he] at h3;simp at h3
section
variable{P:Program}{w0:World}{ρ:Rho}{w:World}{σ:St}{K:Fin}{nt:Nat}{env:T AV}{a:Act}
def Good.like{H H':T ABlk}(hG:Good w0 ρ H w)(h:∀b,H'.get b=H.get b):Good w0 ρ H' w:=
 ⟨⟨hG.below,λb x hx=>hG.blk b x (by rw[←h];exact hx),λb g x hx=>by rw[h];exact hG.dom b g x hx,hG.inj,λb g y x hy hx=>hG.gens b g y x hy (by rw[←h];exact hx),λb arr ty hf=>⟨(hG.frz b arr ty hf).1,λb' g x hh e=>by rw[h];exact(hG.frz b arr ty hf).2 b' g x hh e⟩,hG.frzB,λb k I l hb=>hG.objO b k I l (by rw[←h];exact hb)⟩,hG.ownB⟩
def ER.like{env':T AV}{tmps:Array Value}(hE:ER ρ nt env tmps)(h:∀d,env'.get d=env.get d):ER ρ nt env' tmps:=
 ⟨hE.size,λt x hx=>hE.val t x (by rw[←h];exact hx)⟩
def Qm{dst:Option Nat}{av:AV}{v:Value}(hv:VR ρ av v)(hE:ER ρ nt env a.tmps)(hd:∀d,dst=some d->d<nt):ER ρ nt (Cm dst av env) (a.put dst v).tmps:=by
 cases dst with
 |none=>exact hE
 |some d=>
  have hd:=hd d rfl;refine⟨?_,λt b hb=>?_⟩
  ·show(a.tmps.setIfInBounds d v).size=nt;rw[ab3];exact hE.size
  ·show ∃u,(a.tmps.setIfInBounds d v)[t]? =some u/\VR ρ b u;by_cases e:t=d
   ·subst e;have:=T.get_set_some _ _ hb;subst this;refine⟨v, ?_,hv⟩;rw[aaX,if_pos rfl,if_pos (by rw[hE.size];omega)]
   ·have hb:(env.set d av).get t=some b:=hb;rw[T.get_set_ne _ e] at hb;obtain⟨u,hu,hr⟩:=hE.val t b hb;exact⟨u,by rw[aaX,if_neg (λe'=>e e'.symm)];exact hu,hr⟩
def uz{dst:Option Nat}{v:AV}{x:Nat}(h:dst≠some x):(Cm dst v env).get x=env.get x:=by
 cases dst with
 |none=>rfl
 |some d=>exact T.get_set_ne _ (λe=>h (by rw[e])) _
def Ev{dst:Option Nat}{v:AV}{x:Nat}(h:dst=some x)(hx:x+1<2 ^ 64):(Cm dst v env).get x=some v:=by subst h;exact T.get_set_same _ _ _ hx
def h_(listed:Array Bool)(j:Nat):Prop:=listed.getD j false=true
def K2{listed:Array Bool}{i:Nat}(hi:i<listed.size)(j:Nat):h_ (listed.setIfInBounds i true) j↔h_ listed j∨j=i:=by
 unfold h_;rw[aa8,aaX,aa8];by_cases e:i=j
 ·subst e;simp [hi]
 ·have e':¬j=i:=λh=>e h.symm;rw[if_neg e,or_iff_left e']
def zy{listed:Array Bool}{j:Nat}(h:listed.getD j true=false):¬h_ listed j/\j<listed.size:=by
 rw[aa8] at h
 cases hj:listed[j]? with
 |none=>rw[hj] at h;cases h
 |some b=>rw[hj] at h;refine⟨λc=>?_,(Array.getElem?_eq_some_iff.1 hj).1⟩;unfold h_ at c;rw[aa8,hj] at c;have h:b=false:=h;have c:b=true:=c;rw[h] at c;cases c
def Vs(ops:Array Oper)(o:Oper)(x:Nat):Prop:=x∈looks ops o∨o.dst=some x
def WrE(ops:Array Oper)(j:Nat)(x:Nat):Prop:=∃o,ops[j]? =some o/\o.dst=some x
def Vt(c:Tape')(j:Nat)(b:Nat):Prop:=To (c.N j) (c.N (j+1)) (c.WW j) b
def TcH(c:Tape')(j:Nat)(b:Nat):Prop:=Vb (c.N j) (c.N (j+1)) (c.TT j) b
open Classical in
theorem Qn{rd:Option Nat}{ops:Array Oper}{en rn:cS}(hen:zr P w0 en)(hrn:Qg P w0 rn)(hnt:nt<=1000000000)(hm:P.follows .mixedOrders=true){k:T AV->Tr}{Q:Exit->Act->World->Prop}(ρ0:Rho)(ds:List Deferred)
 (hk:∀env' a8 ρ' a' w',run (k env') a8 K=true->SI a8->Good w0 ρ' a8.h w'->ρ0.le ρ'->ER ρ' nt env' a'.tmps->a'.defers=ds->Q .normal a' w')
 (htm:ot ops=true) (h:run (Ee P en rn nt ops ops.toList 0 env [] k) σ K=true) (hS:SI σ) (hG:Good w0 ρ σ.h w) (hle:ρ0.le ρ) (hE:ER ρ nt env a.tmps) (hd:a.defers=ds) (id:Nat):
 (Code.region id ops true).wpIn (fR rd) 0 P Q a w:=by
 cases σ with
 |mk h0 n0 fs tc ww=>
 obtain⟨c,e1,e2,e3,j9,⟨tc',w',ac0,ai_⟩,af6⟩:=YD _ _ _ _ _ _ _ _ _ hS h
 rw[aaY,aaC] at ac0 ai_
 rw[aaY] at af6
 have j9:∀j o,ops[j]? =some o->StepOk P en rn nt ops c j o:=λj o ho=>by
  have:=j9 j o (by simpa using ho)
  rwa [aaC] at this
 have c8:∀{j o},ops[j]? =some o->j<ops.size:=λh=>(Array.getElem?_eq_some_iff.1 h).1
 have hop:∀{j},j<ops.size->∃o,ops[j]? =some o:=λh=>⟨_,aa0 h⟩
 have hN1:∀j,j<ops.size->c.N j<=c.N (j+1):=λj hj=>by obtain⟨o,ho⟩:=hop hj;exact(j9 j o ho).loc.le
 have hN:∀i j,i<=j->j<=ops.size->c.N i<=c.N j:=λi j=>by
  induction j with
  |zero=>intro h1 _;rw[show i=0 by omega];exact aao _
  |succ j ih=>
   intro h1 h2;by_cases e:i=j+1
   ·subst e;exact aao _
   ·exact aaV (ih (by omega) (by omega)) (hN1 j (by omega))
 have sameH:∀b m,m<ops.size->¬Vt c m b->(c.H (m+1)).get b=(c.H m).get b:=λb m hm hw=>by obtain⟨o,ho⟩:=hop hm;exact(j9 m o ho).loc.same b hw
 have sameE:∀x m,m<ops.size->¬WrE ops m x->(c.E (m+1)).get x=(c.E m).get x:=λx m hm hw=>by obtain⟨o,ho⟩:=hop hm;rw[(j9 m o ho).env];exact uz λe=>hw ⟨o,ho,e⟩
 have ai0:∀j b,j<ops.size->Vt c j b->TcH c j b:=λj b hj hw=>by
  obtain⟨o,ho⟩:=hop hj;rcases hw with hw|hw
  ·exact .inl ((j9 j o ho).loc.sub b hw)
  ·exact .inr hw
 have apH:∀i j b,i<j->j<ops.size->¬((je ops.toList []).getD j 0).testBit i=true->(¬(TcH c i b/\Vt c j b))/\¬(Vt c i b/\TcH c j b):=λi j b hij hj hnb=>by
  obtain⟨p,hp⟩:=hop (show i<ops.size by omega);obtain⟨o,ho⟩:=hop hj;have j5:=(zx af6 i j hij hj).resolve_left hnb;have j5:ac (oq (c.TT j) (c.WW i)) (ac (oq (c.TT i) (c.WW j)) (ac (cW (c.N i) (c.N (i+1)) (T.keys (c.TT j) _root_.id [])) (ac (cW (c.N i) (c.N (i+1)) (c.WW j)) true false) false) false) false=true:=j5;obtain⟨h1,j5⟩:=aC j5;obtain⟨h2,j5⟩:=aC j5;obtain⟨h3,j5⟩:=aC j5;obtain⟨h4,_⟩:=aC j5;have Li:=(j9 i p hp).loc;have Lj:=(j9 j o ho).loc;have at1:=hN (i+1) j (by omega) (by omega);have hNi:=hN1 i (by omega);constructor
  ·rintro⟨ht,hw⟩;rcases hw with hw|hw
   ·rcases ht with ht|ht
    ·rw[rG h2 b hw] at ht;cases ht
    ·exact jH h4 b hw ht
   ·rcases ht with ht|ht
    ·have:=Li.low b ht;omega
    ·omega
  ·rintro⟨hw,ht⟩;rcases hw with hw|hw
   ·rcases ht with ht|ht
    ·rw[rG h1 b hw] at ht;cases ht
    ·have:=Li.low b (Li.sub b hw);omega
   ·rcases ht with ht|ht
    ·exact jH h3 b (by have:=T.mem_keys (c.TT j) _root_.id [] b () ht;simpa using this) hw
    ·omega
 have apE:∀i j p o x,i<j->ops[i]? =some p->ops[j]? =some o->¬((je ops.toList []).getD j 0).testBit i=true->(¬(Vs ops p x/\o.dst=some x))/\¬(p.dst=some x/\Vs ops o x):=λi j p o x hij hp ho hnb=>by
  obtain⟨h1,h2,h3⟩:=Co ((wB htm hp ho hij).resolve_left hnb);constructor
  ·rintro⟨ht,hw⟩;rcases ht with ht|ht
   ·exact h2 x hw ht
   ·exact h3 x ht hw
  ·rintro⟨hw,ht⟩;rcases ht with ht|ht
   ·exact h1 x hw ht
   ·exact h3 x hw ht
 have main:∀(fuel:Nat) (listed:Array Bool) (g:T ABlk) (env':T AV) (ρ':Rho) (a':Act) (w':World),listed.size=ops.size->listed.toList.count false<=fuel->
  (∀j,h_ listed j->∀i,((je ops.toList []).getD j 0).testBit i=true->h_ listed i)->
  (∀b,g.get b=rE (λm b=>(c.H m).get b) (Vt c) (h_ listed) b ops.size)->(∀x,env'.get x=rE (λm x=>(c.E m).get x) (WrE ops) (h_ listed) x ops.size)->
  Good w0 ρ' g w'->ρ0.le ρ'->ER ρ' nt env' a'.tmps->a'.defers=ds->wpAnyIn (fR rd) 0 P .any ops Q fuel listed a' w':=by
  intro fuel
  have fin:∀(listed:Array Bool) (g:T ABlk) (env':T AV) (ρ':Rho) (a':Act) (w':World),listed.size=ops.size->
   (∀b,g.get b=rE (λm b=>(c.H m).get b) (Vt c) (h_ listed) b ops.size)->(∀x,env'.get x=rE (λm x=>(c.E m).get x) (WrE ops) (h_ listed) x ops.size)->
   Good w0 ρ' g w'->ρ0.le ρ'->ER ρ' nt env' a'.tmps->a'.defers=ds->Region.ready .any ops listed= []->Q .normal a' w':=by
   intro listed g env' ρ' a' w' p8 hg he f6 ac_ hE' U' hr
   have ac9:∀m,∀j,j<m->j<ops.size->h_ listed j:=by
    intro m
    induction m with
    |zero=>intro j hj;omega
    |succ m ih=>
     intro j hj hjs;by_cases e:j<m
     ·exact ih j e hjs
     ·have e:j=m:=by omega
      subst e;refine byContradiction λhn=>?_;obtain⟨o,ho⟩:=hop hjs;have:j∈Region.ready .any ops listed:=mem_ready.2 ⟨?_,o,ho,λe he hb=>ih e.on (uy htm ho e he hb) (by have:=uy htm ho e he hb;omega)⟩
      ·rw[hr] at this;cases this
      ·unfold h_ at hn;rw[aa8,aa0 (by omega)] at hn⊢;simpa using hn
   have hH:∀b,(c.H ops.size).get b=g.get b:=λb=>by rw[hg b,wA (sameH b) ops.size (aao _) λj hj=>ac9 (j+1) j (by omega) hj]
   have hEE:∀x,(c.E ops.size).get x=env'.get x:=λx=>by rw[he x,wA (sameE x) ops.size (aao _) λj hj=>ac9 (j+1) j (by omega) hj]
   exact hk _ _ ρ' a' w' ac0 ai_ (f6.like hH) ac_ (hE'.like hEE) U'
  induction fuel with
  |zero=>
   intro listed g env' ρ' a' w' p8 ak3 x6 hg he f6 ac_ hE' U'
   have hr:Region.ready .any ops listed= []:=by
    rw[List.eq_nil_iff_forall_not_mem];intro j hj;have:=(mem_ready.1 hj).1;have hn:=zy this;have:false∈listed.toList:=by rw[aa8,aa0 hn.2] at this;have this:listed[j]'hn.2=false:=this;rw[←this];simp
    have:=List.count_pos_iff.2 this;omega
   exact⟨hr,fin listed g env' ρ' a' w' p8 hg he f6 ac_ hE' U' hr⟩
  |succ fuel ih=>
   intro listed g env' ρ' a' w' p8 ak3 x6 hg he f6 ac_ hE' U'
   refine⟨fin listed g env' ρ' a' w' p8 hg he f6 ac_ hE' U',λi hi=>?_⟩
   obtain⟨hun,o,ho,V'⟩:=mem_ready.1 hi
   obtain⟨hnd,hil⟩:=zy hun
   have his:=c8 ho
   have st:=j9 i o ho
   have L:=st.loc
   have an4:∀j,((je ops.toList []).getD i 0).testBit j=true->h_ listed j:=λj hj=>by
    obtain⟨e,he,hb,hc⟩:=Ql ho hj;rcases hc with hc|hc
    ·subst hc;exact V' e he hb
    ·exact x6 _ (V' e he hb) j hc
   have later:∀j,i<j->j<ops.size->h_ listed j->¬((je ops.toList []).getD j 0).testBit i=true:=λj _ _ hj hb=>hnd (x6 j hj i hb)
   have sooner:∀j,j<i->¬h_ listed j->¬((je ops.toList []).getD i 0).testBit j=true:=λj _ hj hb=>hj (an4 j hb)
   have an5:∀b,TcH c i b->g.get b=(c.H i).get b:=λb hb=>by rw[hg b];exact zt (sameH b) his hnd (λj h1 h2 h3=>(apH j i b h1 his (sooner j h1 h2)).2 ⟨h3,hb⟩) λj h1 h2 h3 h4=>(apH i j b h1 h2 (later j h1 h2 h3)).1 ⟨hb,h4⟩
   have an6:∀x,Vs ops o x->env'.get x=(c.E i).get x:=λx hx=>by
    rw[he x];refine zt (sameE x) his hnd (λj h1 h2 h3=>?_) λj h1 h2 h3 h4=>?_
    ·obtain⟨p,hp,hpx⟩:=h3;exact(apE j i p o x h1 hp ho (sooner j h1 h2)).2 ⟨hpx,hx⟩
    ·obtain⟨p,hp,hpx⟩:=h4;exact(apE i j o p x h1 ho hp (later j h1 h2 h3)).1 ⟨hx,hpx⟩
   obtain⟨g',r1,r2,r3⟩:=L.like g an5
   have b9:run (tk P en rn ops env' o) (.mk g (c.N i) (c.N i) .leaf []) (λx s=>decide (x=c.V i/\s= .mk g' (c.N (i+1)) (c.N i) (c.TT i) (c.WW i)))=true:=by rw[K0 (env':=c.E i) (λt ht=>an6 t (.inl ht)),r1];simp
   have hSi:SI (.mk g (c.N i) (c.N i) .leaf []):=⟨st.lo,st.hi,aao _,by simp,λb hb=>by simp [T.get] at hb⟩
   have next:∀(ρ2:Rho) (v:Value) (w2:World),Good w0 ρ2 g' w2->ρ'.le ρ2->VR ρ2 (c.V i) v->wpAnyIn (fR rd) 0 P .any ops Q fuel (listed.setIfInBounds i true) (a'.put o.dst v) w2:=by
    intro ρ2 v w2 f9 d8 hv;have hds:=K2 (listed:=listed) (i:=i) hil;refine ih (listed.setIfInBounds i true) g' (Cm o.dst (c.V i) env') ρ2 (a'.put o.dst v) w2 (by simp [p8]) ?_ (λj hj q hq=>?_) (λb=>?_) (λx=>?_) f9 (ac_.trans d8) (Qm hv (hE'.mono d8) st.dst) (by cases at2:o.dst <;> exact U')
    ·rw[Array.toList_setIfInBounds,List.count_set (by simpa using hil)];have e1:listed.toList[i]'(by simpa using hil)=false:=by rw[aa8,aa0 hil] at hun;have hun:listed[i]'hil=false:=hun;simpa using hun
     have:0<listed.toList.count false:=List.count_pos_iff.2 (by rw[←e1];exact abr _);rw[e1,if_pos (by rfl),if_neg (by decide)];omega
    ·rcases(hds j).1 hj with hj|hj
     ·exact(hds q).2 (.inl (x6 j hj q hq))
     ·subst hj;exact(hds q).2 (.inl (an4 q hq))
    ·by_cases hw:Vt c i b
     ·rw[r2 b (ai0 i b his hw)];exact(rF (H:=λm b=>(c.H m).get b) his hds hw λj h1 h2 h3 h4=>(apH i j b h1 h2 (later j h1 h2 h3)).1 ⟨ai0 i b his hw,h4⟩).symm
     ·rw[r3 b hw,hg b];exact(zu (H:=λm b=>(c.H m).get b) hds hw).symm
    ·by_cases hw:WrE ops i x
     ·have hx:o.dst=some x:=by obtain⟨o',ho',hx⟩:=hw;rw[ho] at ho';injection ho' with ho';rw[ho'];exact hx
      have an7:x+1<2 ^ 64:=by have:x<nt:=st.dst x hx;omega
      have q1:(Cm o.dst (c.V i) env').get x=(c.E (i+1)).get x:=by rw[st.env,Ev hx an7,Ev hx an7]
      rw[q1];refine(rF (H:=λm x=>(c.E m).get x) his hds hw λj h1 h2 h3 h4=>?_).symm;obtain⟨p,hp,hpx⟩:=h4;exact(apE i j o p x h1 ho hp (later j h1 h2 h3)).1 ⟨.inr hx,hpx⟩
     ·rw[uz (λe=>hw ⟨o,ho,e⟩),he x];exact(zu (H:=λm x=>(c.E m).get x) hds hw).symm
   unfold wpOpIn
   simp only [ho]
   rcases KZ hE' b9 with⟨hw,hr⟩|⟨hw,hr⟩
   ·rw[if_pos hw];refine KY hen hrn hSi f6 hE' hr λav v a8 ρ2 w2 q1 q2 q3 q4 q5=>?_;obtain⟨z1,z2⟩:=of_decide_eq_true (show decide (av=c.V i/\a8= .mk g' (c.N (i+1)) (c.N i) (c.TT i) (c.WW i))=true from q1);subst z1;subst z2;exact next ρ2 v w2 q3 q4 q5
   ·rw[if_neg (by rw[hw];simp)];obtain⟨z1,z2⟩:=of_decide_eq_true (show decide (AV.tup []=c.V i/\St.mk g (c.N i) (c.N i) .leaf []= .mk g' (c.N (i+1)) (c.N i) (c.TT i) (c.WW i))=true from hr);injection z2 with z2;refine⟨λ_ _=>trivial,next ρ' undef w' (by rw[←z2];exact f6) (Rho.le.refl _) (by rw[←z1];exact .tup [] #[] rfl (by simp))⟩
 refine wpIn_region_any hm (main ops.size (Array.replicate ops.size false) h0 env ρ a _ (by simp) (by simp) (λj hj=>?_) (λb=>?_) (λx=>?_) (hG.drawn _) hle hE hd)
 ·unfold h_ at hj;rw[aa8,ab5] at hj;split at hj <;> simp at hj
 ·have hn:∀j,¬h_ (Array.replicate ops.size false) j:=λj hj=>by unfold h_ at hj;rw[aa8,ab5] at hj;split at hj <;> simp at hj
  rw[nb (a:=0) ops.size (aaD _) λj _ _ hj=>absurd hj (hn j)];show h0.get b=(c.H 0).get b;rw[e2]
 ·have hn:∀j,¬h_ (Array.replicate ops.size false) j:=λj hj=>by unfold h_ at hj;rw[aa8,ab5] at hj;split at hj <;> simp at hj
  rw[nb (a:=0) ops.size (aaD _) λj _ _ hj=>absurd hj (hn j)];show env.get x=(c.E 0).get x;rw[e1]
end
end Go.Sym
namespace Go.Sym
open Go.RowKit (Below)
def X6:AEx->Exit
 | .normal=>.normal
 | .exit id=>.exit id
 | .goto l=>.goto l
 | .ret=>.ret
def K3(w0:World)(ρ:Rho)(K:Fin)(nt:Nat)(k:XK)(Q:Exit->Act->World->Prop):Prop:=
 ∀ex env' df' a8 ρ' w' a',run (k ex env' df') a8 K=true->SI a8->Good w0 ρ' a8.h w'->ρ.le ρ'->ER ρ' nt env' a'.tmps->DR ρ' df' a'.defers->Q (X6 ex) a' w'
def RW(ρ:Rho):Option Nat->Option Nat->Prop
 |none,r=>r=none
 |some l,r=>∃h,ρ.at_ l 0=some h/\r=some h.blk
def RW.mono{ρ ρ':Rho}(hle:ρ.le ρ'){eJ rd:Option Nat}(h:RW ρ eJ rd):RW ρ' eJ rd:=by
 cases eJ with
 |none=>exact h
 |some l=>obtain⟨x,h1,h2⟩:=h;exact⟨x,hle.at_ _ _ _ h1,h2⟩
inductive SubC:Code->Code->Prop where
 |refl (c:Code):SubC c c
 |seqL {a b c:Code} (h:SubC (.seq a b) c):SubC a c
 |seqR {a b c:Code} (h:SubC (.seq a b) c):SubC b c
 |condL {x:Operand} {a b c:Code} (h:SubC (.cond x a b) c):SubC a c
 |condR {x:Operand} {a b c:Code} (h:SubC (.cond x a b) c):SubC b c
 |block {id:Nat} {a c:Code} (h:SubC (.block id a) c):SubC a c
 |loop {a c:Code} (h:SubC (.loop a) c):SubC a c
def InF(P:Program)(f:Nat)(eJ:Option Nat)(c:Code):Prop:=eJ=none->yH c=true∨∃fn b,P.funcs[f]? =some fn/\fn.body=some b/\SubC c b
def InF.sub{P:Program}{f:Nat}{eJ:Option Nat}{c d:Code}(h:InF P f eJ c)(hs:∀b,SubC c b->SubC d b)(hj:yH c=false):InF P f eJ d:=λhr=>by
 rcases h hr with h|⟨fn,b,h1,h2,h3⟩
 ·rw[hj] at h;cases h
 ·exact .inr ⟨fn,b,h1,h2,hs b h3⟩
def InF.round{P:Program}{f l:Nat}{c:Code}:InF P f (some l) c:=λh=>by cases h
def Cq(P:Program)(w0:World)(x:X):Prop:=
 ∀(c:Code) (env:T AV) (nt f:Nat) (df:List Nat) (k:XK) (σ:St) (K:Fin) (ρ:Rho) (w:World) (a:Act) (Q:Exit->Act->World->Prop) (eJ rd:Option Nat),RW ρ eJ rd->SI σ->Good w0 ρ σ.h w->ER ρ nt env a.tmps->DR ρ df a.defers->
  run (x c env nt f eJ df k) σ K=true->K3 w0 ρ K nt k Q->InF P f eJ c->c.wpIn (fR rd) 0 P Q a w
def jo(P:Program)(rd:Option Nat)(c:Code)(Q:Exit->Act->World->Prop)(a:Act)(w:World):Prop:=
 ∀(b:Frame) (k:List Item) (cs:List Frame),b.roundOf=(fR rd).round->(fR rd).fn b.fn->(fR rd).room (cs.length+1+0)->
  ∃e a' w',Q e a' w'/\ArrivesIn (Machine.fenced P (fR rd)) P (lone (b.atR a (.code c:: .inLoop c::k)) cs w) b k cs e a' w'
def Qo(P:Program)(w0:World)(x:X):Prop:=
 ∀(c:Code) (env:T AV) (nt f:Nat) (df:List Nat) (k:XK) (σ:St) (K:Fin) (ρ:Rho) (w:World) (a:Act) (Q:Exit->Act->World->Prop) (eJ rd:Option Nat),RW ρ eJ rd->SI σ->Good w0 ρ σ.h w->ER ρ nt env a.tmps->DR ρ df a.defers->
  run (x (.loop c) env nt f eJ df k) σ K=true->K3 w0 ρ K nt k Q->InF P f eJ (.loop c)->jo P rd c Q a w
section
variable{P:Program}{w0:World}{ρ:Rho}{w:World}{σ:St}{K:Fin}{nt:Nat}{env:T AV}{a:Act}
def H3{k:T AV->Tr}:∀(l:List AV) (i:Nat) (t:T AV),run (Ke l i t k) σ K=true->
 ∃c,run (k c) σ K=true/\∀o x,c.get o=some x->(∃(j:Nat),o=i+j/\l[j]? =some x)∨(t.get o=some x/\(o<i∨i+l.length<=o)):=by
 intro l
 induction l with
 |nil=>intro i t h;exact⟨t,h,λo x hx=>.inr ⟨hx,by simp;omega⟩⟩
 |cons a l ih=>
  intro i t h
  have h:run (T.setK t i a λt=>fN (Nat.succ i) λi=>Ke l i t k) σ K=true:=h
  rw[T.setK_eq] at h
  obtain⟨c,h1,h2⟩:=ih _ _ (jF h)
  refine⟨c,h1,λo x hx=>?_⟩
  rcases h2 o x hx with⟨j,e,hb⟩|⟨w9,ho⟩
  ·exact .inl ⟨j+1,by omega,by simpa using hb⟩
  ·by_cases e:o=i
   ·subst e;have:=T.get_set_some _ _ w9;exact .inl ⟨0,by omega,by rw[this];rfl⟩
   ·rw[T.get_set_ne _ e] at w9;exact .inr ⟨w9,by simp at ho⊢;omega⟩
def Qp{l:List AV}{vs:List Value}{n:Nat}{c:T AV}(hl:LR ρ l vs)(hn:l.length<=n)(hc:∀o x,c.get o=some x->(∃(j:Nat),o=0+j/\l[j]? =some x)∨((T.leaf:T AV).get o=some x/\(o<0∨0+l.length<=o))):
 ER ρ n c (vs.toArray++Array.replicate (n-vs.toArray.size) undef):=by
 refine⟨by simp [hl.1];omega,λt x hx=>?_⟩
 rcases hc t x hx with⟨j,e,hj⟩|⟨h,_⟩
 ·have:t=j:=by omega
  subst this;obtain⟨v,hv,hr⟩:=hl.get hj;refine⟨v, ?_,hr⟩;have c8:t<vs.length:=by
   rcases aat t vs.length with h'|h'
   ·exact h'
   ·rw[aaz h'] at hv;cases hv
  rw[Array.getElem?_append_left (by simpa using c8)];simpa using hv
 ·simp [T.get] at h
def YE(k:AV->Tr):List AV->Tr
 | [v]=>k v
 |l=>k (.tup l)
def YF{l:List AV}{vs:List Value}{k:AV->Tr}(hl:LR ρ l vs)(h:run (YE k l) σ K=true):∃av,run (k av) σ K=true/\VR ρ av (HZ vs):=by
 have tup:∀(l:List AV) (vs:List Value),LR ρ l vs->VR ρ (.tup l) (.tuple vs.toArray):=λl vs hl=>by
  have:LR ρ l vs.toArray.toList:=by simpa using hl
  exact .tup _ _ this.arr.1 this.arr.2
 cases l with
 |nil=>rw[hl.nil_inv];exact⟨_,h,tup _ _ (LR.nil ρ)⟩
 |cons a l=>
  obtain⟨v,vs1,rfl,hv,hl1⟩:=hl.cons_inv
  cases l with
  |nil=>rw[hl1.nil_inv];exact⟨_,h,hv⟩
  |cons b l=>obtain⟨u,vs2,rfl,hu,hl2⟩:=hl1.cons_inv;exact⟨_,h,tup _ _ hl⟩
def iG{x:X}(hx:Cq P w0 x):zr P w0 (mT P x):=by
 intro f l vs k σ K ρ w R hS hG hl h hR;obtain⟨fn,hf,h⟩:=cb h;obtain⟨c,hb,h⟩:=cb h;obtain⟨ac3,h⟩:=rc h;have ac3:¬fn.name= "runtime.NumGoroutine" :=by simpa using ac3
 obtain⟨hlen,h⟩:=ay h;have hlen:=bV hlen;obtain⟨env,h,hc⟩:=H3 _ _ _ h;have hE:=Qp hl hlen hc;refine⟨λargs=>?_,callsIn_of_wp_marks hf hb trivial ?_⟩
 ·simp [callFunc,hf,ac3,hb]
 ·refine hx c env fn.ntmps f [] _ σ K ρ w _ _ none none rfl hS hG hE trivial h (λex env' df' a8 ρ' w' a' h1 h2 h3 h4 h5 h6=>?_) (λ_=>.inr ⟨fn,c,hf,hb,.refl c⟩)
  have main:run (wl df' (Kf P env' fn.results.toList λl=>(match l with | [v]=>k v|l=>k (.tup l)))) a8 K=true->LeavesInM Fence.wide 0 P fn a'.tmps R a'.defers .returning w':=λh=>by refine Vr (λc9 w2 g1 g2 g3=>?_) _ _ _ _ h h2 h3 h6;obtain⟨avs,vs,σ3,q1,q2,q3,q4,q5⟩:=resT (P:=P) h5 _ _ _ g1 g2 g3;have q1:run (YE k avs) σ3 K=true:=q1;obtain⟨av,r1,r2⟩:=YF q4 q1;exact⟨HZ vs,zs q5,hR av _ σ3 ρ' w2 r1 q2 q3 h4 r2⟩
  cases ex with
  |normal=>exact main h1
  |ret=>exact main h1
  |exit id=>exact(ah h1).elim
  |goto l=>exact(ah h1).elim
def TB(P:Program)(f:Nat)(arg:List Nat)(res:AV):Prop:=
 ∀(s:ByteArray) (w:World),bytesOf s=arg->Calls P f #[.string s] w λe w'=>∃v,e= .returned v/\(∀ρ,VR ρ res v)/\Below w.heap.size w w'
def TC(P:Program)(f ty:Nat)(arg:List Nat)(res:AV):Prop:=
 ∀(blk:Nat) (arr:Array Value) (fr:Nat×Nat) (c:Nat) (w:World),w.heap[blk]? =some (.cells arr ty fr)->(∀(i n:Nat),arg[i]? =some n->arr[i]? =some (Value.int .u8 (n:Nat)))->arg.length<=c->c<=arr.size->
  Calls P f #[.slice (some ⟨blk,0,none⟩) arg.length c] w λe w'=>∃v,e= .returned v/\(∀ρ,VR ρ res v)/\Below w.heap.size w w'
def TD(P:Program)(f:Nat)(res:AV):Prop:=
 ∀(w:World),Calls P f #[] w λe w'=>∃v,e= .returned v/\(∀ρ,VR ρ res v)/\Below w.heap.size w w'
def me(P:Program):Memo->Prop
 | .mk f none arg res=>TB P f arg res
 | .mk f (some _) [] res=>TD P f res
 | .mk f (some ty) (a::arg) res=>TC P f ty (a::arg) res
def H4{a b:Option Nat}(h:B4 a b=true):a=b:=by cases a <;> cases b <;> first|rfl|(cases h;done)|(have:=aN h;subst this;rfl)
def mf{f:Nat}{ty:Option Nat}{arg:List Nat}{r:AV}:∀{l:List Memo},dY f ty arg l=some r->Memo.mk f ty arg r∈l:=by
 intro l
 induction l with
 |nil=>intro h;cases h
 |cons m l ih=>
  intro h
  cases m with
  |mk g u a q=>
   have h:ac (Nat.beq f g) (ac (B4 ty u) (ac (DW arg a) (some q) (dY f ty arg l)) (dY f ty arg l)) (dY f ty arg l)=some r:=h;rw[ar,ar,ar] at h;split at h
   ·rename_i h1;split at h
    ·rename_i h2;split at h
     ·rename_i h3;injection h with h5;have e1:=aN h1;have e2:=H4 h2;have e3:=(wp _ _).1 h3;rw[e1,e2,e3,h5];exact aaB
     ·exact aay _ (ih h)
    ·exact aay _ (ih h)
   ·exact aay _ (ih h)
def H5{f:Nat}(h:lE P f=true)(args:Array Value):(callFunc f args).run P w= .ok (.enter f args) w:=by
 unfold lE at h;split at h
 ·rename_i fn hf;split at h
  ·rename_i c hb;have hn:¬fn.name= "runtime.NumGoroutine" :=by simpa using h
   simp [callFunc,hf,hn,hb]
  ·cases h
 ·cases h
def Good.later{H:T ABlk}{w':World}(hG:Good w0 ρ H w)(hb:Below w.heap.size w w'):Good w0 ρ H w':=
 ⟨⟨hG.below.trans (Kept.of (hb.mono hG.below.size)),λb x hx=>(hG.blk b x hx).keep (Rho.le.refl ρ) λg h hh=>hb.block _ (hG.dom _ _ _ hh).1,λb g h hh=>by
  obtain⟨q1,q2⟩:=hG.dom b g h hh;exact⟨abh q1 hb.size,q2⟩,hG.inj,hG.gens,λb arr ty hf=>by
  obtain⟨⟨fr,q1⟩,q2⟩:=hG.frz b arr ty hf;have c8:b<w.heap.size:=by
   rcases aat b w.heap.size with h'|h'
   ·exact h'
   ·rw[aa7 h'] at q1;cases q1
  exact⟨⟨fr,by rw[hb.block b c8];exact q1⟩,q2⟩,hG.frzB,hG.objO⟩,hG.ownB⟩
def K4{M:List Memo}(hM:∀m∈M,me P m){en:cS}(hen:zr P w0 en):zr P w0 (Kg P M en):=by
 intro f l vs k σ K ρ w R hS hG hl h hR
 have hit:∀(b6:St) (r:AV),run (ac (lE P f) (k r) .fail) b6 K=true->SI b6->Good w0 ρ b6.h w->(Calls P f vs.toArray w λe w'=>∃v,e= .returned v/\(∀ρ,VR ρ r v)/\Below w.heap.size w w')->
  (∀args:Array Value,(callFunc f args).run P w= .ok (.enter f args) w)/\CallsIn Fence.wide 0 P f vs.toArray w R:=by
  intro b6 r h a9 b7 hc
  obtain⟨ht,h⟩:=ay h
  refine⟨H5 ht,(callsIn_wide.2 hc).mono λe w' he=>?_⟩
  obtain⟨v,rfl,hv,hb⟩:=he
  exact hR r v b6 ρ w' h a9 (b7.later hb) (Rho.le.refl ρ) (hv ρ)
 rcases bU h with⟨_,h⟩|⟨_,h⟩
 case inr=>exact hen f l vs k σ K ρ w R hS hG hl h hR
 have other:∀b6,SI b6->b6.h=σ.h->run (en f l k) b6 K=true->(∀args:Array Value,(callFunc f args).run P w= .ok (.enter f args) w)/\CallsIn Fence.wide 0 P f vs.toArray w R:=λb6 a9 e1 h=>
  hen f l vs k b6 K ρ w R a9 (by rw[e1];exact hG) hl h hR
 cases l with
 |nil=>
  have hv:=hl.nil_inv
  subst hv
  have h:run (dr (dY f (some 0) [] M) (en f [] k) λr=>ac (lE P f) (k r) .fail) σ K=true:=h
  cases hr:dY f (some 0) [] M with
  |none=>rw[hr] at h;exact other σ hS rfl h
  |some r=>rw[hr] at h;have hm:TD P f r:=hM _ (mf hr);exact hit σ r h hS hG (hm w)
 |cons a l=>
  cases l with
  |cons a2 l=>exact other σ hS rfl h
  |nil=>
   have h:run (Yw P M f a k (en f [a] k)) σ K=true:=h
   obtain⟨v,m7,rfl,hv,l3⟩:=hl.cons_inv
   have:=l3.nil_inv
   subst this
   cases hv with
   |str s=>
    have h:run (dr (dY f none (bytesOf s) M) (en f [.str (bytesOf s)] k) λr=>ac (lE P f) (k r) .fail) σ K=true:=h
    cases hr:dY f none (bytesOf s) M with
    |none=>rw[hr] at h;exact other σ hS rfl h
    |some r=>rw[hr] at h;have hm:TB P f (bytesOf s) r:=hM _ (mf hr);exact hit σ r h hS hG (hm s w rfl)
   |slc b g o n cap es a cc s8=>
    cases cap with
    |some _=>exact other σ hS rfl h
    |none=>
     rcases bU h with⟨ho,h⟩|⟨_,h⟩
     case inr=>exact other σ hS rfl h
     rcases bU h with⟨l9,h⟩|⟨_,h⟩
     case inr=>exact other σ hS rfl h
     have ho:=aN ho
     have l9:=aN l9
     obtain⟨q,b6,hq,e1,a9,h⟩:=bG hS h
     have b7:Good w0 ρ b6.h w:=by rw[e1];exact hG
     cases q with
     |cells c gen lo hi fl fh ro ty=>
      obtain⟨k1,z1⟩:=ay h
      obtain⟨k2,z2⟩:=ay z1
      obtain⟨k3,z3⟩:=ay z2
      have k1:=aN k1
      have k2:=bV k2
      have k3:=bV k3
      obtain⟨av,z4,hlen,f8⟩:=YA z3
      obtain⟨bs,hbs,z5⟩:=cb z4
      cases hr:dY f (some ty) bs M with
      |none=>have z6:run (dr (dY f (some ty) bs M) (en f [.slc b g o n none es] k) λr=>ac (lE P f) (k r) .fail) b6 K=true:=z5;rw[hr] at z6;exact other b6 a9 e1 z6
      |some r=>
       have z6:run (dr (dY f (some ty) bs M) (en f [.slc b g o n none es] k) λr=>ac (lE P f) (k r) .fail) b6 K=true:=z5;rw[hr] at z6;obtain⟨hlc,x9⟩:=s8;obtain⟨hm,hh,hos,ea,T'⟩:=x9.resolve_left (λhc=>by omega);subst ho;subst l9;have hs0:hm.shift=0:=by omega
       have hB:=hG.blk _ _ hq;obtain⟨t9,q1,_,_,arr,fr,q3,q4,q5,q6⟩:=hB.2 g k2;rw[hh] at q1;injection q1 with q1;subst q1;obtain⟨hbl,ak4⟩:=HX (o0:=0) hbs f8 (λo tag a ho ht=>q6 o tag a ho ht) hs0;rw[hlen] at hbl;have hm2:TC P f ty bs r:=by
        have hm3:=hM _ (mf hr)
        cases bs with
        |nil=>simp at hbl;omega
        |cons _ _=>exact hm3
       refine hit b6 r z6 a9 b7 ?_;have:=hm2 hm.blk arr fr cc w q3 (λi m hi=>by have:=ak4 i m hi;rwa [aaC] at this) (by rw[hbl];exact hlc) (by rw[hs0] at T';omega);rw[hbl] at this;rw[ea,hs0];exact this
     |_=>exact(ah h).elim
   |_=>exact other σ hS rfl h
def nc{M:Tab}{x:X}(hx:Cq P w0 x)(hl:Qo P w0 x):Qo P w0 (FX P M x):=by
 intro c env nt f df k σ K ρ w a Q eJ rd hW hS hG hE hD h hQ hC b kk cs hro hb hr
 have h:run (x c env nt f eJ df λex env df=>(match ex with
  | .normal=>x (.loop c) env nt f eJ df k
  |ex=>k ex env df)) σ K=true:=h
 have hc:c.wpIn (fR rd) 0 P (λe a' w'=>match e with | .normal=>jo P rd c Q a' w'|e=>Q e a' w') a w:=by
  refine hx c env nt f df _ σ K ρ w a _ eJ rd hW hS hG hE hD h (λex env' df' a8 ρ' w' a' h1 h2 h3 h4 h5 h6=>?_) (hC.sub (λ_=>.loop) rfl)
  cases ex with
  |normal=>exact hl c env' nt f df' k a8 K ρ' w' a' Q eJ rd (hW.mono h4) h2 h3 h5 h6 h1 (λex2 ag7 df2 c9 ρ2 w2 a2 g1 g2 g3 g4 g5 g6=>hQ ex2 ag7 df2 c9 ρ2 w2 a2 g1 g2 g3 (h4.trans g4) g5 g6) hC
  |exit id=>exact hQ (.exit id) env' df' a8 ρ' w' a' h1 h2 h3 h4 h5 h6
  |goto l=>exact hQ (.goto l) env' df' a8 ρ' w' a' h1 h2 h3 h4 h5 h6
  |ret=>exact hQ .ret env' df' a8 ρ' w' a' h1 h2 h3 h4 h5 h6
 obtain⟨e,a₁,w₁,hq,A'⟩:=hc b (.inLoop c::kk) cs hro hb hr
 cases e with
 |normal=>obtain⟨e₂,a₂,w₂,hq₂,harr₂⟩:=hq b kk cs hro hb hr;exact⟨e₂,a₂,w₂,hq₂,.of_steps (StepsIn.trans A' (.one (fenced_calm hb hr rfl) stepR_inLoop)) harr₂⟩
 |exit id=>exact⟨_,a₁,w₁,hq,.pass (x:=.inLoop c) rfl (λ_ _=>.inl (by simp)) A'⟩
 |goto l=>exact⟨_,a₁,w₁,hq,.pass (x:=.inLoop c) rfl (λ_ _=>.inl (by simp)) A'⟩
 |ret=>exact⟨_,a₁,w₁,hq,.pass (x:=.inLoop c) rfl (λ_ _=>.inl (by simp)) A'⟩
 |panic ch=>exact⟨_,a₁,w₁,hq,.pass (x:=.inLoop c) rfl (λ_ _=>.inl (by simp)) A'⟩
 |outgrown=>exact⟨_,a₁,w₁,hq,.pass (x:=.inLoop c) rfl (λ_ _=>.inl (by simp)) A'⟩
def YG{av:AV}{v:Value}{t e:Tr}(hv:VR ρ av v)(h:run (Tp av t e) σ K=true):∃b,v= .bool b/\(b=true->run t σ K=true)/\(b=false->run e σ K=true):=by
 cases hv with
 |bool b=>
  rcases bU h with⟨e1,h⟩|⟨e1,h⟩
  ·subst e1;exact⟨true,rfl,λ_=>h,(λe=>by cases e)⟩
  ·subst e1;exact⟨false,rfl,(λe=>by cases e),λ_=>h⟩
 |anyB b=>have hp:=Eg (n:=2) h;exact⟨b,rfl,λ_=>hp 0 (.inl rfl) (λ_=>rfl),λ_=>hp 1 (.inr (by omega)) (λh=>absurd h (by omega))⟩
 |sB p b hb=>
  refine⟨b,rfl,λe1=>?_,λe1=>?_⟩
  ·rcases du h with⟨_,h⟩|⟨hp,_⟩
   ·exact h
   ·exact absurd (hb.1 e1) hp
  ·rcases du h with⟨hp,_⟩|⟨_,h⟩
   ·exact absurd (hb.2 hp) (by rw[e1];simp)
   ·exact h
 |_=>exact(ah h).elim
def H6{rd:Option Nat}{c:Code}{Q:Exit->Act->World->Prop}(hc:c.wpIn (fR rd) 0 P (λe a' w'=>match e with | .normal=>jo P rd c Q a' w'|e=>Q e a' w') a w):jo P rd c Q a w:=by
 intro b kk cs hro hb hr
 obtain⟨e,a₁,w₁,hq,A'⟩:=hc b (.inLoop c::kk) cs hro hb hr
 cases e with
 |normal=>obtain⟨e₂,a₂,w₂,hq₂,harr₂⟩:=hq b kk cs hro hb hr;exact⟨e₂,a₂,w₂,hq₂,.of_steps (StepsIn.trans A' (.one (fenced_calm hb hr rfl) stepR_inLoop)) harr₂⟩
 |exit id=>exact⟨_,a₁,w₁,hq,.pass (x:=.inLoop c) rfl (λ_ _=>.inl (by simp)) A'⟩
 |goto l=>exact⟨_,a₁,w₁,hq,.pass (x:=.inLoop c) rfl (λ_ _=>.inl (by simp)) A'⟩
 |ret=>exact⟨_,a₁,w₁,hq,.pass (x:=.inLoop c) rfl (λ_ _=>.inl (by simp)) A'⟩
 |panic ch=>exact⟨_,a₁,w₁,hq,.pass (x:=.inLoop c) rfl (λ_ _=>.inl (by simp)) A'⟩
 |outgrown=>exact⟨_,a₁,w₁,hq,.pass (x:=.inLoop c) rfl (λ_ _=>.inl (by simp)) A'⟩
def Ew{rd:Option Nat}{c:Code}{Q:Exit->Act->World->Prop}(h:jo P rd c Q a w):(Code.loop c).wpIn (fR rd) 0 P Q a w:=by intro b k cs hro hb hr;obtain⟨e,a',w',hq,A'⟩:=h b k cs hro hb hr;exact⟨e,a',w',hq,.of_steps (.one (fenced_calm hb hr rfl) stepR_loop) A'⟩
def zz{l:Nat}{r:Loop}(h:w.heap[l]? =some (.loop r))(hb:r.state≠ .busy):(Instr.endLoop l).run P w= .ok r.pending {w with heap:=w.heap.setIfInBounds l (.loop {r with state:=.exhausted})}:=by
 have p7:(r.state== .busy)=false:=by cases hs:r.state <;> first|rfl|exact absurd hs hb
 simp only [Instr.endLoop,Instr.getLoop,aap,bv h (by simp),aau,aar,p7,Bool.false_eq_true,if_false,gO h (by simp)]
def YH(z:Tr)(go:Code->Tr):Option Code->Tr
 |none=>z
 |some c=>go c
def K5{M:Tab}{x:X}(hx:Cq P w0 x){g:Operand}{ps:Array Tmp}{as bd:Code}{f:Nat}{df:List Nat}{k:XK}{Q:Exit->Act->World->Prop}{eJ rd:Option Nat}(hW:RW ρ eJ rd)(hS:SI σ)(hG:Good w0 ρ σ.h w)(hE:ER ρ nt env a.tmps)(hD:DR ρ df a.defers)(h:run (FX P M x (.rangeFunc g ps as bd) env nt f eJ df k) σ K=true)(hQ:K3 w0 ρ K nt k Q):(Code.rangeFunc g ps as bd).wpIn (fR rd) 0 P Q a w:=by
 cases eJ with
 |some _=>exact(ah h).elim
 |none=>
 have hW:rd=none:=hW
 subst hW
 show(Code.rangeFunc g ps as bd).wpIn Fence.wide 0 P Q a w
 have h:run (.new (.dfr true) λd=>.new (.loop .ready none f nt env ps.toList as bd d) λl=>fB env g λg=>
  B3 P x g l id (λc=>ac (yH c) (x c env nt f none (d::df) k) .fail) (k .normal env (d::df))) σ K=true:=h
 obtain⟨d,b6,hn1,aq0,e1,a9,h⟩:=gi hS h
 obtain⟨m8,b7⟩:=hG.alloc hn1 aq0 (.dfr true) (.deferred (some [])) 0 0 (λρ' hle j0 _=>⟨_,j0,.new hG.below.size,by simp⟩)
 rw[←e1] at b7
 obtain⟨l,c9,hn2,aq1,e2,d6,h⟩:=gi a9 h
 refine wpIn_rangeFunc λfn' _=>?_
 obtain⟨d8,f9⟩:=b7.alloc hn2 aq1 (.loop .ready none f nt env ps.toList as bd d) (.loop {state:=.ready,pending:=none,fn:=fn',tmps:=a.tmps,params:=ps,assign:=as,body:=bd,defers:=w.heap.size}) 0 0
  (λρ' hle j0 _=>⟨_,j0,.new (by have:=hG.below.size;simp;omega),a.tmps,_,fn',hE.mono (m8.trans hle),hle.at_ _ _ _ (Rho.put_at _ _ _ _),Array.getElem?_push_size⟩)
 rw[←e2] at f9
 obtain⟨av,σ3,e3,hS3,h,hv⟩:=ui (x:=g) d6 f9 (hE.mono (m8.trans d8)) h
 rw[←e3] at f9
 generalize hgv:a.eval g=gv at hv
 cases hv with
 |func fn l1 m1 first captured h1 h2 r1 r2 hf=>
  cases fn with
  |func i=>
   have q1:=LR.of_arr h1 r1
   have q2:=LR.of_arr h2 r2
   have hl:=Rho.put_at (ρ.put d 0 ⟨w.heap.size,0,0⟩) l 0 ⟨(w.heap.push (.deferred (some []))).size,0,0⟩
   have hd:=d8.at_ _ _ _ (Rho.put_at ρ d 0 ⟨w.heap.size,0,0⟩)
   simp only [B3] at h
   have g8:=(q1.append (LR.cons (.yld l _ hl) (LR.nil _))).append q2
   obtain⟨hcf,hci⟩:=iG hx i _ _ _ σ3 K _ _ (rangePost Fence.wide 0 P (w.heap.push (.deferred (some []))).size Q {a with defers:=[{target:=.collected w.heap.size,args:= #[]}]++a.defers}) hS3 f9 g8 h
    (λav v a8 ρ' w' g1 g2 g3 g4 g5=>by
     obtain⟨q,σ4,hq,e4,hS4,g1⟩:=bG g2 g1
     have hG4:Good w0 ρ' σ4.h w':=by rw[e4];exact g3
     cases q with
     |loop st jump fn nt' tmps ps' j6 bd' d'=>
      have l3:=g4.at_ _ _ _ hl
      obtain⟨hm,hh,hB,Z',U',fn2,b1,b2,d9⟩:=g3.blk _ _ hq
      rw[l3] at hh;injection hh with hh;subst hh
      have fin:st≠ .busy->run (.wr l (.loop .exhausted jump fn nt' tmps ps' j6 bd' d') (YH (k .normal env (d::df)) (λc=>ac (yH c) (x c env nt f none (d::df) k) .fail) jump)) σ4 K=true->
       rangePost Fence.wide 0 P (w.heap.push (.deferred (some []))).size Q {a with defers:=[{target:=.collected w.heap.size,args:= #[]}]++a.defers} (.returned v) w':=λhb g1=>by
       obtain⟨x0,σ5,hx0,e5,hS5,c7,g1⟩:=fo hS4 g1
       have hG5:=hG4.setObj (hnf:=nf e4 hq hx0 (λh=>h)) (x:=.loop .exhausted jump fn nt' tmps ps' j6 bd' d') (o':=.loop {state:=.exhausted,pending:=jump,fn:=fn2,tmps:=Z',params:=ps'.toArray,assign:=j6,body:=bd',defers:=U'.blk}) hx0 c7 l3 hB d9
        ⟨_,l3,hB,Z',U',fn2,b1,b2,na d9⟩
       rw[←e5] at hG5
       refine⟨jump,_,zz d9 hb, ?_⟩
       have hDD:DR ρ' (d::df) ([{target:=.collected w.heap.size,args:= #[]}]++a.defers):=⟨⟨_,g4.at_ _ _ _ hd,rfl⟩,hD.mono (m8.trans (d8.trans g4))⟩
       have hEE:ER ρ' nt env a.tmps:=hE.mono (m8.trans (d8.trans g4))
       cases jump with
       |none=>exact hQ .normal env (d::df) σ5 ρ' _ {a with defers:=[{target:=.collected w.heap.size,args:= #[]}]++a.defers} g1 hS5 hG5 (m8.trans (d8.trans g4)) hEE hDD
       |some c=>
        obtain⟨hj,g1⟩:=ay g1
        exact hx c env nt f (d::df) k σ5 K ρ' _ {a with defers:=[{target:=.collected w.heap.size,args:= #[]}]++a.defers} Q none none rfl hS5 hG5 hEE hDD g1
         (λex2 ag7 df2 c9 ρ2 w2 a2 c1 c2 c3 c4 c5 c6=>hQ ex2 ag7 df2 c9 ρ2 w2 a2 c1 c2 c3 ((m8.trans (d8.trans g4)).trans c4) c5 c6) (λ_=>.inl hj)
      cases st with
      |busy=>exact(ah g1).elim
      |ready=>exact fin (by simp) (by cases jump <;> exact g1)
      |done=>exact fin (by simp) (by cases jump <;> exact g1)
      |exhausted=>exact fin (by simp) (by cases jump <;> exact g1)
     |_=>exact(ah g1).elim)
   have ea:(first++ #[Value.func (.yield (w.heap.push (.deferred (some []))).size) #[] #[]])++captured=(first.toList++ [Value.func (.yield (w.heap.push (.deferred (some []))).size) #[] #[]]++captured.toList).toArray:=by apply Array.ext';simp
   refine⟨(w.heap.push (.deferred (some []))).size,[{target:=.collected w.heap.size,args:= #[]}],{w with heap:=(w.heap.push (.deferred (some []))).push (.loop {state:=.ready,pending:=none,fn:=fn',tmps:=a.tmps,params:=ps,assign:=as,body:=bd,defers:=w.heap.size})},{target:=.fn (.func i) captured,args:=first++ #[.func (.yield (w.heap.push (.deferred (some []))).size) #[] #[]]},{w with heap:=(w.heap.push (.deferred (some []))).push (.loop {state:=.ready,pending:=none,fn:=fn',tmps:=a.tmps,params:=ps,assign:=as,body:=bd,defers:=w.heap.size})},i,_,_, ?_, ?_,λ_ _=>trivial, ?_,λh=>absurd h (by simp [Fence.wide]),hci⟩
   ·simp only [Instr.enterLoop,Fence.wide,aap,run_newObj,aau,aar]
   ·have aq2:∀v,a.eval (.const v)=v:=λ_=>rfl;simp only [resolve,hgv,Deferred.ofValue,List.map_toArray,aaP,List.map_nil,aq2,aar]
   ·show(callFunc i ((first++ #[Value.func (.yield (w.heap.push (.deferred (some []))).size) #[] #[]])++captured)).run P _=_;rw[ea];exact hcf _
  |_=>exact(ah h).elim
 |_=>exact(ah h).elim
def K6{k:T AV->Tr}:∀(ps:List Nat) (as:List AV) (vs:List Value) (t:T AV) (tmps:Array Value),LR ρ as vs->ER ρ nt t tmps->run (Ef ps as nt t k) σ K=true->
 ∃t',run (k t') σ K=true/\ps.length=vs.length/\ER ρ nt t' ((ps.zip vs).foldl (λtmps x=>tmps.setIfInBounds x.1 x.2) tmps):=by
 intro ps
 induction ps with
 |nil=>
  intro as vs t tmps hl hE h
  cases as with
  |nil=>rw[hl.nil_inv];exact⟨t,h,rfl,hE⟩
  |cons _ _=>exact(ah h).elim
 |cons p ps ih=>
  intro as vs t tmps hl hE h
  cases as with
  |nil=>exact(ah h).elim
  |cons av as=>
   obtain⟨v,m7,rfl,hv,l3⟩:=hl.cons_inv
   have h:run (ac (Nat.ble (Nat.succ p) nt) (T.setK t p av λt=>Ef ps as nt t k) .fail) σ K=true:=h
   obtain⟨hp,h⟩:=ay h
   have hp:=bV hp
   rw[T.setK_eq] at h
   have hE':ER ρ nt (t.set p av) (tmps.setIfInBounds p v):=by
    refine⟨by rw[ab3];exact hE.size,λi b hb=>?_⟩;by_cases e:i=p
    ·subst e;have:=T.get_set_some _ _ hb;subst this;exact⟨v,by rw[aaX,if_pos rfl,if_pos (by rw[hE.size];omega)],hv⟩
    ·rw[T.get_set_ne _ e] at hb;obtain⟨u,hu,hr⟩:=hE.val i b hb;exact⟨u,by rw[aaX,if_neg (λe'=>e e'.symm)];exact hu,hr⟩
   obtain⟨t',q1,q2,q3⟩:=ih as m7 _ _ l3 hE' h
   exact⟨t',q1,by simp [q2],q3⟩
def H7{l:Nat}{r:Loop}{vs:List Value}(h:w.heap[l]? =some (.loop r))(hn:r.params.size=vs.length):(Instr.yield l vs.toArray).run P w= .ok (.round l r.fn ((r.params.toList.zip vs).foldl (λtmps x=>tmps.setIfInBounds x.1 x.2) r.tmps) r.assign r.body) w:=by
 have e:r.params.zip vs.toArray=(r.params.toList.zip vs).toArray:=by apply Array.ext';simp
 simp only [Instr.yield,Instr.getLoop,aap,bv h (by simp),aau,aar,List.size_toArray,hn,ne_eq,not_true_eq_false,if_false,e,List.foldl_toArray']
def rI{l:Nat}{r:Loop}(h:w.heap[l]? =some (.loop r))(hb:r.state= .ready):(Instr.beginRound l).run P w= .ok () {w with heap:=w.heap.setIfInBounds l (.loop {r with state:=.busy})}:=by simp only [Instr.beginRound,Instr.getLoop,aap,bv h (by simp),aau,aar,gO h (by simp),hb]
def wC{l:Nat}{r:Loop}(jump:Option Code)(h:w.heap[l]? =some (.loop r)):(Instr.endRound l jump).run P w= .ok (.bool jump.isNone) {w with heap:=w.heap.setIfInBounds l (.loop {r with state:=if jump.isNone then .ready else .done,pending:=jump})}:=by simp only [Instr.endRound,Instr.getLoop,aap,bv h (by simp),aau,aar,gO h (by simp)]
def uA{x:X}(hx:Cq P w0 x):Qg P w0 (B1 x):=by
 intro l as vs k σ K ρ w R hS hG hl h hR
 obtain⟨q,b6,hq,e1,a9,h⟩:=bG hS h
 have b7:Good w0 ρ b6.h w:=by rw[e1];exact hG
 cases q with
 |loop st jump fn nt tmps ps asg bd d=>
  obtain⟨hm,hh,hB,Z',hd,fn',b1,b2,d9⟩:=hG.blk _ _ hq
  obtain⟨env,h,hlen,hE⟩:=K6 _ _ _ _ _ hl b1 h
  refine⟨hm,hh,_,_,_,_,H7 d9 (by simpa using hlen),roundIn_of_wpIn trivial ?_⟩
  refine hx asg env nt fn [] _ b6 K ρ w _ _ (some l) (some hm.blk) ⟨hm,hh,rfl⟩ a9 b7 hE trivial h (λex env' df' a8 ρ' w' a' g1 g2 g3 g4 g5 g6=>?_) .round
  cases ex with
  |normal=>
   cases df' with
   |cons _ _=>exact(ah g1).elim
   |nil=>
    obtain⟨q2,c9,hq2,e2,d6,g1⟩:=bG g2 g1
    have f9:Good w0 ρ' c9.h w':=by rw[e2];exact g3
    cases q2 with
    |loop st2 aj0 fn2 nt2 an8 ps2 as2 bd2 d2=>
     cases st2 with
     |ready=>
      have f7:=g4.at_ _ _ _ hh
      obtain⟨hm2,hh2,hB2,ag8,hd2,an9,c1,c2,ac2⟩:=g3.blk _ _ hq2
      rw[f7] at hh2;injection hh2 with hh2;subst hh2
      obtain⟨x0,σ3,hx0,e3,hS3,c7,g1⟩:=fo d6 g1
      have K':=f9.setObj (hnf:=nf e2 hq2 hx0 (λh=>h)) (x:=.loop .busy aj0 fn2 nt2 an8 ps2 as2 bd2 d2) (o':=.loop {state:=.busy,pending:=aj0,fn:=an9,tmps:=ag8,params:=ps2.toArray,assign:=as2,body:=bd2,defers:=hd2.blk}) hx0 c7 f7 hB2 ac2
       ⟨_,f7,hB2,ag8,hd2,an9,c1,c2,na ac2⟩
      rw[←e3] at K'
      refine⟨_,rI ac2 rfl, ?_⟩
      refine hx bd env' nt fn2 [] _ σ3 K ρ' _ a' _ (some l) (some hm.blk) ⟨hm,f7,rfl⟩ hS3 K' g5 g6 g1 (λex3 at3 df3 σ4 ρ4 w4 a4 k1 k2 k3 k4 k5 k6=>?_) .round
      have fin:∀jp,run (iA l jp k) σ4 K=true->∃v w5,(Instr.endRound hm.blk jp).run P w4= .ok v w5/\R (.returned v) w5:=λjp k1=>by
       obtain⟨q3,σ5,hq3,e5,hS5,k1⟩:=bG k2 k1
       have hG5:Good w0 ρ4 σ5.h w4:=by rw[e5];exact k3
       cases q3 with
       |loop st3 as7 fn3 nt3 af7 ps3 as3 bd3 d3=>
        have hh4:=k4.at_ _ _ _ f7
        obtain⟨hm3,hh3,hB3,ad7,hd3,ai1,c3,c4,ac4⟩:=k3.blk _ _ hq3
        rw[hh4] at hh3;injection hh3 with hh3;subst hh3
        obtain⟨x1,σ6,C',e6,hS6,an_,k1⟩:=fo hS5 k1
        refine⟨_,_,wC jp ac4, ?_⟩
        cases jp with
        |none=>
         have hG6:=hG5.setObj (hnf:=nf e5 hq3 C' (λh=>h)) (x:=.loop .ready none fn3 nt3 af7 ps3 as3 bd3 d3) (o':=.loop {state:=.ready,pending:=none,fn:=ai1,tmps:=ad7,params:=ps3.toArray,assign:=as3,body:=bd3,defers:=hd3.blk}) C' an_ hh4 hB3 ac4
          ⟨_,hh4,hB3,ad7,hd3,ai1,c3,c4,na ac4⟩
         have e6:σ6.h=σ5.h.set l (.loop .ready none fn3 nt3 af7 ps3 as3 bd3 d3):=e6;rw[←e6] at hG6;exact hR (.bool true) _ σ6 ρ4 _ k1 hS6 hG6 (g4.trans k4) (.bool true)
        |some jc=>
         have hG6:=hG5.setObj (hnf:=nf e5 hq3 C' (λh=>h)) (x:=.loop .done (some jc) fn3 nt3 af7 ps3 as3 bd3 d3) (o':=.loop {state:=.done,pending:=some jc,fn:=ai1,tmps:=ad7,params:=ps3.toArray,assign:=as3,body:=bd3,defers:=hd3.blk}) C' an_ hh4 hB3 ac4
          ⟨_,hh4,hB3,ad7,hd3,ai1,c3,c4,na ac4⟩
         have e6:σ6.h=σ5.h.set l (.loop .done (some jc) fn3 nt3 af7 ps3 as3 bd3 d3):=e6;rw[←e6] at hG6;exact hR (.bool false) _ σ6 ρ4 _ k1 hS6 hG6 (g4.trans k4) (.bool false)
       |_=>exact(ah k1).elim
      cases df3 with
      |cons _ _=>exact(ah k1).elim
      |nil=>
       cases ex3 with
       |normal=>exact fin none k1
       |ret=>exact fin (some .ret) k1
       |exit id=>exact fin (some (.exit id)) k1
       |goto t=>exact fin (some (.goto t)) k1
     |_=>exact(ah g1).elim
    |_=>exact(ah g1).elim
  |_=>exact(ah g1).elim
 |_=>exact(ah h).elim
def Vu(P:Program)(w0:World)(f:Nat)(l:List AV)(t:(AV->Tr)->Tr):Prop:=
 ∀(vs:List Value) (k:AV->Tr) (σ:St) (K:Fin) (ρ:Rho) (w:World) (R:Ending->World->Prop),SI σ->Good w0 ρ σ.h w->LR ρ l vs->run (t k) σ K=true->
  (∀av v a8 ρ' w',run (k av) a8 K=true->SI a8->Good w0 ρ' a8.h w'->ρ.le ρ'->VR ρ' av v->R (.returned v) w')->
  (∀args:Array Value,(callFunc f args).run P w= .ok (.enter f args) w)/\CallsIn Fence.wide 0 P f vs.toArray w R
def TE(P:Program)(w0:World)(fn id:Nat)(t:Nat->T AV->(AEx->T AV->Tr)->Tr):Prop:=
 ∀(c:Code) (env:T AV) (nt:Nat) (k:XK) (σ:St) (K:Fin) (ρ:Rho) (w:World) (a:Act) (Q:Exit->Act->World->Prop),SI σ->Good w0 ρ σ.h w->ER ρ nt env a.tmps->a.defers= []->
  run (t nt env λex env=>k ex env []) σ K=true->K3 w0 ρ K nt k Q->(∃f b,P.funcs[fn]? =some f/\f.body=some b/\SubC (.block id c) b)->(Code.block id c).wpIn (fR none) 0 P Q a w
structure TabOk(P:Program)(M:Tab):Prop where
 memos:∀m∈M.memos,me P m
 con:∀w0 f l t,M.con f l=some t->Vu P w0 f l t
 blk:∀w0 fn id t,M.blk fn id=some t->TE P w0 fn id t
def zA{M:Tab}(hM:TabOk P M){en:cS}(hen:zr P w0 en):zr P w0 (Kh P M en):=by
 intro f l vs k σ K ρ w R hS hG hl h hR
 have h:run (dr (M.con f l) (Kg P M.memos en f l k) λt=>t k) σ K=true:=h
 cases hc:M.con f l with
 |none=>rw[hc] at h;exact K4 hM.memos hen f l vs k σ K ρ w R hS hG hl h hR
 |some t=>rw[hc] at h;exact hM.con w0 f l t hc vs k σ K ρ w R hS hG hl h hR
def wD{M:Tab}(hM:TabOk P M){x:X}(hx:Cq P w0 x)(hl:Qo P w0 x):Cq P w0 (FX P M x):=by
 intro c env nt f df k σ K ρ w a Q eJ rd hW hS hG hE hD h hQ hC
 have here:∀{ex:AEx},run (k ex env df) σ K=true->Q (X6 ex) a w:=λh=>hQ _ env df σ ρ w a h hS hG (Rho.le.refl ρ) hE hD
 cases c with
 |skip=>exact wpIn_skip (here (ex:=.normal) h)
 |label l=>exact wpIn_label (here (ex:=.normal) h)
 |ret=>exact wpIn_ret (here (ex:=.ret) h)
 |exit id=>exact wpIn_exit (here (ex:=.exit id) h)
 |goto l=>exact wpIn_goto (here (ex:=.goto l) h)
 |region id ops draw=>
  cases draw with
  |true=>obtain⟨hm,h⟩:=ay h;obtain⟨hnt,h⟩:=ay h;obtain⟨htm,h⟩:=ay h;exact Qn (zA hM (iG hx)) (uA hx) (bV hnt) hm ρ a.defers (λenv' a8 ρ' a' w' h1 h2 h3 h4 h5 h6=>hQ .normal env' df a8 ρ' w' a' h1 h2 h3 h4 h5 (by rw[h6];exact hD.mono h4)) htm h hS hG (Rho.le.refl ρ) hE rfl id
  |false=>refine wpIn_region_list (Qi (zA hM (iG hx)) (uA hx) ρ a.defers (λenv' a8 ρ' a' w' h1 h2 h3 h4 h5 h6=>?_) _ env σ ρ a w h hS hG (Rho.le.refl ρ) hE rfl);exact hQ .normal env' df a8 ρ' w' a' h1 h2 h3 h4 h5 (by rw[h6];exact hD.mono h4)
 |seq c d=>
  refine wpIn_seq (hx c env nt f df _ σ K ρ w a _ eJ rd hW hS hG hE hD h (λex env' df' a8 ρ' w' a' h1 h2 h3 h4 h5 h6=>?_) (hC.sub (λ_=>.seqL) rfl))
  cases ex with
  |normal=>exact hx d env' nt f df' k a8 K ρ' w' a' Q eJ rd (hW.mono h4) h2 h3 h5 h6 h1 (λex2 ag7 df2 c9 ρ2 w2 a2 g1 g2 g3 g4 g5 g6=>hQ ex2 ag7 df2 c9 ρ2 w2 a2 g1 g2 g3 (h4.trans g4) g5 g6) (hC.sub (λ_=>.seqR) rfl)
  |exit id=>exact hQ (.exit id) env' df' a8 ρ' w' a' h1 h2 h3 h4 h5 h6
  |goto l=>exact hQ (.goto l) env' df' a8 ρ' w' a' h1 h2 h3 h4 h5 h6
  |ret=>exact hQ .ret env' df' a8 ρ' w' a' h1 h2 h3 h4 h5 h6
 |cond x c d=>
  obtain⟨av,b6,e1,a9,h,hv⟩:=ui hS hG hE h
  have b7:Good w0 ρ b6.h w:=by rw[e1];exact hG
  obtain⟨b,hxv,ht,he⟩:=YG hv h
  refine wpIn_cond hxv ?_
  cases b with
  |true=>exact hx c env nt f df k b6 K ρ w a Q eJ rd hW a9 b7 hE hD (ht rfl) hQ (hC.sub (λ_=>.condL) rfl)
  |false=>exact hx d env nt f df k b6 K ρ w a Q eJ rd hW a9 b7 hE hD (he rfl) hQ (hC.sub (λ_=>.condR) rfl)
 |block id c=>
  cases hc:(match eJ,df with|none,[]=>M.blk f id|_,_=>none) with
  |some t=>
   have h:run (dr (match eJ,df with|none,[]=>M.blk f id|_,_=>none) (x c env nt f eJ df λex env df=>(match ex with
    | .exit id'=>ac (Nat.beq id' id) (k .normal env df) (k (.exit id') env df)
    |ex=>k ex env df)) λt=>t nt env λex env=>k ex env df) σ K=true:=h
   rw[hc] at h
   cases eJ with
   |some _=>cases hc
   |none=>
    cases df with
    |cons _ _=>cases hc
    |nil=>
     have hd0:a.defers= []:=by
      cases hd:a.defers with
      |nil=>rfl
      |cons _ _=>rw[hd] at hD;exact hD.elim
     have hW:rd=none:=hW;subst hW;refine hM.blk w0 f id t hc c env nt k σ K ρ w a Q hS hG hE hd0 h hQ ?_;rcases hC rfl with hj|hj
     ·cases hj
     ·exact hj
  |none=>
  have h:run (dr (match eJ,df with|none,[]=>M.blk f id|_,_=>none) (x c env nt f eJ df λex env df=>(match ex with
   | .exit id'=>ac (Nat.beq id' id) (k .normal env df) (k (.exit id') env df)
   |ex=>k ex env df)) λt=>t nt env λex env=>k ex env df) σ K=true:=h
  rw[hc] at h
  refine wpIn_block (hx c env nt f df _ σ K ρ w a _ eJ rd hW hS hG hE hD h (λex env' df' a8 ρ' w' a' h1 h2 h3 h4 h5 h6=>?_) (hC.sub (λ_=>.block) rfl))
  cases ex with
  |normal=>exact hQ .normal env' df' a8 ρ' w' a' h1 h2 h3 h4 h5 h6
  |exit id'=>
   rcases bU h1 with⟨e,h1'⟩|⟨e,h1'⟩
   ·have e:=aN e;show(if id'=id then Q .normal a' w' else Q (.exit id') a' w');rw[if_pos e];exact hQ .normal env' df' a8 ρ' w' a' h1' h2 h3 h4 h5 h6
   ·show(if id'=id then Q .normal a' w' else Q (.exit id') a' w');rw[if_neg (λe'=>by subst e';simp at e)];exact hQ (.exit id') env' df' a8 ρ' w' a' h1' h2 h3 h4 h5 h6
  |goto l=>exact hQ (.goto l) env' df' a8 ρ' w' a' h1 h2 h3 h4 h5 h6
  |ret=>exact hQ .ret env' df' a8 ρ' w' a' h1 h2 h3 h4 h5 h6
 |loop c=>exact Ew (nc hx hl c env nt f df k σ K ρ w a Q eJ rd hW hS hG hE hD h hQ hC)
 |rangeFunc g ps as bd=>exact K5 hx hW hS hG hE hD h hQ
 |_=>exact(ah h).elim
end
end Go.Sym
namespace Go.Sym
open Go.RowKit (Below)
def qm(P:Program){M:Tab}(hM:TabOk P M)(w0:World):∀n:Nat,Cq P w0 (wm P M n)/\Qo P w0 (wm P M n):=by
 intro n
 induction n with
 |zero=>exact⟨λc env nt f df k σ K ρ w a Q eJ rd hW hS hG hE hD h hQ hC=>(ah h).elim,λc env nt f df k σ K ρ w a Q eJ rd hW hS hG hE hD h hQ hC=>(ah h).elim⟩
 |succ n ih=>exact⟨wD hM ih.1 ih.2,nc ih.1 ih.2⟩
def ne{H:T ABlk}{next:Nat}(h1:1<=next)(h2:next<=1000000001):SI (start H next):=
 ⟨h1,h2,aaD _,by simp,λy hy=>by simp [T.get] at hy⟩
end Go.Sym
namespace Go.Sym
open Go.RowKit (Below)
def EvTo(r:Fin->Bool)(Φ:AV->St->Prop):Prop:=∃a σ,(∀K,r K=K a σ)/\Φ a σ
def Stop(p:Prop):Prop:=p
end Go.Sym
namespace Go.Sym
noncomputable section
inductive Hn where
 |nil
 |both (a b:Hn)
 |yes (a:Hn)
 |no (a:Hn)
inductive Fm where
 |tt
 |ff
 |at(p:Prop)
 |an (p:Prop) (f:Fm)
 |two (p:Prop) (f g:Fm)
 |al (p:Sy->Prop) (f:Sy->Fm)
def Fm.den:Fm->Prop
 | .tt=>True
 | .ff=>False
 | .at p=>p
 | .an p f=>p/\(p->f.den)
 | .two p f g=>(p->f.den)/\(¬p->g.den)
 | .al p f=>∀y,p y->(f y).den
abbrev Lf:=AV->St->Hn->Fm
def lJ(fs b:Nat)(t:T Unit)(k:T Unit->Fm):Fm:=ac (Nat.ble fs b) (k t) (T.setK t b () k)
def mg(fs b:Nat)(w:List Nat)(k:List Nat->Fm):Fm:=ac (Nat.ble fs b) (k w) (k (b::w))
def ku(fs:Nat):List Nat->T Unit->(T Unit->Fm)->Fm:=λl=>
 List.rec (motive:=λ_=>T Unit->(T Unit->Fm)->Fm) (λt k=>k t) (λb _ ih t k=>lJ fs b t λt=>ih t k) l
def iH(fs:Nat):List Nat->List Nat->(List Nat->Fm)->Fm:=λl=>
 List.rec (motive:=λ_=>List Nat->(List Nat->Fm)->Fm) (λt k=>k t) (λb _ ih t k=>mg fs b t λt=>ih t k) l
def kw(fs b:Nat)(t:T Unit)(k:T Unit->Fm):lJ fs b t k=k (note fs b t):=by
 unfold lJ note;rw[ar,T.setK_eq];by_cases h:fs<=b
 ·simp [Nat.ble_eq,h]
 ·have:Nat.ble fs b=false:=by
   cases hb:Nat.ble fs b with
   |false=>rfl
   |true=>exact absurd (Nat.ble_eq.mp hb) h
  simp [this,h]
def oG(fs b:Nat)(w:List Nat)(k:List Nat->Fm):mg fs b w k=k (gB fs b w):=by
 unfold mg gB;rw[ar];by_cases h:fs<=b
 ·simp [Nat.ble_eq,h]
 ·have:Nat.ble fs b=false:=by
   cases hb:Nat.ble fs b with
   |false=>rfl
   |true=>exact absurd (Nat.ble_eq.mp hb) h
  simp [this,h]
def pB(fs:Nat):∀(l:List Nat) (t:T Unit) (k:T Unit->Fm),ku fs l t k=k (fO fs l t):=by
 intro l
 induction l with
 |nil=>intro t k;rfl
 |cons b l ih=>intro t k;show lJ fs b t (λt=>ku fs l t k)=_;rw[kw,ih];rfl
def ng(fs:Nat):∀(l:List Nat) (t:List Nat) (k:List Nat->Fm),iH fs l t k=k (fi fs l t):=by
 intro l
 induction l with
 |nil=>intro t k;rfl
 |cons b l ih=>intro t k;show mg fs b t (λt=>iH fs l t k)=_;rw[oG,ih];rfl
def TF(_:St)(_:Lf)(_:Hn):Fm:=.ff
def YI(a:AV)(σ:St)(K:Lf)(h:Hn):Fm:=K a σ h
def eRd(b:Nat)(_:ABlk->Tr)(ih:ABlk->St->Lf->Hn->Fm)(σ:St)(K:Lf)(hn:Hn):Fm:=
 St.rec (motive:=λ_=>Fm) (λh n fs t w=>ac (Nat.ble (Nat.succ b) n) (T.getK h b .ff λx=>lJ fs b t λt=>ih x (.mk h n fs t w) K hn) .ff) σ
def eWr(b:Nat)(x:ABlk)(_:Tr)(ih:St->Lf->Hn->Fm)(σ:St)(K:Lf)(hn:Hn):Fm:=
 St.rec (motive:=λ_=>Fm) (λh n fs t w=>ac (Nat.ble (Nat.succ b) n) (T.getK h b .ff λ_=>T.setK h b x λh=>lJ fs b t λt=>mg fs b w λw=>ih (.mk h n fs t w) K hn) .ff) σ
def YJ(x:ABlk)(_:Nat->Tr)(ih:Nat->St->Lf->Hn->Fm)(σ:St)(K:Lf)(hn:Hn):Fm:=
 St.rec (motive:=λ_=>Fm) (λh n fs t w=>ac (Nat.ble n 1000000000) (T.getK h n (T.setK h n x λh=>fN (Nat.succ n) λm=>ih n (.mk h m fs t w) K hn) λ_=>.ff) .ff) σ
def YK(n:Nat)(_:Nat->Tr)(ih:Nat->St->Lf->Hn->Fm)(σ:St)(K:Lf)(hn:Hn):Fm:=ac (Nat.ble n 1) (ih 0 σ K hn) .ff
def YL(_:Tr)(_:AV->Nat->Nat->T Unit->List Nat->Tr)(it:St->Lf->Hn->Fm)(ik:AV->Nat->Nat->T Unit->List Nat->St->Lf->Hn->Fm)(σ:St)(K:Lf)(hn:Hn):Fm:=
 St.rec (motive:=λ_=>Fm) (λh n fs t w=>it (.mk h n n .leaf []) (λa a8 hn=>
  St.rec (motive:=λ_=>Fm) (λh' n' _ t' w'=>ac (Nat.beq fs 0) (ik a n n' t' w' (.mk h' n' fs t w) K hn)
   (ku fs (T.keys t' id []) t λt2=>iH fs w' w λw2=>ik a n n' t' w' (.mk h' n' fs t2 w2) K hn)) a8) hn) σ
def H8(p:Prop)(_ _:Tr)(it ie:St->Lf->Hn->Fm)(σ:St)(K:Lf)(hn:Hn):Fm:=
 Hn.rec (motive:=λ_=>Fm) (.two p (it σ K .nil) (ie σ K .nil)) (λa b _ _=>.two p (it σ K a) (ie σ K b)) (λa _=>.an p (it σ K a)) (λa _=>.an (¬p) (ie σ K a)) hn
def YM(p:Prop)(_:Tr)(it:St->Lf->Hn->Fm)(σ:St)(K:Lf)(hn:Hn):Fm:=.an p (it σ K hn)
def eSk(p:Sy->Prop)(_:{y:Sy // p y})(_:Sy->Tr)(ik:Sy->St->Lf->Hn->Fm)(σ:St)(K:Lf)(hn:Hn):Fm:=.al p λy=>ik y σ K hn
def BF(t:Tr):St->Lf->Hn->Fm:=Tr.rec (motive:=λ_=>St->Lf->Hn->Fm) TF YI eRd eWr YJ YK YL H8 YM eSk t
def EvTo.congr{r r':Fin->Bool}{Φ:AV->St->Prop}(h:∀K,r K=r' K)(he:EvTo r' Φ):EvTo r Φ:=by obtain⟨a,σ,e,q⟩:=he;exact⟨a,σ,λK=>(h K).trans (e K),q⟩
def Cr:∀(t:Tr) (σ:St) (K:Lf) (hn:Hn),(BF t σ K hn).den->EvTo (run t σ) λa a8=>∃hn',(K a a8 hn').den:=by
 intro t
 induction t with
 |fail=>intro σ K hn h;exact h.elim
 |ret a=>intro σ K hn h;exact⟨a,σ,λ_=>rfl,hn,h⟩
 |rd b k ih=>
  intro σ K hn h
  cases σ with
  |mk H n fs t w=>
   have h:(ac (Nat.ble (Nat.succ b) n) (T.getK H b Fm.ff λx=>lJ fs b t λt=>BF (k x) (.mk H n fs t w) K hn) .ff).den:=h;rw[ar] at h;split at h
   ·rename_i hb;have hb:=aaL hb;rw[T.getK_eq] at h;split at h
    ·exact h.elim
    ·rename_i x hx;rw[kw] at h;refine(ih x _ K hn h).congr λK=>?_;rw[gY,if_pos (show b<n from hb),hx]
   ·exact h.elim
 |wr b x k ih=>
  intro σ K hn h
  cases σ with
  |mk H n fs t w=>
   have h:(ac (Nat.ble (Nat.succ b) n) (T.getK H b Fm.ff λ_=>T.setK H b x λH=>lJ fs b t λt=>mg fs b w λw=>BF k (.mk H n fs t w) K hn) .ff).den:=h;rw[ar] at h;split at h
   ·rename_i hb;have hb:=aaL hb;rw[T.getK_eq] at h;split at h
    ·exact h.elim
    ·rename_i y hy;rw[T.setK_eq,kw,oG] at h;refine(ih _ K hn h).congr λK=>?_;rw[jX,if_pos (show b<n from hb),hy]
   ·exact h.elim
 |new x k ih=>
  intro σ K hn h
  cases σ with
  |mk H n fs t w=>
   have h:(ac (Nat.ble n 1000000000) (T.getK H n (T.setK H n x λH=>fN (Nat.succ n) λm=>BF (k n) (.mk H m fs t w) K hn) λ_=>Fm.ff) .ff).den:=h;rw[ar] at h;split at h
   ·rename_i hb;have hb:=aaL hb;rw[T.getK_eq] at h;split at h
    ·rename_i hx;rw[T.setK_eq,qP] at h;refine(ih n _ K hn h).congr λK=>?_;rw[gC,if_pos hb,hx]
    ·exact h.elim
   ·exact h.elim
 |pick n k ih=>
  intro σ K hn h;have h:(ac (Nat.ble n 1) (BF (k 0) σ K hn) .ff).den:=h;rw[ar] at h;split at h
  ·rename_i hb;refine(ih 0 σ K hn h).congr λK=>?_;show ac (Nat.ble n 1) (run (k 0) σ K) _=_;rw[ar,if_pos hb]
  ·exact h.elim
 |sub t k iht ihk=>
  intro σ K hn h
  cases σ with
  |mk H n fs tc w=>
   obtain⟨a,a8,e,hn',h2⟩:=iht _ _ _ h
   cases a8 with
   |mk h' n' f' t' w'=>
    have h2:(ac (Nat.beq fs 0) (BF (k a n n' t' w') (.mk h' n' fs tc w) K hn')
     (ku fs (T.keys t' id []) tc λt2=>iH fs w' w λw2=>BF (k a n n' t' w') (.mk h' n' fs t2 w2) K hn')).den:=h2
    rw[ar,pB,ng] at h2;by_cases hf:fs=0
    ·subst hf;rw[if_pos (show Nat.beq 0 0=true from rfl)] at h2;refine(ihk a n n' t' w' _ K hn' h2).congr λK=>?_;rw[gD,e];simp
    ·have:¬Nat.beq fs 0=true:=λhb=>hf (aaq hb);rw[if_neg this] at h2;refine(ihk a n n' t' w' _ K hn' h2).congr λK=>?_;rw[gD,e];simp [hf]
 |ask p t e iht ihe=>
  intro σ K hn h
  have both:∀a b,(Fm.two p (BF t σ K a) (BF e σ K b)).den->EvTo (run (.ask p t e) σ) λa a8=>∃hn',(K a a8 hn').den:=λa b h=>by
   by_cases hp:p
   ·exact(iht σ K a (h.1 hp)).congr λK=>fj _ _ _ _ hp
   ·exact(ihe σ K b (h.2 hp)).congr λK=>fk _ _ _ _ hp
  cases hn with
  |nil=>exact both _ _ h
  |both a b=>exact both _ _ h
  |yes a=>have h:(Fm.an p (BF t σ K a)).den:=h;exact(iht σ K a (h.2 h.1)).congr λK=>fj _ _ _ _ h.1
  |no a=>have h:(Fm.an (¬p) (BF e σ K a)).den:=h;exact(ihe σ K a (h.2 h.1)).congr λK=>fk _ _ _ _ h.1
 |req p t ih=>intro σ K hn h;have h:(Fm.an p (BF t σ K hn)).den:=h;exact(ih σ K hn (h.2 h.1)).congr λK=>fm _ _ _ h.1
 |sk p z k ih=>intro σ K hn h;have h:(Fm.al p λy=>BF (k y) σ K hn).den:=h;exact ih z.1 σ K hn (h z.1 z.2)
end
end Go.Sym
namespace Go.Sym
noncomputable section
inductive Tm where
 |i (n:Int)
 |s (l:List Nat)
 |p (q:Prop)
 |g (l:List G)
inductive Sh where
 |i (k:IntKind) (t:Nat)
 |b (t:Nat)
 |s (t:Nat)
 |o
 |v (m t:Nat)
 |vb (t:Nat)
 |pi (k:IntKind) (n:Int)
 |pb (q:Prop)
 |ps (l:List Nat)
 |pv (m:Nat) (l:List G)
 |pvb (l:List Nat)
 |np
 |p (j:Nat)
 |m (j:Nat)
 |g (j es t:Nat)
 |gb (j t:Nat)
 |fn (f j:Nat)
 |li (k:IntKind) (n:Int)
 |nz
inductive Sa where
 |c (x:Sh)
 |ag (l:List Sh)
 |cp (l:List Sh)
inductive Sr where
 |one (a:Sa)
 |tu (l:List Sa)
inductive BSh where
 |cells (ty:Nat) (l:List Sh)
 |grow (m ty t:Nat)
 |growb (ty t:Nat)
 |sm (m t:Nat)
 |arr (m ty t:Nat)
 |arb (ty t:Nat)
 |obj (k:Nat) (C:List G->Nat->List Nat->World->Prop) (t:Nat)
abbrev lk:=Nat->Nat×Nat
def put(γ:lk)(y:Sy)(x:Sh):AV:=match x with
 | .i k t=>.sI k (y.i t)
 | .b t=>.sB (y.p t)
 | .s t=>.sS (y.s t)
 | .o=>.any1
 | .v m t=>.cv (.rows m (y.g t))
 | .vb t=>.cv (.bytes (y.s t))
 | .pi k n=>.sI k n
 | .pb q=>.sB q
 | .ps l=>.sS l
 | .pv m l=>.cv (.rows m l)
 | .pvb l=>.cv (.bytes l)
 | .np=>.nilp
 | .p j=>.ptr (γ j).1 0 0
 | .m j=>.map (γ j).1
 | .g j es t=>.gsl (γ j).1 (γ j).2 (y.g t).length es
 | .gb j t=>.gsl (γ j).1 (γ j).2 (y.s t).length 1
 | .fn f j=>.func (.func f) [] [.ptr (γ j).1 0 0]
 | .li k n=>.int k n
 | .nz=>.nils
def pT(γ:lk)(y:Sy)(l:List Sh):List AV:=List.rec (motive:=λ_=>List AV) [] (λx _ ih=>put γ y x::ih) l
def kx(γ:lk)(y:Sy)(a:Sa):AV:=match a with
 | .c x=>put γ y x
 | .ag l=>.agg (pT γ y l)
 | .cp l=>.cptr (pT γ y l)
def nh(γ:lk)(y:Sy)(l:List Sa):List AV:=List.rec (motive:=λ_=>List AV) [] (λx _ ih=>kx γ y x::ih) l
def Cs(γ:lk)(y:Sy)(r:Sr):AV:=match r with
 | .one a=>kx γ y a
 | .tu l=>.tup (nh γ y l)
def rJ:List AV->Nat->T Cell->T Cell
 | [],_,t=>t
 |a::l,i,t=>rJ l (i+1) (t.set i (.mk 0 a))
def mh(γ:lk)(y:Sy)(j:Nat)(b:BSh):ABlk:=match b with
 | .cells ty l=>.cells (rJ (pT γ y l) 0 .leaf) 0 0 (List.length l) 0 0 false ty
 | .grow m ty t=>.grow (.rows m (y.g t)) (γ j).2 ty
 | .growb ty t=>.grow (.bytes (y.s t)) (γ j).2 ty
 | .sm m t=>.smap m (y.g t)
 | .arr m ty t=>.grow (.rows m (y.g t)) 0 ty
 | .arb ty t=>.grow (.bytes (y.s t)) 0 ty
 | .obj k C t=>.obj k (C (y.g t)) (y.g t)
def eS(γ:lk)(y:Sy):List BSh->Nat->T ABlk->T ABlk
 | [],_,H=>H
 |b::l,j,H=>eS γ y l (j+1) (H.set (γ j).1 (mh γ y j b))
def bO:lk:=λj=>(base+j,0)
structure PS where
 tm:List (Nat×Tm)
 loc:List (Nat×Nat×Nat)
 ln:List (Nat×Nat×Nat)
 pr:Prop
 fz:List Nat
def jN:PS:=⟨[],[],[],True,[]⟩
def bD{α:Type}(n:Nat)(l:List (Nat×α)):Option α:=List.rec (motive:=λ_=>Option α) none (λx _ ih=>ac (Nat.beq x.1 n) (some x.2) ih) l
def tmI(l:List (Nat×Tm))(n:Nat):Int:=match bD n l with|some (.i x)=>x|_=>0
def H9(l:List (Nat×Tm))(n:Nat):List Nat:=match bD n l with|some (.s x)=>x|_=>[]
def tmP(l:List (Nat×Tm))(n:Nat):Prop:=match bD n l with|some (.p x)=>x|_=>False
def Cu(l:List (Nat×Tm))(n:Nat):List G:=match bD n l with|some (.g x)=>x|_=>[]
def aP(l:List (Nat×Tm)):Sy:=⟨tmI l,H9 l,tmP l,Cu l⟩
def PS.and(s:PS)(p:Prop):PS:=match s with|⟨tm,loc,ln,pr,fz⟩=>⟨tm,loc,ln,p/\pr,fz⟩
def PS.fzn(s:PS)(b:Nat):PS:=match s with|⟨tm,loc,ln,pr,fz⟩=>⟨tm,loc,ln,pr,b::fz⟩
def PS.name(s:PS)(x:Nat×Nat×Nat):PS:=match s with|⟨tm,loc,ln,pr,fz⟩=>⟨tm,x::loc,ln,pr,fz⟩
def PS.add(s:PS)(t:Nat)(x:Tm):Option PS:=match s with
 |⟨tm,loc,ln,pr,fz⟩=>(match bD t tm with
  |none=>some ⟨(t,x)::tm,loc,ln,pr,fz⟩
  |some _=>none)
def PS.must(s:PS)(p:Prop):Option PS:=some (s.and p)
def PS.at_(s:PS)(j b g:Nat):Option PS:=match s with
 |⟨tm,loc,ln,pr,fz⟩=>(match bD j loc with
  |none=>ac (kg b loc) (some ⟨tm,(j,b,g)::loc,ln,pr,fz⟩) none
  |some (b',g')=>ac (Nat.beq b b') (ac (Nat.beq g g') (some ⟨tm,loc,ln,pr,fz⟩) none) none)
def PS.len_(s:PS)(j tag n:Nat):Option PS:=match s with|⟨tm,loc,ln,pr,fz⟩=>some ⟨tm,loc,(j,tag,n)::ln,pr,fz⟩
def Ex(F:T ABlk)(m:Nat)(a:AV)(s:PS)(k:List G->PS->Option PS):Option PS:=match a with
 | .nils=>k [] s
 | .cv (.rows m' l)=>ac (Nat.beq m m') (k l s) none
 | .gsl b g n es=>T.getK F b none λx=>(match x with
  | .grow (.rows m' l) gen _=>ac (Nat.ble (base+64) b) (ac (Nat.beq m m') (ac (Nat.beq g gen) (k l ((s.fzn b).and (l.length=n))) none) none) none
  | .froz (.rows m' l) gen=>ac (Nat.ble (base+64) b) (ac (Nat.beq m m') (ac (Nat.beq g gen) (ac (Nat.beq es (bn (cP m))) (k l ((s.fzn b).and (l.length=n))) none) none) none) none
  |_=>none)
 | .slc b g o len _ es=>T.getK F b none λx=>(match x with
  | .cells c gen _ _ _ _ ro _=>ac (Nat.ble (base+64) b) (ac ro none (ac (Nat.ble g gen) (ac (Nat.ble 1 len) (ac (Nat.beq es (bn (cP m))) (ac (Nat.ble 1 es) (bA (PM c g (len * es) o) λl=>bA (dV (cP m) len l) λq=>(match q with
   |(gs,[])=>k gs (s.fzn b)
   |_=>none)) none) none) none) none)) none
  |_=>none)
 |_=>none
def wE(F:T ABlk)(a:AV)(s:PS)(k:List Nat->PS->Option PS):Option PS:=match a with
 | .nils=>k [] s
 | .cv (.bytes l)=>k l s
 | .gsl b g n es=>T.getK F b none λx=>(match x with
  | .grow (.bytes l) gen _=>ac (Nat.ble (base+64) b) (ac (Nat.beq g gen) (k l ((s.fzn b).and (l.length=n))) none) none
  | .froz (.bytes l) gen=>ac (Nat.ble (base+64) b) (ac (Nat.beq g gen) (ac (Nat.beq es 1) (k l ((s.fzn b).and (l.length=n))) none) none) none
  |_=>none)
 | .slc b g o len _ es=>T.getK F b none λx=>(match x with
  | .cells c gen _ _ _ _ ro _=>ac (Nat.ble (base+64) b) (ac ro none (ac (Nat.ble g gen) (ac (Nat.ble 1 len) (ac (Nat.beq es 1) (bA (PM c g len o) λl=>bA (gf l) λns=>k (aH ns) ((s.fzn b).and (br ns))) none) none) none)) none
  |_=>none)
 |_=>none
def jq(blk:List BSh)(j:Nat):Bool:=match blk[j]? with|some (.cells _ _)=>true|some (.obj _ _ _)=>true|some (.arr _ _ _)=>true|some (.arb _ _)=>true|_=>false
def wF(blk:List BSh)(j:Nat):Bool:=match blk[j]? with|some (.sm _ _)=>true|_=>false
def ni(F:T ABlk)(blk:List BSh)(x:Sh)(a:AV)(s:PS):Option PS:=match x with
 | .i k t=>(match co a with|some (k',n)=>ac (decide (k=k')) (s.add t (.i n)) none|none=>none)
 | .b t=>(match dQ a with|some q=>s.add t (.p q)|none=>none)
 | .s t=>(match ge a with|some l=>s.add t (.s l)|none=>none)
 | .o=>ac (gd a) (some s) none
 | .v m t=>Ex F m a s λl s=>s.add t (.g l)
 | .vb t=>wE F a s λl s=>s.add t (.s l)
 | .pi k n=>(match co a with|some (k',n')=>ac (decide (k=k')) (s.must (n'=n)) none|none=>none)
 | .pb q=>(match dQ a with|some q'=>s.must (q'↔q)|none=>none)
 | .ps l=>(match ge a with|some l'=>s.must (l'=l)|none=>none)
 | .pv m l=>Ex F m a s λl' s=>s.must (l'=l)
 | .pvb l=>wE F a s λl' s=>s.must (l'=l)
 | .np=>(match a with | .nilp=>some s|_=>none)
 | .p j=>(match a with | .ptr b g o=>ac (Nat.beq g 0) (ac (Nat.beq o 0) (ac (jq blk j) (s.at_ j b 0) none) none) none|_=>none)
 | .m j=>(match a with | .map b=>ac (wF blk j) (s.at_ j b 0) none|_=>none)
 | .g j es t=>(match a with | .gsl b g n o7=>ac (Nat.beq es o7) (bA (s.at_ j b g) λs=>s.len_ j (2 * t) n) none|_=>none)
 | .gb j t=>(match a with | .gsl b g n o7=>ac (Nat.beq 1 o7) (bA (s.at_ j b g) λs=>s.len_ j (2 * t+1) n) none|_=>none)
 | .fn f j=>(match a with | .func (.func f') [] [.ptr b g o]=>ac (Nat.beq f f') (ac (Nat.beq g 0) (ac (Nat.beq o 0) (ac (jq blk j) (s.at_ j b 0) none) none) none) none|_=>none)
 | .li k n=>(match a with | .int k' n'=>ac (decide (k=k')) (ac (decide (n=n')) (some s) none) none|_=>none)
 | .nz=>(match a with | .nils=>some s|_=>none)
def iI(F:T ABlk)(blk:List BSh)(l:List Sh)(as:List AV)(s:PS):Option PS:=
 List.rec (motive:=λ_=>List AV->PS->Option PS) (λas s=>match as with | []=>some s|_=>none) (λx _ ih as s=>match as with
  |a::as=>bA (ni F blk x a s) λs=>ih as s
  | []=>none) l as s
def rK(F:T ABlk)(blk:List BSh)(x:Sa)(a:AV)(s:PS):Option PS:=match x with
 | .c x=>ni F blk x a s
 | .ag l=>(match a with | .agg as=>iI F blk l as s|_=>none)
 | .cp l=>(match a with | .cptr as=>iI F blk l as s|_=>none)
def ia(F:T ABlk)(blk:List BSh)(l:List Sa)(as:List AV)(s:PS):Option PS:=
 List.rec (motive:=λ_=>List AV->PS->Option PS) (λas s=>match as with | []=>some s|_=>none) (λx _ ih as s=>match as with
  |a::as=>bA (rK F blk x a s) λs=>ih as s
  | []=>none) l as s
def zB(F:T ABlk)(blk:List BSh)(r:Sr)(a:AV)(s:PS):Option PS:=match r with
 | .one x=>rK F blk x a s
 | .tu l=>(match a with | .tup as=>ia F blk l as s|_=>none)
def nj(ty n:Nat)(q:ABlk)(g:Nat):Option (List AV):=match q with
 | .cells c gen lo hi fl fh ro G'=>ac ro none (ac (Nat.beq gen 0) (ac (Nat.beq lo 0) (ac (Nat.beq hi n) (ac (Nat.beq fl 0) (ac (Nat.beq fh 0) (ac (Nat.beq G' ty) (ac (Nat.beq g 0) (PM c 0 n 0) none) none) none) none) none) none) none)
 |_=>none
def gj(x:BSh)(q:ABlk)(g:Nat)(s:PS):Option PS:=match x with
 | .grow m ty t=>(match q with
  | .grow (.rows m' l) gen G'=>ac (Nat.beq m m') (ac (Nat.beq g gen) (ac (Nat.beq ty G') (s.add t (.g l)) none) none) none
  |_=>none)
 | .growb ty t=>(match q with
  | .grow (.bytes l) gen G'=>ac (Nat.beq g gen) (ac (Nat.beq ty G') (s.add t (.s l)) none) none
  |_=>none)
 | .sm m t=>(match q with
  | .smap m' l=>ac (Nat.beq m m') (ac (Nat.beq g 0) (s.add t (.g l)) none) none
  | .mapo [] _=>ac (Nat.beq g 0) (s.add t (.g [])) none
  |_=>none)
 | .arb ty t=>(match q with
  | .grow (.bytes l) gen G'=>ac (Nat.beq gen 0) (ac (Nat.beq g 0) (ac (Nat.beq ty G') (bA (s.must (0<l.length)) λs=>s.add t (.s l)) none) none) none
  |_=>none)
 | .arr m ty t=>(match q with
  | .grow (.rows m' l) gen G'=>ac (Nat.beq m m') (ac (Nat.beq gen 0) (ac (Nat.beq g 0) (ac (Nat.beq ty G') (bA (s.must (0<l.length)) λs=>s.add t (.g l)) none) none) none) none
  |_=>none)
 | .obj k C t=>(match q with
  | .obj k' I l=>ac (Nat.beq k k') (ac (Nat.beq g 0) (bA (s.must (I=C l)) λs=>s.add t (.g l)) none) none
  |_=>none)
 | .cells _ _=>none
def oH(F:T ABlk)(blk:List BSh)(x:BSh)(q:ABlk)(g:Nat)(s:PS):Option PS:=match x with
 | .cells ty l=>bA (nj ty (List.length l) q g) λas=>iI F blk l as s
 |x=>gj x q g s
def lK(blk:List BSh)(l:List (Nat×Nat×Nat))(s:PS):Option PS:=
 List.rec (motive:=λ_=>PS->Option PS) (λs=>some s) (λ(x:Nat×Nat×Nat) _ ih s=>match blk[x.1]? with
  |some (.grow _ _ t)=>ac (Nat.beq x.2.1 (2 * t)) (bA (s.must ((Cu s.tm t).length=x.2.2)) ih) none
  |some (.growb _ t)=>ac (Nat.beq x.2.1 (2 * t+1)) (bA (s.must ((H9 s.tm t).length=x.2.2)) ih) none
  |_=>none) l s
structure FSpec where
 args:List Sa
 blk:List BSh
 pre:Sy->Prop
 res:Sy->Sr
 out:Sy->List BSh
 post:Sy->Sy->Prop
 gl:Option (Nat×Nat×List Nat):=none
def iJ(x:BSh):Bool:=match x with | .grow _ _ _=>false | .growb _ _=>false|_=>true
def tL(q:ABlk):Nat:=match q with | .cells _ g _ _ _ _ _ _=>g | .grow _ g _=>g | .froz _ g=>g|_=>0
def H_(H:T ABlk)(blk:List BSh)(l:List BSh)(j:Nat)(s:PS):Option PS:=
 List.rec (motive:=λ_=>Nat->PS->Option PS) (λ_ s=>some s) (λx _ ih j s=>match bD j s.loc with
  |some bg=>T.getK H bg.1 none λq=>bA (oH H blk x q bg.2 s) λs=>ih (Nat.succ j) s
  |none=>T.getK H (base+j) none λq=>bA (oH H blk x q (tL q) (s.name (j,base+j,tL q))) λs=>ih (Nat.succ j) s) l j s
def lL(n:Nat)(l:List (Nat×Nat×Nat)):Bool:=List.rec (motive:=λ_=>Bool) true (λx l ih=>ac (Nat.ble (Nat.succ x.1) n) (ac (kg x.2.1 l) ih false) false) l
def zC(x y:BSh):Bool:=match x,y with
 | .cells _ _,.cells _ _=>true
 | .grow _ _ _,.grow _ _ _=>true
 | .growb _ _,.growb _ _=>true
 | .sm _ _,.sm _ _=>true
 | .arr _ _ _,.arr _ _ _=>true
 | .arb _ _,.arb _ _=>true
 | .obj k _ _,.obj k' _ _=>Nat.beq k k'
 |_,_=>false
def pC:List BSh->List BSh->Bool
 | [],_=>true
 |x::l,y::m=>ac (zC x y) (pC l m) false
 |_,_=>false
def Qq(bl:List BSh)(j:Nat):Bool:=match bl[j]? with|some (.grow _ _ _)=>true|some (.growb _ _)=>true|_=>false
def nk(bl:List BSh)(n:Nat)(l:List (Nat×Nat×Nat)):Bool:=List.rec (motive:=λ_=>Bool) true (λx _ ih=>ac (ac (Nat.ble (Nat.succ x.1) n) (ac (Nat.beq x.2.1 (base+x.1)) true (ac (Qq bl x.1) (Nat.ble (base+64) x.2.1) false)) (Nat.ble (base+64) x.2.1)) ih false) l
def rL(fz:List Nat)(l:List (Nat×Nat×Nat)):Bool:=List.rec (motive:=λ_=>Bool) true (λb _ ih=>ac (kg b l) ih false) fz
def Ia(H:T ABlk)(l:List BSh)(j:Nat)(s:PS):Option PS:=
 List.rec (motive:=λ_=>Nat->PS->Option PS) (λ_ s=>some s) (λx _ ih j s=>match bD j s.loc with
  |some _=>ih (Nat.succ j) s
  |none=>ac (iJ x) (T.getK H (base+j) none λq=>ih (Nat.succ j) (s.name (j,base+j,tL q))) (ih (Nat.succ j) s)) l j s
def e_(n:Nat)(H:T ABlk)(r:Sr)(l:List BSh)(a:AV):Option PS:=
 bA (zB H l r a jN) λs=>bA (Ia H (l.take n) 0 s) λs=>bA (H_ H l l 0 s) λs=>bA (lK l s.ln s) λs=>ac (ac (nk l n s.loc) (rL s.fz s.loc) false) (ac (lL (List.length l) s.loc) (some s) none) none
def TG(n:Nat)(r:Sr)(l:List BSh)(post:Sy->Prop):Lf:=λa σ _=>match e_ n σ.h r l a with
 |some s=>.an s.pr (.at (post (aP s.tm)))
 |none=>.ff
def FSpec.argsA(S:FSpec)(z:Sy):List AV:=nh bO z S.args
def addTab(o:Option (Nat×Nat×List Nat))(H:T ABlk):T ABlk:=match o with|none=>H|some (g,ty,l)=>H.set g (.tab ty l)
def Qr(o:Option (Nat×Nat×List Nat))(k:Tr):Tr:=match o with
 |none=>k
 |some (g,ty,l)=>ac (Nat.ble (Nat.succ g) 1048576) (.rd g λq=>match q with
  | .tab G' l'=>ac (Nat.beq ty G') (ac (DW l l') k .fail) .fail
  |_=>.fail) .fail
def FSpec.heap(S:FSpec)(z:Sy):T ABlk:=addTab S.gl (eS bO z S.blk 0 .leaf)
def Cv(loc:List (Nat×Nat×Nat))(a:AV)(k:AV->Tr):Tr:=match a with
 | .gsl b g n es=>.rd b λq=>(match q with
  | .grow c gen _=>ac (Nat.beq g gen) (ac (Nat.beq c.es es) (ac (ac (Nat.ble (base+64) b) (kg b loc) false) (.req (c.len=n) (.wr b (.froz c gen) (k (.cv c)))) .fail) .fail) .fail
  | .froz c gen=>ac (Nat.beq g gen) (ac (Nat.beq c.es es) (.req (c.len=n) (k (.cv c))) .fail) .fail
  |_=>.fail)
 |a=>k a
def Qs(loc:List (Nat×Nat×Nat))(m:Nat)(a:AV)(k:AV->Tr):Tr:=match a with
 | .slc b g o len cap es=>ac (Nat.beq es (bn (cP m))) (ol loc b g o len cap es (λty as k=>dr (dV (cP m) len as) .fail λq=>(match q with|(gs,[])=>k (.rows m gs) ty|_=>.fail)) λa=>Cv loc a k) .fail
 |a=>Cv loc a k
def frzB(loc:List (Nat×Nat×Nat))(a:AV)(k:AV->Tr):Tr:=match a with
 | .slc b g o len cap es=>ac (Nat.beq 1 es) (ol loc b g o len cap 1 (λty as k=>dr (gf as) .fail λns=>.req (br ns) (k (.bytes (aH ns)) ty)) λa=>Cv loc a k) .fail
 |a=>Cv loc a k
def arrK(loc:List (Nat×Nat×Nat))(m b g:Nat)(k:Tr):Tr:=.rd b λq=>match q with
 | .cells _ _ _ hi _ _ _ _=>ol loc b g 0 (hi/bn (cP m)) (some (hi/bn (cP m))) (bn (cP m)) (qX m (hi/bn (cP m))) λ_=>k
 |_=>k
def arbK(loc:List (Nat×Nat×Nat))(b g:Nat)(k:Tr):Tr:=.rd b λq=>match q with
 | .cells _ _ _ hi _ _ _ _=>ol loc b g 0 hi (some hi) 1 qY λ_=>k
 |_=>k
def uB(loc:List (Nat×Nat×Nat))(blk:List BSh)(x:Sh)(a:AV)(k:AV->Tr):Tr:=match x with
 | .g j es t=>(match a with
  | .nils=>(match blk[j]? with|some (.grow m ty _)=>.new (.grow (.rows m []) 0 ty) λb=>k (.gsl b 0 0 es)|_=>.fail)
  | .slc b g o len cap o7=>(match blk[j]? with
   |some (.grow m ty _)=>ac (Nat.beq es o7) (ol loc b g o len cap es (λ_ as k=>dr (dV (cP m) len as) .fail λq=>(match q with|(gs,[])=>k (.rows m gs) ty|_=>.fail)) k) .fail
   |_=>.fail)
  |a=>k a)
 | .gb j t=>(match a with
  | .nils=>(match blk[j]? with|some (.growb ty _)=>.new (.grow (.bytes []) 0 ty) λb=>k (.gsl b 0 0 1)|_=>.fail)
  | .slc b g o len cap o7=>(match blk[j]? with
   |some (.growb ty _)=>ac (Nat.beq 1 o7) (ol loc b g o len cap 1 (λ_ as k=>dr (gf as) .fail λns=>.req (br ns) (k (.bytes (aH ns)) ty)) k) .fail
   |_=>.fail)
  |a=>k a)
 | .p j=>(match a with
  | .ptr b g o=>(match blk[j]? with|some (.arr m _ _)=>arrK loc m b g (k (.ptr b g o))|some (.arb _ _)=>arbK loc b g (k (.ptr b g o))|_=>k (.ptr b g o))
  |a=>k a)
 | .v m _=>Qs loc m a k
 | .pv m _=>Qs loc m a k
 | .vb _=>frzB loc a k
 | .pvb _=>frzB loc a k
 |_=>k a
def wG(loc:List (Nat×Nat×Nat))(blk:List BSh)(l:List Sh)(as:List AV)(k:List AV->Tr):Tr:=
 List.rec (motive:=λ_=>List AV->(List AV->Tr)->Tr) (λas k=>k as) (λx _ ih as k=>match as with
  | []=>k []
  |a::as=>uB loc blk x a λa=>ih as λas=>k (a::as)) l as k
def K7(loc:List (Nat×Nat×Nat))(blk:List BSh)(x:Sa)(a:AV)(k:AV->Tr):Tr:=match x with
 | .c x=>uB loc blk x a k
 | .ag l=>(match a with
  | .agg as=>ac (Nat.beq (List.length as) (List.length l)) (wG loc blk l as λas=>k (.agg as)) .fail
  |a=>k a)
 | .cp _=>k a
def jr(loc:List (Nat×Nat×Nat))(blk:List BSh)(l:List Sa)(as:List AV)(k:List AV->Tr):Tr:=
 List.rec (motive:=λ_=>List AV->(List AV->Tr)->Tr) (λas k=>k as) (λx _ ih as k=>match as with
  | []=>k []
  |a::as=>K7 loc blk x a λa=>ih as λas=>k (a::as)) l as k
def YN(x:Sh):Sh:=match x with | .g j es t=>.g j es t | .gb j t=>.gb j t|_=>.o
def Qt(x:Sa):Sa:=match x with | .c x=>.c (YN x) | .ag l=>.ag (l.map YN) | .cp l=>.cp l
def Cw(blk:List BSh)(r:Sr)(a:AV)(k:AV->Tr):Tr:=match r with
 | .one x=>jr [] blk [Qt x] [a] λas=>match as with | [a]=>k a|_=>.fail
 | .tu l=>(match a with
  | .tup as=>ac (Nat.beq (List.length (l.map Qt)) (List.length as)) (jr [] blk (l.map Qt) as λas=>k (.tup as)) (k (.tup as))
  |a=>k a)
def FSpec.callFm(S:FSpec)(P:Program)(M:Tab)(n f:Nat)(z:Sy)(h:Hn):Fm:=
 BF (mT P (wm P M n) f (S.argsA z) λa=>Cw (S.out z) (S.res z) a .ret) (start (S.heap z) (base+64)) (TG (List.length S.blk) (S.res z) (S.out z) (S.post z)) h
def YO(blk:List BSh)(x:BSh)(q:ABlk)(g:Nat)(s:PS)(k:PS->Tr):Tr:=match x with
 | .cells ty l=>dr (nj ty (List.length l) q g) .fail λas=>wG s.loc blk l as λas=>dr (iI .leaf blk l as s) .fail k
 |x=>dr (gj x q g s) .fail k
def uC(blk:List BSh)(l:List BSh)(j:Nat)(s:PS)(k:PS->Tr):Tr:=
 List.rec (motive:=λ_=>Nat->PS->(PS->Tr)->Tr) (λ_ s k=>k s) (λx _ ih j s k=>dr (bD j s.loc) .fail λbg=>.rd bg.1 λq=>YO blk x q bg.2 s λs=>ih (Nat.succ j) s k) l j s k
def oI(s:PS):lk:=λj=>match bD j s.loc with|some p=>p|none=>(0,0)
def Ey(x:BSh)(g:Nat):Nat:=ac (iJ x) g (g+1)
def pU(l:List BSh)(γ:lk):lk:=λj=>match l[j]? with|some x=>((γ j).1,Ey x (γ j).2)|none=>γ j
def Qu(l:List BSh)(k:List Nat->Tr):Tr:=List.rec (motive:=λ_=>(List Nat->Tr)->Tr) (λk=>k []) (λ_ _ ih k=>.new (.grow (.bytes []) 0 0) λb=>ih λbs=>k (b::bs)) l k
def tM(n:Nat)(γ:lk)(bs:List Nat):lk:=λj=>ac (Nat.ble (Nat.succ j) n) (γ j) (bs.getD (j-n) 0,0)
def Vv(γ:lk)(y:Sy)(l:List BSh)(j:Nat)(k:Tr):Tr:=
 List.rec (motive:=λ_=>Nat->Tr->Tr) (λ_ k=>k) (λx _ ih j k=>.wr (γ j).1 (mh γ y j x) (ih (Nat.succ j) k)) l j k
def Vw(S:FSpec)(zf:(z:Sy)->{y:Sy // S.pre z->S.post z y})(args:List AV)(k:AV->Tr):Tr:=
 Qr S.gl <| jr [] S.blk S.args args λargs=>dr (ia .leaf S.blk S.args args jN) .fail λs=>uC S.blk S.blk 0 s λs=>dr (lK S.blk s.ln s) .fail λs=>ac (ac (Nat.ble (List.length S.blk) 64) (ac (pC S.blk (S.out (aP s.tm))) (lL (List.length S.blk) s.loc) false) false) (.req (s.pr/\S.pre (aP s.tm))
  (.sk (λy=>S.pre (aP s.tm)->S.post (aP s.tm) y) (zf (aP s.tm)) λy=>Qu ((S.out (aP s.tm)).drop (List.length S.blk)) λbs=>Vv (tM (List.length S.blk) (pU S.blk (oI s)) bs) y (S.out (aP s.tm)) 0 (k (Cs (tM (List.length S.blk) (pU S.blk (oI s)) bs) y (S.res (aP s.tm)))))) .fail
end
end Go.Sym
namespace Go.Sym
open Go.RowKit (Below)
def mC(s:PS)(F:T ABlk):Nat->Option ABlk:=λb=>if b∈s.fz then F.get b else none
def RdC(F:Nat->Option ABlk)(ct:Ct)(a:AV):Prop:=
 (a= .nils/\ct.len=0)∨a= .cv ct∨
 (∃b g es ty,a= .gsl b g ct.len es/\base+64<=b/\F b=some (.grow ct g ty))∨
 (∃(b g o:Nat) (cap:Option Nat) (c:T Cell) (gen lo hi fl fh ty:Nat) (as:List AV),a= .slc b g o ct.len cap ct.es/\base+64<=b/\F b=some (.cells c gen lo hi fl fh false ty)/\g<=gen/\1<=ct.len/\1<=ct.es/\
  PM c g (ct.len * ct.es) o=some as/\∀i,i<ct.len->∀(ρ:Rho) (vs:List Value),LR ρ ((as.drop (i * ct.es)).take ct.es) vs->LR ρ (ct.row i) vs)∨
 (∃b g,a= .gsl b g ct.len ct.es/\base+64<=b/\F b=some (.froz ct g))
def Tv(F:Nat->Option ABlk)(blk:List BSh)(L:Nat->Option (Nat×Nat))(y:Sy)(x:Sh)(a:AV):Prop:=match x with
 | .i k t=>co a=some (k,y.i t)
 | .b t=>dQ a=some (y.p t)
 | .s t=>ge a=some (y.s t)
 | .o=>gd a=true
 | .v m t=>RdC F (.rows m (y.g t)) a
 | .vb t=>RdC F (.bytes (y.s t)) a
 | .pi k n=>co a=some (k,n)
 | .pb q=>∃q',dQ a=some q'/\(q'↔q)
 | .ps l=>ge a=some l
 | .pv m l=>RdC F (.rows m l) a
 | .pvb l=>RdC F (.bytes l) a
 | .np=>a= .nilp
 | .m j=>∃b,L j=some (b,0)/\a= .map b/\wF blk j=true
 | .p j=>∃b,L j=some (b,0)/\a= .ptr b 0 0/\jq blk j=true
 | .g j es t=>∃b g,L j=some (b,g)/\a= .gsl b g (y.g t).length es/\∃m ty,blk[j]? =some (.grow m ty t)
 | .gb j t=>∃b g,L j=some (b,g)/\a= .gsl b g (y.s t).length 1/\∃ty,blk[j]? =some (.growb ty t)
 | .fn f j=>∃b,L j=some (b,0)/\a= .func (.func f) [] [.ptr b 0 0]/\jq blk j=true
 | .li k n=>a= .int k n
 | .nz=>a= .nils
structure PS.Le(s s':PS):Prop where
 tm:∀t x,bD t s.tm=some x->bD t s'.tm=some x
 loc:∀j p,bD j s.loc=some p->bD j s'.loc=some p
 ln:∀q,q∈s.ln->q∈s'.ln
 pr:s'.pr->s.pr
 mem:∀q,q∈s.loc->q∈s'.loc
 fz:∀b,b∈s.fz->b∈s'.fz
def PS.Le.refl(s:PS):s.Le s:=⟨λ_ _ h=>h,λ_ _ h=>h,λ_ h=>h,λh=>h,λ_ h=>h,λ_ h=>h⟩
def PS.Le.trans{a b c:PS}(h:a.Le b)(h':b.Le c):a.Le c:=⟨λt x q=>h'.tm t x (h.tm t x q),λj p q=>h'.loc j p (h.loc j p q),λq p=>h'.ln q (h.ln q p),λp=>h.pr (h'.pr p),λq p=>h'.mem q (h.mem q p),λb p=>h'.fz b (h.fz b p)⟩
def rM(blk:List BSh)(s:PS):Prop:=∀j tag n,(j,tag,n)∈s.ln->(∃m ty t,blk[j]? =some (.grow m ty t)/\tag=2 * t/\(Cu s.tm t).length=n)∨(∃ty t,blk[j]? =some (.growb ty t)/\tag=2 * t+1/\(H9 s.tm t).length=n)
noncomputable def PS.L(s:PS):Nat->Option (Nat×Nat):=λj=>bD j s.loc
def cZ{α:Type}(n:Nat)(x:Nat×α)(l:List (Nat×α)):bD n (x::l)=if x.1=n then some x.2 else bD n l:=by
 show ac (Nat.beq x.1 n) (some x.2) (bD n l)=_;rw[ar];by_cases h:x.1=n
 ·rw[if_pos h,if_pos (by rw[h];exact abA n)]
 ·rw[if_neg h,if_neg (λe=>h (aaq e))]
def PS.and_le(s:PS)(p:Prop):s.Le (s.and p)/\((s.and p).pr->p):=by cases s;exact⟨⟨λ_ _ h=>h,λ_ _ h=>h,λ_ h=>h,λh=>h.2,λ_ h=>h,λ_ h=>h⟩,λh=>h.1⟩
def PS.fzn_le(s:PS)(b:Nat):s.Le (s.fzn b)/\b∈(s.fzn b).fz:=by cases s;exact⟨⟨λ_ _ h=>h,λ_ _ h=>h,λ_ h=>h,λh=>h,λ_ h=>h,λ_ h=>aay _ h⟩,aaB⟩
def oJ{s sF:PS}{F:T ABlk}{b:Nat}(h:b∈s.fz)(hF:s.Le sF):mC sF F b=F.get b:=by unfold mC;rw[if_pos (hF.fz _ h)]
def PS.add_ok{s s':PS}{t:Nat}{x:Tm}(h:s.add t x=some s'):s.Le s'/\bD t s'.tm=some x:=by
 cases s with
 |mk tm loc ln pr fz=>
 unfold PS.add at h
 simp only at h
 split at h
 ·rename_i hn;injection h with h;subst h;refine⟨⟨λt' x' h'=>?_,λ_ _ h=>h,λ_ h=>h,λh=>h,λ_ h=>h,λ_ h=>h⟩,by rw[cZ,if_pos rfl]⟩;rw[cZ];split
  ·rename_i e;simp only at e;subst e;have h':bD t tm=some x':=h';rw[hn] at h';cases h'
  ·exact h'
 ·cases h
def PS.must_ok{s s':PS}{p:Prop}(h:s.must p=some s'):s.Le s'/\(s'.pr->p):=by injection h with h;subst h;exact PS.and_le s p
def PS.at_ok{s s':PS}{j b g:Nat}(h:s.at_ j b g=some s'):s.Le s'/\bD j s'.loc=some (b,g):=by
 cases s with
 |mk tm loc ln pr fz=>
 unfold PS.at_ at h
 simp only at h
 split at h
 ·rename_i hn;obtain⟨_,h⟩:=aU h;injection h with h;subst h;refine⟨⟨λ_ _ h=>h,λj' p h'=>?_,λ_ h=>h,λh=>h,λ_ h=>aay _ h,λ_ h=>h⟩,by rw[cZ,if_pos rfl]⟩;rw[cZ];split
  ·rename_i e;simp only at e;subst e;have h':bD j loc=some p:=h';rw[hn] at h';cases h'
  ·exact h'
 ·rename_i b' g' hn;obtain⟨e1,h⟩:=aU h;obtain⟨e2,h⟩:=aU h;have e1:=aaq e1;have e2:=aaq e2;injection h with h;subst h;subst e1;subst e2;exact⟨.refl _,hn⟩
def PS.len_ok{s s':PS}{j tag n:Nat}(h:s.len_ j tag n=some s'):s.Le s'/\(j,tag,n)∈s'.ln:=by
 cases s with
 |mk tm loc ln pr fz=>
 injection h with h
 subst h
 exact⟨⟨λ_ _ h=>h,λ_ _ h=>h,λ_ h=>aay _ h,λh=>h,λ_ h=>h,λ_ h=>h⟩,aaB⟩
def zD{F:T ABlk}{m:Nat}{a:AV}{s s':PS}{k:List G->PS->Option PS}(h:Ex F m a s k=some s'):
 ∃l s1,k l s1=some s'/\s.Le s1/\(s1.pr->∀sF,s1.Le sF->RdC (mC sF F) (.rows m l) a):=by
 unfold Ex at h
 split at h
 ·exact⟨_,_,h,.refl _,λ_ _ _=>.inl ⟨rfl,rfl⟩⟩
 ·replace h:=aU h;obtain⟨e,h⟩:=h;have e:=aaq e;subst e;exact⟨_,_,h,.refl _,λ_ _ _=>.inr (.inl rfl)⟩
 ·rename_i b g n es;replace h:=mY h;obtain⟨x,hx,h⟩:=h;split at h
  ·rename_i m' l gen ty;replace h:=aU h;obtain⟨e0,h⟩:=h;replace h:=aU h;obtain⟨e1,h⟩:=h;replace h:=aU h;obtain⟨e2,h⟩:=h;have e1:=aaq e1;have e2:=aaq e2;subst e1;subst e2;refine⟨_,_,h,(PS.fzn_le s b).1.trans (PS.and_le _ _).1,λhp sF hF=>.inr (.inr (.inl ⟨b,g,es,ty, ?_,aaL e0,(oJ ((PS.and_le _ _).1.fz _ (PS.fzn_le s b).2) hF).trans hx⟩))⟩;show AV.gsl b g n es= .gsl b g l.length es;rw[←(PS.and_le _ _).2 hp]
  ·rename_i m' l gen;replace h:=aU h;obtain⟨e0,h⟩:=h;replace h:=aU h;obtain⟨e1,h⟩:=h;replace h:=aU h;obtain⟨e2,h⟩:=h;replace h:=aU h;obtain⟨e3,h⟩:=h;have e1:=aaq e1;have e2:=aaq e2;have e3:=aaq e3;subst e1;subst e2;subst e3;refine⟨_,_,h,(PS.fzn_le s b).1.trans (PS.and_le _ _).1,λhp sF hF=>.inr (.inr (.inr (.inr ⟨b,g, ?_,aaL e0,(oJ ((PS.and_le _ _).1.fz _ (PS.fzn_le s b).2) hF).trans hx⟩)))⟩;show AV.gsl b g n _= .gsl b g l.length _;rw[←(PS.and_le _ _).2 hp];rfl
  ·cases h
 ·rename_i b g o len cap es;replace h:=mY h;obtain⟨x,hx,h⟩:=h;split at h
  ·rename_i c gen lo hi fl fh ro ty;replace h:=aU h;obtain⟨e0,h⟩:=h;replace h:=Vo h;obtain⟨e1,h⟩:=h;replace h:=aU h;obtain⟨e2,h⟩:=h;replace h:=aU h;obtain⟨e3,h⟩:=h;replace h:=aU h;obtain⟨e4,h⟩:=h;replace h:=aU h;obtain⟨e5,h⟩:=h;replace h:=az h;obtain⟨as,hl,h⟩:=h;replace h:=az h;obtain⟨q,hq,h⟩:=h;split at h
   ·rename_i gs;have e4:=aaq e4;subst e1;obtain⟨c1,f1,f2,f3,f4⟩:=gN _ _ _ _ hq;have f1:as=c1:=by simpa using f1
    subst f1;subst e4;subst f3;exact⟨_,_,h,(PS.fzn_le s b).1,λ_ sF hF=>.inr (.inr (.inr (.inl ⟨b,g,o,cap,c,gen,lo,hi,fl,fh,ty,as,rfl,aaL e0,(oJ (PS.fzn_le s b).2 hF).trans hx,aaL e2,aaL e3,aaL e5,hl,f4⟩)))⟩
   ·cases h
  ·cases h
 ·cases h
def uD{F:T ABlk}{a:AV}{s s':PS}{k:List Nat->PS->Option PS}(h:wE F a s k=some s'):
 ∃l s1,k l s1=some s'/\s.Le s1/\(s1.pr->∀sF,s1.Le sF->RdC (mC sF F) (.bytes l) a):=by
 unfold wE at h
 split at h
 ·exact⟨_,_,h,.refl _,λ_ _ _=>.inl ⟨rfl,rfl⟩⟩
 ·exact⟨_,_,h,.refl _,λ_ _ _=>.inr (.inl rfl)⟩
 ·rename_i b g n es;replace h:=mY h;obtain⟨x,hx,h⟩:=h;split at h
  ·rename_i l gen ty;replace h:=aU h;obtain⟨e0,h⟩:=h;replace h:=aU h;obtain⟨e2,h⟩:=h;have e2:=aaq e2;subst e2;refine⟨_,_,h,(PS.fzn_le s b).1.trans (PS.and_le _ _).1,λhp sF hF=>.inr (.inr (.inl ⟨b,g,es,ty, ?_,aaL e0,(oJ ((PS.and_le _ _).1.fz _ (PS.fzn_le s b).2) hF).trans hx⟩))⟩;show AV.gsl b g n es= .gsl b g l.length es;rw[←(PS.and_le _ _).2 hp]
  ·rename_i l gen;replace h:=aU h;obtain⟨e0,h⟩:=h;replace h:=aU h;obtain⟨e2,h⟩:=h;replace h:=aU h;obtain⟨e3,h⟩:=h;have e2:=aaq e2;have e3:=aaq e3;subst e2;subst e3;refine⟨_,_,h,(PS.fzn_le s b).1.trans (PS.and_le _ _).1,λhp sF hF=>.inr (.inr (.inr (.inr ⟨b,g, ?_,aaL e0,(oJ ((PS.and_le _ _).1.fz _ (PS.fzn_le s b).2) hF).trans hx⟩)))⟩;show AV.gsl b g n _= .gsl b g l.length _;rw[←(PS.and_le _ _).2 hp];rfl
  ·cases h
 ·rename_i b g o len cap es;replace h:=mY h;obtain⟨x,hx,h⟩:=h;split at h
  ·rename_i c gen lo hi fl fh ro ty;replace h:=aU h;obtain⟨e0,h⟩:=h;replace h:=Vo h;obtain⟨e1,h⟩:=h;replace h:=aU h;obtain⟨e2,h⟩:=h;replace h:=aU h;obtain⟨e3,h⟩:=h;replace h:=aU h;obtain⟨e4,h⟩:=h;replace h:=az h;obtain⟨as,hl,h⟩:=h;replace h:=az h;obtain⟨ns,hq,h⟩:=h;have e4:=aaq e4;subst e1;subst e4;obtain⟨f1,f2⟩:=mW _ _ hq;have hal:as.length=len:=by
    have:∀(n o:Nat) (l:List AV),PM c g n o=some l->l.length=n:=by
     intro n
     induction n with
     |zero=>intro o l h;injection h with h;subst h;rfl
     |succ n ih=>
      intro o l h
      replace h:=mY h;obtain⟨x,_,h⟩:=h
      cases x with
      |mk tag v=>replace h:=aU h;obtain⟨_,h⟩:=h;rw[qP] at h;obtain⟨l',h1,h2⟩:=az h;injection h2 with h2;subst h2;simp [ih _ _ h1]
    exact this _ _ _ hl
   have hnl:(Ct.bytes (aH ns)).len=len:=by show(aH ns).length=len;rw[bS,f1,hal]
   refine⟨_,_,h,(PS.fzn_le s b).1.trans (PS.and_le _ _).1,λhp sF hF=>.inr (.inr (.inr (.inl ⟨b,g,o,cap,c,gen,lo,hi,fl,fh,ty,as,by rw[hnl];rfl,aaL e0,(oJ ((PS.and_le _ _).1.fz _ (PS.fzn_le s b).2) hF).trans hx,aaL e2,by rw[hnl];exact aaL e3,aao _,by rw[hnl];show PM c g (len * 1) o=_;rw[aaU];exact hl,λi hi ρ vs o6=>?_⟩)))⟩;rw[hnl] at hi;have hia:i<as.length:=by omega
   have hd:(as.drop (i * 1)).take 1= [as[i]]:=by rw[aaU,abf hia];rfl
   have o6:LR ρ ((as.drop (i * 1)).take 1) vs:=o6;rw[hd] at o6;refine o6.one λv hv=>?_;obtain⟨n',q1,q2⟩:=f2 i as[i] (aaw hia);obtain⟨q3,q4⟩:=jh _ _ _ ((PS.and_le _ _).2 hp) q1;rw[bp hv q2,aas,q3];show VR ρ (.sI .u8 ((n'.toNat:Nat):Int)) _;rw[show((n'.toNat:Nat):Int)=n' by omega];exact .sI _ _
  ·cases h
 ·cases h
def K8{l:List (Nat×Tm)}{t:Nat}{n:Int}(h:bD t l=some (.i n)):tmI l t=n:=by unfold tmI;rw[h]
def rN{l:List (Nat×Tm)}{t:Nat}{n:List Nat}(h:bD t l=some (.s n)):H9 l t=n:=by unfold H9;rw[h]
def Vx{l:List (Nat×Tm)}{t:Nat}{n:Prop}(h:bD t l=some (.p n)):tmP l t=n:=by unfold tmP;rw[h]
def mi{l:List (Nat×Tm)}{t:Nat}{n:List G}(h:bD t l=some (.g n)):Cu l t=n:=by unfold Cu;rw[h]
def zE{F:T ABlk}{blk:List BSh}{x:Sh}{a:AV}{s s':PS}(h:ni F blk x a s=some s'):
 s.Le s'/\∀sF,s'.Le sF->sF.pr->rM blk sF->Tv (mC sF F) blk sF.L (aP sF.tm) x a:=by
 unfold ni at h
 cases x with
 |i k t=>
  simp only at h
  split at h
  ·rename_i k' n hn;replace h:=aU h;obtain⟨e,h⟩:=h;have e:=of_decide_eq_true e;subst e;obtain⟨h1,h2⟩:=PS.add_ok h;refine⟨h1,λsF hF _ _=>?_⟩;show co a=some (k,tmI sF.tm t);rw[K8 (hF.tm _ _ h2),hn]
  ·cases h
 |b t=>
  simp only at h
  split at h
  ·rename_i q hn;obtain⟨h1,h2⟩:=PS.add_ok h;refine⟨h1,λsF hF _ _=>?_⟩;show dQ a=some (tmP sF.tm t);rw[Vx (hF.tm _ _ h2),hn]
  ·cases h
 |s t=>
  simp only at h
  split at h
  ·rename_i q hn;obtain⟨h1,h2⟩:=PS.add_ok h;refine⟨h1,λsF hF _ _=>?_⟩;show ge a=some (H9 sF.tm t);rw[rN (hF.tm _ _ h2),hn]
  ·cases h
 |o=>
  replace h:=aU h;obtain⟨e,h⟩:=h
  injection h with h
  subst h
  exact⟨.refl _,λsF _ _ _=>e⟩
 |v m t=>
  obtain⟨l,s1,hk,hle,hr⟩:=zD h
  obtain⟨h1,h2⟩:=PS.add_ok hk
  refine⟨hle.trans h1,λsF hF hp _=>?_⟩
  show RdC (mC sF F) (.rows m (Cu sF.tm t)) a
  rw[mi (hF.tm _ _ h2)]
  exact hr (h1.pr (hF.pr hp)) sF (h1.trans hF)
 |vb t=>
  obtain⟨l,s1,hk,hle,hr⟩:=uD h
  obtain⟨h1,h2⟩:=PS.add_ok hk
  refine⟨hle.trans h1,λsF hF hp _=>?_⟩
  show RdC (mC sF F) (.bytes (H9 sF.tm t)) a
  rw[rN (hF.tm _ _ h2)]
  exact hr (h1.pr (hF.pr hp)) sF (h1.trans hF)
 |pi k n=>
  simp only at h
  split at h
  ·rename_i k' n' hn;replace h:=aU h;obtain⟨e,h⟩:=h;have e:=of_decide_eq_true e;subst e;obtain⟨h1,h2⟩:=PS.must_ok h;refine⟨h1,λsF hF hp _=>?_⟩;show co a=some (k,n);rw[hn,h2 (hF.pr hp)]
  ·cases h
 |pb q=>
  simp only at h
  split at h
  ·rename_i q' hn;obtain⟨h1,h2⟩:=PS.must_ok h;exact⟨h1,λsF hF hp _=>⟨q',hn,h2 (hF.pr hp)⟩⟩
  ·cases h
 |ps l=>
  simp only at h
  split at h
  ·rename_i l' hn;obtain⟨h1,h2⟩:=PS.must_ok h;refine⟨h1,λsF hF hp _=>?_⟩;show ge a=some l;rw[hn,h2 (hF.pr hp)]
  ·cases h
 |pv m l=>
  obtain⟨l',s1,hk,hle,hr⟩:=zD h
  obtain⟨h1,h2⟩:=PS.must_ok hk
  refine⟨hle.trans h1,λsF hF hp _=>?_⟩
  show RdC (mC sF F) (.rows m l) a
  rw[←h2 (hF.pr hp)]
  exact hr (h1.pr (hF.pr hp)) sF (h1.trans hF)
 |pvb l=>
  obtain⟨l',s1,hk,hle,hr⟩:=uD h
  obtain⟨h1,h2⟩:=PS.must_ok hk
  refine⟨hle.trans h1,λsF hF hp _=>?_⟩
  show RdC (mC sF F) (.bytes l) a
  rw[←h2 (hF.pr hp)]
  exact hr (h1.pr (hF.pr hp)) sF (h1.trans hF)
 |np=>
  simp only at h
  split at h
  ·injection h with h;subst h;exact⟨.refl _,λsF _ _ _=>rfl⟩
  ·cases h
 |li k n=>
  simp only at h
  split at h
  ·replace h:=aU h;obtain⟨e,h⟩:=h;replace h:=aU h;obtain⟨e2,h⟩:=h;have e:=of_decide_eq_true e;have e2:=of_decide_eq_true e2;injection h with h;subst h;subst e;subst e2;exact⟨.refl _,λsF _ _ _=>rfl⟩
  ·cases h
 |nz=>
  simp only at h
  split at h
  ·injection h with h;subst h;exact⟨.refl _,λsF _ _ _=>rfl⟩
  ·cases h
 |p j=>
  simp only at h
  split at h
  ·rename_i b g o;replace h:=aU h;obtain⟨e1,h⟩:=h;replace h:=aU h;obtain⟨e2,h⟩:=h;replace h:=aU h;obtain⟨e3,h⟩:=h;have e1:=aaq e1;have e2:=aaq e2;subst e1;subst e2;obtain⟨h1,h2⟩:=PS.at_ok h;exact⟨h1,λsF hF _ _=>⟨b,hF.loc _ _ h2,rfl,e3⟩⟩
  ·cases h
 |fn f j=>
  simp only at h
  split at h
  ·rename_i f' b g o;replace h:=aU h;obtain⟨e0,h⟩:=h;replace h:=aU h;obtain⟨e1,h⟩:=h;replace h:=aU h;obtain⟨e2,h⟩:=h;replace h:=aU h;obtain⟨e3,h⟩:=h;have e0:=aaq e0;have e1:=aaq e1;have e2:=aaq e2;subst e0;subst e1;subst e2;obtain⟨h1,h2⟩:=PS.at_ok h;exact⟨h1,λsF hF _ _=>⟨b,hF.loc _ _ h2,rfl,e3⟩⟩
  ·cases h
 |m j=>
  simp only at h
  split at h
  ·rename_i b;replace h:=aU h;obtain⟨e3,h⟩:=h;obtain⟨h1,h2⟩:=PS.at_ok h;exact⟨h1,λsF hF _ _=>⟨b,hF.loc _ _ h2,rfl,e3⟩⟩
  ·cases h
 |g j es t=>
  simp only at h
  split at h
  ·rename_i b g n o7;replace h:=aU h;obtain⟨e1,h⟩:=h;have e1:=aaq e1;subst e1;replace h:=az h;obtain⟨s1,h1,h⟩:=h;obtain⟨h1,h2⟩:=PS.at_ok h1;obtain⟨h3,h4⟩:=PS.len_ok h;refine⟨h1.trans h3,λsF hF _ hl=>⟨b,g,hF.loc _ _ (h3.loc _ _ h2), ?_⟩⟩;rcases hl _ _ _ (hF.ln _ h4) with⟨m,ty,t',eb,e,e2⟩|⟨ty,t',eb,e,e2⟩
   ·have:t'=t:=by omega
    subst this;refine⟨?_,m,ty,eb⟩;show AV.gsl b g n es= .gsl b g (Cu sF.tm t').length es;rw[e2]
   ·omega
  ·cases h
 |gb j t=>
  simp only at h
  split at h
  ·rename_i b g n o7;replace h:=aU h;obtain⟨e1,h⟩:=h;have e1:=aaq e1;subst e1;replace h:=az h;obtain⟨s1,h1,h⟩:=h;obtain⟨h1,h2⟩:=PS.at_ok h1;obtain⟨h3,h4⟩:=PS.len_ok h;refine⟨h1.trans h3,λsF hF _ hl=>⟨b,g,hF.loc _ _ (h3.loc _ _ h2), ?_⟩⟩;rcases hl _ _ _ (hF.ln _ h4) with⟨m,ty,t',eb,e,e2⟩|⟨ty,t',eb,e,e2⟩
   ·omega
   ·have:t'=t:=by omega
    subst this;refine⟨?_,ty,eb⟩;show AV.gsl b g n 1= .gsl b g (H9 sF.tm t').length 1;rw[e2]
  ·cases h
def cH{α β:Type}(R:α->β->Prop):List α->List β->Prop
 | [],[]=>True
 |a::l,b::m=>R a b/\cH R l m
 |_,_=>False
def nl{F:T ABlk}{blk:List BSh}:∀{l:List Sh} {as:List AV} {s s':PS},iI F blk l as s=some s'->
 s.Le s'/\∀sF,s'.Le sF->sF.pr->rM blk sF->cH (Tv (mC sF F) blk sF.L (aP sF.tm)) l as:=by
 intro l
 induction l with
 |nil=>
  intro as s s' h
  cases as with
  |nil=>injection h with h;subst h;exact⟨.refl _,λ_ _ _ _=>trivial⟩
  |cons _ _=>cases h
 |cons x l ih=>
  intro as s s' h
  cases as with
  |nil=>cases h
  |cons a as=>
   obtain⟨s1,h1,h2⟩:=az (show bA (ni F blk x a s) (λs=>iI F blk l as s)=some s' from h)
   obtain⟨q1,q2⟩:=zE (blk:=blk) h1
   obtain⟨r1,r2⟩:=ih h2
   exact⟨q1.trans r1,λsF hF hp hl=>⟨q2 sF (r1.trans hF) hp hl,r2 sF hF hp hl⟩⟩
def TvA(F:Nat->Option ABlk)(blk:List BSh)(L:Nat->Option (Nat×Nat))(y:Sy)(x:Sa)(a:AV):Prop:=match x with
 | .c x=>Tv F blk L y x a
 | .ag l=>∃as,a= .agg as/\cH (Tv F blk L y) l as
 | .cp l=>∃as,a= .cptr as/\cH (Tv F blk L y) l as
def TvR(F:Nat->Option ABlk)(blk:List BSh)(L:Nat->Option (Nat×Nat))(y:Sy)(x:Sr)(a:AV):Prop:=match x with
 | .one x=>TvA F blk L y x a
 | .tu l=>∃as,a= .tup as/\cH (TvA F blk L y) l as
def zF{F:T ABlk}{blk:List BSh}{x:Sa}{a:AV}{s s':PS}(h:rK F blk x a s=some s'):
 s.Le s'/\∀sF,s'.Le sF->sF.pr->rM blk sF->TvA (mC sF F) blk sF.L (aP sF.tm) x a:=by
 cases x with
 |c x=>exact zE h
 |ag l=>
  unfold rK at h
  simp only at h
  split at h
  ·obtain⟨h1,h2⟩:=nl (blk:=blk) h;exact⟨h1,λsF hF hp hl=>⟨_,rfl,h2 sF hF hp hl⟩⟩
  ·cases h
 |cp l=>
  unfold rK at h
  simp only at h
  split at h
  ·obtain⟨h1,h2⟩:=nl (blk:=blk) h;exact⟨h1,λsF hF hp hl=>⟨_,rfl,h2 sF hF hp hl⟩⟩
  ·cases h
def fX{F:T ABlk}{blk:List BSh}:∀{l:List Sa} {as:List AV} {s s':PS},ia F blk l as s=some s'->
 s.Le s'/\∀sF,s'.Le sF->sF.pr->rM blk sF->cH (TvA (mC sF F) blk sF.L (aP sF.tm)) l as:=by
 intro l
 induction l with
 |nil=>
  intro as s s' h
  cases as with
  |nil=>injection h with h;subst h;exact⟨.refl _,λ_ _ _ _=>trivial⟩
  |cons _ _=>cases h
 |cons x l ih=>
  intro as s s' h
  cases as with
  |nil=>cases h
  |cons a as=>
   obtain⟨s1,h1,h2⟩:=az (show bA (rK F blk x a s) (λs=>ia F blk l as s)=some s' from h)
   obtain⟨q1,q2⟩:=zF (blk:=blk) h1
   obtain⟨r1,r2⟩:=ih h2
   exact⟨q1.trans r1,λsF hF hp hl=>⟨q2 sF (r1.trans hF) hp hl,r2 sF hF hp hl⟩⟩
def K9{F:T ABlk}{blk:List BSh}{x:Sr}{a:AV}{s s':PS}(h:zB F blk x a s=some s'):
 s.Le s'/\∀sF,s'.Le sF->sF.pr->rM blk sF->TvR (mC sF F) blk sF.L (aP sF.tm) x a:=by
 cases x with
 |one x=>exact zF h
 |tu l=>
  unfold zB at h
  simp only at h
  split at h
  ·obtain⟨h1,h2⟩:=fX (blk:=blk) h;exact⟨h1,λsF hF hp hl=>⟨_,rfl,h2 sF hF hp hl⟩⟩
  ·cases h
def rO{ty n g:Nat}{q:ABlk}{as:List AV}(h:nj ty n q g=some as):g=0/\∃c,q= .cells c 0 0 n 0 0 false ty/\PM c 0 n 0=some as:=by
 unfold nj at h;split at h
 ·replace h:=Vo h;obtain⟨e0,h⟩:=h;replace h:=aU h;obtain⟨e1,h⟩:=h;replace h:=aU h;obtain⟨e2,h⟩:=h;replace h:=aU h;obtain⟨e3,h⟩:=h;replace h:=aU h;obtain⟨e4,h⟩:=h;replace h:=aU h;obtain⟨e5,h⟩:=h;replace h:=aU h;obtain⟨e6,h⟩:=h;replace h:=aU h;obtain⟨e7,h⟩:=h;have e1:=aaq e1;have e2:=aaq e2;have e3:=aaq e3;have e4:=aaq e4;have e5:=aaq e5;have e6:=aaq e6;have e7:=aaq e7;subst e0 e1 e2 e3 e4 e5 e6 e7;exact⟨rfl,_,rfl,h⟩
 ·cases h
def BT(ρ:Rho)(F:Nat->Option ABlk)(blk:List BSh)(L:Nat->Option (Nat×Nat))(y:Sy)(x:BSh)(q:ABlk)(g:Nat):Prop:=match x with
 | .cells ty l=>g=0/\∃c as,q= .cells c 0 0 l.length 0 0 false ty/\as.length=l.length/\(∀(j:Nat) (a:AV),as[j]? =some a->∃a0,c.get j=some (.mk 0 a0)/\∀v,VR ρ a0 v->VR ρ a v)/\cH (Tv F blk L y) l as
 | .grow m ty t=>q= .grow (.rows m (y.g t)) g ty
 | .growb ty t=>q= .grow (.bytes (y.s t)) g ty
 | .arb ty t=>g=0/\q= .grow (.bytes (y.s t)) 0 ty/\0<(y.s t).length
 | .arr m ty t=>g=0/\q= .grow (.rows m (y.g t)) 0 ty/\0<(y.g t).length
 | .sm m t=>g=0/\(q= .smap m (y.g t)∨∃c,q= .mapo [] c/\y.g t= [])
 | .obj k C t=>g=0/\q= .obj k (C (y.g t)) (y.g t)
def eT{ρ:Rho}{F:T ABlk}{blk:List BSh}{x:BSh}{q:ABlk}{g:Nat}{s s':PS}(h:gj x q g s=some s'):
 s.Le s'/\∀sF,s'.Le sF->sF.pr->BT ρ (mC sF F) blk sF.L (aP sF.tm) x q g:=by
 unfold gj at h
 cases x with
 |cells ty l=>cases h
 |grow m ty t=>
  simp only at h
  split at h
  ·replace h:=aU h;obtain⟨e1,h⟩:=h;replace h:=aU h;obtain⟨e2,h⟩:=h;replace h:=aU h;obtain⟨e3,h⟩:=h;have e1:=aaq e1;have e2:=aaq e2;have e3:=aaq e3;subst e1;subst e2;subst e3;obtain⟨h1,h2⟩:=PS.add_ok h;refine⟨h1,λsF hF _=>?_⟩;show ABlk.grow _ _ _=ABlk.grow (.rows m (Cu sF.tm t)) g ty;rw[mi (hF.tm _ _ h2)]
  ·cases h
 |growb ty t=>
  simp only at h
  split at h
  ·replace h:=aU h;obtain⟨e2,h⟩:=h;replace h:=aU h;obtain⟨e3,h⟩:=h;have e2:=aaq e2;have e3:=aaq e3;subst e2;subst e3;obtain⟨h1,h2⟩:=PS.add_ok h;refine⟨h1,λsF hF _=>?_⟩;show ABlk.grow _ _ _=ABlk.grow (.bytes (H9 sF.tm t)) g ty;rw[rN (hF.tm _ _ h2)]
  ·cases h
 |sm m t=>
  simp only at h
  split at h
  ·replace h:=aU h;obtain⟨e2,h⟩:=h;replace h:=aU h;obtain⟨e3,h⟩:=h;have e2:=aaq e2;have e3:=aaq e3;subst e2;subst e3;obtain⟨h1,h2⟩:=PS.add_ok h;exact⟨h1,λsF hF _=>⟨rfl,.inl (by show ABlk.smap _ _=ABlk.smap _ (Cu sF.tm t);rw[mi (hF.tm _ _ h2)])⟩⟩
  ·replace h:=aU h;obtain⟨e3,h⟩:=h;have e3:=aaq e3;subst e3;obtain⟨h1,h2⟩:=PS.add_ok h;exact⟨h1,λsF hF _=>⟨rfl,.inr ⟨_,rfl,mi (hF.tm _ _ h2)⟩⟩⟩
  ·cases h
 |arb ty t=>
  simp only at h
  split at h
  ·replace h:=aU h;obtain⟨e2,h⟩:=h;replace h:=aU h;obtain⟨e3,h⟩:=h;replace h:=aU h;obtain⟨e4,h⟩:=h;have e2:=aaq e2;have e3:=aaq e3;have e4:=aaq e4;subst e2;subst e3;subst e4;obtain⟨s1,hm,h⟩:=az h;obtain⟨m1,m2⟩:=PS.must_ok hm;obtain⟨h1,h2⟩:=PS.add_ok h;refine⟨m1.trans h1,λsF hF hp=>⟨rfl, ?_, ?_⟩⟩
   ·show ABlk.grow _ _ _=ABlk.grow (.bytes (H9 sF.tm t)) 0 ty;rw[rN (hF.tm _ _ h2)]
   ·show 0<(H9 sF.tm t).length;rw[rN (hF.tm _ _ h2)];exact m2 (h1.pr (hF.pr hp))
  ·cases h
 |arr m ty t=>
  simp only at h
  split at h
  ·replace h:=aU h;obtain⟨e1,h⟩:=h;replace h:=aU h;obtain⟨e2,h⟩:=h;replace h:=aU h;obtain⟨e3,h⟩:=h;replace h:=aU h;obtain⟨e4,h⟩:=h;have e1:=aaq e1;have e2:=aaq e2;have e3:=aaq e3;have e4:=aaq e4;subst e1;subst e2;subst e3;subst e4;obtain⟨s1,hm,h⟩:=az h;obtain⟨m1,m2⟩:=PS.must_ok hm;obtain⟨h1,h2⟩:=PS.add_ok h;refine⟨m1.trans h1,λsF hF hp=>⟨rfl, ?_, ?_⟩⟩
   ·show ABlk.grow _ _ _=ABlk.grow (.rows m (Cu sF.tm t)) 0 ty;rw[mi (hF.tm _ _ h2)]
   ·show 0<(Cu sF.tm t).length;rw[mi (hF.tm _ _ h2)];exact m2 (h1.pr (hF.pr hp))
  ·cases h
 |obj k C t=>
  simp only at h
  split at h
  ·replace h:=aU h;obtain⟨e2,h⟩:=h;replace h:=aU h;obtain⟨e3,h⟩:=h;have e2:=aaq e2;have e3:=aaq e3;subst e2;subst e3;obtain⟨s1,hm,h⟩:=az h;obtain⟨m1,m2⟩:=PS.must_ok hm;obtain⟨h1,h2⟩:=PS.add_ok h;refine⟨m1.trans h1,λsF hF hp=>⟨rfl, ?_⟩⟩;show ABlk.obj _ _ _=ABlk.obj k (C (Cu sF.tm t)) (Cu sF.tm t);rw[mi (hF.tm _ _ h2),m2 (h1.pr (hF.pr hp))]
  ·cases h
def Ib{ρ:Rho}{F:T ABlk}{blk:List BSh}{x:BSh}{q:ABlk}{g:Nat}{s s':PS}(h:oH F blk x q g s=some s'):
 s.Le s'/\∀sF,s'.Le sF->sF.pr->rM blk sF->BT ρ (mC sF F) blk sF.L (aP sF.tm) x q g:=by
 cases x with
 |cells ty l=>
  obtain⟨as,h1,h2⟩:=az (show bA (nj ty (List.length l) q g) (λas=>iI F blk l as s)=some s' from h)
  obtain⟨e,c,eq,hl⟩:=rO h1
  obtain⟨q1,q2⟩:=nl (blk:=blk) h2
  obtain⟨r1,r2⟩:=rl hl
  refine⟨q1,λsF hF hp hl=>⟨e,c,as,eq,r1,λj a ha=>?_,q2 sF hF hp hl⟩⟩
  obtain⟨tag,t1,t2⟩:=r2 j a ha
  have:tag=0:=by omega
  subst this
  exact⟨a,by rw[←t1];congr 1;omega,λ_ h=>h⟩
 |grow m ty t=>obtain⟨h1,h2⟩:=eT (ρ:=ρ) (F:=F) (blk:=blk) (show gj (.grow m ty t) q g s=some s' from h);exact⟨h1,λsF hF hp _=>h2 sF hF hp⟩
 |growb ty t=>obtain⟨h1,h2⟩:=eT (ρ:=ρ) (F:=F) (blk:=blk) (show gj (.growb ty t) q g s=some s' from h);exact⟨h1,λsF hF hp _=>h2 sF hF hp⟩
 |arb ty t=>obtain⟨h1,h2⟩:=eT (ρ:=ρ) (F:=F) (blk:=blk) (show gj (.arb ty t) q g s=some s' from h);exact⟨h1,λsF hF hp _=>h2 sF hF hp⟩
 |arr m ty t=>obtain⟨h1,h2⟩:=eT (ρ:=ρ) (F:=F) (blk:=blk) (show gj (.arr m ty t) q g s=some s' from h);exact⟨h1,λsF hF hp _=>h2 sF hF hp⟩
 |sm m t=>obtain⟨h1,h2⟩:=eT (ρ:=ρ) (F:=F) (blk:=blk) (show gj (.sm m t) q g s=some s' from h);exact⟨h1,λsF hF hp _=>h2 sF hF hp⟩
 |obj k C t=>obtain⟨h1,h2⟩:=eT (ρ:=ρ) (F:=F) (blk:=blk) (show gj (.obj k C t) q g s=some s' from h);exact⟨h1,λsF hF hp _=>h2 sF hF hp⟩
def ef{blk:List BSh}:∀{l:List (Nat×Nat×Nat)} {s s':PS},lK blk l s=some s'->
 s.Le s'/\s'.tm=s.tm/\s'.loc=s.loc/\s'.ln=s.ln/\(s'.pr->∀j tag n,(j,tag,n)∈l->(∃m ty t,blk[j]? =some (.grow m ty t)/\tag=2 * t/\(Cu s.tm t).length=n)∨(∃ty t,blk[j]? =some (.growb ty t)/\tag=2 * t+1/\(H9 s.tm t).length=n)):=by
 intro l
 induction l with
 |nil=>intro s s' h;injection h with h;subst h;exact⟨.refl _,rfl,rfl,rfl,λ_ j tag n h=>by cases h⟩
 |cons x l ih=>
  intro s s' h
  obtain⟨j,tag,n⟩:=x
  have h:(match blk[j]? with
   |some (.grow _ _ t)=>ac (Nat.beq tag (2 * t)) (bA (s.must ((Cu s.tm t).length=n)) (lK blk l)) none
   |some (.growb _ t)=>ac (Nat.beq tag (2 * t+1)) (bA (s.must ((H9 s.tm t).length=n)) (lK blk l)) none
   |_=>none)=some s':=h
  split at h
  ·rename_i m ty t hb;replace h:=aU h;obtain⟨e,h⟩:=h;have e:=aaq e;replace h:=az h;obtain⟨s1,h1,h⟩:=h;obtain⟨q1,q2,q3,q4,q5⟩:=ih h;have hm:=PS.must_ok h1;injection h1 with h1;subst h1;refine⟨hm.1.trans q1,q2,q3,q4,λhp j' ad5 n' u5=>?_⟩;rcases List.mem_cons.1 u5 with e'|u5
   ·injection e' with e1 e2;injection e2 with e2 e3;subst e1;subst e2;subst e3;exact .inl ⟨m,ty,t,hb,e,hm.2 (q1.pr hp)⟩
   ·exact q5 hp _ _ _ u5
  ·rename_i ty t hb;replace h:=aU h;obtain⟨e,h⟩:=h;have e:=aaq e;replace h:=az h;obtain⟨s1,h1,h⟩:=h;obtain⟨q1,q2,q3,q4,q5⟩:=ih h;have hm:=PS.must_ok h1;injection h1 with h1;subst h1;refine⟨hm.1.trans q1,q2,q3,q4,λhp j' ad5 n' u5=>?_⟩;rcases List.mem_cons.1 u5 with e'|u5
   ·injection e' with e1 e2;injection e2 with e2 e3;subst e1;subst e2;subst e3;exact .inr ⟨ty,t,hb,e,hm.2 (q1.pr hp)⟩
   ·exact q5 hp _ _ _ u5
  ·cases h
def kT{blk:List BSh}{s s':PS}(h:lK blk s.ln s=some s')(hp:s'.pr):rM blk s':=by obtain⟨_,q2,_,q4,q5⟩:=ef h;intro j tag n hm;rw[q4] at hm;rw[q2];exact q5 hp j tag n hm
end Go.Sym
namespace Go.Sym
open Go.RowKit (Below)
def hl:AV->Bool
 | .bool _=>true | .int _ _=>true | .str _=>true | .nilp=>true | .nils=>true | .sI _ _=>true | .sB _=>true | .sS _=>true | .any1=>true | .cv _=>true
 |_=>false
def oK:∀(g:G) (n i:Nat),∀a∈lT g n i,hl a=true:=by
 intro g n
 induction n with
 |zero=>intro i a h;cases h
 |succ n ih=>
  intro i a h;rcases List.mem_cons.1 h with e|h
  ·subst e;rfl
  ·exact ih _ a h
def dl{ρ ρ':Rho}{a:AV}{v:Value}(hf:∀b x,ρ.frz b=some x->ρ'.frz b=some x)(h:VR ρ a v):hl a=true->VR ρ' a v:=by
 induction h with
 |bool b=>intro _;exact .bool b
 |int k n=>intro _;exact .int k n
 |str s=>intro _;exact .str s
 |nilp=>intro _;exact .nilp
 |nils=>intro _;exact .nils
 |sI k n=>intro _;exact .sI k n
 |sB p b h=>intro _;exact .sB p b h
 |sS s=>intro _;exact .sS s
 |any1 v h=>intro _;exact .any1 v h
 |cv c blk off cp arr ty hfz hc hb r ih=>
  intro _
  refine .cv c blk off cp arr ty (hf _ _ hfz) hc hb λi j a v hi ha hv=>ih i j a v hi ha hv ?_
  cases c with
  |bytes s=>
   cases j with
   |zero=>simp [Ct.row] at ha;subst ha;rfl
   |succ j=>simp [Ct.row] at ha
  |rows m l=>
   have key:∀(xs:List Sc) (g:G) (q:Nat),∀a∈bE xs g q,hl a=true:=by
    intro xs
    induction xs with
    |nil=>intro g q a h;cases h
    |cons x xs ihx=>
     intro g q a h;rcases List.mem_append.1 h with h|h
     ·cases x <;> simp [fM] at h;case h n=>exact oK _ _ _ a h
      all_goals (subst h;rfl)
     ·exact ihx _ _ a h
   exact key _ _ _ a (abs ha)
 |cvnil c h=>intro _;exact .cvnil c h
 |cvempty c a h=>intro _;exact .cvempty c a h
 |_=>intro h;cases h
def mj{c:Ct}{i j:Nat}{a:AV}(ha:(c.row i)[j]? =some a):hl a=true:=by
 cases c with
 |bytes s=>
  cases j with
  |zero=>simp [Ct.row] at ha;subst ha;rfl
  |succ j=>simp [Ct.row] at ha
 |rows m l=>
  have key:∀(xs:List Sc) (g:G) (q:Nat),∀a∈bE xs g q,hl a=true:=by
   intro xs
   induction xs with
   |nil=>intro g q a h;cases h
   |cons x xs ihx=>
    intro g q a h;rcases List.mem_append.1 h with h|h
    ·cases x <;> simp [fM] at h;case h n=>exact oK _ _ _ a h
     all_goals (subst h;rfl)
    ·exact ihx _ _ a h
  exact key _ _ _ a (abs ha)
def VR.into{ρ ρ':Rho}(h1:∀b g h,ρ.at_ b g=some h->ρ'.at_ b g=some h)(h2:ρ'.val=ρ.val)(h3:∀b x,ρ.frz b=some x->ρ'.frz b=some x){a:AV}{v:Value}(h:VR ρ a v):VR ρ' a v:=by
 have sl:∀{b g o len:Nat} {cap:Option Nat} {es:Nat} {a:Addr} {c:Nat},SlOk ρ b g o len cap es a c->SlOk ρ' b g o len cap es a c:=by
  intro b g o len cap es a c h
  refine⟨h.1, ?_⟩
  have h2:=h.2
  cases cap with
  |some k=>obtain⟨e,x,hx,r⟩:=h2;exact⟨e,x,h1 _ _ _ hx,r⟩
  |none=>
   rcases h2 with h2|⟨x,hx,r⟩
   ·exact .inl h2
   ·exact .inr ⟨x,h1 _ _ _ hx,r⟩
 induction h with
 |bool b=>exact .bool b
 |int k n=>exact .int k n
 |str s=>exact .str s
 |nilp=>exact .nilp
 |ptr b g o h hh ho=>exact .ptr b g o h (h1 _ _ _ hh) ho
 |nils=>exact .nils
 |slc b g o len cap es a c h=>exact .slc b g o len cap es a c (sl h)
 |nilm=>exact .nilm
 |map b h hh=>exact .map b h (h1 _ _ _ hh)
 |func fn l m first captured e1 e2 r1 r2 hf i1 i2=>exact .func fn l m first captured e1 e2 i1 i2 hf
 |yld b h hh=>exact .yld b h (h1 _ _ _ hh)
 |nilf=>exact .nilf
 |iface t x v h ih=>exact .iface t x v ih
 |nili=>exact .nili
 |agg l cs h r ih=>exact .agg l cs h ih
 |tup l cs h r ih=>exact .tup l cs h ih
 |opq n=>rw[←h2];exact .opq n
 |opc n h=>rw[←h2];exact .opc n (by rw[h2];exact h)
 |anyB b=>exact .anyB b
 |anyI k n=>exact .anyI k n
 |osl n base len cap h=>exact .osl n base len cap (by rw[h2];exact h)
 |sI k n=>exact .sI k n
 |sB p b h=>exact .sB p b h
 |sS s=>exact .sS s
 |any1 v h=>exact .any1 v h
 |cptr l blk off arr ty hf hb r ih=>exact .cptr l blk off arr ty (h3 _ _ hf) hb ih
 |cv c blk off cp arr ty hf hc hb r ih=>exact .cv c blk off cp arr ty (h3 _ _ hf) hc hb ih
 |cvnil c h=>exact .cvnil c h
 |cvempty c a h=>exact .cvempty c a h
 |gsl b g n es h c hn hh hs hc hz=>exact .gsl b g n es h c hn (h1 _ _ _ hh) hs hc hz
 |gnil b g es=>exact .gnil b g es
 |gempty b g es a=>exact .gempty b g es a
 |gptr b g i o es h hh hs=>exact .gptr b g i o es h (h1 _ _ _ hh) hs
def K_(γ:lk)(y:Sy):∀(l:List Sh) (i:Nat),(pT γ y l)[i]? =(l[i]?).map (put γ y):=by
 intro l
 induction l with
 |nil=>intro i;rfl
 |cons x l ih=>intro i;cases i with
  |zero=>rfl
  |succ i=>exact ih i
def La(γ:lk)(y:Sy):∀(l:List Sh),(pT γ y l).length=l.length:=by
 intro l
 induction l with
 |nil=>rfl
 |cons x l ih=>show(put γ y x::pT γ y l).length=_;simp [ih]
def uE:∀(l:List AV) (i:Nat) (t:T Cell) (o:Nat) (x:Cell),(rJ l i t).get o=some x->
 (∃(j:Nat) (a:AV),o=i+j/\l[j]? =some a/\x= .mk 0 a)∨(t.get o=some x/\(o<i∨i+l.length<=o)):=by
 intro l
 induction l with
 |nil=>intro i t o x h;exact .inr ⟨h,by simp;omega⟩
 |cons a l ih=>
  intro i t o x h
  rcases ih (i+1) (t.set i (.mk 0 a)) o x h with⟨j,b,e,hb,hx⟩|⟨hx,ho⟩
  ·exact .inl ⟨j+1,b,by omega,by simpa using hb,hx⟩
  ·by_cases e:o=i
   ·subst e;have:=T.get_set_some _ _ hx;exact .inl ⟨0,a,by omega,rfl,this⟩
   ·rw[T.get_set_ne _ e] at hx;exact .inr ⟨hx,by simp at ho⊢;omega⟩
def rP{γ:lk}{y:Sy}:∀(l:List BSh) (j:Nat) (H:T ABlk) (b:Nat) (X:ABlk),(eS γ y l j H).get b=some X->
 (∃i x,l[i]? =some x/\b=(γ (j+i)).1/\X=mh γ y (j+i) x)∨(H.get b=some X/\∀i,i<l.length->b≠(γ (j+i)).1):=by
 intro l
 induction l with
 |nil=>intro j H b X h;exact .inr ⟨h,λi hi=>by simp at hi⟩
 |cons x l ih=>
  intro j H b X h
  rcases ih (j+1) _ b X h with⟨i,x',h1,h2,h3⟩|⟨h1,h2⟩
  ·exact .inl ⟨i+1,x',by simpa using h1,by rw[h2];congr 2;omega,by rw[h3];congr 1;omega⟩
  ·by_cases e:b=(γ j).1
   ·subst e;have:=T.get_set_some _ _ h1;exact .inl ⟨0,x,rfl,rfl,this⟩
   ·rw[T.get_set_ne _ e] at h1
    refine .inr ⟨h1,λi hi=>?_⟩
    cases i with
    |zero=>exact e
    |succ i=>have:=h2 i (by simpa using hi);rwa [show j+1+i=j+(i+1) by omega] at this
def rQ{γ:lk}{y:Sy}:∀(l:List BSh) (j:Nat) (H:T ABlk) (i:Nat) (x:BSh),l[i]? =some x->(∀i,i<l.length->(γ (j+i)).1+1<2 ^ 64)->
 (∀a b,a<l.length->b<l.length->(γ (j+a)).1=(γ (j+b)).1->a=b)->(eS γ y l j H).get (γ (j+i)).1=some (mh γ y (j+i) x):=by
 intro l
 induction l with
 |nil=>intro j H i x h;simp at h
 |cons z l ih=>
  intro j H i x h c7 ao0
  cases i with
  |zero=>
   simp at h;subst h
   have keep:∀(l:List BSh) (j':Nat) (H:T ABlk),(∀i,i<l.length->(γ (j'+i)).1≠(γ j).1)->(eS γ y l j' H).get (γ j).1=H.get (γ j).1:=by
    intro l
    induction l with
    |nil=>intro j' H _;rfl
    |cons q l ihl=>intro j' H i5;show(eS γ y l (j'+1) (H.set (γ j').1 (mh γ y j' q))).get (γ j).1=_;rw[ihl (j'+1) _ (λi hi=>by have:=i5 (i+1) (by simpa using hi);rwa [show j'+(i+1)=j'+1+i by omega] at this),T.get_set_ne _ (Ne.symm (show(γ j').1≠(γ j).1 from i5 0 (by simp)))]
   show(eS γ y l (j+1) (H.set (γ j).1 (mh γ y j z))).get (γ j).1=_
   rw[keep l (j+1) _ (λi hi e=>by have:=ao0 (i+1) 0 (by simpa using hi) (by simp) (by rw[show j+(i+1)=j+1+i by omega];exact e);omega),T.get_set_same _ _ _ (show(γ j).1+1<2 ^ 64 from c7 0 (by simp))]
   rfl
  |succ i=>
   have:=ih (j+1) (H.set (γ j).1 (mh γ y j z)) i x (by simpa using h) (λi hi=>by have:=c7 (i+1) (by simpa using hi);rwa [show j+(i+1)=j+1+i by omega] at this) (λa b ha hb e=>by have:=ao0 (a+1) (b+1) (by simpa using ha) (by simpa using hb) (by rw[show j+(a+1)=j+1+a by omega,show j+(b+1)=j+1+b by omega];exact e);omega)
   rw[show j+(i+1)=j+1+i by omega]
   exact this
section
variable(B:Nat)(ρ:Rho)(H:T ABlk)(w wf:World)(L:Nat->Option (Nat×Nat))(γ:lk)(n:Nat)(own:Nat->Prop)(frz0:Nat->Option (Array Value×TypeId))
def bw(j:Nat):Option Home:=match L j with
 |some (b,g)=>(match H.get b with
  |some (.grow c _ _)=>if c.len=0 then none else ρ.at_ b g
  |_=>ρ.at_ b g)
 |none=>none
def yj(j:Nat):Prop:=∃b g k I l,L j=some (b,g)/\H.get b=some (.obj k I l)
def rR(j:Nat)(h:Home):Prop:=bw ρ H L j=some h∨∃b g,L j=some (b,g)/\yj H L j/\(∃g',ρ.at_ b g'=some h)/\Own ρ B h.blk
open Classical in
noncomputable def rS(j g':Nat):Option Home:=if yj H L j then(match L j with
 |some (b,_)=>(match ρ.at_ b g' with|some h=>if Own ρ B h.blk then some h else none|none=>none)
 |none=>none) else if g'=(γ j).2 then bw ρ H L j else none
open Classical in
noncomputable def iu(b' g':Nat):Option Home:=if h:∃j,j<n/\(γ j).1=b' then rS B ρ H L γ (Classical.choose h) g' else none
open Classical in
noncomputable def ky(blk:Nat):Option (Array Value×TypeId):=match ρ.frz blk with
 |some x=>some x
 |none=>if wf.heap.size<=blk/\∀j h,rR B ρ H L j h->h.blk≠blk then(match w.heap[blk]? with|some (.cells arr ty _)=>some (arr,ty)|_=>none) else none
noncomputable def ll(vl:Nat->Value):Rho:=⟨iu B ρ H L γ n,vl,own,ky B ρ H w wf L,frz0⟩
end
structure MvHyp(w0:World)(ρ:Rho)(H:T ABlk)(F:Nat->Option ABlk)(w wf wb:World)(L:Nat->Option (Nat×Nat))(γ:lk)(blk:List BSh)(y:Sy)(own:Nat->Prop)(frz0:Nat->Option (Array Value×TypeId)):Prop where
 good:Good w0 ρ H w
 hb:∀j x,blk[j]? =some x->∃b g,L j=some (b,g)/\∃q,H.get b=some q/\BT ρ F blk L y x q g
 dom:∀j p,L j=some p->j<blk.length
 linj:∀j j' b g g',L j=some (b,g)->L j'=some (b,g')->j=j'
 ginj:∀a b,a<blk.length->b<blk.length->(γ a).1=(γ b).1->a=b
 g64:∀j,j<blk.length->(γ j).1+1<2 ^ 64
 g0:∀j x,blk[j]? =some x->iJ x=true->(γ j).2=0
 kept:Kept own wb.heap.size wb w
 owns:∀j h,rR w0.heap.size ρ H L j h->Own ρ w0.heap.size h.blk->wb.heap.size<=h.blk∨own h.blk
 frF:∀b x,base+64<=b->F b=some x->H.get b=some x/\(∀j g,L j≠some (b,g))/\∀g h,ρ.at_ b g=some h->Own ρ w0.heap.size h.blk->wf.heap.size<=h.blk
 frz:∀b x,ky w0.heap.size ρ H w wf L b=some x->b<wb.heap.size->frz0 b=some x
section
variable{w0:World}{ρ:Rho}{H:T ABlk}{F:Nat->Option ABlk}{w wf wb:World}{L:Nat->Option (Nat×Nat)}{γ:lk}{blk:List BSh}{y:Sy}{own:Nat->Prop}{frz0:Nat->Option (Array Value×TypeId)}
def kz{j:Nat}{h:Home}(hh:bw ρ H L j=some h):∃b g,L j=some (b,g)/\ρ.at_ b g=some h:=by
 unfold bw at hh;split at hh
 ·rename_i b g e;split at hh
  ·split at hh
   ·cases hh
   ·exact⟨b,g,e,hh⟩
  ·exact⟨b,g,e,hh⟩
 ·cases hh
def c_{B:Nat}{j:Nat}{h:Home}(hh:rR B ρ H L j h):∃b g g',L j=some (b,g)/\ρ.at_ b g'=some h:=by
 rcases hh with hh|⟨b,g,h1,_,⟨g',h2⟩,_⟩
 ·obtain⟨b,g,h1,h2⟩:=kz hh;exact⟨b,g,g,h1,h2⟩
 ·exact⟨b,g,g',h1,h2⟩
def eu{B:Nat}{j g':Nat}{h:Home}(hh:rS B ρ H L γ j g'=some h):rR B ρ H L j h/\((yj H L j/\∃b g,L j=some (b,g)/\ρ.at_ b g'=some h)∨(¬yj H L j/\g'=(γ j).2/\bw ρ H L j=some h)):=by
 unfold rS at hh;split at hh
 ·rename_i ho;split at hh
  ·rename_i b g e;split at hh
   ·rename_i h' e';split at hh
    ·rename_i d4;injection hh with hh;subst hh;exact⟨.inr ⟨b,g,e,ho,⟨g',e'⟩,d4⟩,.inl ⟨ho,b,g,e,e'⟩⟩
    ·cases hh
   ·cases hh
  ·cases hh
 ·rename_i ho;split at hh
  ·rename_i e;exact⟨.inl hh,.inr ⟨ho,e,hh⟩⟩
  ·cases hh
def TH(hm:MvHyp w0 ρ H F w wf wb L γ blk y own frz0){j g':Nat}(hj:j<blk.length):iu w0.heap.size ρ H L γ blk.length (γ j).1 g'=rS w0.heap.size ρ H L γ j g':=by
 unfold iu;have he:∃j',j'<blk.length/\(γ j').1=(γ j).1:=⟨j,hj,rfl⟩
 rw[dif_pos he];obtain⟨h1,h2⟩:=abI he;rw[hm.ginj _ _ h1 hj h2]
def ew(hm:MvHyp w0 ρ H F w wf wb L γ blk y own frz0){j:Nat}(hj:j<blk.length)(j5:¬yj H L j):iu w0.heap.size ρ H L γ blk.length (γ j).1 (γ j).2=bw ρ H L j:=by rw[TH hm hj];unfold rS;rw[if_neg j5,if_pos rfl]
def js(hm:MvHyp w0 ρ H F w wf wb L γ blk y own frz0){j b g g':Nat}{h:Home}(hj:j<blk.length)(ho:yj H L j)(hL:L j=some (b,g))(hh:ρ.at_ b g'=some h)(d4:Own ρ w0.heap.size h.blk):iu w0.heap.size ρ H L γ blk.length (γ j).1 g'=some h:=by rw[TH hm hj];unfold rS;rw[if_pos ho];simp only [hL,hh,if_pos d4]
def ez{B:Nat}{b g:Nat}{h:Home}(hh:iu B ρ H L γ blk.length b g=some h):∃j,j<blk.length/\(γ j).1=b/\rS B ρ H L γ j g=some h:=by
 unfold iu at hh;split at hh
 ·rename_i he;obtain⟨h1,h2⟩:=abI he;exact⟨_,h1,h2,hh⟩
 ·cases hh
def eA{B:Nat}{b:Nat}{x:Array Value×TypeId}(h:ρ.frz b=some x):ky B ρ H w wf L b=some x:=by unfold ky;rw[h]
def zG(hm:MvHyp w0 ρ H F w wf wb L γ blk y own frz0){b g:Nat}{h:Home}{x:ABlk}{arr:Array Value}{ty:TypeId}{fr:Nat×Nat}(hh:ρ.at_ b g=some h)(hx:H.get b=some x)(hn:¬yu x)(hL:∀j g,L j≠some (b,g))(hb:wf.heap.size<=h.blk)(hw:w.heap[h.blk]? =some (.cells arr ty fr)):ky w0.heap.size ρ H w wf L h.blk=some (arr,ty):=by
 unfold ky
 cases hf:ρ.frz h.blk with
 |some x=>exact absurd rfl (hm.good.frzE (show ρ.frz h.blk=some (x.1,x.2) from hf) hh hx hn)
 |none=>
  have:wf.heap.size<=h.blk/\∀j h',rR w0.heap.size ρ H L j h'->h'.blk≠h.blk:=⟨hb,λj h' hj e=>by obtain⟨b',g',g2,e1,e2⟩:=c_ hj;have:=(hm.good.inj _ _ _ _ _ _ e2 hh e).1;subst this;exact hL _ _ e1⟩
  simp only [if_pos this,hw]
def zH{j:Nat}(h:jq blk j=true):(∃ty l,blk[j]? =some (.cells ty l))∨(∃k C t,blk[j]? =some (.obj k C t))∨(∃m ty t,blk[j]? =some (.arr m ty t))∨∃ty t,blk[j]? =some (.arb ty t):=by
 unfold jq at h;split at h
 ·exact .inl ⟨_,_,by assumption⟩
 ·exact .inr (.inl ⟨_,_,_,by assumption⟩)
 ·exact .inr (.inr (.inl ⟨_,_,_,by assumption⟩))
 ·exact .inr (.inr (.inr ⟨_,_,by assumption⟩))
 ·cases h
def Cx{j:Nat}(h:wF blk j=true):∃m t,blk[j]? =some (.sm m t):=by
 unfold wF at h;split at h
 ·exact⟨_,_,by assumption⟩
 ·cases h
def tN{j b g:Nat}{q:ABlk}(hL:L j=some (b,g))(hq:H.get b=some q)(hn:∀k I l,q≠ .obj k I l):¬yj H L j:=λ⟨b',g',k,I,l,e1,e2⟩=>by rw[hL] at e1;injection e1 with e1;injection e1 with e1 e1';subst e1;rw[hq] at e2;injection e2 with e2;exact hn _ _ _ e2
def RdC.vr{vl:Nat->Value}(hm:MvHyp w0 ρ H F w wf wb L γ blk y own frz0){ct:Ct}{a:AV}{v:Value}(h:RdC F ct a)(hv:VR ρ a v):VR (ll w0.heap.size ρ H w wf L γ blk.length own frz0 vl) (.cv ct) v:=by
 have hfm:∀b x,ρ.frz b=some x->(ll w0.heap.size ρ H w wf L γ blk.length own frz0 vl).frz b=some x:=λb x h=>eA h;rcases h with⟨e,h0⟩|e|⟨b,g,es,ty,e,hb,hF⟩|⟨b,g,o,cap,c,gen,lo,hi,fl,fh,ty,as,e,hb,hF,hg,h1,h2,hl,hr⟩|⟨b,g,e,hb,hF⟩
 ·subst e;cases hv;exact .cvnil _ h0
 ·subst e;exact dl hfm hv rfl
 ·subst e
  obtain⟨q1,q2,q3⟩:=hm.frF _ _ hb hF
  generalize hnn:ct.len=nn at hv
  cases hv with
  |gnil _ _ _=>exact .cvnil _ hnn
  |gempty _ _ _ a=>exact .cvempty _ a hnn
  |gsl _ _ _ _ h c hn hh hs hc hz=>
   subst hnn;rcases hm.good.blk _ _ q1 with h0|⟨h',r1,r2,r3,arr,fr,r4,r5,r6,r7,r8⟩
   ·omega
   rw[hh] at r1;injection r1 with r1;subst r1;refine .cv ct h.blk 0 c arr ty (zG hm hh q1 (λh=>h) q2 (q3 _ _ hh r3) r4) hc (by omega) λi j a v hi ha hv=>?_;obtain⟨u,u1,u2⟩:=r8 i hi j a ha;rw[aaC,u1] at hv;injection hv with hv;subst hv;exact dl hfm u2 (mj ha)
 ·subst e
  obtain⟨q1,q2,q3⟩:=hm.frF _ _ hb hF
  cases hv with
  |slc _ _ _ _ _ _ ad cp s8=>
   obtain⟨o8,r1,r2,_,arr,fr,r3,r4,r5,r6⟩:=(hm.good.blk _ _ q1).2 g hg;obtain⟨hlc,x9⟩:=s8;have ag9:∃h,ρ.at_ b g=some h/\h.shift<=o/\ad=⟨h.blk,o-h.shift,none⟩:=by
    cases cap with
    |some k=>obtain⟨_,h,x1,x2,x3⟩:=x9;exact⟨h,x1,x2,x3⟩
    |none=>
     rcases x9 with x9|⟨h,x1,x2,x3,_⟩
     ·omega
     ·exact⟨h,x1,x2,x3⟩
   obtain⟨h,x1,x2,x3⟩:=ag9;rw[x1] at r1;injection r1 with r1;subst r1;subst x3;obtain⟨l1,l2⟩:=rl hl;have d7:∀j,j<ct.len * ct.es->∃a u,as[j]? =some a/\arr[o-h.shift+j]? =some u/\VR ρ a u:=λj hj=>by have ha:as[j]? =some (as[j]'(by omega)):=aaw (by omega);obtain⟨tag,t1,t2⟩:=l2 j _ ha;obtain⟨s1,u,s2,s3⟩:=r6 _ _ _ t1 (aaV t2 (aao _));exact⟨_,u,ha,by rw[show o-h.shift+j=o+j-h.shift by omega];exact s2,s3⟩
   have ac0:o-h.shift+ct.len * ct.es<=arr.size:=by
    have i3:1<=ct.len * ct.es:=Nat.mul_pos h1 h2;obtain⟨a,u,_,hu,_⟩:=d7 (ct.len * ct.es-1) (by omega);rcases aat (o-h.shift+(ct.len * ct.es-1)) arr.size with h'|h'
    ·omega
    ·rw[aa7 h'] at hu;cases hu
   refine .cv ct h.blk (o-h.shift) cp arr ty (zG hm x1 q1 (λh=>h) q2 (q3 _ _ x1 (r2 rfl)) r3) hlc ac0 λi j a v hi ha hv=>?_;have hrl:=ct.row_len i;have hj:j<ct.es:=by
    rcases aat j ct.es with h'|h'
    ·exact h'
    ·rw[aaz (by omega)] at ha;cases ha
   have ad6:i * ct.es+ct.es<=ct.len * ct.es:=by rw[←aa1];exact aaM _ hi
   have ac8:∀q a0,((as.drop (i * ct.es)).take ct.es)[q]? =some a0->∃u,arr[o-h.shift+(i * ct.es+q)]? =some u/\VR ρ a0 u:=λq a0 hq=>by
    rw[abd] at hq;split at hq
    ·rw[aaH] at hq;obtain⟨a1,u,e1,e2,e3⟩:=d7 (i * ct.es+q) (by omega);rw[hq] at e1;injection e1 with e1;subst e1;exact⟨u,e2,e3⟩
    ·cases hq
   obtain⟨u,u1,u2⟩:=mX (A:=λq=>arr[o-h.shift+(i * ct.es+q)]?) ac8 (λvs=>hr i hi ρ vs) j a ha;rw[abH] at hv;have u1:arr[o-h.shift+(i * ct.es+j)]? =some u:=u1;rw[u1] at hv;injection hv with hv;subst hv;exact dl hfm u2 (mj ha)
 ·subst e;obtain⟨q1,q2,q3⟩:=hm.frF _ _ hb hF;exact dl hfm (ji (hm.good.blk _ _ q1) hv) rfl
def YP{vl:Nat->Value}(hm:MvHyp w0 ρ H F w wf wb L γ blk y own frz0){j b g n es:Nat}{v:Value}(hL:L j=some (b,g))(hq:∀q,H.get b=some q->∃c ty,q= .grow c g ty/\c.len=n)(hv:VR ρ (.gsl b g n es) v):
 VR (ll w0.heap.size ρ H w wf L γ blk.length own frz0 vl) (.gsl (γ j).1 (γ j).2 n es) v:=by
 have hj:=hm.dom _ _ hL
 cases hv with
 |gnil _ _ _=>exact .gnil _ _ _
 |gempty _ _ _ a=>exact .gempty _ _ _ a
 |gsl _ _ _ _ h c hn hh hs hc hz=>
  refine .gsl _ _ _ _ h c hn ?_ hs hc hz
  show iu w0.heap.size ρ H L γ blk.length (γ j).1 (γ j).2=some h
  have j5:¬yj H L j:=λ⟨b',g',k,I,l,e1,e2⟩=>by rw[hL] at e1;injection e1 with e1;injection e1 with e1 e1';subst e1;obtain⟨c,ty,e,_⟩:=hq _ e2;cases e
  rw[ew hm hj j5]
  unfold bw
  rw[hL]
  simp only
  split
  ·rename_i c' g' G' e;obtain⟨c2,ty2,e2,e3⟩:=hq _ e;injection e2 with e2;subst e2;rw[if_neg (by omega)];exact hh
  ·exact hh
def YQ{vl:Nat->Value}(hm:MvHyp w0 ρ H F w wf wb L γ blk y own frz0){j b:Nat}{v:Value}(hL:L j=some (b,0))(hc:jq blk j=true)(hv:VR ρ (.ptr b 0 0) v):VR (ll w0.heap.size ρ H w wf L γ blk.length own frz0 vl) (.ptr (γ j).1 0 0) v:=by
 cases hv with
 |ptr _ _ _ h hh ho=>
  have hj:=hm.dom _ _ hL;refine .ptr _ _ _ h ?_ ho;show iu w0.heap.size ρ H L γ blk.length (γ j).1 0=_;rcases zH hc with⟨ty,l,hx⟩|⟨k,C,t,hx⟩|⟨m,ty,t,hx⟩|⟨ty,t,hx⟩
  ·obtain⟨b',g',q1,q,q2,q3⟩:=hm.hb j _ hx;rw[hL] at q1;injection q1 with q1;injection q1 with q1 q1';subst q1;subst q1';obtain⟨_,c,as,e,_⟩:=q3;have hJ:bw ρ H L j=some h:=by unfold bw;rw[hL];simp only [q2,e,hh]
   have:=ew hm hj (tN hL q2 (λk I l e'=>by rw[e] at e';cases e'));rw[hm.g0 j _ hx rfl] at this;rw[this];exact hJ
  ·obtain⟨b',g',q1,q,q2,q3⟩:=hm.hb j _ hx;rw[hL] at q1;injection q1 with q1;injection q1 with q1 q1';subst q1;subst q1';obtain⟨_,e⟩:=q3;subst e;obtain⟨_,h',fp,r1,r2,r3,_⟩:=hm.good.blk _ _ q2;rw[hh] at r1;injection r1 with r1;subst r1;exact js hm hj ⟨_,_,_,_,_,hL,q2⟩ hL hh (r3 _ aaB).1
  ·obtain⟨b',g',q1,q,q2,q3⟩:=hm.hb j _ hx;rw[hL] at q1;injection q1 with q1;injection q1 with q1 q1';subst q1;subst q1';obtain⟨_,e,i3⟩:=q3;have i5:¬(Ct.rows m (y.g t)).len=0:=by show ¬(y.g t).length=0;omega
   have hJ:bw ρ H L j=some h:=by unfold bw;rw[hL];simp only [q2,e];rw[if_neg i5];exact hh
   have:=ew hm hj (tN hL q2 (λk I l e'=>by rw[e] at e';cases e'));rw[hm.g0 j _ hx rfl] at this;rw[this];exact hJ
  ·obtain⟨b',g',q1,q,q2,q3⟩:=hm.hb j _ hx;rw[hL] at q1;injection q1 with q1;injection q1 with q1 q1';subst q1;subst q1';obtain⟨_,e,i3⟩:=q3;have i5:¬(Ct.bytes (y.s t)).len=0:=by show ¬(y.s t).length=0;omega
   have hJ:bw ρ H L j=some h:=by unfold bw;rw[hL];simp only [q2,e];rw[if_neg i5];exact hh
   have:=ew hm hj (tN hL q2 (λk I l e'=>by rw[e] at e';cases e'));rw[hm.g0 j _ hx rfl] at this;rw[this];exact hJ
def Tv.vr{vl:Nat->Value}(hm:MvHyp w0 ρ H F w wf wb L γ blk y own frz0){x:Sh}{a:AV}{v:Value}(h:Tv F blk L y x a)(hv:VR ρ a v):VR (ll w0.heap.size ρ H w wf L γ blk.length own frz0 vl) (put γ y x) v:=by
 cases x with
 |i k t=>have h:co a=some (k,y.i t):=h;rw[bp hv h];exact .sI _ _
 |b t=>have h:dQ a=some (y.p t):=h;obtain⟨b,e,hb⟩:=eP hv h;rw[e];exact .sB _ b hb
 |s t=>have h:ge a=some (y.s t):=h;obtain⟨s,e,hs⟩:=dB hv h;rw[e];show VR _ (.sS (y.s t)) _;rw[hs];exact .sS s
 |o=>exact .any1 v (jb hv h)
 |v m t=>exact RdC.vr hm h hv
 |vb t=>exact RdC.vr hm h hv
 |pi k n=>have h:co a=some (k,n):=h;rw[bp hv h];exact .sI _ _
 |pb q=>obtain⟨q',h1,h2⟩:=h;obtain⟨b,e,hb⟩:=eP hv h1;rw[e];exact .sB _ b (hb.trans h2)
 |ps l=>have h:ge a=some l:=h;obtain⟨s,e,hs⟩:=dB hv h;rw[e];show VR _ (.sS l) _;rw[hs];exact .sS s
 |pv m l=>exact RdC.vr hm h hv
 |pvb l=>exact RdC.vr hm h hv
 |np=>have h:a= .nilp:=h;subst h;cases hv;exact .nilp
 |li k n=>have h:a= .int k n:=h;subst h;cases hv;exact .int _ _
 |nz=>have h:a= .nils:=h;subst h;cases hv;exact .nils
 |p j=>obtain⟨b,hL,e,hc⟩:=h;subst e;exact YQ hm hL hc hv
 |fn f j=>
  obtain⟨b,hL,e,hc⟩:=h
  subst e
  cases hv with
  |func _ _ _ first captured h1 h2 r1 r2 hf=>
   refine .func _ _ _ _ _ h1 (by simpa using h2) (λi a u ha hu=>by simp at ha) (λi a u ha hu=>?_) rfl
   match i,ha with
   |0,ha=>injection ha with ha;subst ha;exact YQ hm hL hc (r2 0 _ u rfl hu)
 |m j=>
  obtain⟨b,hL,e,hc⟩:=h
  subst e
  cases hv with
  |map _ h hh=>
   have hj:=hm.dom _ _ hL;refine .map _ h ?_;show iu w0.heap.size ρ H L γ blk.length (γ j).1 0=_;obtain⟨m,t,hx⟩:=Cx hc;obtain⟨b',g',q1,q,q2,q3⟩:=hm.hb j _ hx;rw[hL] at q1;injection q1 with q1;injection q1 with q1 q1';subst q1;subst q1';have hq:(∃m l,q= .smap m l)∨∃es c,q= .mapo es c:=by
    rcases q3.2 with e|⟨c,e,_⟩
    ·exact .inl ⟨_,_,e⟩
    ·exact .inr ⟨_,_,e⟩
   have hJ:bw ρ H L j=some h:=by unfold bw;rw[hL];rcases hq with⟨m,l,e⟩|⟨es,c,e⟩ <;> simp only [q2,e,hh]
   have:=ew hm hj (tN hL q2 (λk I l e'=>by rcases hq with⟨m,l,e⟩|⟨es,c,e⟩ <;> (rw[e] at e';cases e')));rw[hm.g0 j _ hx rfl] at this;rw[this];exact hJ
 |g j es t=>obtain⟨b,g,hL,e,m,ty,hx⟩:=h;subst e;show VR _ (.gsl (γ j).1 (γ j).2 (y.g t).length es) v;exact YP hm hL (λq hq=>by obtain⟨b',g',q1,q',q2,q3⟩:=hm.hb j _ hx;rw[hL] at q1;injection q1 with q1;injection q1 with q1 q1';subst q1;subst q1';rw[hq] at q2;injection q2 with q2;subst q2;exact⟨_,_,q3,rfl⟩) hv
 |gb j t=>obtain⟨b,g,hL,e,ty,hx⟩:=h;subst e;show VR _ (.gsl (γ j).1 (γ j).2 (y.s t).length 1) v;exact YP hm hL (λq hq=>by obtain⟨b',g',q1,q',q2,q3⟩:=hm.hb j _ hx;rw[hL] at q1;injection q1 with q1;injection q1 with q1 q1';subst q1;subst q1';rw[hq] at q2;injection q2 with q2;subst q2;exact⟨_,_,q3,rfl⟩) hv
def wH{ρ ρ':Rho}{α:Type}{R:α->AV->Prop}{f:α->AV}{fs:List α->List AV}(hf0:fs []= [])(hfs:∀x l,fs (x::l)=f x::fs l)(hR:∀x a v,R x a->VR ρ a v->VR ρ' (f x) v):
 ∀{l:List α} {as:List AV} {vs:List Value},cH R l as->LR ρ as vs->LR ρ' (fs l) vs
 | [],[],vs,_,h=>by rw[hf0,h.nil_inv];exact LR.nil _
 |x::l,a::as,vs,⟨h1,h2⟩,h=>by obtain⟨v,m7,rfl,hv,h'⟩:=h.cons_inv;rw[hfs];exact LR.cons (hR x a v h1 hv) (wH hf0 hfs hR h2 h')
 | [],_::_,_,h,_=>h.elim
 |_::_,[],_,h,_=>h.elim
def Tvs.lr{vl:Nat->Value}(hm:MvHyp w0 ρ H F w wf wb L γ blk y own frz0){l:List Sh}{as:List AV}{vs:List Value}(h:cH (Tv F blk L y) l as)(hv:LR ρ as vs):LR (ll w0.heap.size ρ H w wf L γ blk.length own frz0 vl) (pT γ y l) vs:=
 wH rfl (λ_ _=>rfl) (λ_ _ _ h hv=>Tv.vr hm h hv) h hv
def uF{ρ ρ':Rho}{as bs:List AV}{bl off:Nat}{arr:Array Value}{ty:TypeId}(hf:ρ.frz bl=some (arr,ty))(hf':ρ'.frz bl=some (arr,ty))(hb:off+as.length<=arr.size)(r:∀(j:Nat) (a:AV) (v:Value),as[j]? =some a->arr[off+j]? =some v->VR ρ a v)(h:∀vs,LR ρ as vs->LR ρ' bs vs):VR ρ' (.cptr bs) (.pointer (some ⟨bl,off,none⟩)):=by
 have hl:LR ρ as ((arr.toList.drop off).take as.length):=by
  refine⟨by rw[aax,aaA,aaY (xs:=arr)];omega,λj a v ha hv=>r j a v ha ?_⟩;rw[abd] at hv;split at hv
  ·rw[aaH,aa9] at hv;exact hv
  ·cases hv
 obtain⟨e,hr⟩:=h _ hl
 rw[aax,aaA,aaY (xs:=arr)] at e
 refine .cptr bs bl off arr ty hf' (by omega) λj a v ha hv=>hr j a v ha ?_
 have hj:j<bs.length:=by
  rcases aat j bs.length with h'|h'
  ·exact h'
  ·rw[aaz h'] at ha;cases ha
 rw[aaF (by omega),aaH,aa9];exact hv
def TvA.vr{vl:Nat->Value}(hm:MvHyp w0 ρ H F w wf wb L γ blk y own frz0){x:Sa}{a:AV}{v:Value}(h:TvA F blk L y x a)(hv:VR ρ a v):VR (ll w0.heap.size ρ H w wf L γ blk.length own frz0 vl) (kx γ y x) v:=by
 cases x with
 |c x=>exact Tv.vr hm h hv
 |ag l=>
  obtain⟨as,e,ha⟩:=h
  subst e
  cases hv with
  |agg _ cs h1 h2=>obtain⟨q1,q2⟩:=(Tvs.lr hm ha (LR.of_arr h1 h2)).arr;exact .agg _ cs q1 q2
 |cp l=>
  obtain⟨as,e,ha⟩:=h
  subst e
  cases hv with
  |cptr _ bl off arr ty hf hb r=>exact uF hf (eA hf) hb r λvs hl=>Tvs.lr hm ha hl
def TvAs.lr{vl:Nat->Value}(hm:MvHyp w0 ρ H F w wf wb L γ blk y own frz0){l:List Sa}{as:List AV}{vs:List Value}(h:cH (TvA F blk L y) l as)(hv:LR ρ as vs):LR (ll w0.heap.size ρ H w wf L γ blk.length own frz0 vl) (nh γ y l) vs:=
 wH rfl (λ_ _=>rfl) (λ_ _ _ h hv=>TvA.vr hm h hv) h hv
def TvR.vr{vl:Nat->Value}(hm:MvHyp w0 ρ H F w wf wb L γ blk y own frz0){x:Sr}{a:AV}{v:Value}(h:TvR F blk L y x a)(hv:VR ρ a v):VR (ll w0.heap.size ρ H w wf L γ blk.length own frz0 vl) (Cs γ y x) v:=by
 cases x with
 |one x=>exact TvA.vr hm h hv
 |tu l=>
  obtain⟨as,e,ha⟩:=h
  subst e
  cases hv with
  |tup _ cs h1 h2=>obtain⟨q1,q2⟩:=(TvAs.lr hm ha (LR.of_arr h1 h2)).arr;exact .tup _ cs q1 q2
def Lb{j:Nat}{x:BSh}(hg:iJ x=true->(γ j).2=0):JH (γ j).2 (mh γ y j x):=by
 cases x with
 |cells ty l=>show(γ j).2<=0;rw[hg rfl];exact aao _
 |grow m ty t=>exact aao _
 |growb ty t=>exact aao _
 |sm m t=>trivial
 |arr m ty t=>show(γ j).2<=0;rw[hg rfl];exact aao _
 |arb ty t=>show(γ j).2<=0;rw[hg rfl];exact aao _
 |obj k C t=>trivial
def Ic:∀(ks:List IntKind) (g:G) (j:Nat),∀a∈lU ks g j,hl a=true:=by
 intro ks
 induction ks with
 |nil=>intro g j a h;cases h
 |cons k ks ih=>
  intro g j a h;rcases List.mem_cons.1 h with h|h
  ·subst h;rfl
  ·exact ih _ _ _ h
def Lc{ρ ρ':Rho}(hf:∀b x,ρ.frz b=some x->ρ'.frz b=some x){b:Bool}{l:List AV}(l3:∀a∈l,hl a=true){v:Value}(h:VR ρ (U9 b l) v):VR ρ' (U9 b l) v:=by
 cases b with
 |true=>
  cases h with
  |agg _ cs h1 h2=>exact .agg _ cs h1 λi a v ha hv=>dl hf (h2 i a v ha hv) (l3 a (abs ha))
 |false=>
  cases l with
  |nil=>exact dl hf h rfl
  |cons a l=>exact dl hf h (l3 a aaB)
def Id:∀(xs:List Sc) (g:G) (q:Nat),∀a∈bE xs g q,hl a=true:=by
 intro xs
 induction xs with
 |nil=>intro g q a h;cases h
 |cons x xs ihx=>
  intro g q a h;rcases List.mem_append.1 h with h|h
  ·cases x <;> simp [fM] at h;case h n=>exact oK _ _ _ a h
   all_goals (subst h;rfl)
  ·exact ihx _ _ a h
def MvHyp.to0{vl:Nat->Value}(hm:MvHyp w0 ρ H F w wf wb L γ blk y own frz0):Good0 wb (ll w0.heap.size ρ H w wf L γ blk.length own frz0 vl) (eS γ y blk 0 .leaf) w:=by
 have hfm:∀b x,ρ.frz b=some x->(ll w0.heap.size ρ H w wf L γ blk.length own frz0 vl).frz b=some x:=λb x h=>eA h;have n8:∀j x,blk[j]? =some x->(eS γ y blk 0 .leaf).get (γ j).1=some (mh γ y j x):=λj x hx=>by have:=rQ (γ:=γ) (y:=y) blk 0 .leaf j x hx (λi hi=>by rw[aaC];exact hm.g64 i hi) (λa b ha hb e=>hm.ginj a b ha hb (by simpa using e));simpa using this
 refine⟨hm.kept,λb X hX=>?_,λb' g' h hh=>?_,λb1 g1 h1 b2 g2 h2 q1 q2 e=>?_,λb' g' h X hh hX=>?_,λb arr ty hf=>?_,λb x hf c8=>?_,λb k I l hX g h hh=>?_⟩
 ·rcases rP blk 0 .leaf b X hX with⟨j,x,hx,e1,e2⟩|⟨h,_⟩
  case inr=>simp [T.get] at h
  rw[aaC] at e1 e2
  subst e1;subst e2
  have hj:j<blk.length:=by
   rcases aat j blk.length with h'|h'
   ·exact h'
   ·rw[aaz h'] at hx;cases hx
  obtain⟨b,g,hL,q,hq,o9⟩:=hm.hb j x hx
  have ae_:∀h,bw ρ H L j=some h->Own ρ w0.heap.size h.blk->Own (ll w0.heap.size ρ H w wf L γ blk.length own frz0 vl) wb.heap.size h.blk:=λh h1 h2=>hm.owns j h (.inl h1) h2
  cases x with
  |cells ty l=>
   obtain⟨eg,c,as,eq,hlen,d7,ac9⟩:=o9;subst eg;subst eq;have j0:=ew hm hj (tN hL hq (λ_ _ _ e=>by cases e));obtain⟨o8,r1,r2,_,arr,fr,r3,r4,r5,r6⟩:=(hm.good.blk _ _ hq).2 0 (aao _);have hJ:bw ρ H L j=some o8:=by unfold bw;rw[hL];simp only [hq,r1]
   have hz:=hm.g0 j _ hx rfl;refine⟨λo x ho=>?_,λg hg=>?_⟩
   ·rcases uE _ _ _ _ _ ho with⟨i,a,e,ha,ex⟩|⟨h,_⟩
    ·have:i<l.length:=by
      rcases aat i l.length with h'|h'
      ·exact h'
      ·rw[aaz (by rw[La];exact h')] at ha;cases ha
     subst ex;exact⟨aaD _,by omega,aao _⟩
    ·simp [T.get] at h
   ·have:g=0:=by omega
    subst this;refine⟨o8, ?_,λ_=>ae_ o8 hJ (r2 rfl),(λh=>by cases h),arr,fr,r3,r4,r5,λo tag a ho _=>?_⟩
    ·rw[hz] at j0;show iu w0.heap.size ρ H L γ blk.length (γ j).1 0=_;rw[j0];exact hJ
    ·rcases uE _ _ _ _ _ ho with⟨i,a',e,ha,ex⟩|⟨h,_⟩
     ·injection ex with ex1 ex2
      subst ex1;subst ex2
      rw[K_] at ha
      have e:o=i:=by omega
      subst e
      cases hli:l[o]? with
      |none=>rw[hli] at ha;cases ha
      |some xs=>
       rw[hli] at ha;injection ha with ha;subst ha;have ao1:∀{l:List Sh} {as:List AV},cH (Tv F blk L y) l as->∀(i:Nat) (xs:Sh),l[i]? =some xs->∃a,as[i]? =some a/\Tv F blk L y xs a:=by
        intro l
        induction l with
        |nil=>intro as _ i xs h;simp at h
        |cons x l ih=>
         intro as h i xs hi
         cases as with
         |nil=>exact h.elim
         |cons a as=>cases i with
          |zero=>simp at hi;subst hi;exact⟨a,rfl,h.1⟩
          |succ i=>simp at hi;obtain⟨b,h1,h2⟩:=ih h.2 i xs hi;exact⟨b,by simpa using h1,h2⟩
       obtain⟨a1,ha1,ht⟩:=ao1 ac9 o xs hli;obtain⟨a0,hc0,hwk⟩:=d7 o a1 ha1;obtain⟨s1,u,s2,s3⟩:=r6 o 0 a0 hc0 (aao _);exact⟨s1,u,s2,Tv.vr hm ht (hwk _ s3)⟩
     ·simp [T.get] at h
  |grow m ty t=>
   have o9:q= .grow (.rows m (y.g t)) g ty:=o9;subst o9;have j0:=ew hm hj (tN hL hq (λ_ _ _ e=>by cases e));rcases aa6 (Ct.rows m (y.g t)).len with h0|i3
   ·exact .inl h0
   ·rcases hm.good.blk _ _ hq with h0|⟨o8,r1,r2,r3,arr,fr,r4,r5,r6,r7,r8⟩
    ·omega
    have hJ:bw ρ H L j=some o8:=by unfold bw;rw[hL];simp only [hq];rw[if_neg (by omega)];exact r1
    refine .inr ⟨o8, ?_,r2,ae_ o8 hJ r3,arr,fr,r4,r5,r6,r7,λi hi j' a ha=>?_⟩
    ·show iu w0.heap.size ρ H L γ blk.length (γ j).1 (γ j).2=_;rw[j0];exact hJ
    ·obtain⟨u,u1,u2⟩:=r8 i hi j' a ha;exact⟨u,u1,dl hfm u2 (mj ha)⟩
  |growb ty t=>
   have o9:q= .grow (.bytes (y.s t)) g ty:=o9;subst o9;have j0:=ew hm hj (tN hL hq (λ_ _ _ e=>by cases e));rcases aa6 (Ct.bytes (y.s t)).len with h0|i3
   ·exact .inl h0
   ·rcases hm.good.blk _ _ hq with h0|⟨o8,r1,r2,r3,arr,fr,r4,r5,r6,r7,r8⟩
    ·omega
    have hJ:bw ρ H L j=some o8:=by unfold bw;rw[hL];simp only [hq];rw[if_neg (by omega)];exact r1
    refine .inr ⟨o8, ?_,r2,ae_ o8 hJ r3,arr,fr,r4,r5,r6,r7,λi hi j' a ha=>?_⟩
    ·show iu w0.heap.size ρ H L γ blk.length (γ j).1 (γ j).2=_;rw[j0];exact hJ
    ·obtain⟨u,u1,u2⟩:=r8 i hi j' a ha;exact⟨u,u1,dl hfm u2 (mj ha)⟩
  |arr m ty t=>
   obtain⟨eg,e,i3⟩:=o9;subst eg;subst e;have hz:=hm.g0 j _ hx rfl;have j0:=ew hm hj (tN hL hq (λ_ _ _ e=>by cases e));rw[hz] at j0;have i5:¬(Ct.rows m (y.g t)).len=0:=by show ¬(y.g t).length=0;omega
   rcases hm.good.blk _ _ hq with h0|⟨o8,r1,r2,r3,arr,fr,r4,r5,r6,r7,r8⟩
   ·exact absurd h0 i5
   have hJ:bw ρ H L j=some o8:=by unfold bw;rw[hL];simp only [hq];rw[if_neg i5];exact r1
   refine .inr ⟨o8,j0.trans hJ,r2,ae_ o8 hJ r3,arr,fr,r4,r5,r6,r7,λi hi j' a ha=>?_⟩;obtain⟨u,u1,u2⟩:=r8 i hi j' a ha;exact⟨u,u1,dl hfm u2 (mj ha)⟩
  |arb ty t=>
   obtain⟨eg,e,i3⟩:=o9;subst eg;subst e;have hz:=hm.g0 j _ hx rfl;have j0:=ew hm hj (tN hL hq (λ_ _ _ e=>by cases e));rw[hz] at j0;have i5:¬(Ct.bytes (y.s t)).len=0:=by show ¬(y.s t).length=0;omega
   rcases hm.good.blk _ _ hq with h0|⟨o8,r1,r2,r3,arr,fr,r4,r5,r6,r7,r8⟩
   ·exact absurd h0 i5
   have hJ:bw ρ H L j=some o8:=by unfold bw;rw[hL];simp only [hq];rw[if_neg i5];exact r1
   refine .inr ⟨o8,j0.trans hJ,r2,ae_ o8 hJ r3,arr,fr,r4,r5,r6,r7,λi hi j' a ha=>?_⟩;obtain⟨u,u1,u2⟩:=r8 i hi j' a ha;exact⟨u,u1,dl hfm u2 (mj ha)⟩
  |sm m t=>
   obtain⟨eg,hq2⟩:=o9;subst eg;have hz:=hm.g0 j _ hx rfl;have j5:¬yj H L j:=tN hL hq (λ_ _ _ e=>by rcases hq2 with h|⟨_,h,_⟩ <;> (rw[h] at e;cases e));have j0:=ew hm hj j5;rw[hz] at j0;rcases hq2 with e|⟨c,e,e0⟩
   ·subst e;obtain⟨o8,r1,r2,es,clock,r3,r4,r5⟩:=hm.good.blk _ _ hq;have hJ:bw ρ H L j=some o8:=by unfold bw;rw[hL];simp only [hq,r1]
    refine⟨o8,j0.trans hJ,ae_ o8 hJ r2,es,clock,r3,r4,λi g e hi he=>?_⟩;obtain⟨s1,s2⟩:=r5 i g e hi he;exact⟨Lc hfm (Ic _ _ _) s1,Lc hfm (Id _ _ _) s2⟩
   ·subst e;obtain⟨o8,r1,r2,es,r3,r4,r5⟩:=hm.good.blk _ _ hq;have hJ:bw ρ H L j=some o8:=by unfold bw;rw[hL];simp only [hq,r1]
    refine⟨o8,j0.trans hJ,ae_ o8 hJ r2,es,c,r3,by rw[e0];exact r4,λi g e hi he=>?_⟩;rw[e0] at hi;simp at hi
  |obj k C t=>
   obtain⟨eg,e⟩:=o9;subst eg;subst e;have hz:=hm.g0 j _ hx rfl;have hO:yj H L j:=⟨_,_,_,_,_,hL,hq⟩
   obtain⟨ad8,o8,fp,r1,r2,r3,r4⟩:=hm.good.blk _ _ hq;refine⟨ad8,o8,fp,js hm hj hO hL r1 (r3 _ aaB).1,r2,λx hx=>?_,r4⟩;obtain⟨s1,g,w9,s2,s3⟩:=r3 x hx;subst s3;exact⟨hm.owns j w9 (.inr ⟨_,_,hL,hO,⟨g,s2⟩,s1⟩) s1,g,w9,js hm hj hO hL s2 s1,rfl⟩
 ·obtain⟨j,hj,e1,hG⟩:=ez hh;obtain⟨b,g,g2,_,j0⟩:=c_ (eu hG).1;refine⟨(hm.good.dom _ _ _ j0).1,mh γ y j blk[j], ?_⟩;rw[←e1];exact n8 j blk[j] (aaw hj)
 ·obtain⟨j1,hj1,e1,b7⟩:=ez q1;obtain⟨j2,hj2,e3,f9⟩:=ez q2;obtain⟨b1',g1',_,hL1,u6⟩:=c_ (eu b7).1;obtain⟨b2',g2',_,hL2,aq3⟩:=c_ (eu f9).1;obtain⟨r1,r2⟩:=hm.good.inj _ _ _ _ _ _ u6 aq3 e;subst r1;have:=hm.linj _ _ _ _ _ hL1 hL2;subst this;exact⟨by rw[←e1, ←e3],r2⟩
 ·obtain⟨j,hj,e1,hG⟩:=ez hh;have hxj:=aaw hj;have:=n8 j blk[j] hxj;rw[e1,hX] at this;injection this with this;subst this;rcases(eu hG).2 with⟨⟨b0,g0,k,I,l,hL,hq⟩,_⟩|⟨_,e2,_⟩
  ·obtain⟨b1,g1,hL1,q,n6,o9⟩:=hm.hb j _ hxj
   rw[hL] at hL1;injection hL1 with hL1;injection hL1 with e3 e4
   subst e3
   rw[hq] at n6;injection n6 with n6
   generalize blk[j]=x at o9
   cases x with
   |cells ty l=>obtain⟨_,c,as,e,_⟩:=o9;rw[←n6] at e;cases e
   |grow m ty t=>have o9:q=_:=o9;rw[←n6] at o9;cases o9
   |growb ty t=>have o9:q=_:=o9;rw[←n6] at o9;cases o9
   |sm m t=>obtain⟨_,e|⟨c,e,_⟩⟩:=o9 <;> (rw[←n6] at e;cases e)
   |arr m ty t=>obtain⟨_,e,_⟩:=o9;rw[←n6] at e;cases e
   |arb ty t=>obtain⟨_,e,_⟩:=o9;rw[←n6] at e;cases e
   |obj k C t=>trivial
  ·rw[e2];exact Lb λe=>hm.g0 j _ hxj e
 ·have hf:ky w0.heap.size ρ H w wf L b=some (arr,ty):=hf;unfold ky at hf;split at hf
  ·rename_i x hx
   injection hf with hf
   subst hf
   refine⟨(hm.good.frz _ _ _ hx).1,λb' g' h hh e=>?_⟩
   obtain⟨j,hj,e1,hG⟩:=ez hh
   obtain⟨b2,g2,g3,hL,j0⟩:=c_ (eu hG).1
   obtain⟨b1,g1,hL1,q,n6,o9⟩:=hm.hb j _ (aaw hj)
   rw[hL] at hL1;injection hL1 with hL1;injection hL1 with e3 e4
   subst e3
   refine absurd e (hm.good.frzE hx j0 n6 ?_)
   generalize blk[j]=x at o9
   cases x with
   |cells ty l=>obtain⟨_,c,as,e,_⟩:=o9;rw[e];exact λh=>h
   |grow m ty t=>have o9:q=_:=o9;rw[o9];exact λh=>h
   |growb ty t=>have o9:q=_:=o9;rw[o9];exact λh=>h
   |sm m t=>obtain⟨_,e|⟨c,e,_⟩⟩:=o9 <;> (rw[e];exact λh=>h)
   |arr m ty t=>obtain⟨_,e,_⟩:=o9;rw[e];exact λh=>h
   |arb ty t=>obtain⟨_,e,_⟩:=o9;rw[e];exact λh=>h
   |obj k C t=>obtain⟨_,e⟩:=o9;rw[e];exact λh=>h
  ·split at hf
   ·rename_i hc;split at hf
    ·rename_i j8 G' fr' hw;injection hf with hf;injection hf with e1 e2;subst e1;subst e2;refine⟨⟨fr',hw⟩,λb' g' h hh e=>?_⟩;obtain⟨j,hj,e1,hG⟩:=ez hh;exact absurd e (hc.2 j h (eu hG).1)
    ·cases hf
   ·cases hf
 ·exact hm.frz b x hf c8
 ·obtain⟨j,hj,e1,hG⟩:=ez hh;have hxj:=aaw hj;have hp:=n8 j blk[j] hxj;rw[e1,hX] at hp;injection hp with hp;obtain⟨b0,g0,hL,q,hq,o9⟩:=hm.hb j _ hxj;have hO:yj H L j:=by
   generalize blk[j]=x at o9 hp
   cases x with
   |obj k C t=>obtain⟨_,e⟩:=o9;subst e;exact⟨_,_,_,_,_,hL,hq⟩
   |_=>cases hp
  rcases eu hG with⟨hA,hc⟩
  rcases hc with⟨_,b2,g2,hL2,j0⟩|⟨hn,_⟩
  ·rw[hL] at hL2;injection hL2 with hL2;injection hL2 with e3 e4;subst e3;obtain⟨_,_,k0,I0,l0,e5,e6⟩:=hO;rw[hL] at e5;injection e5 with e5;injection e5 with e5 _;subst e5;exact⟨hm.owns j h hA (hm.good.objO _ _ _ _ e6 _ _ j0).1,(hm.good.objO _ _ _ _ e6 _ _ j0).2⟩
  ·exact absurd hO hn
end
end Go.Sym
