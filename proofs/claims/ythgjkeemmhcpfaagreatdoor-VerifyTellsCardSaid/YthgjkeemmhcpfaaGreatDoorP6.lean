/- Part 6. -/
import Derived.Laws.BytesArg
import Derived.Laws.Sem
import Derived.Test.YthgjkeemmhcpfaaGreatDoorP3
import Derived.Test.YthgjkeemmhcpfaaGreatDoorP4
import Derived.Test.YthgjkeemmhcpfaaGreatDoorP5
set_option linter.all false
namespace Go.Sym
open Go.RowKit (Below)
def nC(ρ:Rho)(s:ByteArray):LR ρ (eO (bytesOf s)) (s.data.toList.map λb=>Value.int .u8 b.toNat):=by
 refine⟨by simp [eO,bytesOf],λi a v ha hv=>?_⟩
 unfold eO bytesOf at ha
 rw[aa4,aaI] at ha
 rw[aaI] at hv
 cases hs:s.data.toList[i]? with
 |none=>rw[hs] at ha;cases ha
 |some b=>rw[hs] at ha hv;injection ha with ha;injection hv with hv;subst ha;subst hv;exact .int .u8 (b.toNat:Int)
def u8LT{ρ:Rho}:∀{l:List AV} {vs:List Value} {r:List Nat},KI l=some r->LR ρ l vs->∃bs:List UInt8,r=bs.map UInt8.toNat/\vs=bs.map λb=>Value.int .u8 (b.toNat:Int):=by
 intro l
 induction l with
 |nil=>intro vs r h hl;injection h with h;subst h;exact⟨[],rfl,hl.nil_inv⟩
 |cons a l ih=>
  intro vs r h hl;obtain⟨v,K',rfl,hv,E'⟩:=hl.cons_inv;unfold KI at h;split at h
  ·rename_i e;cases e
  ·rename_i n r' e;injection e with e1 e2;subst e1;subst e2;split at h
   ·rename_i hn;split at h
    ·rename_i l' hl2;injection h with h;subst h;obtain⟨bs,e1,e2⟩:=ih hl2 E';cases hv;have hnn:(UInt8.ofNat n).toNat=n:=by simp;omega
     refine⟨UInt8.ofNat n::bs,by rw[aaB,hnn,e1], ?_⟩;rw[aaB,hnn,e2];rfl
    ·cases h
   ·cases h
  ·cases h
def Df{ρ:Rho}:∀{l:List AV} {vs:List Value} {ns:List Int},gk l=some ns->inB ns->LR ρ l vs->∃bs:List UInt8,aG ns=bs.map UInt8.toNat/\vs=bs.map λb=>Value.int .u8 (b.toNat:Int):=by
 intro l
 induction l with
 |nil=>intro vs r h _ hl;injection h with h;subst h;exact⟨[],rfl,hl.nil_inv⟩
 |cons a l ih=>
  intro vs r h hb hl;obtain⟨v,K',rfl,hv,E'⟩:=hl.cons_inv;unfold gk at h;split at h
  ·rename_i n hn;split at h
   ·rename_i r' hr;injection h with h;subst h;obtain⟨⟨h0,h1⟩,hb⟩:=hb;obtain⟨bs,e1,e2⟩:=ih hr hb E';have hnn:(UInt8.ofNat n.toNat).toNat=n.toNat:=by simp;omega
    refine⟨UInt8.ofNat n.toNat::bs,by rw[aaB,hnn, ←e1];rfl, ?_⟩;rw[aaB,hnn,e2,bc hv hn,abm h0]
   ·cases h
  ·cases h
def Ao{ρ:Rho}{l:List AV}{vs:List Value}{k:AV->Tr}{σ:St}{K:Fin}(hl:LR ρ l vs)(h:run (nq l k) σ K=true):∃(bs:List UInt8) (x:AV),vs=(bs.map λb=>Value.int .u8 (b.toNat:Int))/\VR ρ x (.string ⟨bs.toArray⟩)/\run (k x) σ K=true:=by
 unfold nq at h;split at h
 ·rename_i r hr;obtain⟨bs,e2,e3⟩:=u8LT hr hl;subst e2;refine⟨bs,_,e3, ?_,h⟩;have:=VR.str (ρ:=ρ) ⟨bs.toArray⟩;simpa [bytesOf] using this
 ·obtain⟨ns,hr,h⟩:=bT h;obtain⟨hp,h⟩:=aN h;obtain⟨bs,e2,e3⟩:=Df hr hp hl;rw[e2] at h;refine⟨bs,_,e3, ?_,h⟩;have:=VR.sS (ρ:=ρ) ⟨bs.toArray⟩;simpa [bytesOf] using this
section
variable{P:Program}{w0:World}{ρ:Rho}{w:World}{σ:St}{K:Fin}{k:AV->Tr}
def Iy{src dst e:TypeId}{x:AV}{v:Value}(hS:SI σ)(hG:Good w0 ρ σ.h w)(hs:P.underlying src=some (.slice e))(hd:P.underlying dst=some .string)(he:P.underlying e=some (.int .u8))(hx:VR ρ x v){b g o len es:Nat}{cap:Option Nat}(ex:x= .slc b g o len cap es)(h:run (ac (Nat.beq len 0) (k (.str [])) (gp b g o len λl=>nq l k)) σ K=true):
 Res P w0 ρ w k K (convert src dst v):=by
 subst ex
 cases hx with
 |slc b g o len cap es a c hsl=>
  rcases bU h with⟨hb,h⟩|⟨hb,h⟩
  ·have hb:=aL hb;subst hb;refine .plain h hS hG (v:=.string ⟨#[]⟩) ?_ ?_
   ·exact .str ⟨#[]⟩
   ·exact run_convert_bytes_back w src dst e a c [] hs he hd (λj hj=>by cases hj)
  ·have hb:0<len:=by
    rcases aaS len with e|e
    ·subst e;simp at hb
    ·exact e
   obtain⟨hm,hh,ho,ea⟩:=Dc hsl hb;subst ea;obtain⟨l,cs,a9,e1,C',h,hL,hlen,i6,_⟩:=gu (P:=P) hS hG hh ho h;obtain⟨bs,x,e3,hx,h⟩:=Ao hL h;have hbl:bs.length=len:=by rw[←hlen,e3,aaK]
   refine .plain h C' (by rw[e1];exact hG) (v:=.string ⟨bs.toArray⟩) hx ?_
   ·have:=run_convert_bytes_back (P:=P) w src dst e ⟨hm.blk,o-hm.shift,none⟩ c bs hs he hd (λj hj=>by
     have h1:=i6 j (.int .u8 (bs[j].toNat:Int)) (by rw[e3];simp [hj]);unfold Addr.add;split
     ·rename_i e;subst e;simpa using h1
     ·exact h1)
    rw[hbl] at this;exact this
def Iz{src dst:TypeId}{x:AV}{v:Value}(hS:SI σ)(hG:Good w0 ρ σ.h w)(hx:VR ρ x v)(h:run (KJ P src dst x k) σ K=true):Res P w0 ρ w k K (convert src dst v):=by
 obtain⟨s,hs,h1⟩:=cB h;obtain⟨d,hd,h2⟩:=cB h1;clear h h1;split at h2 <;> (have h:=h2;clear h2)
 ·cases hx;have h:=jW h;refine .plain h hS hG (.int _ _) ?_;simp [convert,run_underlying hs,run_underlying hd,Conv.intToInt]
 ·cases hx;refine .plain h hS hG (.str _) ?_;simp [convert,run_underlying hs,run_underlying hd]
 ·obtain⟨de,he,h⟩:=cB h;split at h
  ·cases hx;refine .plain h hS hG (v:=.string ⟨#[]⟩) (.str ⟨#[]⟩) ?_;exact(run_convert_bytes_nil w src _ hs he 0 0 dst hd)
  ·exact Iy hS hG hs hd he hx rfl h
  ·exact(ah h).elim
 ·exact(ah h).elim
def Ap{src dst e:TypeId}{s:List Nat}{a:Addr}{c:Nat}(hs:P.underlying src=some (.slice e))(hd:P.underlying dst=some .string)(he:P.underlying e=some (.int .u8))(hc:∀j n,s[j]? =some n->w.cell? (a.add j)=some (.int .u8 (n:Nat))):∃t:ByteArray,bytesOf t=KA s/\(convert src dst (.slice (some a) s.length c)).run P w= .ok (.string t) w:=by
 have fold:∀(l:List Nat) (r:ByteArray),(l.map (λn:Nat=>(n:Int))).foldl (λr n=>r.push (UInt8.ofNat n.toNat)) r=⟨r.data++(l.map UInt8.ofNat).toArray⟩:=by
  intro l
  induction l with
  |nil=>intro r;simp
  |cons n l ih=>intro r;simp only [aaB,List.foldl_cons];rw[ih];simp [ByteArray.push]
 refine⟨⟨(s.map UInt8.ofNat).toArray⟩, ?_, ?_⟩
 ·simp [bytesOf,KA,aa4,Function.comp_def]
 ·rw[run_convert_bytes_string w src dst e (some a) s.length c hs he hd];have hl:=run_loadCells_list (P:=P) w a ((s.map (λn:Nat=>(n:Int))).map (Value.int .u8)) (λj v hj=>by
   rw[aa4,aaI] at hj
   cases hn:s[j]? with
   |none=>rw[hn] at hj;cases hj
   |some n=>rw[hn] at hj;injection hj with hj;rw[←hj];exact hc j n hn)
  simp only [aaK] at hl;rw[run_bytesToString w a s.length c _ hl,fold];have he0:ByteArray.empty.data= #[]:=rfl;rw[he0];simp
def uY{s:List Nat}{j n:Nat}(h:s[j]? =some n):((Ct.bytes s).row j)[0]? =some (.sI .u8 (n:Nat)):=by simp [Ct.row,aag,h]
def Dg{src dst:TypeId}{x:AV}{v:Value}(hS:SI σ)(hG:Good w0 ρ σ.h w)(hx:VR ρ x v)(h:run (zP P src dst x k) σ K=true):Res P w0 ρ w k K (convert src dst v):=by
 obtain⟨s,hs,h1⟩:=cB h;obtain⟨d,hd,h2⟩:=cB h1;clear h h1;split at h2 <;> (have h:=h2;clear h2)
 ·cases hx;have h:=js h;refine .plain h hS hG (.sI _ _) ?_;simp [convert,run_underlying hs,run_underlying hd,Conv.intToInt]
 ·cases hx;refine .plain h hS hG (.sS _) ?_;simp [convert,run_underlying hs,run_underlying hd]
 ·obtain⟨de,he,h⟩:=cB h;split at h
  ·rename_i e s _ _
   cases hx with
   |cv _ blk off cp arr ty hf hc hb r=>
    obtain⟨⟨fr,hw⟩,_⟩:=hG.frz _ _ _ hf;have hb:off+s.length * 1<=arr.size:=hb;obtain⟨t,ht,c9⟩:=Ap (P:=P) (w:=w) (s:=s) (a:=⟨blk,off,none⟩) (c:=cp) hs hd he (λj n hj=>by
     have hjl:j<s.length:=by
      rcases aaf j s.length with h'|h'
      ·exact h'
      ·rw[aak h'] at hj;cases hj
     have hv:arr[off+j * 1+0]? =some arr[off+j]:=by rw[aaF,aas];exact aaM (by omega)
     have:=r j 0 _ _ hjl (uY hj) hv
     rw[bP]
     simp only [World.cell?,hw]
     simp only [aa3,Bool.false_eq_true,if_false]
     rw[aaM (by omega)]
     cases i6:arr[off+j]'(by omega) with
     |int k2 n2=>rw[i6] at this;cases this;rfl
     |_=>rw[i6] at this;cases this)
    refine .plain h hS hG (v:=.string t) (by rw[←ht];exact .sS t) c9
   |cvnil _ h0=>have h0:s.length=0:=h0;have:s= []:=List.length_eq_zero_iff.1 h0;subst this;refine .plain h hS hG (v:=.string ⟨#[]⟩) (.sS ⟨#[]⟩) (run_convert_bytes_nil w src _ hs he 0 0 dst hd)
   |cvempty _ a h0=>have h0:s.length=0:=h0;have:s= []:=List.length_eq_zero_iff.1 h0;subst this;refine .plain h hS hG (v:=.string ⟨#[]⟩) (.sS ⟨#[]⟩) (run_convert_bytes_back w src dst _ a 0 [] hs he hd (λj hj=>by cases hj))
  ·exact(ah h).elim
 ·rename_i e b g n es;obtain⟨de,he,h⟩:=cB h;split at h
  ·obtain⟨q,b7,hq,e1,b6,z0⟩:=bG hS h;clear h;have b9:Good w0 ρ b7.h w:=by rw[e1];exact hG
   split at z0
   ·rename_i s gen ty
    obtain⟨k1,z1⟩:=ay z0
    obtain⟨k2,z2⟩:=ay z1
    obtain⟨k3,z3⟩:=aN z2
    clear z0 z1 z2
    have k1:=aL k1
    have k2:=aL k2
    subst k1;subst k2
    have hsn:∀{m:Nat},s.length=m->m=0->s= []:=λe1 e2=>List.length_eq_zero_iff.1 (by omega)
    cases hx with
    |gsl _ _ _ _ hm c hn0 hh hsh hcc hz=>
     rcases hG.blk _ _ hq with h0|⟨hm',q1,q2,q3,arr,fr,q4,q5,q6,q7,q8⟩
     ·have h0:s.length=0:=h0;omega
     rw[hh] at q1;injection q1 with q1;subst q1;obtain⟨t,ht,c9⟩:=Ap (P:=P) (w:=w) (s:=s) (a:=⟨hm.blk,0,none⟩) (c:=c) hs hd he (λj n hj=>by
      have hjl:j<s.length:=by
       rcases aaf j s.length with h'|h'
       ·exact h'
       ·rw[aak h'] at hj;cases hj
      obtain⟨u,u1,u2⟩:=q8 j hjl 0 _ (uY hj);rw[bP];simp only [World.cell?,q4];simp only [aa3,Bool.false_eq_true,if_false,aam];have u1:arr[j * 1+0]? =some u:=u1;rw[aaF,aas] at u1;rw[u1];cases u2;rfl)
     rw[k3] at c9;exact .plain z3 b6 b9 (v:=.string t) (by rw[←ht];exact .sS t) c9
    |gnil _ _ _=>obtain rfl:=hsn k3 rfl;exact .plain z3 b6 b9 (v:=.string ⟨#[]⟩) (.sS ⟨#[]⟩) (run_convert_bytes_nil w src _ hs he 0 0 dst hd)
    |gempty _ _ _ a=>obtain rfl:=hsn k3 rfl;exact .plain z3 b6 b9 (v:=.string ⟨#[]⟩) (.sS ⟨#[]⟩) (run_convert_bytes_back w src dst _ a 0 [] hs he hd (λj hj=>by cases hj))
   ·exact(ah z0).elim
  ·exact(ah h).elim
 ·exact(ah h).elim
def Lz{src dst:TypeId}{x:AV}{v:Value}(hS:SI σ)(hG:Good w0 ρ σ.h w)(hx:VR ρ x v)(h:run (Us P src dst x k) σ K=true):Res P w0 ρ w k K (convert src dst v):=by
 rcases bU h with⟨_,h⟩|⟨_,h⟩
 ·exact Dg hS hG hx h
 ·exact Iz hS hG hx h
end
end Go.Sym
namespace Go.Sym
open Go.RowKit (Below)
section
variable{P:Program}{w0:World}{ρ:Rho}{w:World}{σ:St}{K:Fin}{k:AV->Tr}
def bx{r:Nat}{o:Obj}(h:w.heap[r]? =some o)(ho:∀c t f,o≠ .cells c t f):(getObj r).run P w= .ok o w:=by cases o <;> first|(exact absurd rfl (ho _ _ _))|(simp [getObj,Sem.run,h])
def Q9{x:AV}{v:Value}{f:Nat->Tr}(hx:VR ρ x v)(h:run (KR x f) σ K=true):∃n,run (f n) σ K=true/\∀w,(Builtin.lenOf v).run P w= .ok n w:=by
 cases hx with
 |nils=>exact⟨0,h,λ_=>rfl⟩
 |slc b g o len cap es a c hsl=>exact⟨len,h,λ_=>rfl⟩
 |str s=>
  have hn:(bytesOf s).length=s.size:=by unfold bytesOf;rw[aaK];rfl
  exact⟨s.size,by have:=jV h;rw[hn] at this;exact this,λ_=>rfl⟩
 |_=>exact(ah h).elim
def uZ{x:AV}{v:Value}{size n len:Nat}{f:List AV->Tr}(hS:SI σ)(hG:Good w0 ρ σ.h w)(hx:VR ρ x v)(hlen:(Builtin.lenOf v).run P w= .ok len w)(hn:n<=len)(T':1<=size)(h:run (oW size n x f) σ K=true):
 ∃l cs a9,a9.h=σ.h/\SI a9/\run (f l) a9 K=true/\LR ρ l cs/\cs.length=n * size/\∀w2:World,w2.heap=w.heap->(Builtin.firstCells size n v).run P w2= .ok cs.toArray w2:=by
 cases hx with
 |nils=>
  have:len=0:=by have:Result.ok 0 w=Result.ok len w:=hlen;injection this with e;exact e.symm
  subst this
  have:n=0:=by omega
  subst this
  exact⟨[],[],σ,rfl,hS,h,LR.nil ρ,by simp,λ_ _=>rfl⟩
 |slc b g o ln cap es a c hsl=>
  have:ln=len:=by have:Result.ok ln w=Result.ok len w:=hlen;injection this
  subst this
  rcases bU h with⟨hz,h⟩|⟨hz,h⟩
  ·have hz:=aL hz;refine⟨[],[],σ,rfl,hS,h,LR.nil ρ,by simp [hz],λw2 _=>?_⟩;simp [Builtin.firstCells,hz,loadCells,loadCellsFrom]
  ·have h:=jV h;have l9:0<ln:=by
    rcases aaS n with e|e
    ·subst e;simp at hz
    ·omega
   obtain⟨hm,hh,ho,ea⟩:=Dc hsl l9;subst ea;obtain⟨l,cs,a9,e1,C',h,hL,hlen,i6,_⟩:=gu (P:=P) hS hG hh ho h;refine⟨l,cs,a9,e1,C',h,hL,hlen,λw2 hw2=>run_firstCells_some w2 size n _ ln c cs hlen λj v hj=>?_⟩;rw[dC ho, ←i6 j v hj];simp only [World.cell?,hw2];rw[show o+j-hm.shift=o-hm.shift+j by omega]
 |str s=>
  obtain⟨h1,h⟩:=ay h
  have h1:=aL h1
  subst h1
  have h:=gZ (K_ h)
  have hls:s.size=len:=by have:Result.ok s.size w=Result.ok len w:=hlen;injection this
  have hL:=(nC ρ s).take n
  have e1:(eO (bytesOf s)).take n=eO ((bytesOf s).take n):=by simp [eO,List.map_take]
  rw[e1] at hL
  refine⟨_,_,σ,rfl,hS,h,hL, ?_,λw2 _=>?_⟩
  ·have:s.data.size=s.size:=rfl;simp;omega
  simp only [Builtin.firstCells,aad]
  congr 1
  apply Array.ext'
  simp [ByteArray.data_extract,abz]
 |_=>exact(ah h).elim
def Fo{e:TypeId}{size need:Nat}{old new:List AV}{ovs nvs:List Value}{rest:Nat->List Value}{a:Value}(hS:SI σ)(hG:Good w0 ρ σ.h w)(ho:LR ρ old ovs)(hn:LR ρ new nvs)(c:Nat)(hc:need<=c)(hr:ovs.length+nvs.length+(rest c).length=c * size)(h:run (mt e size old new need k) σ K=true)(s:Sem Value)(hs:s.run P w= .ok (.slice (some ⟨w.heap.size,0,none⟩) need c) (w.drew.alloc (.cells (ovs++nvs++rest c).toArray e))):Res P w0 ρ w k K s:=by
 have h:=gZ h
 have hL:=ho.append hn
 obtain⟨b,a9,h2,C',hle,j7⟩:=ph (w:=w.drew) (ovs++nvs++rest c).toArray e hS (hG.drawn _) (by simp [ho.1,hn.1]) (λi a ha=>by
  obtain⟨v,hv,hr⟩:=hL.get ha;refine⟨v, ?_,hr⟩;have hi:i<(ovs++nvs).length:=by
   rcases aaf i (ovs++nvs).length with h'|h'
   ·exact h'
   ·rw[aak h'] at hv;cases hv
  show(ovs++nvs++rest c).toArray[i]? =some v;rw[aa6,aaA hi];exact hv) h
 refine⟨_,a9,_,_,_,h2,C',j7,hle, ?_,hs⟩
 refine .slc _ _ _ _ _ _ _ _ ⟨hc,.inr ⟨_,Rho.put_at _ _ _ _,aap _,rfl, ?_⟩⟩
 show 0-0+c * size<=(ovs++nvs++rest c).toArray.size
 simp;omega
def IA{g:Nat}{f:T Cell->Tr}:∀(l:List AV) (i:Nat) (t:T Cell),run (KS g l i t f) σ K=true->
 ∃c,run (f c) σ K=true/\(∀a∈l,fQ a=true)/\∀o x,c.get o=some x->(∃(j:Nat) (a:AV),o=i+j/\l[j]? =some a/\x= .mk g a)∨(t.get o=some x/\(o<i∨i+l.length<=o)):=by
 intro l
 induction l with
 |nil=>intro i t h;exact⟨t,h,by simp,λo x hx=>.inr ⟨hx,by simp;omega⟩⟩
 |cons a l ih=>
  intro i t h
  have h:run (ac (fQ a) (T.setK t i (.mk g a) λt=>fN (Nat.succ i) λi=>KS g l i t f) .fail) σ K=true:=h
  obtain⟨h1,h⟩:=ay h
  rw[T.setK_eq] at h
  obtain⟨c,h2,h3,h4⟩:=ih _ _ (jV h)
  refine⟨c,h2,λb hb=>?_,λo x hx=>?_⟩
  ·rcases List.mem_cons.mp hb with e|hb
   ·subst e;exact h1
   ·exact h3 b hb
  ·rcases h4 o x hx with⟨j,b,e,hb,hx'⟩|⟨hx',ho⟩
   ·exact .inl ⟨j+1,b,by omega,by simpa using hb,hx'⟩
   ·by_cases e:o=i
    ·subst e;have:=T.get_set_some _ _ hx';exact .inl ⟨0,a,by omega,rfl,this⟩
    ·rw[T.get_set_ne _ e] at hx';exact .inr ⟨hx',by simp at ho⊢;omega⟩
def Good.fork{H:T ABlk}{w':World}(hG:Good w0 ρ H w){b gen lo hi fl fh hi' ty:Nat}{c c':T Cell}{h2:Home}(hb:H.get b=some (.cells c gen lo hi fl fh false ty))(f9:b+1<2 ^ 64)(hbe:Kept ρ.own w0.heap.size w w')(ah2:∀k,k<w.heap.size->(∀g h,ρ.at_ b g=some h->h.blk≠k)->w'.heap[k]? =w.heap[k]?)(T':w.heap.size<=w'.heap.size)(ac1:∀b' g h,b'≠b->ρ.at_ b' g=some h->w'.heap[h.blk]? =w.heap[h.blk]?)(hh2:h2.blk<w'.heap.size)(m7:(∃g',ρ.at_ b g'=some h2)∨w.heap.size<=h2.blk)(hB:ρ.le (ρ.put b (gen+1) h2)->BR (ρ.put b (gen+1) h2) w0.heap.size w' b (.cells c' (gen+1) lo hi' fl fh false ty)):
 ρ.le (ρ.put b (gen+1) h2)/\Good w0 (ρ.put b (gen+1) h2) (H.set b (.cells c' (gen+1) lo hi' fl fh false ty)) w':=by
 have ac7:ρ.at_ b (gen+1)=none:=by
  cases h:ρ.at_ b (gen+1) with
  |none=>rfl
  |some x=>have:gen+1<=gen:=hG.gens b (gen+1) x _ h hb;omega
 have hle:ρ.le (ρ.put b (gen+1) h2):=Rho.le_put ac7
 refine⟨hle,⟨hG.below.trans hbe,λb' y hy=>?_,λb' g h hh=>?_,λb1 g1 x1 b2 g2 x2 hx1 hx2 e=>?_,λb' g h y hh hy=>?_,λb' arr ty hf=>?_,hG.frzB,λb' k I l hb' g h hh=>?_⟩,λx hx=>by obtain⟨b,g,h,q1,q2,q3⟩:=hG.ownB x hx;exact⟨b,g,h,q1,hle.at_ _ _ _ q2,q3⟩⟩
 ·by_cases e:b'=b
  ·subst e;rw[T.get_set_same _ _ _ f9] at hy;injection hy with hy;subst hy;exact hB hle
  ·rw[T.get_set_ne _ e] at hy;exact(hG.blk b' y hy).keep hle λg h hh=>ac1 b' g h e hh
 ·simp only [Rho.put] at hh;split at hh
  ·rename_i e;injection hh with hh;subst hh;exact⟨hh2,_,by rw[e.1];exact T.get_set_same _ _ _ f9⟩
  ·obtain⟨q1,y,q2⟩:=hG.dom _ _ _ hh;refine⟨by omega, ?_⟩;by_cases e:b'=b
   ·subst e;exact⟨_,T.get_set_same _ _ _ f9⟩
   ·exact⟨y,by rw[T.get_set_ne _ e];exact q2⟩
 ·simp only [Rho.put] at hx1 hx2;split at hx1
  ·rename_i c1;injection hx1 with hx1;subst hx1;split at hx2
   ·rename_i c2;injection hx2 with hx2;exact⟨c1.1.trans c2.1.symm,hx2⟩
   ·rcases m7 with⟨g',hg'⟩|m7
    ·rw[c1.1];exact hG.inj _ _ _ _ _ _ hg' hx2 e
    ·have:=(hG.dom _ _ _ hx2).1;omega
  ·split at hx2
   ·rename_i c2;injection hx2 with hx2;subst hx2;rcases m7 with⟨g',hg'⟩|m7
    ·rw[c2.1];exact hG.inj _ _ _ _ _ _ hx1 hg' e
    ·have:=(hG.dom _ _ _ hx1).1;omega
   ·exact hG.inj _ _ _ _ _ _ hx1 hx2 e
 ·by_cases e:b'=b
  ·subst e;rw[T.get_set_same _ _ _ f9] at hy;injection hy with hy;subst hy;simp only [Rho.put] at hh;split at hh
   ·rename_i c1;show g<=gen+1;omega
   ·have:g<=gen:=hG.gens b' g h _ hh hb;show g<=gen+1;omega
  ·rw[T.get_set_ne _ e] at hy;simp only [Rho.put] at hh;split at hh
   ·rename_i c1;exact absurd c1.1 e
   ·exact hG.gens b' g h y hh hy
 ·have hf:ρ.frz b'=some (arr,ty):=hf;obtain⟨⟨fr,q1⟩,q2⟩:=hG.frz b' arr ty hf;have c8:b'<w.heap.size:=by
   rcases aaf b' w.heap.size with h'|h'
   ·exact h'
   ·rw[aaT h'] at q1;cases q1
  refine⟨⟨fr,by rw[ah2 b' c8 (λg h hh=>hG.frzE hf hh hb (λh=>h))];exact q1⟩,λb1 g h hh e=>?_⟩;simp only [Rho.put] at hh;split at hh
  ·injection hh with hh;subst hh;rcases m7 with⟨g',hg'⟩|m7
   ·exact absurd e (hG.frzE hf hg' hb (λh=>h))
   ·omega
  ·obtain⟨y,r1,r2⟩:=q2 _ _ _ hh e;exact⟨y,by rw[T.get_set_ne _ (λe=>by subst e;rw[hb] at r1;injection r1 with r1;subst r1;exact(show False from r2))];exact r1,r2⟩
 ·by_cases e:b'=b
  ·subst e;rw[T.get_set_same _ _ _ f9] at hb';injection hb' with hb';exact absurd hb' (λh=>by cases h)
  ·rw[T.get_set_ne _ e] at hb';simp only [Rho.put] at hh;split at hh
   ·rename_i c1;exact absurd c1.1 e
   ·exact hG.objO b' k I l hb' g h hh
def Good.forkX{H:T ABlk}{w':World}(hG:Good w0 ρ H w){b gen:Nat}{x0 x:ABlk}{h2:Home}(hb:H.get b=some x0)(hg0:∀g,Kw g x0->g<=gen)(hg1:∀g,g<=gen+1->Kw g x)(f9:b+1<2 ^ 64)(hbe:Kept ρ.own w0.heap.size w w')(ah2:∀k,k<w.heap.size->(∀g h,ρ.at_ b g=some h->h.blk≠k)->w'.heap[k]? =w.heap[k]?)(T':w.heap.size<=w'.heap.size)(ac1:∀b' g h,b'≠b->ρ.at_ b' g=some h->w'.heap[h.blk]? =w.heap[h.blk]?)(hh2:h2.blk<w'.heap.size)(m7:(∃g',ρ.at_ b g'=some h2)∨w.heap.size<=h2.blk)(hB:ρ.le (ρ.put b (gen+1) h2)->BR (ρ.put b (gen+1) h2) w0.heap.size w' b x)(hnf:¬zK x0:=by exact λh=>h)(hxo:∀k I l,x≠ .obj k I l:=by intro _ _ _ h;cases h):
 ρ.le (ρ.put b (gen+1) h2)/\Good w0 (ρ.put b (gen+1) h2) (H.set b x) w':=by
 have ac7:ρ.at_ b (gen+1)=none:=by
  cases h:ρ.at_ b (gen+1) with
  |none=>rfl
  |some y=>have:gen+1<=gen:=hg0 _ (hG.gens b (gen+1) y _ h hb);omega
 have hle:ρ.le (ρ.put b (gen+1) h2):=Rho.le_put ac7
 refine⟨hle,⟨hG.below.trans hbe,λb' y hy=>?_,λb' g h hh=>?_,λb1 g1 x1 b2 g2 x2 hx1 hx2 e=>?_,λb' g h y hh hy=>?_,λb' arr ty hf=>?_,hG.frzB,λb' k I l hb' g h hh=>?_⟩,λx hx=>by obtain⟨b,g,h,q1,q2,q3⟩:=hG.ownB x hx;exact⟨b,g,h,q1,hle.at_ _ _ _ q2,q3⟩⟩
 ·by_cases e:b'=b
  ·subst e;rw[T.get_set_same _ _ _ f9] at hy;injection hy with hy;subst hy;exact hB hle
  ·rw[T.get_set_ne _ e] at hy;exact(hG.blk b' y hy).keep hle λg h hh=>ac1 b' g h e hh
 ·simp only [Rho.put] at hh;split at hh
  ·rename_i e;injection hh with hh;subst hh;exact⟨hh2,_,by rw[e.1];exact T.get_set_same _ _ _ f9⟩
  ·obtain⟨q1,y,q2⟩:=hG.dom _ _ _ hh;refine⟨by omega, ?_⟩;by_cases e:b'=b
   ·subst e;exact⟨_,T.get_set_same _ _ _ f9⟩
   ·exact⟨y,by rw[T.get_set_ne _ e];exact q2⟩
 ·simp only [Rho.put] at hx1 hx2;split at hx1
  ·rename_i c1;injection hx1 with hx1;subst hx1;split at hx2
   ·rename_i c2;injection hx2 with hx2;exact⟨c1.1.trans c2.1.symm,hx2⟩
   ·rcases m7 with⟨g',hg'⟩|m7
    ·rw[c1.1];exact hG.inj _ _ _ _ _ _ hg' hx2 e
    ·have:=(hG.dom _ _ _ hx2).1;omega
  ·split at hx2
   ·rename_i c2;injection hx2 with hx2;subst hx2;rcases m7 with⟨g',hg'⟩|m7
    ·rw[c2.1];exact hG.inj _ _ _ _ _ _ hx1 hg' e
    ·have:=(hG.dom _ _ _ hx1).1;omega
   ·exact hG.inj _ _ _ _ _ _ hx1 hx2 e
 ·by_cases e:b'=b
  ·subst e;rw[T.get_set_same _ _ _ f9] at hy;injection hy with hy;subst hy;simp only [Rho.put] at hh;split at hh
   ·rename_i c1;exact hg1 g (by omega)
   ·have:g<=gen:=hg0 _ (hG.gens b' g h _ hh hb);exact hg1 g (by omega)
  ·rw[T.get_set_ne _ e] at hy;simp only [Rho.put] at hh;split at hh
   ·rename_i c1;exact absurd c1.1 e
   ·exact hG.gens b' g h y hh hy
 ·have hf:ρ.frz b'=some (arr,ty):=hf;obtain⟨⟨fr,q1⟩,q2⟩:=hG.frz b' arr ty hf;have c8:b'<w.heap.size:=by
   rcases aaf b' w.heap.size with h'|h'
   ·exact h'
   ·rw[aaT h'] at q1;cases q1
  refine⟨⟨fr,by rw[ah2 b' c8 (λg h hh=>hG.frzE hf hh hb hnf)];exact q1⟩,λb1 g h hh e=>?_⟩;simp only [Rho.put] at hh;split at hh
  ·injection hh with hh;subst hh;rcases m7 with⟨g',hg'⟩|m7
   ·exact absurd e (hG.frzE hf hg' hb hnf)
   ·omega
  ·obtain⟨y,r1,r2⟩:=q2 _ _ _ hh e;exact⟨y,by rw[T.get_set_ne _ (λe=>by subst e;rw[hb] at r1;injection r1 with r1;subst r1;exact(hnf:¬zK _) r2)];exact r1,r2⟩
 ·by_cases e:b'=b
  ·subst e;rw[T.get_set_same _ _ _ f9] at hb';injection hb' with hb';exact absurd hb' (hxo _ _ _)
  ·rw[T.get_set_ne _ e] at hb';simp only [Rho.put] at hh;split at hh
   ·rename_i c1;exact absurd c1.1 e
   ·exact hG.objO b' k I l hb' g h hh
def xu{b g gen:Nat}{h h2:Home}(hg:g<=gen)(hh:ρ.at_ b g=some h):(ρ.put b (gen+1) h2).at_ b g=some h:=by simp only [Rho.put];rw[if_neg (λe=>by omega)];exact hh
def IB{b gen lo fl fh len size n ty:Nat}{c0:T Cell}{new:List AV}{nvs:List Value}{H:T ABlk}{h:Home}(hG:Good w0 ρ H w)(f9:b+1<2 ^ 64)(hb:H.get b=some (.cells c0 gen lo (lo+len * size) fl fh false ty))(hh:ρ.at_ b gen=some h)(ho:h.shift<=lo)(hfh:fh<=lo+len * size)(m7:LR ρ new nvs)(hn:new.length=n * size){cap:Nat}(aq5:len+n<=cap)(ac3:lo-h.shift+cap * size<=h.size)(ab0:∀a∈new,fQ a=true){c:T Cell}(hc:∀o x,c.get o=some x->(∃(j:Nat) (a:AV),o=(lo+len * size)+j/\new[j]? =some a/\x= .mk (gen+1) a)∨(c0.get o=some x/\(o<lo+len * size∨lo+len * size+new.length<=o))):
 ∃w',(storeCells ((⟨h.blk,lo-h.shift,none⟩:Addr).add (len * size)) nvs).run P w= .ok () w'/\ρ.le (ρ.put b (gen+1) h)/\Good w0 (ρ.put b (gen+1) h) (H.set b (.cells c (gen+1) lo (lo+len * size+n * size) fl fh false ty)) w':=by
 have hB:=hG.blk _ _ hb
 obtain⟨hm,q1,q2,_,arr,fr,q3,q4,q5,q6⟩:=hB.2 gen (aaa _)
 rw[hh] at q1;injection q1 with q1;subst q1
 have q2:=q2 rfl
 obtain⟨q5a,q5b⟩:=q5 rfl
 have hnl:nvs.length=n * size:=by rw[m7.1,hn]
 have hmul:(len+n) * size<=cap * size:=abg aq5 (aaa _)
 rw[aaz] at hmul
 have ac8:lo+len * size-h.shift+nvs.length<=arr.size:=by rw[hnl,q4];omega
 obtain⟨u0,s1,s2,s3,s4,s5,s6,s7⟩:=fe h.blk nvs (lo+len * size-h.shift) w arr ty fr q3 ac8
 have A':=run_storeCells_cells (P:=P) h.blk (lo+len * size-h.shift) nvs 0 w (λj hj=>by
  simp only [World.cell?,q3]
  simp only [aa3,Bool.false_eq_true,if_false,aas]
  rw[aaM (by omega)];rfl) (λj hj=>by
  simp only [World.frozen?,q3,aas]
  cases hx:(decide (fr.1<=lo+len * size-h.shift+j) && decide (lo+len * size-h.shift+j<fr.2)) with
  |false=>rfl
  |true=>simp only [Bool.and_eq_true,decide_eq_true_eq] at hx;have:=q5b _ (.inl (show lo+len * size-h.shift+j<h.size by rw[←q4];omega)) hx.1 hx.2;omega) (m7.ones ab0)
 rw[aas] at A'
 refine⟨_,by rw[dC ho];exact A', ?_⟩
 refine hG.fork hb f9 (Kept.of_set (s7 0 (aap _)) s5 q2) (λk _ hk=>s5 k (λe=>hk gen h hh e.symm)) (by omega) (λb' g' h' m8 j9=>s5 _ λe'=>m8 (hG.inj _ _ _ _ _ _ j9 hh e').1) (by have:=(hG.dom _ _ _ hh).1;omega) (.inl ⟨gen,hh⟩) λhle=>⟨λo x hx=>?_,λg hg=>?_⟩
 ·rcases hc o x hx with⟨j,a,e1,e2,e3⟩|⟨hx,c8⟩
  ·have:j<new.length:=by
    rcases aaf j new.length with h'|h'
    ·exact h'
    ·rw[aak h'] at e2;cases e2
   subst e3;exact⟨by omega,by omega,aaa _⟩
  ·have:=hB.1 o x hx;omega
 ·by_cases eg:g=gen+1
  ·subst eg;refine⟨h,Rho.put_at _ _ _ _,λ_=>q2,(λhc=>by cases hc),u0,fr,s1,by omega,λ_=>⟨q5a,q5b⟩,λo tag a hoa ht=>?_⟩;rcases hc o _ hoa with⟨j,a',e1,e2,e3⟩|⟨hx,c8⟩
   ·injection e3 with e3 e4;subst e4;have hj:j<new.length:=by
     rcases aaf j new.length with h'|h'
     ·exact h'
     ·rw[aak h'] at e2;cases e2
    obtain⟨v,hv,hr⟩:=m7.get e2;refine⟨by omega,v, ?_,hr.mono hle⟩;rw[show o-h.shift=lo+len * size-h.shift+j by omega,s3 j (by omega)];exact hv
   ·have hin:=hB.1 o _ hx;obtain⟨r1,v,r2,r3⟩:=q6 o tag a hx (by have:=hin.2.2;exact this);refine⟨r1,v, ?_,r3.mono hle⟩;rw[s4 _ (.inl (by omega))];exact r2
  ·have hg:g<=gen:=by omega
   obtain⟨hm',t1,t2,t2',ak8,fr1,t3,t4,t5,t6⟩:=hB.2 g hg;by_cases eb:hm'.blk=h.blk
   ·obtain⟨_,ehm⟩:=hG.inj _ _ _ _ _ _ t1 hh eb;subst ehm;rw[q3] at t3;injection t3 with t3;injection t3 with t3a t3b t3c;subst t3a;subst t3c;refine⟨_,xu hg t1,t2,t2',u0,fr,s1,by omega,t5,λo tag a hoa ht=>?_⟩;rcases hc o _ hoa with⟨j,a',e1,e2,e3⟩|⟨hx,c8⟩
    ·injection e3 with e3 e4;omega
    ·have hin:=hB.1 o _ hx;obtain⟨r1,v,r2,r3⟩:=t6 o tag a hx ht;refine⟨r1,v, ?_,r3.mono hle⟩;rw[s4 _ (.inl (by omega))];exact r2
   ·refine⟨hm',xu hg t1,t2,t2',ak8,fr1,by rw[s5 _ eb];exact t3,t4,t5,λo tag a hoa ht=>?_⟩;rcases hc o _ hoa with⟨j,a',e1,e2,e3⟩|⟨hx,c8⟩
    ·injection e3 with e3 e4;omega
    ·obtain⟨r1,v,r2,r3⟩:=t6 o tag a hx ht;exact⟨r1,v,r2,r3.mono hle⟩
def LA{b gen lo fl fh len size n:Nat}{c0:T Cell}{new:List AV}{nvs olds rest:List Value}{H:T ABlk}{h:Home}{e2:TypeId}(hG:Good w0 ρ H w)(f9:b+1<2 ^ 64)(hb:H.get b=some (.cells c0 gen lo (lo+len * size) fl fh false e2))(hh:ρ.at_ b gen=some h)(m7:LR ρ new nvs)(hn:new.length=n * size)(at5:olds.length=len * size)(hsl:0<len->h.shift<=lo)(hold:∀j v,olds[j]? =some v->0<len->w.cell? ⟨h.blk,lo-h.shift+j,none⟩=some v){c:T Cell}(hc:∀o x,c.get o=some x->(∃(j:Nat) (a:AV),o=(lo+len * size)+j/\new[j]? =some a/\x= .mk (gen+1) a)∨(c0.get o=some x/\(o<lo+len * size∨lo+len * size+new.length<=o))):
 ρ.le (ρ.put b (gen+1) ⟨w.heap.size,lo,(olds++nvs++rest).length⟩)/\
 Good w0 (ρ.put b (gen+1) ⟨w.heap.size,lo,(olds++nvs++rest).length⟩) (H.set b (.cells c (gen+1) lo (lo+len * size+n * size) fl fh false e2)) (w.drew.alloc (.cells (olds++nvs++rest).toArray e2)):=by
 have hB:=hG.blk _ _ hb
 have ad_:∀k,k<w.heap.size->(w.drew.alloc (.cells (olds++nvs++rest).toArray e2)).heap[k]? =w.heap[k]? :=λk hk=>Below.heap_alloc w.drew _ k hk
 have hnl:nvs.length=n * size:=by rw[m7.1,hn]
 refine hG.fork hb f9 (Kept.of (((Below.refl _ _).drew).alloc hG.below.size _)) (λk hk _=>ad_ k hk) (by simp) (λb' g' h' _ j9=>ad_ _ (hG.dom _ _ _ j9).1) (by simp) (.inr (aaa _)) λhle=>⟨λo x hx=>?_,λg hg=>?_⟩
 ·rcases hc o x hx with⟨j,a,e1,e2,e3⟩|⟨hx,c8⟩
  ·have:j<new.length:=by
    rcases aaf j new.length with h'|h'
    ·exact h'
    ·rw[aak h'] at e2;cases e2
   subst e3;exact⟨by omega,by omega,aaa _⟩
  ·have:=hB.1 o x hx;omega
 ·by_cases eg:g=gen+1
  ·subst eg;refine⟨_,Rho.put_at _ _ _ _,λ_=>.new hG.below.size,(λhc=>by cases hc),(olds++nvs++rest).toArray,(0,0), ?_,by simp,λ_=>⟨aaa _,λx _ _ h3=>absurd h3 (by simp)⟩,λo tag a hoa ht=>?_⟩
   ·show(w.heap.push _)[w.heap.size]? =_;simp
   rcases hc o _ hoa with⟨j,a',e1,e2',e3⟩|⟨hx,c8⟩
   ·injection e3 with e3 e4;subst e4;have hj:j<new.length:=by
     rcases aaf j new.length with h'|h'
     ·exact h'
     ·rw[aak h'] at e2';cases e2'
    obtain⟨v,hv,hr⟩:=m7.get e2';refine⟨by show lo<=o;omega,v, ?_,hr.mono hle⟩;show(olds++nvs++rest).toArray[o-lo]? =some v;rw[aa6,aav,aax (by omega),aaA (by omega),show o-lo-olds.length=j by omega];exact hv
   ·have hin:=hB.1 o _ hx;obtain⟨hm,q1,q2,_,arr,fr,q3,q4,q5,q6⟩:=hB.2 gen (aaa _);rw[hh] at q1;injection q1 with q1;subst q1;obtain⟨r1,v,r2,r3⟩:=q6 o tag a hx (by have:=hin.2.2;exact this);refine⟨hin.1,v, ?_,r3.mono hle⟩;have c8:o-lo<olds.length:=by omega
    show(olds++nvs++rest).toArray[o-lo]? =some v;rw[aa6,aav,aaA c8];have l9:0<len:=by
     rcases aaS len with e0|e0
     ·subst e0;omega
     ·exact e0
    have:=hold (o-lo) olds[o-lo] (aai c8) l9;have hsl:=hsl l9;rw[show lo-h.shift+(o-lo)=o-h.shift by omega] at this;simp [World.cell?,q3,r2] at this;rw[aai c8,this]
  ·have hg:g<=gen:=by omega
   obtain⟨hm',t1,t2,t2',ak8,fr1,t3,t4,t5,t6⟩:=hB.2 g hg;refine⟨hm',xu hg t1,t2,t2',ak8,fr1,by rw[ad_ _ (hG.dom _ _ _ t1).1];exact t3,t4,t5,λo tag a hoa ht=>?_⟩;rcases hc o _ hoa with⟨j,a',e1,e2,e3⟩|⟨hx,c8⟩
   ·injection e3 with e3 e4;omega
   ·obtain⟨r1,v,r2,r3⟩:=t6 o tag a hx ht;exact⟨r1,v,r2,r3.mono hle⟩
def mc(f:Nat->List AV)(len size:Nat)(new:List AV):Nat->List AV:=λi=>if i<len then f i else(new.drop ((i-len) * size)).take size
def pj{f:Nat->List AV}{len size i:Nat}{new:List AV}(h:i<len):mc f len size new i=f i:=by unfold mc;rw[if_pos h]
def lG{f:Nat->List AV}{len size i:Nat}{new:List AV}(h:¬i<len):mc f len size new i=(new.drop ((i-len) * size)).take size:=by unfold mc;rw[if_neg h]
def IC{f:Nat->List AV}{len size n i:Nat}{new:List AV}(h:¬i<len)(hi:i<len+n)(hn:new.length=n * size):(mc f len size new i).length=size:=by
 rw[lG h,aal,aao,hn];have:(i-len) * size+size<=n * size:=by rw[←aaN];exact aay _ (by omega)
 omega
def ID{f:Nat->List AV}{len size i j:Nat}{new:List AV}{a:AV}(h:¬i<len)(ha:(mc f len size new i)[j]? =some a):j<size/\new[(i-len) * size+j]? =some a:=by
 rw[lG h] at ha;have hj:j<size:=by
  rcases aaf j size with h'|h'
  ·exact h'
  ·rw[aak (by rw[aal];omega)] at ha;cases ha
 rw[aar hj,aat] at ha;exact⟨hj,ha⟩
def rX{f:Nat->List AV}{len size n:Nat}{new:List AV}{nvs:List Value}{arr:Array Value}(m7:LR ρ new nvs)(hn:new.length=n * size)(h1:∀i,i<len->(f i).length=size/\∀j a,(f i)[j]? =some a->∃u,arr[i * size+j]? =some u/\VR ρ a u)(h2:∀j v,nvs[j]? =some v->arr[len * size+j]? =some v):
 ∀i,i<len+n->(mc f len size new i).length=size/\∀j a,(mc f len size new i)[j]? =some a->∃u,arr[i * size+j]? =some u/\VR ρ a u:=by
 intro i hi
 by_cases h:i<len
 ·rw[pj h];exact h1 i h
 ·refine⟨IC h hi hn,λj a ha=>?_⟩;obtain⟨hj,ha⟩:=ID h ha;obtain⟨u,hu,hr⟩:=m7.get ha;refine⟨u, ?_,hr⟩;have:=h2 _ _ hu;rw[←abr, ←aaz,show len+(i-len)=i by omega] at this;exact this
def LB(P:Program)(w0:World)(ρ:Rho)(w:World)(H:T ABlk)(b:Nat)(x:ABlk)(a:AV)(s:Sem Value):Prop:=∃ρ' v' w',Good w0 ρ' (H.set b x) w'/\ρ.le ρ'/\VR ρ' a v'/\s.run P w= .ok v' w'
def u_{H:T ABlk}{tys:Array TypeId}{ts tx e ty:TypeId}{dx:TypeDesc}{i:TypeInfo}{z:Value}{b g len n:Nat}{l:List AV}{cs:List Value}{v u:Value}{c0 c1:Ct}(hG:Good w0 ρ H w)(hx:VR ρ (.gsl b g len i.size) v)(h0:tys[0]? =some ts)(h1:tys[1]? =some tx)(ht:P.underlying ts=some (.slice e))(hdx:P.underlying tx=some dx)(hni:∀j,dx≠ .int j)(hi:P.info? e=some i)(hby:i.bytes<=1000)(hiz:i.zero=some z)(hzs:z.cells.size=i.size)(hlen:∀w:World,(Builtin.lenOf u).run P w= .ok n w)(hn:n<=1000000)(l9:0<n)(hL:LR ρ l cs)(hcl:cs.length=n * i.size)(o6:∀w2:World,w2.heap=w.heap->(Builtin.firstCells i.size n u).run P w2= .ok cs.toArray w2)(M':H.get b=some (.grow c0 g e))(f9:b+1<2 ^ 64)(k2:c0.es=i.size)(k4:l.length=n * i.size)(ab0:∀a∈l,fQ a=true)(k6:c0.len=len)(k7:len<=1000000000)(a1:c1.len=c0.len+n)(a2:c1.es=c0.es)(ato:∀(ρ2:Rho) (i2:Nat),i2<c0.len+n->∀vs,LR ρ2 (mc c0.row c0.len c0.es l i2) vs->LR ρ2 (c1.row i2) vs):LB P w0 ρ w H b (.grow c1 (g+1) e) (.gsl b (g+1) (len+n) i.size) (Builtin.append_ tys ty #[v,u]):=by
 obtain⟨f,hf⟩:∃f,f=c0.row:=⟨_,rfl⟩
 obtain⟨m,hm9⟩:∃m,m=c0.len:=⟨_,rfl⟩
 have hfl:∀ii,(f ii).length=i.size:=λii=>by rw[hf,c0.row_len,k2]
 rw[←hf, ←hm9,k2] at ato
 rw[←hm9] at a1 k6
 rw[k2] at a2
 subst k6
 have hB:=hG.blk _ _ M'
 have hnb:n * i.bytes<=1000000 * 1000:=abg hn hby
 have fresh:∀(base:Option Addr) (c:Nat) (olds:List Value),v= .slice base m c->c<m+n->Builtin.nextslicecap (m+n) c * i.bytes<=281474976710656->olds.length=m * i.size->
  (∀ii,ii<m->(f ii).length=i.size/\∀j a,(f ii)[j]? =some a->∃uu,olds[ii * i.size+j]? =some uu/\VR ρ a uu)->(Builtin.firstCells i.size m (.slice base m c)).run P w.drew= .ok olds.toArray w.drew->LB P w0 ρ w H b (.grow c1 (g+1) e) (.gsl b (g+1) (m+n) i.size) (Builtin.append_ tys ty #[v,u]):=by
  intro base c olds ev c8 ac3 hol hoc hof
  subst ev
  have c9:=ed (P:=P) (w:=w) (ty:=ty) h0 h1 ht hdx hni hi hiz (hlen w) c8 (by omega) ac3 hof (o6 _ rfl)
  have hge:=grownCap_ge w (m+n) c e
  have ad_:∀k,k<w.heap.size->(w.drew.alloc (.cells (olds++cs++(Builtin.zeroCells z.cells (grownCap w (m+n) c e-(m+n))).toList).toArray e)).heap[k]? =w.heap[k]? :=λk hk=>Below.heap_alloc w.drew _ k hk
  have T':(olds++cs++(Builtin.zeroCells z.cells (grownCap w (m+n) c e-(m+n))).toList).length=grownCap w (m+n) c e * i.size:=by rw[aah,aah,hol,hcl,aaJ,size_zeroCells,hzs, ←aaz, ←aaz];congr 1;omega
  obtain⟨hle,hG3⟩:=hG.forkX (w':=w.drew.alloc (.cells (olds++cs++(Builtin.zeroCells z.cells (grownCap w (m+n) c e-(m+n))).toList).toArray e)) (x:=.grow c1 (g+1) e) (gen:=g)
   (h2:=⟨w.heap.size,0,grownCap w (m+n) c e * i.size⟩) M' (λg' h'=>h') (λg' h'=>h') f9 (Kept.of (((Below.refl _ _).drew).alloc hG.below.size _)) (λk hk _=>ad_ k hk) (by simp) (λb' g' h' _ j9=>ad_ _ (hG.dom _ _ _ j9).1) (by simp) (.inr (aaa _)) (λhle=>by
    refine .inr ⟨_,Rho.put_at _ _ _ _,rfl,.new hG.below.size,(olds++cs++(Builtin.zeroCells z.cells (grownCap w (m+n) c e-(m+n))).toList).toArray,(0,0), ?_,by rw[List.size_toArray];exact T', ?_,λx _ _ h3=>absurd h3 (by simp), ?_⟩
    ·show(w.heap.push _)[w.heap.size]? =_;simp
    ·rw[a1,a2];exact aay _ hge
    ·intro ii hii;rw[a1] at hii;rw[a2];have:=rX (ρ:=ρ) (f:=f) (len:=m) (arr:=(olds++cs++(Builtin.zeroCells z.cells (grownCap w (m+n) c e-(m+n))).toList).toArray) hL k4 (λi2 hi2=>⟨(hoc i2 hi2).1,λj a ha=>by
      obtain⟨uu,u1,u2⟩:=(hoc i2 hi2).2 j a ha;refine⟨uu, ?_,u2⟩;have hjl:i2 * i.size+j<olds.length:=by
       rcases aaf (i2 * i.size+j) olds.length with h'|h'
       ·exact h'
       ·rw[aak h'] at u1;cases u1
      rw[aa6,aav,aaA hjl];exact u1⟩) (λj vv hv=>by
      have hjl:j<cs.length:=by
       rcases aaf j cs.length with h'|h'
       ·exact h'
       ·rw[aak h'] at hv;cases hv
      rw[aa6,aav,aax (by omega),aaA (by omega),show m * i.size+j-olds.length=j by omega];exact hv) ii hii
     exact nx (λj a ha=>by obtain⟨uu,u1,u2⟩:=this.2 j a ha;exact⟨uu,u1,u2.mono hle⟩) (ato _ ii hii))
  refine⟨_,_,_,hG3,hle,.gsl b (g+1) (m+n) i.size _ (grownCap w (m+n) c e) (by omega) (Rho.put_at _ _ _ _) rfl hge (aaa _),c9⟩
 cases hx with
 |gnil _ _ _=>
  refine fresh none 0 [] rfl (by omega) (by rw[aam,nextslicecap_zero l9];omega) (by simp) (λii hii=>by omega) (by simp [Builtin.firstCells])
 |gempty _ _ _ a=>
  refine fresh (some a) 0 [] rfl (by omega) (by rw[aam,nextslicecap_zero l9];omega) (by simp) (λii hii=>by omega) (by simp [Builtin.firstCells,loadCells,loadCellsFrom])
 |gsl _ _ _ _ hm c hm0 hh hsh hc hz=>
  rcases hB with hB|⟨hm',q1,q2,q3,arr,fr,q4,q5,q6,q7,q8⟩
  ·omega
  rw[←hf, ←hm9,k2] at q8
  rw[←hm9,k2] at q6
  rw[hh] at q1;injection q1 with q1;subst q1
  rcases aaf c (m+n) with c8|ab_
  ·have hmc:m * i.size<=c * i.size:=aay _ hc;refine fresh (some ⟨hm.blk,0,none⟩) c (arr.toList.take (m * i.size)) rfl c8 ?_ (by rw[aal,aaJ];omega) (λii hii=>⟨hfl ii,λj a ha=>?_⟩) ?_
   ·have h1:Builtin.nextslicecap (m+n) c<=2 * (m+n):=nextslicecap_le c8;have h2:=abg h1 hby;omega
   ·obtain⟨uu,u1,u2⟩:=q8 ii hii j a ha;refine⟨uu, ?_,u2⟩;have hj:j<i.size:=by
     have:=hfl ii;rcases aaf j (f ii).length with h'|h'
     ·omega
     ·rw[aak h'] at ha;cases ha
    have:ii * i.size+i.size<=m * i.size:=by rw[←aaN];exact aay _ hii
    rw[aar (by omega)];simpa using u1
   ·refine run_firstCells_some _ i.size m _ m c _ (by rw[aal,aaJ];omega) λj vv hj=>?_;rw[bP];rw[aa0] at hj;split at hj
    ·show w.cell? _=_;rw[aam];simp [World.cell?,q4];simpa using hj
    ·cases hj
  ·have hmul:(m+n) * i.size<=c * i.size:=aay _ ab_;rw[aaz] at hmul;have ac8:m * i.size+cs.length<=arr.size:=by rw[hcl];omega
   obtain⟨u0,s1,s2,s3,s4,s5,s6,s7⟩:=fe hm.blk cs (m * i.size) w arr e fr q4 ac8;have A':=run_storeCells_cells (P:=P) hm.blk (m * i.size) cs 0 w (λj hj=>by
    simp only [World.cell?,q4]
    simp only [aa3,Bool.false_eq_true,if_false,aas]
    rw[aaM (by omega)];rfl) (λj hj=>by
    simp only [World.frozen?,q4,aas]
    cases hx:(decide (fr.1<=m * i.size+j) && decide (m * i.size+j<fr.2)) with
    |false=>rfl
    |true=>simp only [Bool.and_eq_true,decide_eq_true_eq] at hx;exact(q7 _ (by omega) hx.1 hx.2).elim) (hL.ones ab0)
   rw[aas] at A';have c9:=eR (P:=P) (w:=w) (ty:=ty) h0 h1 ht hdx hni hi (hlen w) ab_ (o6 w rfl) (a:=⟨hm.blk,0,none⟩) (by rw[bP,aam];exact A');obtain⟨hle,hG3⟩:=hG.forkX (w':=w.setCells hm.blk (m * i.size) cs) (x:=.grow c1 (g+1) e) (gen:=g) (h2:=hm) M' (λg' h'=>h') (λg' h'=>h') f9
    (Kept.of_set (s7 0 (aap _)) s5 q3) (λk _ hk=>s5 k (λe=>hk g hm hh e.symm)) (by omega) (λb' g' h' m8 j9=>s5 _ λe'=>m8 (hG.inj _ _ _ _ _ _ j9 hh e').1) (by have:=(hG.dom _ _ _ hh).1;omega) (.inl ⟨g,hh⟩) (λhle=>by
     refine .inr ⟨_,Rho.put_at _ _ _ _,q2,q3,u0,fr,s1,by omega,by rw[a1,a2,aaz];omega,q7, ?_⟩;intro ii hii;rw[a1] at hii;rw[a2];have:=rX (ρ:=ρ) (f:=f) (len:=m) (arr:=u0) hL k4 (λi2 hi2=>⟨hfl i2,λj a ha=>by
      obtain⟨uu,u1,u2⟩:=q8 i2 hi2 j a ha;refine⟨uu, ?_,u2⟩;have hj:j<i.size:=by
       have:=hfl i2;rcases aaf j (f i2).length with h'|h'
       ·omega
       ·rw[aak h'] at ha;cases ha
      have:i2 * i.size+i.size<=m * i.size:=by rw[←aaN];exact aay _ hi2
      rw[s4 _ (.inl (by omega))];exact u1⟩) (λj vv hv=>by
      have hjl:j<cs.length:=by
       rcases aaf j cs.length with h'|h'
       ·exact h'
       ·rw[aak h'] at hv;cases hv
      rw[s3 j hjl];exact hv) ii hii
     exact nx (λj a ha=>by obtain⟨uu,u1,u2⟩:=this.2 j a ha;exact⟨uu,u1,u2.mono hle⟩) (ato _ ii hii))
   exact⟨_,_,_,hG3,hle,.gsl b (g+1) (m+n) i.size hm c (by omega) (Rho.put_at _ _ _ _) hsh ab_ hz,c9⟩
def Aq{tys:Array TypeId}{ts tx e ty:TypeId}{dx:TypeDesc}{i:TypeInfo}{z:Value}{b g len n:Nat}{l:List AV}{cs:List Value}{v u:Value}(hS:SI σ)(hG:Good w0 ρ σ.h w)(hx:VR ρ (.gsl b g len i.size) v)(h0:tys[0]? =some ts)(h1:tys[1]? =some tx)(ht:P.underlying ts=some (.slice e))(hdx:P.underlying tx=some dx)(hni:∀j,dx≠ .int j)(hi:P.info? e=some i)(hby:i.bytes<=1000)(hiz:i.zero=some z)(hzs:z.cells.size=i.size)(hlen:∀w:World,(Builtin.lenOf u).run P w= .ok n w)(hn:n<=1000000)(l9:0<n)(hL:LR ρ l cs)(hcl:cs.length=n * i.size)(o6:∀w2:World,w2.heap=w.heap->(Builtin.firstCells i.size n u).run P w2= .ok cs.toArray w2)(h:run (KT e b g len i.size n l k) σ K=true):Res P w0 ρ w k K (Builtin.append_ tys ty #[v,u]):=by
 have f9:=cW hS h
 obtain⟨q,b7,hq,e1,b6,h⟩:=bG hS h
 have b9:Good w0 ρ b7.h w:=by rw[e1];exact hG
 cases q with
 |grow c0 gen t2=>
  obtain⟨k1,z1⟩:=ay h
  obtain⟨k2,z2⟩:=ay z1
  obtain⟨k3,z3⟩:=ay z2
  obtain⟨k4,z4⟩:=ay z3
  obtain⟨k5,z5⟩:=ay z4
  cases hap:c0.app l n with
  |none=>rw[hap] at z5;exact(ah z5).elim
  |some r0=>
  obtain⟨c1,pr⟩:=r0
  rw[hap] at z5
  obtain⟨⟨k6,k7,kp⟩,z6⟩:=aN z5
  obtain⟨x0,i3,hx0,e2,i9,_,z7⟩:=ft b6 z6
  clear h z1 z2 z3 z4 z5 z6
  have k1:=aL k1
  have k2:=aL k2
  have k3:=aL k3
  have k4:=aL k4
  have ab0:∀a∈l,fQ a=true:=λa ha=>List.all_eq_true.1 k5 a ha
  obtain⟨a1,a2,a3,a4⟩:=Wj hap kp (by rw[k4,k2])
  have ato:∀(ρ2:Rho) (i2:Nat),i2<c0.len+n->∀vs,LR ρ2 (mc c0.row c0.len c0.es l i2) vs->LR ρ2 (c1.row i2) vs:=λρ2 i2 hi2 vs I'=>by
   by_cases h':i2<c0.len
   ·rw[pj h'] at I';rw[a3 i2 h'];exact I'
   ·rw[lG h'] at I';exact a4 i2 (by omega) hi2 ρ2 vs I'
  subst k1;subst k3
  have M':b7.h.get b=some (.grow c0 g t2):=by rw[e1];exact hq
  obtain⟨ρ',v',w',g1,g2,g3,g4⟩:=u_ (P:=P) (ty:=ty) b9 hx h0 h1 ht hdx hni hi hby hiz hzs hlen hn l9 hL hcl o6 M' f9 k2 (by rw[k4]) ab0 k6 k7 a1 a2 ato
  exact⟨_,i3,ρ',v',w',z7,i9,by rw[e2];exact g1,g2,g3,g4⟩
 |_=>exact(ah h).elim
def LC{b:Nat}{f g:ABlk->Tr}(hfg:∀q a9,run (f q) a9 K=true->run (g q) a9 K=true)(h:run (.rd b f) σ K=true):run (.rd b g) σ K=true:=by
 cases σ with
 |mk H n fs tc w=>
  rw[iu] at h⊢;split at h;case isFalse=>cases h
  rename_i hb;rw[if_pos hb];split at h
  ·cases h
  ·exact hfg _ _ h
def cE(t:List Nat):List AV:=t.map λn:Nat=>AV.sI .u8 (Int.ofNat n)
def p_(t:List Nat):List Int:=t.map λn:Nat=>Int.ofNat n
def Dh(t:List Nat):gk (cE t)=some (p_ t)/\aG (p_ t)=t/\bu (p_ t):=by
 induction t with
 |nil=>exact⟨rfl,rfl,trivial⟩
 |cons a t ih=>
  obtain⟨h1,h2,h3⟩:=ih;refine⟨?_, ?_, ?_⟩
  ·show gk (AV.sI .u8 (Int.ofNat a)::cE t)=some (Int.ofNat a::p_ t);simp only [gk,ce,h1]
  ·show(Int.ofNat a).toNat::aG (p_ t)=a::t;rw[h2];rfl
  ·exact⟨Int.natCast_nonneg _,h3⟩
def Ar{t:List Nat}{y:AV}{u:Value}(hG:Good w0 ρ σ.h w)(hy:VR ρ y u)(h:CY y=some t):
 (∀w:World,(Builtin.lenOf u).run P w= .ok t.length w)/\∃cs:List Value,LR ρ (cE t) cs/\cs.length=t.length/\∀m,m<=t.length->∀w2:World,w2.heap=w.heap->(Builtin.firstCells 1 m u).run P w2= .ok (cs.take m).toArray w2:=by
 cases hy with
 |sS s=>
  injection h with h
  subst h
  have hn:(bytesOf s).length=s.size:=by unfold bytesOf;rw[aaK];rfl
  have hL:=nC ρ s
  refine⟨λw=>by rw[hn];rfl,s.data.toList.map λb=>Value.int .u8 b.toNat,⟨by simp [cE,bytesOf],λi a v ha hv=>?_⟩, ?_,λm hm w2 _=>?_⟩
  ·unfold cE bytesOf at ha
   rw[aa4,aaI] at ha
   rw[aaI] at hv
   cases hs:s.data.toList[i]? with
   |none=>rw[hs] at ha;cases ha
   |some b=>rw[hs] at ha hv;injection ha with ha;injection hv with hv;subst ha;subst hv;exact .sI _ _
  ·rw[hn,aaK];rfl
  ·simp only [Builtin.firstCells,aad];congr 1;apply Array.ext';simp [ByteArray.data_extract,abz,List.map_take]
 |cv c blk off cp arr ty hf hc hb r=>
  cases c with
  |rows m l=>cases h
  |bytes t'=>
  injection h with h
  subst h
  have hb:off+t'.length<=arr.size:=by simpa [Ct.len,Ct.es] using hb
  refine⟨λw=>rfl,((arr.toList.drop off).take t'.length),⟨by simp [cE];omega,λi a v ha hv=>?_⟩,by simp;omega,λm hm w2 hw2=>?_⟩
  ·have hi:i<t'.length:=by
    rcases aaf i t'.length with h'|h'
    ·exact h'
    ·rw[aak (by simpa [cE] using h')] at ha;cases ha
   unfold cE at ha;rw[aaI,aai hi] at ha;injection ha with ha;rw[aar hi,aat] at hv;refine r i 0 a v hi ?_ ?_
   ·show [AV.sI .u8 ((t'.getD i 0:Nat):Int)][0]? =some a;rw[aag,aai hi, ←ha];rfl
   ·show arr[off+i * 1+0]? =some v;rw[aaF,aas, ←hv];simp
  ·obtain⟨⟨fr,hw⟩,_⟩:=hG.frz _ _ _ hf;have hm:m<=t'.length:=hm;refine run_firstCells_some w2 1 _ _ _ _ _ (by simp;omega) λj v hj=>?_;have hjm:j<m:=by
    rcases aaf j m with h'|h'
    ·exact h'
    ·rw[aak (by simp;omega)] at hj;cases hj
   have hj':j<t'.length:=by omega
   rw[aar hjm,aar hj',aat] at hj;have e1:(⟨blk,off,none⟩:Addr).add j=⟨blk,off+j,none⟩:=by have:=dC (h:=⟨blk,0,0⟩) (o:=off) (n:=j) (aap _);simpa using this
   rw[e1];simp only [World.cell?,hw2,hw];rw[←hj];simp
 |cvnil c h0=>
  cases c with
  |rows m l=>cases h
  |bytes t'=>
  injection h with h
  subst h
  have h0:t'= []:=List.length_eq_zero_iff.1 h0
  subst h0
  exact⟨λ_=>rfl,[],LR.nil ρ,rfl,λm hm _ _=>by simp [Builtin.firstCells]⟩
 |cvempty c a h0=>
  cases c with
  |rows m l=>cases h
  |bytes t'=>
  injection h with h
  subst h
  have h0:t'= []:=List.length_eq_zero_iff.1 h0
  subst h0
  exact⟨λ_=>rfl,[],LR.nil ρ,rfl,λm hm _ _=>by
   have:m=0:=by simpa using hm
   subst this;simp [Builtin.firstCells,loadCells,loadCellsFrom]⟩
 |_=>cases h
def Q_{t:List Nat}{y:AV}{u:Value}(hG:Good w0 ρ σ.h w)(hy:VR ρ y u)(h:CY y=some t):
 (∀w:World,(Builtin.lenOf u).run P w= .ok t.length w)/\∃cs:List Value,LR ρ (cE t) cs/\cs.length=t.length/\∀w2:World,w2.heap=w.heap->(Builtin.firstCells 1 t.length u).run P w2= .ok cs.toArray w2:=by
 obtain⟨h1,cs,h2,h3,h4⟩:=Ar (P:=P) hG hy h
 refine⟨h1,cs,h2,h3,λw2 hw=>?_⟩
 rw[h4 _ (aaa _) w2 hw, ←h3,aa7]
def Wm(P:Program)(ρ:Rho)(w:World)(u:Value)(t:List Nat):Prop:=(∀w:World,(Builtin.lenOf u).run P w= .ok t.length w)/\∃cs:List Value,LR ρ (cE t) cs/\cs.length=t.length/\∀w2:World,w2.heap=w.heap->(Builtin.firstCells 1 t.length u).run P w2= .ok cs.toArray w2
def Ra{t:List Nat}{b g n ty:Nat}{u:Value}(hG:Good w0 ρ σ.h w)(hq:σ.h.get b=some (.grow (.bytes t) g ty))(hn:t.length=n)(hy:VR ρ (.gsl b g n 1) u):Wm P ρ w u t:=by
 cases hy with
 |gnil _ _ _=>have h0:t= []:=List.length_eq_zero_iff.1 hn;subst h0;exact⟨λ_=>rfl,[],LR.nil ρ,rfl,λ_ _=>by simp [Builtin.firstCells]⟩
 |gempty _ _ _ a=>have h0:t= []:=List.length_eq_zero_iff.1 hn;subst h0;exact⟨λ_=>rfl,[],LR.nil ρ,rfl,λ_ _=>by simp [Builtin.firstCells,loadCells,loadCellsFrom]⟩
 |gsl _ _ _ _ hm c hn1 hh hsh hcc hz=>
  subst hn;rcases hG.blk _ _ hq with hB|⟨hm',q1,q2,q3,arr,fr,q4,q5,q6,q7,q8⟩
  ·have hB:t.length=0:=hB;omega
  ·rw[hh] at q1;injection q1 with q1;subst q1;have q6:t.length * 1<=hm.size:=q6;have hb:t.length<=arr.size:=by omega
   refine⟨λw=>rfl,(arr.toList.take t.length),⟨by simp [cE];omega,λi a v ha hv=>?_⟩,by simp;omega,λw2 hw2=>?_⟩
   ·have hi:i<t.length:=by
     rcases aaf i t.length with h'|h'
     ·exact h'
     ·rw[aak (by simpa [cE] using h')] at ha;cases ha
    unfold cE at ha;rw[aaI,aai hi] at ha;injection ha with ha;rw[aar hi] at hv;obtain⟨uu,u1,u2⟩:=q8 i hi 0 a (by show [AV.sI .u8 ((t.getD i 0:Nat):Int)][0]? =some a;rw[aag,aai hi, ←ha];rfl);have u1:arr[i * 1+0]? =some uu:=u1;rw[aaF,aas] at u1;rw[aaW,u1] at hv;injection hv with hv;rw[←hv];exact u2
   ·refine run_firstCells_some w2 1 _ _ _ _ _ (by simp;omega) λj v hj=>?_;have hjm:j<t.length:=by
     rcases aaf j t.length with h'|h'
     ·exact h'
     ·rw[aak (by simp;omega)] at hj;cases hj
    rw[aar hjm] at hj;have e1:(⟨hm.blk,0,none⟩:Addr).add j=⟨hm.blk,0+j,none⟩:=by have:=dC (h:=⟨hm.blk,0,0⟩) (o:=0) (n:=j) (aap _);simpa using this
    rw[e1];simp only [World.cell?,hw2,q4];rw[←hj];simp
def LD{tys:Array TypeId}{ts tx e ty:TypeId}{dx:TypeDesc}{i:TypeInfo}{zv:Value}{b g len:Nat}{t:List Nat}{v u:Value}(hS:SI σ)(hG:Good w0 ρ σ.h w)(hx:VR ρ (.gsl b g len 1) v)(hu:Wm P ρ w u t)(h0:tys[0]? =some ts)(h1:tys[1]? =some tx)(ht:P.underlying ts=some (.slice e))(hdx:P.underlying tx=some dx)(hni:∀j,dx≠ .int j)(hi:P.info? e=some i)(hby:i.bytes<=1000)(hiz:i.zero=some zv)(hzs:zv.cells.size=1)(ae8:i.size=1)(h:run (Uw e b g len t k) σ K=true):Res P w0 ρ w k K (Builtin.append_ tys ty #[v,u]):=by
 obtain⟨hlen,cs,hL,hcl,o6⟩:=hu
 rcases aaS t.length with hn0|l9
 ·have f9:=cW hS h
  obtain⟨q,b7,hq,e1,b6,h⟩:=bG hS h
  cases q with
  |grow c gen ty2=>
   cases c with
   |rows m l=>exact(ah h).elim
   |bytes l0=>
   obtain⟨k1,z1⟩:=ay h
   obtain⟨k2,z2⟩:=ay z1
   obtain⟨k3,z3⟩:=aN z2
   obtain⟨x0,i3,hx0,e2,i9,_,z4⟩:=ft b6 z3
   clear h z1 z2 z3
   have k1:=aL k1
   have k2:=aL k2
   subst k1;subst k2
   have ht0:t= []:=List.length_eq_zero_iff.1 hn0
   subst ht0
   have b9:Good w0 ρ b7.h w:=by rw[e1];exact hG
   have M':b7.h.get b=some (.grow (.bytes l0) g ty2):=by rw[e1];exact hq
   have el:l0++ []=l0:=aba l0
   rw[el] at e2
   have O':∀w:World,(Builtin.lenOf u).run P w= .ok 0 w:=hlen
   cases hx with
   |gsl _ _ _ _ hm c hn1 hh hsh hcc hz=>
    have hB:=b9.blk _ _ M';obtain⟨hle,hG3⟩:=b9.forkX (w':=w) (x:=.grow (.bytes l0) (g+1) ty2) (gen:=g) (h2:=hm) M' (λg' h'=>h') (λg' h'=>h') f9 (Kept.refl _ _ _) (λ_ _ _=>rfl) (aaa _) (λ_ _ _ _ _=>rfl) (b9.dom _ _ _ hh).1 (.inl ⟨g,hh⟩) (λhle=>by
     rcases hB with hB|⟨hm',q1,q2,q3,arr,fr,q4,q5,q6,q7,q8⟩
     ·exact .inl hB
     ·rw[hh] at q1;injection q1 with q1;subst q1;exact .inr ⟨hm,Rho.put_at _ _ _ _,q2,q3.mono hle,arr,fr,q4,q5,q6,q7,λi hi j a ha=>by obtain⟨uu,u1,u2⟩:=q8 i hi j a ha;exact⟨uu,u1,u2.mono hle⟩⟩)
    exact⟨_,i3,_,_,w,z4,i9,by rw[e2];exact hG3,hle,.gsl b (g+1) (len+0) 1 hm c hn1 (Rho.put_at _ _ _ _) hsh hcc hz,bj h0 h1 ht hdx hni hi (O' _) hcc (bm (O' w))⟩
   |gnil _ _ _=>exact .plain z4 i9 (by rw[e2];exact b9.none_turn M' f9 k3.1 (λg' h'=>abA h') (λh=>h)) (.gnil _ _ _) (bj h0 h1 ht hdx hni hi (O' _) (aaa _) (bm (O' w)))
   |gempty _ _ _ a=>exact .plain z4 i9 (by rw[e2];exact b9.none_turn M' f9 k3.1 (λg' h'=>abA h') (λh=>h)) (.gempty _ _ _ a) (bj h0 h1 ht hdx hni hi (O' _) (aaa _) (bm (O' w)))
  |_=>exact(ah h).elim
 ·have h2:run (KT e b g len 1 t.length (cE t) k) σ K=true/\t.length<=1000000:=by
   refine⟨LC (λq a9 h=>?_) h, ?_⟩
   ·cases q with
    |grow c gen ty2=>
     cases c with
     |rows m l=>exact(ah h).elim
     |bytes l0=>
     obtain⟨k1,h⟩:=ay h
     obtain⟨k2,h⟩:=ay h
     obtain⟨k3,h⟩:=aN h
     obtain⟨p1,p2,p3⟩:=Dh t
     show run (ac (Nat.beq g gen) (ac (Nat.beq 1 1) (ac (Nat.beq ty2 e) (ac (Nat.beq (cE t).length (t.length * 1)) (ac ((cE t).all fQ) _ .fail) .fail) .fail) .fail) .fail) a9 K=true
     have q1:Nat.beq (cE t).length (t.length * 1)=true:=by rw[Nat.beq_eq];simp [cE]
     have q2:(cE t).all fQ=true:=by unfold cE;rw[List.all_map,abj];intro _ _;rfl
     have q3:Nat.beq (p_ t).length t.length=true:=by rw[Nat.beq_eq];simp [p_]
     rw[k1,k2,q1,q2]
     have q4:Ct.app (.bytes l0) (cE t) t.length=some (.bytes (l0++t),bu (p_ t)):=by simp only [Ct.app,p1,p2,q3];rfl
     show run (match Ct.app (.bytes l0) (cE t) t.length with
      |some (c',p)=>Tr.req ((Ct.bytes l0).len=len/\len<=1000000000/\p) (.wr b (.grow c' (gen+1) ty2) (k (.gsl b (gen+1) (len+t.length) 1)))
      |none=>.fail) a9 K=true
     rw[q4]
     show run (Tr.req _ _) a9 K=true
     rw[fq _ _ _ ⟨k3.1,k3.2.1,p3⟩]
     exact h
    |_=>exact(ah h).elim
   ·obtain⟨q,b7,_,_,_,h⟩:=bG hS h
    cases q with
    |grow c gen ty2=>
     cases c with
     |rows m l=>exact(ah h).elim
     |bytes l0=>
     obtain⟨k1,h⟩:=ay h
     obtain⟨k2,h⟩:=ay h
     obtain⟨k3,h⟩:=aN h
     exact k3.2.2
    |_=>exact(ah h).elim
  rw[←ae8] at h2 o6 hx;exact Aq (ty:=ty) hS hG hx h0 h1 ht hdx hni hi hby hiz (hzs.trans ae8.symm) hlen h2.2 l9 hL (by rw[hcl,ae8,aaF]) o6 h2.1
def mz(d:Ct):Nat->List AV
 |0=>[]
 |n+1=>mz d n++d.row n
def cY(d:Ct):∀n,(mz d n).length=n * d.es
 |0=>by simp [mz]
 |n+1=>by rw[mz,aah,cY d n,d.row_len,aaN]
def Fp(d:Ct){q:Nat}{a:AV}:∀n,(mz d n)[q]? =some a->∃i j,i<n/\q=i * d.es+j/\(d.row i)[j]? =some a
 |0,h=>by simp [mz] at h
 |n+1,h=>by
  rcases aaf q (n * d.es) with h'|h'
  ·rw[mz,aaA (by rw[cY];exact h')] at h;obtain⟨i,j,h1,h2⟩:=Fp d n h;exact⟨i,j,by omega,h2⟩
  ·rw[mz,aax (by rw[cY];exact h'),cY] at h;exact⟨n,q-n * d.es,by omega,by omega,h⟩
def As(d:Ct):∀n i,i<n->((mz d n).drop (i * d.es)).take d.es=d.row i
 |0,_,h=>by omega
 |n+1,i,h=>by
  rcases aaf i n with h'|h'
  ·have hm:i * d.es+d.es<=n * d.es:=by rw[←aaN];exact aay _ h'
   rw[mz,abB (by rw[cY];omega),abq (by rw[aao,cY];omega),As d n i h']
  ·have:i=n:=by omega
   subst this;rw[mz,abB (by rw[cY];omega),aaO (by rw[cY];omega),aa8,abd (by rw[d.row_len];omega)]
def rY:∀(g:G) (n i:Nat),∀a∈mo g n i,fQ a=true
 |_,0,_,_,h=>by cases h
 |g,n+1,i,a,h=>by
  rcases List.mem_cons.1 h with h|h
  ·subst h;rfl
  ·exact rY g n (i+1) a h
def rZ:∀(xs:List Sc) (g:G) (q:Nat),∀a∈bB xs g q,fQ a=true
 | [],_,_,_,h=>by cases h
 |x::xs,g,q,a,h=>by
  rcases List.mem_append.1 h with h|h
  ·cases x <;> simp [fP] at h;case h n=>exact rY _ _ _ a h
   all_goals (subst h;rfl)
  ·exact rZ xs g (q+1) a h
def At(m:Nat)(l:List G):∀n,∀a∈mz (.rows m l) n,fQ a=true
 |0,a,h=>by cases h
 |n+1,a,h=>by
  rcases List.mem_append.1 h with h|h
  ·exact At m l n a h
  ·exact rZ _ _ _ a h
def Au(P:Program)(ρ:Rho)(w:World)(u:Value)(d:Ct):Prop:=(∀w:World,(Builtin.lenOf u).run P w= .ok d.len w)/\∃cs:List Value,LR ρ (mz d d.len) cs/\cs.length=d.len * d.es/\∀w2:World,w2.heap=w.heap->(Builtin.firstCells d.es d.len u).run P w2= .ok cs.toArray w2
def Fq{d:Ct}{blk off cp:Nat}{arr:Array Value}{ty:TypeId}{fr:Nat×Nat}(hw:w.heap[blk]? =some (.cells arr ty fr))(hb:off+d.len * d.es<=arr.size)(r:∀i j a,i<d.len->(d.row i)[j]? =some a->∃u,arr[off+i * d.es+j]? =some u/\VR ρ a u):Au P ρ w (.slice (some ⟨blk,off,none⟩) d.len cp) d:=by
 have hcl:((arr.toList.drop off).take (d.len * d.es)).length=d.len * d.es:=by rw[aal,aao,aaJ];omega
 refine⟨λw=>rfl,(arr.toList.drop off).take (d.len * d.es),⟨by rw[hcl,cY],λq a v ha hv=>?_⟩,hcl,λw2 hw2=>?_⟩
 ·obtain⟨i,j,h1,h2,h3⟩:=Fp d _ ha;obtain⟨u,u1,u2⟩:=r i j a h1 h3;have hq:q<d.len * d.es:=by
   rcases aaf q (d.len * d.es) with h'|h'
   ·exact h'
   ·rw[aak (by rw[cY];exact h')] at ha;cases ha
  rw[aar hq,aat,aaW,h2, ←abr,u1] at hv;injection hv with hv;rw[←hv];exact u2
 ·refine run_firstCells_some w2 d.es d.len _ _ _ _ hcl λj v hj=>?_;have hj':j<d.len * d.es:=by
   rcases aaf j (d.len * d.es) with h'|h'
   ·exact h'
   ·rw[aak (by rw[hcl];exact h')] at hj;cases hj
  rw[aar hj',aat] at hj;have e1:(⟨blk,off,none⟩:Addr).add j=⟨blk,off+j,none⟩:=by have:=dC (h:=⟨blk,0,0⟩) (o:=off) (n:=j) (aap _);simpa using this
  rw[e1];simp only [World.cell?,hw2,hw];rw[←hj];simp
def mA{d:Ct}(h0:d.len=0){a:Option Addr}{c:Nat}:Au P ρ w (.slice a 0 c) d:=by
 refine⟨λ_=>by rw[h0];rfl,[], ?_,by rw[h0];simp,λ_ _=>?_⟩
 ·rw[h0];exact LR.nil ρ
 ·rw[h0];cases a <;> simp [Builtin.firstCells,loadCells,loadCellsFrom]
def Rb{m:Nat}{l:List G}{y:AV}{u:Value}(hG:Good w0 ρ σ.h w)(hy:VR ρ y u)(h:E5 y=some (m,l)):Au P ρ w u (.rows m l):=by
 cases hy with
 |cv c blk off cp arr ty hf hc hb r=>
  cases c with
  |bytes t=>cases h
  |rows m' l'=>
   injection h with h;injection h with e1 e2;subst e1;subst e2;obtain⟨⟨fr,hw⟩,_⟩:=hG.frz _ _ _ hf;refine Fq hw hb λi j a hi ha=>?_;have hj:j<(Ct.rows m' l').es:=by
    have:=(Ct.rows m' l').row_len i;rcases aaf j ((Ct.rows m' l').row i).length with h'|h'
    ·omega
    ·rw[aak h'] at ha;cases ha
   have hm:i * (Ct.rows m' l').es+(Ct.rows m' l').es<=(Ct.rows m' l').len * (Ct.rows m' l').es:=by rw[←aaN];exact aay _ hi
   have c8:off+i * (Ct.rows m' l').es+j<arr.size:=by omega
   exact⟨_,aaM c8,r i j a _ hi ha (aaM c8)⟩
 |cvnil c h0=>
  cases c with
  |bytes t=>cases h
  |rows m' l'=>injection h with h;injection h with e1 e2;subst e1;subst e2;exact mA h0
 |cvempty c a h0=>
  cases c with
  |bytes t=>cases h
  |rows m' l'=>injection h with h;injection h with e1 e2;subst e1;subst e2;exact mA h0
 |_=>cases h
def LE{m:Nat}{l:List G}{b g n ty:Nat}{u:Value}(hG:Good w0 ρ σ.h w)(hq:σ.h.get b=some (.grow (.rows m l) g ty))(hn:l.length=n)(hy:VR ρ (.gsl b g n (bq (cK m))) u):Au P ρ w u (.rows m l):=by
 cases hy with
 |gnil _ _ _=>exact mA (show(Ct.rows m l).len=0 from hn)
 |gempty _ _ _ a=>exact mA (show(Ct.rows m l).len=0 from hn)
 |gsl _ _ _ _ hm c hn1 hh hsh hcc hz=>
  subst hn;rcases hG.blk _ _ hq with hB|⟨hm',q1,q2,q3,arr,fr,q4,q5,q6,q7,q8⟩
  ·have hB:l.length=0:=hB;omega
  ·rw[hh] at q1;injection q1 with q1;subst q1;refine Fq (d:=.rows m l) (off:=0) q4 (by rw[aam,q5];exact q6) λi j a hi ha=>?_;obtain⟨uu,u1,u2⟩:=q8 i hi j a ha;exact⟨uu,by rw[aam];exact u1,u2⟩
def LG{m n:Nat}{l:List G}{b g ty:Nat}{u:Value}(hG:Good w0 ρ σ.h w)(hq:σ.h.get b=some (.grow (.rows m l) g ty))(hn:n<=l.length)(hy:VR ρ (.gsl b g n (bq (cK m))) u):Au P ρ w u (.rows m (l.take n)):=by
 have hl:(l.take n).length=n:=by rw[aal];omega
 cases hy with
 |gnil _ _ _=>exact mA (d:=.rows m (l.take 0)) hl
 |gempty _ _ _ a=>exact mA (d:=.rows m (l.take 0)) hl
 |gsl _ _ _ _ hm c hn1 hh hsh hcc hz=>
  rcases hG.blk _ _ hq with hB|⟨hm',q1,q2,q3,arr,fr,q4,q5,q6,q7,q8⟩
  ·have hB:l.length=0:=hB;omega
  ·rw[hh] at q1;injection q1 with q1;subst q1;have q6:l.length * bq (cK m)<=hm.size:=q6;have hmul:n * bq (cK m)<=l.length * bq (cK m):=aay _ hn;have:=Fq (P:=P) (ρ:=ρ) (d:=.rows m (l.take n)) (off:=0) (cp:=c) q4 (by show 0+(l.take n).length * bq (cK m)<=_;rw[hl];omega) λi j a hi ha=>by
    have hi:i<n:=by have hi:i<(l.take n).length:=hi;omega
    have e:(Ct.rows m (l.take n)).row i=(Ct.rows m l).row i:=by show bB _ (aq _ _) _=bB _ (aq _ _) _;unfold aq;rw[aag,aag,aar hi]
    rw[e] at ha;obtain⟨uu,u1,u2⟩:=q8 i (show i<l.length by omega) j a ha;exact⟨uu,by rw[aam];exact u1,u2⟩
   rw[show(Ct.rows m (l.take n)).len=n from hl] at this;exact this
def LH{m n o:Nat}{l:List G}{b g ty:Nat}{u:Value}(hG:Good w0 ρ σ.h w)(hq:σ.h.get b=some (.grow (.rows m l) g ty))(ho:o=o/bq (cK m) * bq (cK m))(hn:o/bq (cK m)+n<=l.length)(hy:VR ρ (.slc b g o n none (bq (cK m))) u):Au P ρ w u (.rows m ((l.drop (o/bq (cK m))).take n)):=by
 have hl:((l.drop (o/bq (cK m))).take n).length=n:=by rw[aal,aao];omega
 cases hy with
 |slc _ _ _ _ _ _ ad c hsl=>
  obtain⟨hlc,hsl⟩:=hsl;rcases aaS n with hn0|hn0
  ·subst hn0;exact mA (d:=.rows m ((l.drop (o/bq (cK m))).take 0)) hl
  rcases hsl with⟨h1,_⟩|⟨hm,hh,hs,ea,hz⟩
  ·omega
  rcases hG.blk _ _ hq with hB|⟨hm',q1,q2,q3,arr,fr,q4,q5,q6,q7,q8⟩
  ·have hB:l.length=0:=hB;have:=aaH (Nat.le_add_left n (o/bq (cK m))) hn;omega
  rw[hh] at q1;injection q1 with q1;subst q1;subst ea;rw[q2,abl] at hz⊢;generalize hk:o/bq (cK m)=k0 at *;have q6:l.length * bq (cK m)<=hm.size:=q6;have hmul:(k0+n) * bq (cK m)<=l.length * bq (cK m):=aay _ hn;rw[aaz] at hmul;have:=Fq (P:=P) (ρ:=ρ) (d:=.rows m ((l.drop k0).take n)) (off:=o) (cp:=c) q4 (by show o+((l.drop k0).take n).length * bq (cK m)<=_;rw[hl];omega) λi j a hi ha=>by
   have hi:i<n:=by have hi:i<((l.drop k0).take n).length:=hi;omega
   have e:(Ct.rows m ((l.drop k0).take n)).row i=(Ct.rows m l).row (k0+i):=by show bB _ (aq _ _) _=bB _ (aq _ _) _;unfold aq;rw[aag,aag,aar hi,aat]
   rw[e] at ha;obtain⟨uu,u1,u2⟩:=q8 (k0+i) (show k0+i<l.length by omega) j a ha;refine⟨uu, ?_,u2⟩;have u1:arr[(k0+i) * bq (cK m)+j]? =some uu:=u1;rw[←u1];show arr[o+i * bq (cK m)+j]? =_;rw[ho,aaz]
  rw[show(Ct.rows m ((l.drop k0).take n)).len=n from hl] at this;exact this
def LI{tys:Array TypeId}{ts tx e ty:TypeId}{dx:TypeDesc}{i:TypeInfo}{zv:Value}{m:Nat}{l:List G}{a:AV}{v u:Value}(hS:SI σ)(hG:Good w0 ρ σ.h w)(hx:VR ρ a v)(hu:Au P ρ w u (.rows m l))(h0:tys[0]? =some ts)(h1:tys[1]? =some tx)(ht:P.underlying ts=some (.slice e))(hdx:P.underlying tx=some dx)(hni:∀j,dx≠ .int j)(hi:P.info? e=some i)(hby:i.bytes<=1000)(hiz:i.zero=some zv)(hzs:zv.cells.size=i.size)(h:run (uN e i.size m l k a) σ K=true):Res P w0 ρ w k K (Builtin.append_ tys ty #[v,u]):=by
 obtain⟨hlen,cs,hL,hcl,o6⟩:=hu
 cases a with
 |gsl b g len es=>
  obtain⟨kes,h⟩:=ay h
  have kes:=aL kes
  subst kes
  have f9:=cW hS h
  obtain⟨q,b7,hq,e1,b6,h⟩:=bG hS h
  cases q with
  |grow c gen ty2=>
   cases c with
   |bytes l0=>exact(ah h).elim
   |rows m0 l0=>
   obtain⟨k1,z1⟩:=ay h
   obtain⟨k2,z2⟩:=ay z1
   obtain⟨k3,z3⟩:=ay z2
   obtain⟨k4,z4⟩:=ay z3
   obtain⟨⟨k5,k6,k7⟩,z5⟩:=aN z4
   obtain⟨x0,i3,hx0,e2,i9,_,z6⟩:=ft b6 z5
   clear h z1 z2 z3 z4 z5
   have k1:=aL k1
   have k2:=aL k2
   have k3:=aL k3
   have k4:=aL k4
   subst k1;subst k2;subst k3
   have b9:Good w0 ρ b7.h w:=by rw[e1];exact hG
   have M':b7.h.get b=some (.grow (.rows m0 l0) g ty2):=by rw[e1];exact hq
   rcases aaS l.length with hn0|l9
   ·have ht0:l= []:=List.length_eq_zero_iff.1 hn0
    subst ht0
    have el:l0++ []=l0:=aba l0
    rw[el] at e2
    have O':∀w:World,(Builtin.lenOf u).run P w= .ok 0 w:=hlen
    cases hx with
    |gsl _ _ _ _ hm c hn1 hh hsh hcc hz=>
     have hB:=b9.blk _ _ M';obtain⟨hle,hG3⟩:=b9.forkX (w':=w) (x:=.grow (.rows m0 l0) (g+1) ty2) (gen:=g) (h2:=hm) M' (λg' h'=>h') (λg' h'=>h') f9 (Kept.refl _ _ _) (λ_ _ _=>rfl) (aaa _) (λ_ _ _ _ _=>rfl) (b9.dom _ _ _ hh).1 (.inl ⟨g,hh⟩) (λhle=>by
      rcases hB with hB|⟨hm',q1,q2,q3,arr,fr,q4,q5,q6,q7,q8⟩
      ·exact .inl hB
      ·rw[hh] at q1;injection q1 with q1;subst q1;exact .inr ⟨hm,Rho.put_at _ _ _ _,q2,q3.mono hle,arr,fr,q4,q5,q6,q7,λi hi j a ha=>by obtain⟨uu,u1,u2⟩:=q8 i hi j a ha;exact⟨uu,u1,u2.mono hle⟩⟩)
     exact⟨_,i3,_,_,w,z6,i9,by rw[e2];exact hG3,hle,.gsl b (g+1) (len+0) i.size hm c hn1 (Rho.put_at _ _ _ _) hsh hcc hz,bj h0 h1 ht hdx hni hi (O' _) hcc (bm (O' w))⟩
    |gnil _ _ _=>exact .plain z6 i9 (by rw[e2];exact b9.none_turn M' f9 k5 (λg' h'=>abA h') (λh=>h)) (.gnil _ _ _) (bj h0 h1 ht hdx hni hi (O' _) (aaa _) (bm (O' w)))
    |gempty _ _ _ a=>exact .plain z6 i9 (by rw[e2];exact b9.none_turn M' f9 k5 (λg' h'=>abA h') (λh=>h)) (.gempty _ _ _ a) (bj h0 h1 ht hdx hni hi (O' _) (aaa _) (bm (O' w)))
   ·have aq6:(mz (.rows m0 l) l.length).length=l.length * i.size:=by rw[cY];show _ * bq (cK m0)=_;rw[k4]
    have an3:(Ct.rows m0 (l0++l)).len=(Ct.rows m0 l0).len+l.length:=aah;obtain⟨ρ',v',w',g1,g2,g3,g4⟩:=u_ (P:=P) (ty:=ty) (c1:=.rows m0 (l0++l)) (n:=l.length) (l:=mz (.rows m0 l) l.length) (cs:=cs) b9 hx h0 h1 ht hdx hni hi hby hiz hzs hlen k7 l9 hL (by rw[hcl];show _ * bq (cK m0)=_;rw[k4];rfl)
     (λw2 hw2=>by have:=o6 w2 hw2;rwa [show(Ct.rows m0 l).es=i.size from k4] at this) M' f9 k4 aq6 (At m0 l _) k5 k6 an3 rfl (λρ2 i2 hi2 vs I'=>by
      have hi2:i2<l0.length+l.length:=hi2;by_cases h':i2<l0.length
      ·rw[pj (show i2<(Ct.rows m0 l0).len from h')] at I';have e:(Ct.rows m0 (l0++l)).row i2=(Ct.rows m0 l0).row i2:=by show bB _ (aq _ _) _=bB _ (aq _ _) _;unfold aq;rw[aag,aag,aaA h']
       rw[e];exact I'
      ·rw[lG (show ¬i2<(Ct.rows m0 l0).len from h')] at I';have e:(Ct.rows m0 (l0++l)).row i2=(Ct.rows m0 l).row (i2-l0.length):=by show bB _ (aq _ _) _=bB _ (aq _ _) _;unfold aq;rw[aag,aag,aax (by omega)]
       rw[e, ←As (.rows m0 l) l.length (i2-l0.length) (by omega)];exact I')
    exact⟨_,i3,ρ',v',w',z6,i9,by rw[e2];exact g1,g2,g3,g4⟩
  |_=>exact(ah h).elim
 |_=>exact(ah h).elim
def Di{tys:Array TypeId}{ts tx e ty:TypeId}{dx:TypeDesc}{x y:AV}{v u:Value}(hS:SI σ)(hG:Good w0 ρ σ.h w)(hx:VR ρ x v)(hy:VR ρ y u)(h0:tys[0]? =some ts)(h1:tys[1]? =some tx)(ht:P.underlying ts=some (.slice e))(hdx:P.underlying tx=some dx)(hni:∀j,dx≠ .int j)(h:run (E7 P e x y k) σ K=true):Res P w0 ρ w k K (Builtin.append_ tys ty #[v,u]):=by
 obtain⟨i,hi,h⟩:=Zu h
 obtain⟨hby,h⟩:=ay h
 have hby:=bY hby
 obtain⟨hs1,h⟩:=ay (jV h)
 have hs1:=bY hs1
 obtain⟨z,zv,i',hi',hzr,hz,h⟩:=Ag ρ w h
 have hiz:i.zero=some zv:=by
  simp [zeroValue,typeInfo,aab,run_program,hi] at hzr
  cases hz0:i.zero with
  |none=>rw[hz0] at hzr;simp at hzr
  |some q=>rw[hz0] at hzr;simp at hzr;rw[hzr]
 obtain⟨zl,hzl,h⟩:=iy hz h
 obtain⟨hzs,h⟩:=ay h
 have hzs:=aL hzs
 have hzs:zv.cells.size=i.size:=by rw[←aaJ,hzl.1];exact hzs
 have appS:∀(t:List Nat) (σ:St),SI σ->Good w0 ρ σ.h w->Wm P ρ w u t->run (qL e i.size t x k) σ K=true->Res P w0 ρ w k K (Builtin.append_ tys ty #[v,u]):=by
  intro t σ hS hG hu h
  obtain⟨ae8,h⟩:=ay h
  have ae8:=aL ae8
  have grown:∀(a:AV) (a9:St),SI a9->Good w0 ρ a9.h w->VR ρ a v->run (zS e t k a) a9 K=true->Res P w0 ρ w k K (Builtin.append_ tys ty #[v,u]):=by
   intro a a9 C' j7 ha h
   cases a with
   |gsl b g len es=>obtain⟨J',h⟩:=ay h;have J':=aL J';subst J';exact LD C' j7 ha hu h0 h1 ht hdx hni hi hby hiz (by rw[hzs,ae8]) ae8 h
   |_=>exact(ah h).elim
  cases x with
  |gsl b g len es=>exact grown _ _ hS hG hx h
  |nils=>obtain⟨b,a9,hn,f9,e1,C',h⟩:=gt hS h;cases hx;exact grown _ _ C' (by rw[e1];exact hG.none_new hn f9 rfl) (.gnil _ _ _) h
  |slc b g o len cap es=>
   obtain⟨J',z1⟩:=ay h;have J':=aac J';rcases bU z1 with⟨hl0,z2⟩|⟨_,z2⟩
   ·obtain⟨hz,z3⟩:=ay z2
    obtain⟨b',a9,hn,f9,e1,C',z4⟩:=gt hS z3
    have hc:cap=some 0:=by
     unfold xe at hz;split at hz
     ·rfl
     ·cases hz
    have hl0:=aac hl0
    clear h z1 z2 z3
    cases hx with
    |slc _ _ _ _ _ _ a c hsl=>rw[hc] at hsl;obtain⟨_,ec,_⟩:=hsl;rw[hl0,ec] at grown⊢;exact grown _ _ C' (by rw[e1];exact hG.none_new hn f9 rfl) (.gempty _ _ _ a) z4
   ·obtain⟨a9,z3,C',j7,_,hv⟩:=ef hS hG kN z2;rw[J'] at hx;exact grown _ _ C' j7 (hv ρ (.refl _) _ hx) z3
  |_=>exact(ah h).elim
 have appR:∀(m:Nat) (l:List G) (σ:St),SI σ->Good w0 ρ σ.h w->Au P ρ w u (.rows m l)->run (lE e i.size m l x k) σ K=true->Res P w0 ρ w k K (Builtin.append_ tys ty #[v,u]):=by
  intro m l σ hS hG hu h
  have grown:∀(a:AV) (a9:St),SI a9->Good w0 ρ a9.h w->VR ρ a v->run (uN e i.size m l k a) a9 K=true->Res P w0 ρ w k K (Builtin.append_ tys ty #[v,u]):=
   λa a9 C' j7 ha h=>LI C' j7 ha hu h0 h1 ht hdx hni hi hby hiz hzs h
  cases x with
  |gsl b g len es=>exact grown _ _ hS hG hx h
  |nils=>obtain⟨b,a9,hn,f9,e1,C',h⟩:=gt hS h;cases hx;exact grown _ _ C' (by rw[e1];exact hG.none_new hn f9 rfl) (.gnil _ _ _) h
  |slc b g o len cap es=>
   obtain⟨J',z1⟩:=ay h;have J':=aac J';rcases bU z1 with⟨hl0,z2⟩|⟨_,z2⟩
   ·obtain⟨hz,z3⟩:=ay z2
    obtain⟨b',a9,hn,f9,e1,C',z4⟩:=gt hS z3
    have hc:cap=some 0:=by
     unfold xe at hz;split at hz
     ·rfl
     ·cases hz
    have hl0:=aac hl0
    clear h z1 z2 z3
    cases hx with
    |slc _ _ _ _ _ _ a c hsl=>rw[hc] at hsl;obtain⟨_,ec,_⟩:=hsl;rw[hl0,ec] at grown⊢;exact grown _ _ C' (by rw[e1];exact hG.none_new hn f9 rfl) (.gempty _ _ _ a) z4
   ·obtain⟨a9,z3,C',j7,_,hv⟩:=ef hS hG iQ z2;exact grown _ _ C' j7 (hv ρ (.refl _) _ hx) z3
  |_=>exact(ah h).elim
 have main:∀σ:St,SI σ->Good w0 ρ σ.h w->run (match E5 y with
  |some (m,l)=>lE e i.size m l x k
  |none=>match CY y with
   |some t=>qL e i.size t x k
   |none=>KR y λn=>ac (Nat.ble n 1000000) (oW i.size n y λnew=>kI e i.size n new x k) .fail) σ K=true->Res P w0 ρ w k K (Builtin.append_ tys ty #[v,u]):=by
  intro σ hS hG h
  cases hrx:E5 y with
  |some ml=>
   obtain⟨m,l⟩:=ml
   rw[hrx] at h
   exact appR m l σ hS hG (Rb hG hy hrx) h
  |none=>
  rw[hrx] at h
  cases hsb:CY y with
  |some t=>
   rw[hsb] at h
   exact appS t σ hS hG (Q_ (P:=P) (w:=w) hG hy hsb) h
  |none=>
  rw[hsb] at h
  obtain⟨n,h,hlen⟩:=Q9 (P:=P) hy h
  obtain⟨hn,h⟩:=ay h
  have hn:=bY hn
  obtain⟨l,cs,a9,e1,C',h,hL,hcl,o6⟩:=uZ (P:=P) (w:=w.drew) hS (hG.drawn _) hy (hlen _) (aaa _) hs1 h
  have j7:Good w0 ρ a9.h w:=by rw[e1];exact hG
  have gcase:∀b g len es,VR ρ (.gsl b g len es) v->run (kI e i.size n l (.gsl b g len es) k) a9 K=true->Res P w0 ρ w k K (Builtin.append_ tys ty #[v,u]):=by
   intro b g len es hx h;obtain⟨J',h⟩:=ay h;have J':=aL J';subst J';rcases bU h with⟨h0',h⟩|⟨h0',h⟩
   ·have h0':=aL h0'
    subst h0'
    cases hx with
    |gsl _ _ _ _ hm c hn0 hh hsh hcc hz=>exact .plain h C' j7 (.gsl _ _ _ _ hm c hn0 hh hsh hcc hz) (bj h0 h1 ht hdx hni hi (hlen _) hcc (bm (hlen w)))
    |gnil _ _ _=>exact .plain h C' j7 (.gnil _ _ _) (bj h0 h1 ht hdx hni hi (hlen _) (aaa _) (bm (hlen w)))
    |gempty _ _ _ a=>exact .plain h C' j7 (.gempty _ _ _ a) (bj h0 h1 ht hdx hni hi (hlen _) (aaa _) (bm (hlen w)))
   ·have l9:0<n:=by
     rcases aaS n with e|e
     ·subst e;simp at h0'
     ·exact e
    exact Aq (ty:=ty) C' j7 hx h0 h1 ht hdx hni hi hby hiz hzs hlen hn l9 hL hcl (λw2 hw2=>o6 w2 hw2) h
  cases hx with
  |nils=>
   rcases bU h with⟨h0',h⟩|⟨h0',h⟩
   ·have h0':=aL h0';subst h0';exact .plain h C' j7 .nils (bj h0 h1 ht hdx hni hi (hlen _) (aaa _) (bm (hlen w)))
   ·have l9:0<n:=by
     rcases aaS n with e|e
     ·subst e;simp at h0'
     ·exact e
    have hnb:n * i.bytes<=1000000 * 1000:=abg hn hby;have c9:=ed (P:=P) (w:=w) (ty:=ty) (base:=none) (sLen:=0) (sCap:=0) (olds:=[]) h0 h1 ht hdx hni hi hiz (hlen w) (by omega) (by omega) (by rw[aam,nextslicecap_zero l9];omega) (by simp [Builtin.firstCells]) (o6 _ rfl);rw[aam] at c9;have hge:=grownCap_ge w n 0 e;refine Fo (a:=.nilIface) (ovs:=[]) (nvs:=cs) (rest:=λc=>(Builtin.zeroCells zv.cells (c-n)).toList) C' j7 (LR.nil ρ) hL (grownCap w n 0 e) hge ?_ h _ c9;simp only [List.length_nil,aaJ,size_zeroCells,hzs,hcl,aam, ←aaz];congr 1;omega
  |slc b g o len cap es a c hsl=>
   obtain⟨J',h⟩:=ay h
   obtain⟨hlm,h⟩:=ay h
   have J':=aL J'
   have hlm:=bY hlm
   rcases bU h with⟨h0',h⟩|⟨h0',h⟩
   ·have h0':=aL h0';subst h0';exact .plain h C' j7 (.slc _ _ _ _ _ _ _ _ hsl) (bj h0 h1 ht hdx hni hi (hlen _) hsl.1 (bm (hlen w)))
   ·have l9:0<n:=by
     rcases aaS n with e|e
     ·subst e;simp at h0'
     ·exact e
    have h:=jV h
    have aj5:Builtin.nextslicecap (len+n) c * i.bytes<=281474976710656∨len+n<=c:=by
     rcases aaf c (len+n) with c8|hge
     ·left;have h1:Builtin.nextslicecap (len+n) c<=2 * (len+n):=nextslicecap_le c8;have h2:=abg h1 hby;omega
     ·exact .inr hge
    have hge:=grownCap_ge w (len+n) c e
    have an4:∀(m:Nat),len * i.size+cs.length+(Builtin.zeroCells zv.cells (m-(len+n))).toList.length=(len+n) * i.size+(m-(len+n)) * i.size:=λm=>by
     have hz1:(Builtin.zeroCells zv.cells (m-(len+n))).toList.length=(m-(len+n)) * i.size:=by rw[aaJ,size_zeroCells,hzs]
     rw[hz1,hcl,aaz]
    cases cap with
    |some k0=>
     obtain⟨hlc,ek,hm,hh,ho,ea⟩:=hsl;subst ek;subst ea;rcases bU h with⟨hrm,h⟩|⟨hrm,h⟩
     ·have hrm:=bY hrm;have h:=jV h;obtain⟨i3,w2,q1,q2,q3,q4⟩:=kL (P:=P) C' j7 hh (show hm.shift<=o+len * i.size by omega) hL h;refine⟨_,i3,ρ,_,w2,q1,q2,q3,Rho.le.refl ρ,.slc _ _ _ _ _ _ _ _ ⟨hrm,rfl,hm,hh,ho,rfl⟩, ?_⟩;exact eR h0 h1 ht hdx hni hi (hlen w) hrm (o6 w rfl) (by rw[dC ho];exact q4)
     ·have hrm:=Zt hrm;obtain⟨lo,ovs,i3,e2,i9,h,hLo,hol,hof⟩:=uZ (P:=P) (v:=.slice (some ⟨hm.blk,o-hm.shift,none⟩) len c) (len:=len) C' j7 (.slc b g o len (some c) es _ c ⟨hlc,rfl,hm,hh,ho,rfl⟩) rfl (aaa _) hs1 h;have l8:Good w0 ρ i3.h w:=by rw[e2];exact j7
      have c9:=ed (P:=P) (w:=w) (ty:=ty) h0 h1 ht hdx hni hi hiz (hlen w) hrm (by omega) (aj5.resolve_right (by omega)) (hof _ rfl) (o6 _ rfl);refine Fo (a:=.nilIface) (ovs:=ovs) (nvs:=cs) (rest:=λm=>(Builtin.zeroCells zv.cells (m-(len+n))).toList) i9 l8 hLo hL (grownCap w (len+n) c e) hge ?_ h _ c9;rw[hol];have:=an4 (grownCap w (len+n) c e);rw[this, ←aaz];congr 1;omega
    |none=>
     have f9:=cW C' h
     obtain⟨q,i3,hq,e2,i9,h⟩:=bG C' h
     have l8:Good w0 ρ i3.h w:=by rw[e2];exact j7
     cases q with
     |cells c0 gen lo hi fl fh ro ty=>
      obtain⟨k1,z1⟩:=qw h;obtain⟨k2,z2⟩:=ay z1;obtain⟨k3,z3⟩:=ay z2;obtain⟨k4,z4⟩:=ay z3;obtain⟨k5,z5'⟩:=ay z4;obtain⟨k6,z5⟩:=ay z5';have z6:=jV z5;clear h z1 z2 z3 z4 z5 z5';have k6:=aL k6;have k2:=aL k2;have k3:=aL k3;have k4:=aL k4;have k5:=bY k5;subst k1;subst k2;subst k3;subst ty;subst J';subst k4;obtain⟨ct,z7,ab0,hct⟩:=IA _ _ _ z6;have z8:=jV z7;obtain⟨x0,σ3,_,e3,hS3,_,z9⟩:=ft i9 z8;have an5:l.length=n * i.size:=by rw[←hL.1];exact hcl
      obtain⟨hm0,ae9,_⟩:=(j7.blk _ _ hq).2 g (aaa _);rcases aaf c (len+n) with c8|ab_
      ·obtain⟨olds,hol,hoc,hof⟩:∃olds:List Value,olds.length=len * i.size/\(∀j v,olds[j]? =some v->0<len->w.cell? ⟨hm0.blk,o-hm0.shift+j,none⟩=some v)/\(Builtin.firstCells i.size len (.slice (some a) len c)).run P w.drew= .ok olds.toArray w.drew:=by
        rcases aaS len with hz0|hz0
        ·subst hz0;exact⟨[],by simp,by simp,by simp [Builtin.firstCells,loadCells,loadCellsFrom]⟩
        ·obtain⟨hlc,ab4⟩:=hsl;obtain⟨hm,hh,ho,ea,ac3⟩:=ab4.resolve_left (λhc=>by omega);rw[ae9] at hh;injection hh with hh;subst hh;obtain⟨hm',q1,q2,_,arr,fr,q3,q4,q5,q6⟩:=(j7.blk _ _ hq).2 g (aaa _);rw[ae9] at q1;injection q1 with q1;subst q1;have hmul:len * i.size<=c * i.size:=abg hlc (aaa _);refine⟨(arr.toList.drop (o-hm0.shift)).take (len * i.size), ?_,λj v hj _=>?_, ?_⟩
         ·rw[aal,aao,aaJ,q4];omega
         ·rw[aa0] at hj;split at hj
          ·rw[aat,aaW] at hj;simp [World.cell?,q3,hj]
          ·cases hj
         ·refine run_firstCells_some _ i.size len a len c _ (by rw[aal,aao,aaJ,q4];omega) λj v hj=>?_;rw[ea,dC ho];rw[aa0] at hj;split at hj
          ·rw[aat,aaW] at hj;show w.cell? _=_;rw[show o+j-hm0.shift=o-hm0.shift+j by omega];simp [World.cell?,q3,hj]
          ·cases hj
       have c9:=ed (P:=P) (w:=w) (ty:=ty) h0 h1 ht hdx hni hi hiz (hlen w) c8 (by omega) (aj5.resolve_right (by omega)) hof (o6 _ rfl);obtain⟨hle,hG3⟩:=LA (e2:=e) (rest:=(Builtin.zeroCells zv.cells (grownCap w (len+n) c e-(len+n))).toList) j7 f9 hq ae9 hL an5 hol (λhz0=>by obtain⟨hlc,ab4⟩:=hsl;obtain⟨hm,hh,ho,ea,ac3⟩:=ab4.resolve_left (λhc=>by omega);rw[ae9] at hh;injection hh with hh;subst hh;exact ho) hoc hct;refine⟨_,σ3,_,_,_,z9,hS3,by rw[e3,e2];exact hG3,hle,.slc _ _ _ _ _ _ _ _ ⟨hge,.inr ⟨_,Rho.put_at _ _ _ _,aaa _,by simp, ?_⟩⟩,c9⟩;show o-o+grownCap w (len+n) c e * i.size<=(olds++cs++(Builtin.zeroCells zv.cells (grownCap w (len+n) c e-(len+n))).toList).length;rw[aah,aah,hol,an4, ←aaz,aa_,aam];exact abg (by omega) (aaa _)
      ·obtain⟨hlc,ab4⟩:=hsl;obtain⟨hm,hh,ho,ea,ac3⟩:=ab4.resolve_left (λhc=>by omega);rw[ae9] at hh;injection hh with hh;subst hh;subst ea;obtain⟨w',q1,hle,hG3⟩:=IB (P:=P) j7 f9 hq ae9 ho k5 hL an5 ab_ ac3 ab0 hct;refine⟨_,σ3,_,_,w',z9,hS3,by rw[e3,e2];exact hG3,hle,.slc _ _ _ _ _ _ _ _ ⟨ab_,.inr ⟨_,Rho.put_at _ _ _ _,ho,rfl,ac3⟩⟩, ?_⟩;exact eR h0 h1 ht hdx hni hi (hlen w) ab_ (o6 w rfl) q1
     |_=>exact(ah h).elim
  |gsl b g len es hm c hn0 hh hsh hcc hz=>exact gcase _ _ _ _ (.gsl _ _ _ _ hm c hn0 hh hsh hcc hz) h
  |gnil b g es=>exact gcase _ _ _ _ (.gnil _ _ _) h
  |gempty b g es a=>exact gcase _ _ _ _ (.gempty _ _ _ a) h
  |_=>exact(ah h).elim
 unfold E6 at h
 cases y with
 |gsl b g n es=>
  obtain⟨q,b7,hq,e1,b6,h⟩:=bG hS h
  have b9:Good w0 ρ b7.h w:=by rw[e1];exact hG
  have M':b7.h.get b=some q:=by rw[e1];exact hq
  cases q with
  |grow c gen ty2=>
   cases c with
   |rows m l=>
    obtain⟨c1,z1⟩:=ay h
    obtain⟨c2,z2⟩:=ay z1
    have c1:=aL c1
    have c2:=aL c2
    subst c1;subst c2
    rcases cX z2 with⟨c3,z3⟩|⟨_,z3⟩
    ·exact appR m l b7 b6 b9 (LE b9 M' c3 hy) z3
    ·obtain⟨c3,z4⟩:=aN z3;exact appR m _ b7 b6 b9 (LG b9 M' c3 hy) z4
   |bytes t=>
   obtain⟨c1,z1⟩:=ay h
   obtain⟨c2,z2⟩:=ay z1
   obtain⟨c3,z3⟩:=aN z2
   have c1:=aL c1
   have c2:=aL c2
   subst c1;subst c2
   exact appS t b7 b6 b9 (Ra b9 M' c3 hy) z3
  |_=>exact(ah h).elim
 |slc b g o n cap es=>
  cases cap with
  |some cc=>exact main σ hS hG h
  |none=>
  obtain⟨q,b7,hq,e1,b6,h⟩:=bG hS h
  have b9:Good w0 ρ b7.h w:=by rw[e1];exact hG
  have M':b7.h.get b=some q:=by rw[e1];exact hq
  have fall:run (KR (.slc b g o n none es) λn'=>ac (Nat.ble n' 1000000) (oW i.size n' (.slc b g o n none es) λnew=>kI e i.size n' new x k) .fail) b7 K=true->Res P w0 ρ w k K (Builtin.append_ tys ty #[v,u]):=λh=>main b7 b6 b9 h
  cases q with
  |grow c gen ty2=>
   cases c with
   |rows m l=>
    obtain⟨c1,z1⟩:=ay h
    obtain⟨c2,z2⟩:=ay z1
    obtain⟨⟨c3,c4⟩,z3⟩:=aN z2
    have c1:=aL c1
    have c2:=aL c2
    subst c1;subst c2
    exact appR m _ b7 b6 b9 (LH b9 M' c3 c4 hy) z3
   |bytes t=>exact fall h
  |_=>exact fall h
 |_=>exact main σ hS hG h
def Dj{tys:Array TypeId}{ty:TypeId}{args:List AV}{vs:List Value}(hS:SI σ)(hG:Good w0 ρ σ.h w)(hl:LR ρ args vs)(h:run (xf P tys args k) σ K=true):Res P w0 ρ w k K (Builtin.append_ tys ty vs.toArray):=by
 unfold xf at h;split at h
 ·rename_i ts tx s x h0 h1;obtain⟨v,vs1,rfl,hv,hl1⟩:=hl.cons_inv;obtain⟨u,vs2,rfl,hu,hl2⟩:=hl1.cons_inv;have:=hl2.nil_inv;subst this;obtain⟨d,hd,h⟩:=cB h;obtain⟨dx,hdx,h⟩:=cB h;split at h
  ·exact(ah h).elim
  ·rename_i e hni;exact Di hS hG hv hu h0 h1 hd hdx (λj ej=>hni j ej) h
  ·exact(ah h).elim
 ·exact(ah h).elim
def IE{tys:Array TypeId}{ty:TypeId}{args:List AV}{vs:List Value}(hS:SI σ)(hG:Good w0 ρ σ.h w)(hl:LR ρ args vs)(h:run (CZ P tys args k) σ K=true):Res P w0 ρ w k K (Builtin.len_ tys ty vs.toArray):=by
 unfold CZ at h;split at h
 ·rename_i t x h0;obtain⟨v,vs1,rfl,hv,hl1⟩:=hl.cons_inv;have:=hl1.nil_inv;subst this;obtain⟨d,hd,h⟩:=cB h;split at h
  ·cases hv with
   |str s=>
    have hn:(bytesOf s).length=s.size:=by unfold bytesOf;rw[aaK];rfl
    refine .plain (jV h) hS hG (.int _ _) ?_;simp [Builtin.len_,h0,run_underlying hd,goInt,hn]
  ·refine .plain h hS hG (.int _ _) ?_;simp [Builtin.len_,h0,run_underlying hd,goInt]
  ·cases hv;refine .plain h hS hG (.int _ _) ?_;simp [Builtin.len_,h0,run_underlying hd,goInt]
  ·cases hv;refine .plain h hS hG (.int _ _) ?_;simp [Builtin.len_,h0,run_underlying hd,goInt]
  ·cases hv with
   |osl n base len cap hb=>refine .plain h hS hG (.anyI .i64 (len:Int)) ?_;simp [Builtin.len_,h0,run_underlying hd,goInt]
  ·cases hv with
   |cv c blk off cp arr t2 hf hc hb r=>refine .plain h hS hG (.sI .i64 _) ?_;simp [Builtin.len_,h0,run_underlying hd,goInt]
   |cvnil c hc0=>refine .plain h hS hG (.sI .i64 _) ?_;simp [Builtin.len_,h0,run_underlying hd,goInt,hc0]
   |cvempty c a hc0=>refine .plain h hS hG (.sI .i64 _) ?_;simp [Builtin.len_,h0,run_underlying hd,goInt,hc0]
  ·cases hv with
   |gsl b g n es hm c hn0 hh hsh hcc hz=>refine .plain h hS hG (.sI .i64 _) ?_;simp [Builtin.len_,h0,run_underlying hd,goInt]
   |gnil b g es=>refine .plain h hS hG (.sI .i64 _) ?_;simp [Builtin.len_,h0,run_underlying hd,goInt]
   |gempty b g es a=>refine .plain h hS hG (.sI .i64 _) ?_;simp [Builtin.len_,h0,run_underlying hd,goInt]
  ·cases hv with
   |sS s=>
    have hn:(bytesOf s).length=s.size:=by unfold bytesOf;rw[aaK];rfl
    refine .plain h hS hG (.sI .i64 ((bytesOf s).length:Int)) ?_;simp [Builtin.len_,h0,run_underlying hd,goInt,hn]
  ·cases hv;refine .plain h hS hG (.int _ _) ?_;simp [Builtin.len_,h0,run_underlying hd,goInt]
  ·cases hv with
   |map b hm hh=>
    obtain⟨q,b7,hq,e1,b6,h⟩:=bG hS h
    cases q with
    |mapo es clock=>obtain⟨hm',j9,hB,R',j5,T',_⟩:=hG.blk _ _ hq;rw[hh] at j9;injection j9 with j9;subst j9;refine .plain (jV h) b6 (by rw[e1];exact hG) (.int _ _) ?_;simp [Builtin.len_,h0,run_underlying hd,goInt,bx j5 (by simp),T']
    |smap m l=>obtain⟨hm',j9,hB,R',clock,j5,T',_⟩:=hG.blk _ _ hq;rw[hh] at j9;injection j9 with j9;subst j9;refine .plain h b6 (by rw[e1];exact hG) (.sI _ _) ?_;simp [Builtin.len_,h0,run_underlying hd,goInt,bx j5 (by simp),T']
    |_=>exact(ah h).elim
  ·exact(ah h).elim
 ·exact(ah h).elim
def r_{t:TypeId}{r:Option Value}(hr:∀v,r=some v->(∃kt e,P.underlying t=some (.map kt e))/\∃j n,v= .int j n)(hS:SI σ)(hG:Good w0 ρ σ.h w)(h:run (.new (.mapo [] 0) λb=>k (.map b)) σ K=true):Res P w0 ρ w k K (Instr.makeMap t r):=by
 obtain⟨n,a9,hn,f9,hh,C',h⟩:=gt hS h
 obtain⟨hle,j7⟩:=hG.alloc hn f9 (.mapo [] 0) (.map #[] 0) 0 0 (λρ' hle q9 _=>⟨_,q9,.new hG.below.size, #[],by simp,rfl,by simp⟩)
 refine⟨_,a9,_,_,_,h,C',by rw[hh];exact j7,hle,.map n _ (Rho.put_at _ _ _ _), ?_⟩
 cases r with
 |none=>simp [Instr.makeMap]
 |some v=>obtain⟨⟨kt,e,hu⟩,j,m,rfl⟩:=hr v rfl;simp [Instr.makeMap,run_underlying hu,asInt,asIntOf]
def xw{x:AV}{v:Value}(hx:VR ρ x v)(h:run (uO x k) σ K=true):run (k x) σ K=true/\((∃a,v= .pointer (some a))∨(∃f l m,v= .func (.func f) l m)∨∃f l m,v= .func (.yield f) l m):=by
 cases hx with
 |ptr b g o hm hh ho=>exact⟨h,.inl ⟨_,rfl⟩⟩
 |cptr _ _ _ _ _ _ _ _=>exact⟨h,.inl ⟨_,rfl⟩⟩
 |yld b hm hh=>exact⟨h,.inr (.inr ⟨_,_,_,rfl⟩)⟩
 |func fn l m first captured h1 h2 r1 r2 hf=>
  cases fn with
  |func f=>exact⟨h,.inr (.inl ⟨_,_,_,rfl⟩)⟩
  |yield f=>exact⟨h,.inr (.inr ⟨_,_,_,rfl⟩)⟩
  |_=>exact(ah h).elim
 |_=>exact(ah h).elim
end
end Go.Sym
