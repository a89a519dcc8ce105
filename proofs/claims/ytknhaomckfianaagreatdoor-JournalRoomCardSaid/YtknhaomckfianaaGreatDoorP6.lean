/- Part 6. -/
import Derived.CallsIn
import Derived.RangeFuncLeaves
import Derived.TacticsIn
import Derived.OrdersIn
import Derived.Test.YtknhaomckfianaaGreatDoorP5
set_option linter.all false
namespace Go.Sym
open Go.RowKit (Below)
section
variable{P:Program}{w0:World}{ρ:Rho}{w:World}{σ:St}{K:Fin}{k:AV->Tr}
def uf{tys:Array TypeId}{ty:TypeId}{args:List AV}{vs:List Value}(hS:SI σ)(hG:Good w0 ρ σ.h w)(hl:LR ρ args vs)(h:run (oS args k) σ K=true):Res P w0 ρ w k K (Builtin.unsafeSliceData_ tys ty vs.toArray):=by
 cases args with
 |nil=>exact(ac h).elim
 |cons x args=>
  cases args with
  |cons _ _=>cases x <;> exact(ac h).elim
  |nil=>
   obtain⟨v,o7,rfl,hv,m7⟩:=hl.cons_inv
   have:=m7.nil_inv
   subst this
   cases hv with
   |nils=>exact .plain h hS hG .nilp rfl
   |slc b g o len cap es a c t8=>
    obtain⟨hc,h⟩:=aj h;have i4:c≠0/\∃hm,ρ.at_ b g=some hm/\hm.shift<=o/\a=⟨hm.blk,o-hm.shift,none⟩:=by
     obtain⟨h1,h2⟩:=t8
     cases cap with
     |some kk=>have:=aU hc;obtain⟨e,hm,q1,q2,q3⟩:=h2;exact⟨by omega,hm,q1,q2,q3⟩
     |none=>
      have:=aU hc;rcases h2 with⟨e,_⟩|⟨hm,q1,q2,q3,_⟩
      ·omega
      ·exact⟨by omega,hm,q1,q2,q3⟩
    obtain⟨hcz,hm,q1,q2,q3⟩:=i4;subst q3;refine .plain h hS hG (.ptr _ _ _ hm q1 q2) ?_;have e:Builtin.unsafeSliceData_ tys ty #[.slice (some ⟨hm.blk,o-hm.shift,none⟩) len c]=(if c≠0 then pure (.pointer (some ⟨hm.blk,o-hm.shift,none⟩)) else do
     if(←viewAt hm.blk).isSome then pure (.pointer (some ⟨hm.blk,o-hm.shift,none⟩))
     else pure (.pointer (some ⟨←newObj (.view ⟨hm.blk,o-hm.shift,none⟩ (←elemOf ty)),0,none⟩))):=rfl
    show(Builtin.unsafeSliceData_ tys ty #[.slice (some ⟨hm.blk,o-hm.shift,none⟩) len c]).run P w=_;rw[e,if_pos hcz];rfl
   |_=>exact(ac h).elim
def rm{a:Addr}:∀(bs:List Nat) (o:Nat) (acc:ByteArray) (blk:Nat) (arr:Array Value) (ty:TypeId) (fr:Nat×Nat),w.heap[blk]? =some (.cells arr ty fr)->(∀(i m:Nat),bs[i]? =some m->arr[o+i]? =some (Value.int .u8 (m:Nat)))->(∀m∈bs,m<256)->
 ∃s:ByteArray,(loadBytes ⟨blk,o,none⟩ acc bs.length).run P w= .ok s w/\bytesOf s=bytesOf acc++bs:=by
 intro bs
 induction bs with
 |nil=>intro o acc blk arr ty fr _ _ _;exact⟨acc,rfl,by simp⟩
 |cons m bs ih=>
  intro o acc blk arr ty fr hw hb hm
  have h0:=hb 0 m rfl
  have g8:w.cell? ⟨blk,o,none⟩=some (.int .u8 (m:Nat)):=by simp only [World.cell?,hw];simpa using h0
  have hld:(load ⟨blk,o,none⟩).run P w= .ok (.int .u8 (m:Nat)) w:=by rw[run_load P w ⟨blk,o,none⟩ .plain,g8]
  have ah8:(⟨blk,o,none⟩:Addr).add 1=⟨blk,o+1,none⟩:=by unfold Addr.add;simp
  obtain⟨s,q1,q2⟩:=ih (o+1) (acc.push (m:Int).toNat.toUInt8) blk arr ty fr hw (λi n hi=>by
   have:=hb (i+1) n (by simpa using hi)
   rwa [show o+(i+1)=o+1+i by omega] at this) (λx hx=>hm x (by simp [hx]))
  refine⟨s, ?_, ?_⟩
  ·show(loadBytes ⟨blk,o,none⟩ acc (bs.length+1)).run P w=_;simp only [loadBytes,aaa,hld,aad,ah8];exact q1
  ·rw[q2];have c8:=hm m (by simp);have:bytesOf (acc.push (m:Int).toNat.toUInt8)=bytesOf acc++ [m]:=by unfold bytesOf;rw[ByteArray.data_push];simp;omega
   rw[this];simp
def Px:∀{l:List AV} {bs:List Nat},Bo l=some bs->∀m∈bs,m<256:=by
 intro l
 induction l with
 |nil=>intro bs h;injection h with h;subst h;simp
 |cons a l ih=>
  intro bs h;unfold Bo at h;split at h
  ·rename_i e;cases e
  ·rename_i n r' e;injection e with e1 e2;subst e1;subst e2;split at h
   ·rename_i hn;split at h
    ·rename_i l' o5;injection h with h;subst h;intro m hm;rcases List.mem_cons.1 hm with e|hm
     ·subst e;exact hn
     ·exact ih o5 m hm
    ·cases h
   ·cases h
  ·cases h
def r_{c:T Cell}{g o0:Nat}{hm:Home}{arr:Array Value}{l:List AV}{bs:List Nat}(h:Bo l=some bs)(i3:∀(j:Nat) (a:AV),l[j]? =some a->∃tag,c.get (o0+j)=some (.mk tag a)/\tag<=g)(g8:∀o tag a,c.get o=some (.mk tag a)->tag<=g->hm.shift<=o/\∃v,arr[o-hm.shift]? =some v/\VR ρ a v)(hs:hm.shift=0):bs.length=l.length/\∀(i m:Nat),bs[i]? =some m->arr[o0+i]? =some (Value.int .u8 (m:Nat)):=by
 have key:∀(l:List AV) (bs:List Nat),Bo l=some bs->bs.length=l.length/\∀(i m:Nat),bs[i]? =some m->l[i]? =some (AV.int .u8 (m:Nat)):=by
  intro l
  induction l with
  |nil=>intro bs h;injection h with h;subst h;exact⟨rfl,λi m hi=>by simp at hi⟩
  |cons a l ih=>
   intro bs h;unfold Bo at h;split at h
   ·rename_i e;cases e
   ·rename_i n r' e;injection e with e1 e2;subst e1;subst e2;split at h
    ·split at h
     ·rename_i l' o5
      injection h with h
      subst h
      obtain⟨q1,q2⟩:=ih _ o5
      refine⟨by simp [q1],λi m hi=>?_⟩
      cases i with
      |zero=>simp at hi;subst hi;rfl
      |succ i=>simpa using q2 i m (by simpa using hi)
     ·cases h
    ·cases h
   ·cases h
 obtain⟨h1,h2⟩:=key l bs h
 refine⟨h1,λi m hi=>?_⟩
 obtain⟨tag,t1,t2⟩:=i3 i _ (h2 i m hi)
 obtain⟨_,v,r1,r2⟩:=g8 _ tag _ t1 t2
 rw[hs,show o0+i-0=o0+i by omega] at r1
 cases r2
 exact r1
def sa(tys:Array TypeId)(ty:TypeId)(a:Addr)(j:IntKind)(n:Int):Builtin.unsafeString_ tys ty #[.pointer (some a),.int j n]=(do
 let some pt:=tys[0]?|stuck "unsafe.String: no argument types"
 if n<0 then runtimePanic (.error "unsafe.String: len out of range")
 if n > IntKind.i64.max then unsupported (.unsafePointer "String: a length above the largest int")
 if n=0 then pure (.string .empty)
 else if ←variablesAt a (←elemOf pt) n.toNat then do
  let s ←loadBytes a .empty n.toNat
  freeze a n.toNat
  pure (.string s)
 else unsupported (.unsafePointer "String: not so many bytes at ptr")):=rfl
def Ej(tys:Array TypeId)(ty:TypeId)(j:IntKind)(n:Int):Builtin.unsafeString_ tys ty #[.pointer none,.int j n]=(do
 let some pt:=tys[0]?|stuck "unsafe.String: no argument types"
 if n<0 then runtimePanic (.error "unsafe.String: len out of range")
 if n > IntKind.i64.max then unsupported (.unsafePointer "String: a length above the largest int")
 if n=0 then pure (.string .empty)
 else runtimePanic (.error "unsafe.String: ptr is nil and len is not zero")):=rfl
def Ls{tys:Array TypeId}{ty:TypeId}{args:List AV}{vs:List Value}(hS:SI σ)(hG:Good w0 ρ σ.h w)(hl:LR ρ args vs)(h:run (Gx P tys args k) σ K=true):Res P w0 ρ w k K (Builtin.unsafeString_ tys ty vs.toArray):=by
 unfold Gx at h;split at h
 ·rename_i pt x j n0 h0
  obtain⟨v,YK,rfl,hv,u5⟩:=hl.cons_inv
  obtain⟨u,ZJ,rfl,Z8,o5⟩:=u5.cons_inv
  have:=o5.nil_inv
  subst this
  obtain⟨n,rfl,h⟩:=tT h
  cases Z8
  obtain⟨d,hu,h⟩:=bp h
  cases d with
  |pointer e=>
   cases hv with
   |nilp=>obtain⟨hn,h⟩:=aj h;have hn:=aF hn;subst hn;refine .plain h hS hG (v:=.string .empty) (.str .empty) ?_;show(Builtin.unsafeString_ tys ty #[.pointer none,.int j ((0:Nat):Int)]).run P w=_;rw[Ej];simp [h0,IntKind.max,IntKind.signed,IntKind.bits]
   |ptr b g o hm hh ho=>
    rcases bf h with⟨hn,h⟩|⟨hn,h⟩
    ·have hn:=aF hn;subst hn;refine .plain h hS hG (v:=.string .empty) (.str .empty) ?_;show(Builtin.unsafeString_ tys ty #[.pointer (some ⟨hm.blk,o-hm.shift,none⟩),.int j ((0:Nat):Int)]).run P w=_;rw[sa];simp [h0,IntKind.max,IntKind.signed,IntKind.bits]
    ·have hn:n≠0:=λe=>by subst e;simp at hn
     obtain⟨Y5,h⟩:=aj h;have Y5:=aU Y5;obtain⟨de,he,h⟩:=bp h;split at h
     ·obtain⟨c7,h,b6,e1,WZ,hv,XC,m0,w8⟩:=BL hS hG hh h
      have b9:Good w0 ρ c7.h w:=by rw[e1];exact hG
      obtain⟨q,d5,hq,e2,d8,h⟩:=aT b6 h
      have d9:Good w0 ρ d5.h w:=by rw[e2];exact b9
      cases q with
      |cells c gen lo hi fl fh ro ty1=>
       obtain⟨YW,z1⟩:=kB h;obtain⟨hff,z2⟩:=aj z1;obtain⟨l,z3,hlen,i3⟩:=Pq z2;obtain⟨bs,WE,z4⟩:=br z3;have hff:=aU hff;subst YW;have hB:=b9.blk _ _ hq;have Xx:g<=gen:=b9.gens _ _ _ _ hh hq;obtain⟨WT,q1,_,_,arr,fr,q3,q4,q5,q6⟩:=hB.2 g Xx;rw[hh] at q1;injection q1 with q1;subst q1;obtain⟨XD,Ya⟩:=r_ WE i3 (λo tag a ho ht=>q6 o tag a ho ht) WZ;rw[hlen] at XD;obtain⟨s,Ys,XO⟩:=rm (P:=P) (w:=w) (a:=⟨0,0,none⟩) bs o .empty hm.blk arr ty1 fr q3 Ya (Px WE);rw[XD] at Ys;have XO:bytesOf s=bs:=by rw[XO];rfl
       have model:(Builtin.unsafeString_ tys ty #[.pointer (some ⟨hm.blk,o-hm.shift,none⟩),.int j (n:Int)]).run P w= .ok (.string s) (w.freeze ⟨hm.blk,o,none⟩ n):=by
        rw[wE WZ];have h1:¬((n:Int)<0):=by omega
        have h2:¬(9223372036854775807<(n:Int)):=by omega
        have h5:(elemOf pt).run P w= .ok e w:=by simp [elemOf,run_underlying hu]
        rw[sa];simp [h0,h1,h2,hn,h5,hv,Ys]
       have fin:∀(fl' fh':Nat),Good w0 ρ (d5.h.set b (.cells c gen lo hi fl' fh' false ty1)) (w.freeze ⟨hm.blk,o,none⟩ n)->run (.wr b (.cells c gen lo hi fl' fh' false ty1) (k (.str bs))) d5 K=true->
        Res P w0 ρ w k K (Builtin.unsafeString_ tys ty (Value.pointer (some ⟨hm.blk,o-hm.shift,none⟩):: [Value.int j (n:Int)]).toArray):=λfl' fh' hGn hr=>by
        obtain⟨x0,WO,A',e3,WP,_,hr⟩:=cr d8 hr
        refine⟨_,WO,ρ,.string s,_,hr,WP,by rw[e3];exact hGn,Rho.le.refl ρ,by rw[←XO];exact .str s,model⟩
       have YR:d5.h.get b=some (.cells c gen lo hi fl fh false ty1):=by rw[e2];exact hq
       have d4:b+1<2 ^ 64:=by
        rcases bf z4 with⟨_,z5⟩|⟨_,z5⟩
        ·exact(cr d8 (fg z5)).choose_spec.choose_spec.2.2.2.1
        ·rw[eG,eG] at z5;exact(cr d8 z5).choose_spec.choose_spec.2.2.2.1
       rcases bf z4 with⟨hfe,z5⟩|⟨hfe,z5⟩
       ·have hfe:=aF hfe;refine fin _ _ (d9.freezeAt YR d4 hh Xx hn (λx hm3 _ _ p7=>?_) (λf1 f2 hf hqq x x9 p7=>?_)) (fg z5)
        ·have:=p7 (.inr hff);omega
        ·split at p7
         ·omega
         ·rename_i j0;have:=hqq f1 (.inr hff) (aab _) (by omega);omega
       ·have hfe:fl<fh:=by
         rcases aaf fl fh with h'|h'
         ·exact h'
         ·have:fl=fh:=by omega
          subst this;simp at hfe
        rw[eG,eG,ak,ak] at z5;have e1:(if Nat.ble fl o=true then fl else o)=min fl o:=by simp only [aa9,Nat.min_def]
        have e2:(if Nat.ble fh (o+n)=true then o+n else fh)=max fh (o+n):=by simp only [aa9,Nat.max_def]
        rw[e1,e2] at z5;refine fin _ _ (d9.freezeAt YR d4 hh Xx hn (λx hm3 _ _ p7=>?_) (λf1 f2 hf hqq x x9 p7=>?_)) z5
        ·have:=p7 (.inr hff);omega
        ·split at p7
         ·omega
         ·rename_i j0;have l1:=hqq f1 (.inr hff) (aab _) (by omega);have l2:=hqq (f2-1) (.inr hff) (by omega) (by omega);omega
      |_=>exact(ac h).elim
     ·exact(ac h).elim
   |_=>exact(ac h).elim
  |_=>exact(ac h).elim
 ·exact(ac h).elim
def py{i:Nat}{fn:Func}{row:Array Value->Sem Value}(hf:P.funcs[i]? =some fn)(hb:fn.body=none)(hn:¬fn.name= "runtime.NumGoroutine")(h1:Extern.findNext fn=none)(h2:Extern.find fn=some row)(args:Array Value):
 (callFunc i args).run P w=(do pure (Next.value (←row args))).run P w:=by
 simp [callFunc,hf,hn,hb,h1,h2]
def gz(name:String)(j1 j2 j3:IntKind)(x y c:Int)(hc:¬c.toNat > 1):(Extern.MathBitsCarry.three name [.int j1 x,.int j2 y,.int j3 c].toArray).run P w= .ok (x.toNat,y.toNat,c.toNat) w:=by
 have e:Extern.MathBitsCarry.three name [.int j1 x,.int j2 y,.int j3 c].toArray=(do
  let c':=(←asInt (.int j3 c)).toNat
  if c' > 1 then unsupported (.noEntry ("extern/math/bits." ++name++ ": a carry that is neither 0 nor 1"))
  pure ((←asInt (.int j1 x)).toNat,(←asInt (.int j2 y)).toNat,c')):=rfl
 have hi:∀(j:IntKind) (n:Int),(asInt (.int j n)).run P w= .ok n w:=λ_ _=>rfl;rw[e];simp only [hi,aaa,aac,aad,hc,if_false]
def Aa{a b c:AV}{vs:List Value}(hl:LR ρ [a,b,c] vs)(h:run (zu a b c k) σ K=true):
 ∃av v,run (k av) σ K=true/\VR ρ av v/\((do
  let(x,y,c) ←Extern.MathBitsCarry.three "Add64" vs.toArray
  pure (Extern.MathBitsCarry.pair ((x+y+c)%Extern.MathBitsCarry.m64) ((x+y+c)/Extern.MathBitsCarry.m64)):Sem Value)).run P w= .ok v w:=by
 unfold zu at h
 split at h
 ·rename_i j1 x j2 y j3 z e1 e2 e3;obtain⟨v1,YK,rfl,oz,u5⟩:=hl.cons_inv;obtain⟨v2,ZJ,rfl,vG,o5⟩:=u5.cons_inv;obtain⟨v3,vs3,rfl,FW,hl3⟩:=o5.cons_inv;have:=hl3.nil_inv;subst this;have e1:=aI oz e1;have e2:=aI vG e2;have e3:=aI FW e3;subst e1;subst e2;subst e3;obtain⟨⟨h1,h2,h3,h4⟩,h⟩:=aJ h;have X4:¬z.toNat > 1:=by omega
  refine⟨_,.tuple #[.int .u64 ((x+y+z)%18446744073709551616),.int .u64 ((x+y+z)/18446744073709551616)],h, ?_, ?_⟩
  ·exact .tup _ _ rfl (LR.arr (LR.cons (.sI _ _) (LR.cons (.sI _ _) (LR.nil _)))).2
  ·rw[aaa,gz _ _ _ _ _ _ _ X4];have e:((x.toNat+y.toNat+z.toNat:Nat):Int)=x+y+z:=by omega
   have q1:Int.ofNat ((x.toNat+y.toNat+z.toNat)%Extern.MathBitsCarry.m64)=(x+y+z)%18446744073709551616:=by rw[←e];show _=((_:Nat):Int)%((18446744073709551616:Nat):Int);rw[←abB];rfl
   have q2:Int.ofNat ((x.toNat+y.toNat+z.toNat)/Extern.MathBitsCarry.m64)=(x+y+z)/18446744073709551616:=by rw[←e];show _=((_:Nat):Int)/((18446744073709551616:Nat):Int);rw[←Int.natCast_ediv];rfl
   show((pure (Extern.MathBitsCarry.pair _ _):Sem Value)).run P w=_;rw[aac];show Result.ok (Value.tuple #[.int .u64 (Int.ofNat _),.int .u64 (Int.ofNat _)]) w=_;rw[q1,q2]
 ·exact(ac h).elim
def Ab{a b c:AV}{vs:List Value}(hl:LR ρ [a,b,c] vs)(h:run (zx a b c k) σ K=true):
 ∃av v,run (k av) σ K=true/\VR ρ av v/\((do
  let(x,y,b) ←Extern.MathBitsCarry.three "Sub64" vs.toArray
  pure (Extern.MathBitsCarry.pair ((x+Extern.MathBitsCarry.m64-y-b)%Extern.MathBitsCarry.m64) (if x<y+b then 1 else 0)):Sem Value)).run P w= .ok v w:=by
 unfold zx at h
 split at h
 ·rename_i j1 x j2 y j3 z e1 e2 e3;obtain⟨v1,YK,rfl,oz,u5⟩:=hl.cons_inv;obtain⟨v2,ZJ,rfl,vG,o5⟩:=u5.cons_inv;obtain⟨v3,vs3,rfl,FW,hl3⟩:=o5.cons_inv;have:=hl3.nil_inv;subst this;have e1:=aI oz e1;have e2:=aI vG e2;have e3:=aI FW e3;subst e1;subst e2;subst e3;obtain⟨⟨h1,h2,h2',h3,h4⟩,h⟩:=aJ h;have X4:¬z.toNat > 1:=by omega
  have hm:Extern.MathBitsCarry.m64=18446744073709551616:=rfl;have e:((x.toNat+Extern.MathBitsCarry.m64-y.toNat-z.toNat:Nat):Int)=x+18446744073709551616-y-z:=by rw[hm];omega
  have q1:Int.ofNat ((x.toNat+Extern.MathBitsCarry.m64-y.toNat-z.toNat)%Extern.MathBitsCarry.m64)=(x+18446744073709551616-y-z)%18446744073709551616:=by rw[←e];show _=((_:Nat):Int)%((18446744073709551616:Nat):Int);rw[←abB];rfl
  rcases bU h with⟨hp,h⟩|⟨hp,h⟩
  ·refine⟨_,.tuple #[.int .u64 ((x+18446744073709551616-y-z)%18446744073709551616),.int .u64 1],h, ?_, ?_⟩
   ·exact .tup _ _ rfl (LR.arr (LR.cons (.sI _ _) (LR.cons (.sI _ _) (LR.nil _)))).2
   ·rw[aaa,gz _ _ _ _ _ _ _ X4];show((pure (Extern.MathBitsCarry.pair _ (if x.toNat<y.toNat+z.toNat then 1 else 0)):Sem Value)).run P w=_;rw[aac,if_pos (by omega)];show Result.ok (Value.tuple #[.int .u64 (Int.ofNat _),.int .u64 1]) w=_;rw[q1]
  ·refine⟨_,.tuple #[.int .u64 ((x+18446744073709551616-y-z)%18446744073709551616),.int .u64 0],h, ?_, ?_⟩
   ·exact .tup _ _ rfl (LR.arr (LR.cons (.sI _ _) (LR.cons (.sI _ _) (LR.nil _)))).2
   ·rw[aaa,gz _ _ _ _ _ _ _ X4];show((pure (Extern.MathBitsCarry.pair _ (if x.toNat<y.toNat+z.toNat then 1 else 0)):Sem Value)).run P w=_;rw[aac,if_neg (by omega)];show Result.ok (Value.tuple #[.int .u64 (Int.ofNat _),.int .u64 0]) w=_;rw[q1]
 ·exact(ac h).elim
def Ek{args:List AV}{vs:List Value}(hl:LR ρ args vs)(h:run (zy args k) σ K=true):
 ∃av v,run (k av) σ K=true/\VR ρ av v/\((do
  let(x,y,c) ←Extern.MathBitsCarry.three "Add64" vs.toArray
  pure (Extern.MathBitsCarry.pair ((x+y+c)%Extern.MathBitsCarry.m64) ((x+y+c)/Extern.MathBitsCarry.m64)):Sem Value)).run P w= .ok v w:=by
 unfold zy at h
 split at h
 ·rename_i j1 x j2 y j3 c;obtain⟨v1,YK,rfl,oz,u5⟩:=hl.cons_inv;obtain⟨v2,ZJ,rfl,vG,o5⟩:=u5.cons_inv;obtain⟨v3,vs3,rfl,FW,hl3⟩:=o5.cons_inv;have:=hl3.nil_inv;subst this;cases oz;cases vG;cases FW;obtain⟨hc,h⟩:=aj h;have hc:=aU hc;have X4:¬c.toNat > 1:=by omega
  simp only [eG] at h;refine⟨_,.tuple #[.int .u64 (Int.ofNat (((x.toNat.add y.toNat).add c.toNat).mod 18446744073709551616)),.int .u64 (Int.ofNat (((x.toNat.add y.toNat).add c.toNat).div 18446744073709551616))],h, ?_, ?_⟩
  ·exact .tup _ _ rfl (LR.arr (LR.cons (.int _ _) (LR.cons (.int _ _) (LR.nil _)))).2
  ·rw[aaa,gz _ _ _ _ _ _ _ X4];rfl
 ·exact Aa hl h
 ·exact(ac h).elim
def El{args:List AV}{vs:List Value}(hl:LR ρ args vs)(h:run (zz args k) σ K=true):
 ∃av v,run (k av) σ K=true/\VR ρ av v/\((do
  let(x,y,b) ←Extern.MathBitsCarry.three "Sub64" vs.toArray
  pure (Extern.MathBitsCarry.pair ((x+Extern.MathBitsCarry.m64-y-b)%Extern.MathBitsCarry.m64) (if x<y+b then 1 else 0)):Sem Value)).run P w= .ok v w:=by
 unfold zz at h
 split at h
 ·rename_i j1 x j2 y j3 c;obtain⟨v1,YK,rfl,oz,u5⟩:=hl.cons_inv;obtain⟨v2,ZJ,rfl,vG,o5⟩:=u5.cons_inv;obtain⟨v3,vs3,rfl,FW,hl3⟩:=o5.cons_inv;have:=hl3.nil_inv;subst this;cases oz;cases vG;cases FW;obtain⟨hc,h⟩:=aj h;have hc:=aU hc;have X4:¬c.toNat > 1:=by omega
  simp only [eG] at h;refine⟨_,.tuple #[.int .u64 (Int.ofNat ((((x.toNat.add 18446744073709551616).sub y.toNat).sub c.toNat).mod 18446744073709551616)),.int .u64 (Int.ofNat (aa (x.toNat.succ.ble (y.toNat.add c.toNat)) 1 0))],h, ?_, ?_⟩
  ·exact .tup _ _ rfl (LR.arr (LR.cons (.int _ _) (LR.cons (.int _ _) (LR.nil _)))).2
  ·rw[aaa,gz _ _ _ _ _ _ _ X4];simp only [aad];have e:(if x.toNat<y.toNat+c.toNat then 1 else 0:Nat)=aa (Nat.ble (Nat.succ x.toNat) (Nat.add y.toNat c.toNat)) 1 0:=by
    rw[ak];by_cases c8:x.toNat<y.toNat+c.toNat
    ·rw[if_pos c8,if_pos (show Nat.ble (Nat.succ x.toNat) (Nat.add y.toNat c.toNat)=true from Nat.ble_eq.mpr c8)]
    ·rw[if_neg c8,if_neg (λhh:Nat.ble (Nat.succ x.toNat) (Nat.add y.toNat c.toNat)=true=>c8 (Nat.ble_eq.mp hh))]
   rw[e];rfl
 ·exact Ab hl h
 ·exact(ac h).elim
def Lt{i:Nat}{args:List AV}{vs:List Value}(h:BA P i=true)(hl:LR ρ args vs)(hr:run (La P i args k) σ K=true):∃av v,run (k av) σ K=true/\VR ρ av v/\(callFunc i vs.toArray).run P w= .ok (.value v) w:=by
 unfold BA at h;unfold La at hr;split at h
 ·rename_i fn hf;rw[hf] at hr;split at h
  ·rename_i hb;have ho:=of_decide_eq_true h;rcases bf hr with⟨j0,hr⟩|⟨_,hr⟩
   ·have t7:=of_decide_eq_true j0;have h1:Extern.findNext fn=none:=by unfold Extern.findNext;rw[t7,ho];kernel_rfl
    have h2:Extern.find fn=some Extern.AbiNoEscape.same:=by unfold Extern.find;rw[t7];kernel_rfl
    split at hr
    ·rename_i x;obtain⟨xv,o7,rfl,hxv,YB⟩:=hl.cons_inv;have:=YB.nil_inv;subst this;refine⟨_,_,hr,hxv, ?_⟩;rw[py hf hb (by rw[t7];decide) h1 h2];rfl
    ·exact(ac hr).elim
   ·rcases bf hr with⟨j0,hr⟩|⟨_,hr⟩
    ·have t7:=of_decide_eq_true j0;have h1:Extern.findNext fn=none:=by unfold Extern.findNext;rw[t7,ho];kernel_rfl
     have h2:Extern.find fn=some (λargs=>do
      let(x,y,c) ←Extern.MathBitsCarry.three "Add64" args
      pure (Extern.MathBitsCarry.pair ((x+y+c)%Extern.MathBitsCarry.m64) ((x+y+c)/Extern.MathBitsCarry.m64))):=by
      unfold Extern.find
      rw[t7]
      kernel_rfl
     obtain⟨av,v,q1,q2,q3⟩:=Ek (P:=P) (w:=w) hl hr;refine⟨av,v,q1,q2, ?_⟩;rw[py hf hb (by rw[t7];decide) h1 h2,aaa,q3];rfl
    ·obtain⟨j0,hr⟩:=aj hr;have t7:=of_decide_eq_true j0;have h1:Extern.findNext fn=none:=by unfold Extern.findNext;rw[t7,ho];kernel_rfl
     have h2:Extern.find fn=some (λargs=>do
      let(x,y,b) ←Extern.MathBitsCarry.three "Sub64" args
      pure (Extern.MathBitsCarry.pair ((x+Extern.MathBitsCarry.m64-y-b)%Extern.MathBitsCarry.m64) (if x<y+b then 1 else 0))):=by
      unfold Extern.find
      rw[t7]
      kernel_rfl
     obtain⟨av,v,q1,q2,q3⟩:=El (P:=P) (w:=w) hl hr;refine⟨av,v,q1,q2, ?_⟩;rw[py hf hb (by rw[t7];decide) h1 h2,aaa,q3];rfl
  ·cases h
 ·cases h
end
end Go.Sym
namespace Go.Sym
open Go.RowKit (Below)
def fR(rd:Option Nat):Fence:={Fence.wide with round:=rd}
def Lu(P:Program)(w0:World)(rn:cq):Prop:=
 ∀(l:Nat) (as:List AV) (vs:List Value) (k:AV->Tr) (σ:St) (K:Fin) (ρ:Rho) (w:World) (R:Ending->World->Prop),SI σ->Good w0 ρ σ.h w->LR ρ as vs->run (rn l as k) σ K=true->
  (∀av v a8 ρ' w',run (k av) a8 K=true->SI a8->Good w0 ρ' a8.h w'->ρ.le ρ'->VR ρ' av v->R (.returned v) w')->
  ∃h,ρ.at_ l 0=some h/\∃f tmps as bd,(Instr.yield h.blk vs.toArray).run P w= .ok (.round h.blk f tmps as bd) w/\RoundIn Fence.wide 0 P h.blk f tmps as bd w R
def wU(P:Program)(w0:World)(en:cq):Prop:=
 ∀(f:Nat) (l:List AV) (vs:List Value) (k:AV->Tr) (σ:St) (K:Fin) (ρ:Rho) (w:World) (R:Ending->World->Prop),SI σ->Good w0 ρ σ.h w->LR ρ l vs->run (en f l k) σ K=true->
  (∀av v a8 ρ' w',run (k av) a8 K=true->SI a8->Good w0 ρ' a8.h w'->ρ.le ρ'->VR ρ' av v->R (.returned v) w')->
  (∀args:Array Value,(callFunc f args).run P w= .ok (.enter f args) w)/\CallsIn Fence.wide 0 P f vs.toArray w R
section
variable{P:Program}{w0:World}{ρ:Rho}{w:World}{σ:St}{K:Fin}{k:AV->Tr}{nt:Nat}{env:T AV}{a:Act}{o:Oper}{next:Act->World->Prop}{Q:Exit->Act->World->Prop}{rd:Option Nat}
def Nxt(w0:World)(ρ:Rho)(K:Fin)(k:AV->Tr)(o:Oper)(a:Act)(next:Act->World->Prop):Prop:=
 ∀av v a8 ρ' w',run (k av) a8 K=true->SI a8->Good w0 ρ' a8.h w'->ρ.le ρ'->VR ρ' av v->next (a.put o.dst v) w'
def Nxt.mono{ρ':Rho}(h:Nxt w0 ρ K k o a next)(hle:ρ.le ρ'):Nxt w0 ρ' K k o a next:=λav v a8 ρ2 w' h1 h2 h3 h4 h5=>h av v a8 ρ2 w' h1 h2 h3 (hle.trans h4) h5
def a_{s:Sem Value}(he:execOp a.eval o=(do pure (.value (←s))))(hn:Nxt w0 ρ K k o a next)(hr:Res P w0 ρ w k K s)(hd:∀c,o.op≠ .defer c:=by assumption):o.wpIn (fR rd) 0 P a w next Q:=by
 obtain⟨av,a8,ρ',v,w',h1,h2,h3,h4,h5,h6⟩:=hr;refine⟨λ_ _=>trivial, ?_⟩;show o.uponIn (fR rd) 0 P a next Q ((o.semAt rd a.eval).run P w)
 rw[Oper.semAt_eq _ _ _ hd,he];simp only [aaa,h6,aad,aac,Oper.uponIn_value];exact hn av v a8 ρ' w' h1 h2 h3 h4 h5
def g_{av:AV}{v:Value}(he:(execOp a.eval o).run P w= .ok (.value v) w)(hn:Nxt w0 ρ K k o a next)(hr:run (k av) σ K=true)(hS:SI σ)(hG:Good w0 ρ σ.h w)(hv:VR ρ av v)(hd:∀c,o.op≠ .defer c:=by assumption):o.wpIn (fR rd) 0 P a w next Q:=by
 refine⟨λ_ _=>trivial, ?_⟩;show o.uponIn (fR rd) 0 P a next Q ((o.semAt rd a.eval).run P w)
 rw[Oper.semAt_eq _ _ _ hd,he];exact hn av v σ ρ w hr hS hG (Rho.le.refl ρ) hv
def og{s:Sem Unit}(he:execOp a.eval o=(do s;pure .skip))(hn:Nxt w0 ρ K k o a next)(hr:zF P w0 ρ w (wg k) K s)(hd:∀c,o.op≠ .defer c:=by assumption):o.wpIn (fR rd) 0 P a w next Q:=by
 obtain⟨a8,w',h1,h2,h3,h4⟩:=hr;refine⟨λ_ _=>trivial, ?_⟩;show o.uponIn (fR rd) 0 P a next Q ((o.semAt rd a.eval).run P w)
 rw[Oper.semAt_eq _ _ _ hd,he];simp only [aaa,h4,aad,aac,Oper.uponIn_skip];exact hn _ _ a8 ρ w' h1 h2 h3 (Rho.le.refl ρ) (.tup [] #[] rfl (by simp))
def Hr{en rn:cq}(Y6:wU P w0 en)(hrn:Lu P w0 rn)(hS:SI σ)(hG:Good w0 ρ σ.h w)(hE:ER ρ nt env a.tmps)(h:run (Lb P en rn env o.op k) σ K=true)(hn:Nxt w0 ρ K k o a next):o.wpIn (fR rd) 0 P a w next Q:=by
 have ev:∀{σ:St} {x:Operand} {f:AV->Tr},SI σ->Good w0 ρ σ.h w->run (cL env x f) σ K=true->∃av a8,SI a8/\Good w0 ρ a8.h w/\run (f av) a8 K=true/\VR ρ av (a.eval x):=by intro σ x f hS hG h;obtain⟨av,a8,e,h1,h2,h3⟩:=rP hS hG hE h;exact⟨av,a8,h1,by rw[e];exact hG,h2,h3⟩
 have hd:∀c,o.op≠ .defer c:=λc hc=>by rw[hc] at h;exact ac h
 cases ho:o.op with
 |move x=>rw[ho] at h;obtain⟨av,c7,b6,b9,h,hv⟩:=ev hS hG h;exact g_ (by simp only [execOp,ho];rfl) hn h b6 b9 hv
 |assign x=>rw[ho] at h;obtain⟨av,c7,b6,b9,h,hv⟩:=ev hS hG h;exact g_ (by simp only [execOp,ho];rfl) hn h b6 b9 hv
 |pick c x y=>
  rw[ho] at h;obtain⟨av,c7,b6,b9,h,hv⟩:=ev hS hG h;obtain⟨b,hc,h⟩:=Ld hv h;rcases bf h with⟨e,h⟩|⟨e,h⟩
  ·subst e;obtain⟨av,d5,d8,d9,h,hv⟩:=ev b6 b9 h;exact g_ (v:=a.eval x) (by simp only [execOp,ho,hc];rfl) hn h d8 d9 hv
  ·subst e;obtain⟨av,d5,d8,d9,h,hv⟩:=ev b6 b9 h;exact g_ (v:=a.eval y) (by simp only [execOp,ho,hc];rfl) hn h d8 d9 hv
 |alloc t=>rw[ho] at h;exact a_ (by simp only [execOp,ho]) hn (GR hS hG h)
 |box t x=>rw[ho] at h;obtain⟨av,c7,b6,b9,h,hv⟩:=ev hS hG h;exact a_ (by simp only [execOp,ho]) hn (Pp (t:=t) b6 b9 hv h)
 |build t ps=>
  rw[ho] at h;obtain⟨av,c7,e,b6,h,h1,h2⟩:=oX hS hG hE h;have b9:Good w0 ρ c7.h w:=by rw[e];exact hG
  exact a_ (s:=Instr.build t (ps.map λx=>(x.1,a.eval x.2))) (by simp only [execOp,ho]) hn (GX b6 b9 (by rw[h1];simp [Function.comp_def]) (by simpa [Function.comp_def] using h2) h)
 |buildSlice t n ps=>
  rw[ho] at h;obtain⟨av,c7,e,b6,h,h1,h2⟩:=oX hS hG hE h;have b9:Good w0 ρ c7.h w:=by rw[e];exact hG
  obtain⟨av2,d5,ρ2,h,d8,d9,i5,h2,e2⟩:=wy b6 b9 h2 h;exact a_ (s:=Instr.buildSlice t n (ps.map λx=>(x.1,a.eval x.2))) (by simp only [execOp,ho]) (hn.mono i5) (rk d8 d9 (by rw[e2,h1];simp [Function.comp_def]) (by simpa [Function.comp_def] using h2) h)
 |load t x=>rw[ho] at h;obtain⟨av,c7,b6,b9,h,hv⟩:=ev hS hG h;obtain⟨ap,d5,h,d8,e2,hp⟩:=BH b6 b9 hv h;exact a_ (by simp only [execOp,ho]) hn (Ll d8 (by rw[e2];exact b9) hp h)
 |store t x y=>rw[ho] at h;obtain⟨av,c7,b6,b9,h,hv⟩:=ev hS hG h;obtain⟨au,d5,d8,d9,h,hu⟩:=ev b6 b9 h;obtain⟨ap,WO,h,WP,e3,hp⟩:=BH d8 d9 hv h;obtain⟨au2,σ4,ρ4,h,hS4,hG4,ae9,hu⟩:=GY WP (by rw[e3];exact d9) hu h;exact og (by simp only [execOp,ho]) (hn.mono ae9) (GV hS4 hG4 (hp.mono ae9) hu h)
 |nilCheck x=>rw[ho] at h;obtain⟨av,c7,b6,b9,h,hv⟩:=ev hS hG h;obtain⟨h,hc⟩:=uc hv h;refine g_ (v:=a.eval x) ?_ hn h b6 b9 hv;rcases hc with⟨p,e⟩|⟨f,l,m,e⟩|⟨f,l,m,e⟩ <;> (simp only [execOp,ho,e];rfl)
 |binOp op t x y z=>rw[ho] at h;obtain⟨av,c7,b6,b9,h,hv⟩:=ev hS hG h;obtain⟨au,d5,d8,d9,h,hu⟩:=ev b6 b9 h;exact a_ (by simp only [execOp,ho]) hn (GO (ox:=x) (oy:=y) d8 d9 hv hu h)
 |unOp op t x=>rw[ho] at h;obtain⟨av,c7,b6,b9,h,hv⟩:=ev hS hG h;exact a_ (by simp only [execOp,ho]) hn (Lk b6 b9 hv h)
 |convert s d x=>rw[ho] at h;obtain⟨av,c7,b6,b9,h,hv⟩:=ev hS hG h;obtain⟨au,d5,h,d8,e2,hu⟩:=lA b6 b9 hv h;exact a_ (by simp only [execOp,ho]) hn (G7 d8 (by rw[e2];exact b9) hu h)
 |makeInterface t x=>rw[ho] at h;obtain⟨av,c7,b6,b9,h,hv⟩:=ev hS hG h;exact a_ (by simp only [execOp,ho]) hn (zN b6 b9 hv h)
 |makeFunc fn first cap=>
  rw[ho] at h;obtain⟨hf,h⟩:=aj h;obtain⟨l1,c7,e,b6,h,u5⟩:=tU hS hG hE h;have b9:Good w0 ρ c7.h w:=by rw[e];exact hG
  obtain⟨l2,d5,e2,d8,h,o5⟩:=tU b6 b9 hE h;have d9:Good w0 ρ d5.h w:=by rw[e2];exact b9
  have q1:LR ρ l1 (first.map a.eval).toList:=by simpa using u5
  have q2:LR ρ l2 (cap.map a.eval).toList:=by simpa using o5
  exact g_ (v:=.func fn (first.map a.eval) (cap.map a.eval)) (by simp only [execOp,ho];rfl) hn h d8 d9 (.func fn l1 l2 _ _ q1.arr.1 q2.arr.1 q1.arr.2 q2.arr.2 hf)
 |makeMap t r=>
  rw[ho] at h
  cases r with
  |none=>exact a_ (s:=Instr.makeMap t none) (by simp only [execOp,ho];rfl) hn (pn (λv hv=>by cases hv) hS hG h)
  |some x=>
   obtain⟨d,hu,h⟩:=bp h
   cases d with
   |map kt e=>obtain⟨av,c7,b6,b9,h,hv⟩:=ev hS hG h;obtain⟨j,n,rfl,h⟩:=kC h;generalize hc:a.eval x=cv at hv;cases hv;exact a_ (s:=Instr.makeMap t (some (a.eval x))) (by simp only [execOp,ho];rfl) hn (pn (λv hv=>by injection hv with hv;exact⟨⟨kt,e,hu⟩,j,n,by rw[←hv,hc]⟩) b6 b9 h)
   |_=>exact(ac h).elim
 |makeSlice t x y=>rw[ho] at h;obtain⟨av,c7,b6,b9,h,hv⟩:=ev hS hG h;obtain⟨au,d5,d8,d9,h,hu⟩:=ev b6 b9 h;exact a_ (by simp only [execOp,ho]) hn (rl d8 d9 hv hu h)
 |typeAssert x xt t ok=>rw[ho] at h;obtain⟨av,c7,b6,b9,h,hv⟩:=ev hS hG h;exact a_ (by simp only [execOp,ho]) hn (px (xt:=xt) b6 b9 hv h)
 |slice t x lo hi mx=>
  rw[ho] at h;obtain⟨av,c7,b6,b9,h,hv⟩:=ev hS hG h;obtain⟨o1,d5,e2,d8,h,h1⟩:=zG b6 b9 hE h;have d9:Good w0 ρ d5.h w:=by rw[e2];exact b9
  obtain⟨o2,WO,e3,WP,h,h2⟩:=zG d8 d9 hE h;have B':Good w0 ρ WO.h w:=by rw[e3];exact d9
  obtain⟨o3,σ4,e4,hS4,h,h3⟩:=zG WP B' hE h;have hG4:Good w0 ρ σ4.h w:=by rw[e4];exact B'
  obtain⟨au,σ5,h,hS5,e5,hu⟩:=lA hS4 hG4 hv h;exact a_ (by simp only [execOp,ho]) hn (D1 hS5 (by rw[e5];exact hG4) hu h1 h2 h3 h)
 |fieldAddr t x f=>rw[ho] at h;obtain⟨av,c7,b6,b9,h,hv⟩:=ev hS hG h;exact a_ (by simp only [execOp,ho]) hn (tZ b6 b9 hv h)
 |field t x f=>rw[ho] at h;obtain⟨av,c7,b6,b9,h,hv⟩:=ev hS hG h;exact a_ (by simp only [execOp,ho]) hn (GZ b6 b9 hv h)
 |indexAddr t x i=>rw[ho] at h;obtain⟨av,c7,b6,b9,h,hv⟩:=ev hS hG h;obtain⟨au,d5,d8,d9,h,hu⟩:=ev b6 b9 h;obtain⟨at_,WO,h,WP,e3,ht⟩:=lA d8 d9 hv h;exact a_ (by simp only [execOp,ho]) hn (t_ WP (by rw[e3];exact d9) ht hu h)
 |index t x i=>rw[ho] at h;obtain⟨av,c7,b6,b9,h,hv⟩:=ev hS hG h;obtain⟨au,d5,d8,d9,h,hu⟩:=ev b6 b9 h;exact a_ (by simp only [execOp,ho]) hn (G3 d8 d9 hv hu h)
 |range t x=>rw[ho] at h;obtain⟨av,c7,b6,b9,h,hv⟩:=ev hS hG h;exact a_ (by simp only [execOp,ho]) hn (Ef b6 b9 hv h)
 |next it s=>rw[ho] at h;obtain⟨av,c7,b6,b9,h,hv⟩:=ev hS hG h;exact a_ (by simp only [execOp,ho]) hn (Hl (ty:=o.type) b6 b9 hv h)
 |lookup t x i ok=>rw[ho] at h;obtain⟨av,c7,b6,b9,h,hv⟩:=ev hS hG h;obtain⟨au,d5,d8,d9,h,hu⟩:=ev b6 b9 h;exact a_ (by simp only [execOp,ho]) hn (zX d8 d9 hv hu h)
 |mapUpdate t m i v=>rw[ho] at h;obtain⟨av,c7,b6,b9,h,hv⟩:=ev hS hG h;obtain⟨au,d5,d8,d9,h,hu⟩:=ev b6 b9 h;obtain⟨aw,WO,WP,B',h,hw⟩:=ev d8 d9 h;exact og (by simp only [execOp,ho]) hn (ki WP B' hv hu hw h)
 |insert t m i v=>rw[ho] at h;obtain⟨av,c7,b6,b9,h,hv⟩:=ev hS hG h;obtain⟨au,d5,d8,d9,h,hu⟩:=ev b6 b9 h;obtain⟨aw,WO,WP,B',h,hw⟩:=ev d8 d9 h;exact og (by simp only [execOp,ho]) hn (ki WP B' hv hu hw h)
 |mapEntry t m i=>rw[ho] at h;obtain⟨av,c7,b6,b9,h,hv⟩:=ev hS hG h;obtain⟨au,d5,d8,d9,h,hu⟩:=ev b6 b9 h;exact a_ (by simp only [execOp,ho]) hn (ud d8 d9 hv hu h)
 |entryStore t m i v=>rw[ho] at h;obtain⟨av,c7,b6,b9,h,hv⟩:=ev hS hG h;obtain⟨au,d5,d8,d9,h,hu⟩:=ev b6 b9 h;obtain⟨aw,WO,WP,B',h,hw⟩:=ev d8 d9 h;exact og (by simp only [execOp,ho]) hn (pw (t:=t) WP B' hv hu hw h)
 |entry it=>rw[ho] at h;obtain⟨av,c7,b6,b9,h,hv⟩:=ev hS hG h;exact a_ (by simp only [execOp,ho]) hn (Eh b6 b9 hv h)
 |extract t i=>rw[ho] at h;obtain⟨av,c7,b6,b9,h,hv⟩:=ev hS hG h;exact a_ (by simp only [execOp,ho]) hn (zM b6 b9 hv h)
 |call c=>
  rw[ho] at h
  have i7:c.args.map a.eval=(c.args.toList.map a.eval).toArray:=by apply Array.ext';simp
  have h:run (match c.callee with
   | .builtin b=>lg env c.args.toList λl=>mz l λl=>lp P b c.argTypes l k
   | .value f=>cL env f λf=>lg env c.args.toList λl=>BB P en rn f l k
   | .invoke _ _=>.fail) σ K=true:=h
  cases hc:c.callee with
  |builtin b=>
   rw[hc] at h
   obtain⟨l0,σ0,e0,ZO,h,Y0⟩:=tU hS hG hE h
   have YS:Good w0 ρ σ0.h w:=by rw[e0];exact hG
   obtain⟨l,c7,h,b6,e,hl⟩:=rW ZO YS Y0 h
   have b9:Good w0 ρ c7.h w:=by rw[e];exact YS
   cases b with
   |append=>exact a_ (s:=Builtin.append_ c.argTypes o.type (c.args.toList.map a.eval).toArray) (by simp only [execOp,ho,resolve,hc,i7,invoke,builtin];rfl) hn (zW b6 b9 hl h)
   |unsafeString=>exact a_ (s:=Builtin.unsafeString_ c.argTypes o.type (c.args.toList.map a.eval).toArray) (by simp only [execOp,ho,resolve,hc,i7,invoke,builtin];rfl) hn (Ls b6 b9 hl h)
   |unsafeSliceData=>exact a_ (s:=Builtin.unsafeSliceData_ c.argTypes o.type (c.args.toList.map a.eval).toArray) (by simp only [execOp,ho,resolve,hc,i7,invoke,builtin];rfl) hn (uf b6 b9 hl h)
   |len=>exact a_ (s:=Builtin.len_ c.argTypes o.type (c.args.toList.map a.eval).toArray) (by simp only [execOp,ho,resolve,hc,i7,invoke,builtin];rfl) hn (D9 b6 b9 hl h)
   |copy=>exact a_ (s:=Builtin.copy_ c.argTypes o.type (c.args.toList.map a.eval).toArray) (by simp only [execOp,ho,resolve,hc,i7,invoke,builtin];rfl) hn (Hq b6 b9 hl h)
   |max=>exact a_ (s:=Builtin.max_ c.argTypes o.type (c.args.toList.map a.eval).toArray) (by simp only [execOp,ho,resolve,hc,i7,invoke,builtin];rfl) hn (Pv b6 b9 hl h)
   |min=>exact a_ (s:=Builtin.min_ c.argTypes o.type (c.args.toList.map a.eval).toArray) (by simp only [execOp,ho,resolve,hc,i7,invoke,builtin];rfl) hn (Pw b6 b9 hl h)
   |delete=>exact a_ (s:=Builtin.delete_ c.argTypes o.type (c.args.toList.map a.eval).toArray) (by simp only [execOp,ho,resolve,hc,i7,invoke,builtin];rfl) hn (z_ b6 b9 hl h)
   |_=>exact(ac h).elim
  |value f=>
   rw[hc] at h
   obtain⟨av,c7,b6,b9,h,hv⟩:=ev hS hG h
   obtain⟨l,d5,e,d8,h,hl⟩:=tU b6 b9 hE h
   have d9:Good w0 ρ d5.h w:=by rw[e];exact b9
   generalize hfv:a.eval f=fv at hv
   cases hv with
   |func fn l1 m1 first captured h1 h2 r1 r2 hf=>
    cases fn with
    |func i=>
     have q1:LR ρ l1 first.toList:=LR.of_arr h1 r1
     have q2:LR ρ m1 captured.toList:=LR.of_arr h2 r2;have ea:(first++(c.args.toList.map a.eval).toArray++captured)=(first.toList++c.args.toList.map a.eval++captured.toList).toArray:=by apply Array.ext';simp
     have he0:(execOp a.eval o).run P w=(callFunc i (first++(c.args.toList.map a.eval).toArray++captured)).run P w:=by simp only [execOp,ho,resolve,hc,hfv,Deferred.ofValue,i7,aaa,aac,aad,invoke]
     have h:run (aa (BA P i) (La P i (l1++l++m1) k) (en i (l1++l++m1) k)) d5 K=true:=h;rcases bf h with⟨j0,h⟩|⟨_,h⟩
     ·obtain⟨av,v,q3,q4,q5⟩:=Lt (w:=w) j0 ((q1.append hl).append q2) h;refine g_ ?_ hn q3 d8 d9 q4;rw[he0,ea];exact q5
     obtain⟨hcf,hci⟩:=Y6 i (l1++l++m1) _ k d5 K ρ w (λe w'=>match e with
      | .returned v=>next (a.put o.dst v) w'
      | .panicked chain=>Q (.panic chain) a w'
      | .outgrown=>LetsOut Q) d8 d9 ((q1.append hl).append q2) h (λav v a8 ρ' w' g1 g2 g3 g4 g5=>hn av v a8 ρ' w' g1 g2 g3 g4 g5)
     refine⟨λ_ _=>trivial, ?_⟩;show o.uponIn (fR rd) 0 P a next Q ((o.semAt rd a.eval).run P w)
     have he:(execOp a.eval o).run P w= .ok (.enter i (first++(c.args.toList.map a.eval).toArray++captured)) w:=by rw[he0];exact hcf _
     rw[Oper.semAt_eq _ _ _ hd,he,Oper.uponIn_enter];refine⟨λh=>absurd h (by simp [fR,Fence.wide]), ?_⟩;rw[ea];exact hci.mono λe w' hr=>by cases e <;> exact hr
    |yield _=>exact absurd (show false=true from hf) (by decide)
    |_=>exact(ac h).elim
   |yld b hb hh=>
    have h:run (rn b l k) d5 K=true:=h;obtain⟨w9,g7,f,tmps,as,bd,q1,q2⟩:=hrn b l _ k d5 K ρ w (λe w'=>match e with
     | .returned v=>next (a.put o.dst v) w'
     | .panicked chain=>Q (.panic chain) a w'
     | .outgrown=>LetsOut Q) d8 d9 hl h (λav v a8 ρ' w' g1 g2 g3 g4 g5=>hn av v a8 ρ' w' g1 g2 g3 g4 g5)
    rw[hh] at g7;injection g7 with g7;subst g7;refine⟨λ_ _=>trivial, ?_⟩;show o.uponIn (fR rd) 0 P a next Q ((o.semAt rd a.eval).run P w)
    have he:(execOp a.eval o).run P w= .ok (.round hb.blk f tmps as bd) w:=by
     have:(execOp a.eval o).run P w=(Instr.yield hb.blk (#[]++(c.args.toList.map a.eval).toArray)).run P w:=by simp only [execOp,ho,resolve,hc,hfv,Deferred.ofValue,i7,aaa,aac,aad,invoke]
     rw[this,Array.empty_append];exact q1
    rw[Oper.semAt_eq _ _ _ hd,he,Oper.uponIn_round];refine⟨λh=>absurd h (by simp [fR,Fence.wide]), ?_⟩;exact RoundIn.mono (show RoundIn (fR rd) (0-1) P hb.blk f tmps as bd w _ from q2) λe w' hr=>by cases e <;> exact hr
   |_=>exact(ac h).elim
  |invoke r m=>rw[hc] at h;exact(ac h).elim
 |_=>rw[ho] at h;exact(ac h).elim
end
end Go.Sym
namespace Go.Sym
open Go.RowKit (Below)
section
variable{P:Program}{w0:World}{ρ:Rho}{w:World}{σ:St}{K:Fin}{nt:Nat}{env:T AV}{a:Act}
def Sj{dst:Option Nat}{av:AV}{v:Value}{k:T AV->Tr}(hv:VR ρ av v)(hE:ER ρ nt env a.tmps)(h:run (wh nt dst av env k) σ K=true):
 ∃env',run (k env') σ K=true/\ER ρ nt env' (a.put dst v).tmps/\(a.put dst v).defers=a.defers:=by
 cases dst with
 |none=>exact⟨env,h,hE,rfl⟩
 |some d=>
  obtain⟨hd,h⟩:=aj h
  have hd:=aU hd
  rw[T.setK_eq] at h
  refine⟨_,h,⟨?_,λt b hb=>?_⟩,rfl⟩
  ·show(a.tmps.setIfInBounds d v).size=nt;rw[abO];exact hE.size
  ·show ∃u,(a.tmps.setIfInBounds d v)[t]? =some u/\VR ρ b u;by_cases e:t=d
   ·subst e;have:=T.get_set_some _ _ hb;subst this;refine⟨v, ?_,hv⟩;rw[aaD,if_pos rfl,if_pos (by rw[hE.size];omega)]
   ·rw[T.get_set_ne _ e] at hb;obtain⟨u,hu,hr⟩:=hE.val t b hb;exact⟨u,by rw[aaD,if_neg (λe'=>e e'.symm)];exact hu,hr⟩
def Hs{ops:Array Oper}{o:Oper}{yes no:Tr}(hE:ER ρ nt env a.tmps)(h:run (iQ ops env o yes no) σ K=true):
 (Region.wanted o (yielded ops a.tmps)=true/\run yes σ K=true)∨(Region.wanted o (yielded ops a.tmps)=false/\run no σ K=true):=by
 unfold iQ at h
 unfold Region.wanted
 split at h
 ·rename_i hg;rw[hg];exact .inl ⟨rfl,h⟩
 ·rename_i j want hg;rw[hg];split at h
  ·rename_i oj hj;split at h
   ·rename_i d hd
    obtain⟨v,hv,h⟩:=mD h
    obtain⟨u,hu,hr⟩:=hE.val _ _ hv
    have hy:∀b,u= .bool b->yielded ops a.tmps j=some b:=λb e=>by subst e;simp [yielded,hj,hd,hu]
    have hn:(∀b,u≠ .bool b)->yielded ops a.tmps j=none:=λhn=>by simp only [yielded,hj,hd,hu,Option.bind_some];cases u <;> first|rfl|exact absurd rfl (hn _)
    cases hr with
    |bool b=>
     rcases bf h with⟨e,h⟩|⟨e,h⟩
     ·refine .inl ⟨?_,h⟩;have:b=want:=by simpa using e
      subst this;simp [hy b rfl]
     ·refine .inr ⟨?_,h⟩;have:¬b=want:=by simpa using e
      simp [hy b rfl,this]
    |tup l cs h1 h2=>exact .inr ⟨by simp [hn (λb e=>by cases e)],h⟩
    |sB p b hb=>
     cases want with
     |true=>
      rcases bU h with⟨hp,h⟩|⟨hp,h⟩
      ·exact .inl ⟨by simp [hy b rfl,hb.2 hp],h⟩
      ·exact .inr ⟨by simp [hy b rfl];cases b with|true=>exact absurd (hb.1 rfl) hp|false=>rfl,h⟩
     |false=>
      rcases bU h with⟨hp,h⟩|⟨hp,h⟩
      ·exact .inr ⟨by simp [hy b rfl,hb.2 hp],h⟩
      ·exact .inl ⟨by simp [hy b rfl];cases b with|true=>exact absurd (hb.1 rfl) hp|false=>rfl,h⟩
    |_=>exact(ac h).elim
   ·exact(ac h).elim
  ·exact(ac h).elim
def ER.known{p:Prop}{b:Bool}{d:Nat}(hE:ER ρ nt env a.tmps)(hd:env.get d=some (.sB p))(hu:a.tmps[d]? =some (.bool b)):ER ρ nt (env.set d (.bool b)) a.tmps:=by
 refine⟨hE.size,λt x hx=>?_⟩;by_cases e:t=d
 ·subst e;have:=T.get_set_some _ _ hx;subst this;exact⟨_,hu,.bool b⟩
 ·rw[T.get_set_ne _ e] at hx;exact hE.val t x hx
def Lv{ops:Array Oper}{o:Oper}{yes no:T AV->Tr}(hE:ER ρ nt env a.tmps)(h:run (n_ ops env o yes no) σ K=true):
 ∃env',ER ρ nt env' a.tmps/\((Region.wanted o (yielded ops a.tmps)=true/\run (yes env') σ K=true)∨(Region.wanted o (yielded ops a.tmps)=false/\run (no env') σ K=true)):=by
 unfold n_ at h
 unfold Region.wanted
 split at h
 ·rename_i hg;rw[hg];exact⟨env,hE,.inl ⟨rfl,h⟩⟩
 ·rename_i j want hg;rw[hg];split at h
  ·rename_i oj hj;split at h
   ·rename_i d hd
    obtain⟨v,hv,h⟩:=mD h
    obtain⟨u,hu,hr⟩:=hE.val _ _ hv
    have hy:∀b,u= .bool b->yielded ops a.tmps j=some b:=λb e=>by subst e;simp [yielded,hj,hd,hu]
    have hn:(∀b,u≠ .bool b)->yielded ops a.tmps j=none:=λhn=>by simp only [yielded,hj,hd,hu,Option.bind_some];cases u <;> first|rfl|exact absurd rfl (hn _)
    cases hr with
    |bool b=>
     refine⟨env,hE, ?_⟩;rcases bf h with⟨e,h⟩|⟨e,h⟩
     ·refine .inl ⟨?_,h⟩;have:b=want:=by simpa using e
      subst this;simp [hy b rfl]
     ·refine .inr ⟨?_,h⟩;have:¬b=want:=by simpa using e
      simp [hy b rfl,this]
    |tup l cs h1 h2=>exact⟨env,hE,.inr ⟨by simp [hn (λb e=>by cases e)],h⟩⟩
    |sB p b hb=>
     rcases bU h with⟨hp,h⟩|⟨hp,h⟩
     ·have u6:b=true:=hb.2 hp
      subst u6
      rw[T.setK_eq] at h
      refine⟨_,hE.known hv hu, ?_⟩
      cases want with
      |true=>exact .inl ⟨by simp [hy true rfl],h⟩
      |false=>exact .inr ⟨by simp [hy true rfl],h⟩
     ·have hbf:b=false:=by cases b with|true=>exact absurd (hb.1 rfl) hp|false=>rfl
      subst hbf
      rw[T.setK_eq] at h
      refine⟨_,hE.known hv hu, ?_⟩
      cases want with
      |true=>exact .inr ⟨by simp [hy false rfl],h⟩
      |false=>exact .inl ⟨by simp [hy false rfl],h⟩
    |_=>exact(ac h).elim
   ·exact(ac h).elim
  ·exact(ac h).elim
def Lw{rd:Option Nat}{ops:Array Oper}{en rn:cq}(Y6:wU P w0 en)(hrn:Lu P w0 rn){k:T AV->Tr}{Q:Exit->Act->World->Prop}(ZP:Rho)(ds:List Deferred)(hk:∀env' a8 ρ' a' w',run (k env') a8 K=true->SI a8->Good w0 ρ' a8.h w'->ZP.le ρ'->ER ρ' nt env' a'.tmps->a'.defers=ds->Q .normal a' w'):
 ∀(l:List Oper) (env:T AV) (σ:St) (ρ:Rho) (a:Act) (w:World),run (Lc P en rn nt ops l env k) σ K=true->SI σ->Good w0 ρ σ.h w->ZP.le ρ->ER ρ nt env a.tmps->a.defers=ds->wpListIn (fR rd) 0 P ops Q l a w:=by
 intro l
 induction l with
 |nil=>intro env σ ρ a w h hS hG hle hE hd;exact hk _ _ _ _ _ h hS hG hle hE hd
 |cons o l ih=>
  intro env σ ρ a w h hS hG hle hE hd
  have h:run (n_ ops env o (λenv=>Lb P en rn env o.op λv=>wh nt o.dst v env λenv=>Lc P en rn nt ops l env k) (λenv=>wh nt o.dst (.tup []) env λenv=>Lc P en rn nt ops l env k)) σ K=true:=h
  obtain⟨ak7,hE0,h⟩:=Lv hE h
  clear hE
  have hE:=hE0
  rcases h with⟨hw,h⟩|⟨hw,h⟩
  ·simp only [wpListIn,hw,if_true];refine Hr Y6 hrn hS hG hE h λav v a8 ρ' w' h1 h2 h3 h4 h5=>?_;obtain⟨env',h6,h7,h8⟩:=Sj h5 (hE.mono h4) h1;exact ih env' a8 ρ' _ w' h6 h2 h3 (hle.trans h4) h7 (h8.trans hd)
  ·simp only [wpListIn,hw,Bool.false_eq_true,if_false];obtain⟨env',h6,h7,h8⟩:=Sj (v:=undef) (.tup [] #[] rfl (by simp)) hE h;exact⟨λ_ _=>trivial,ih env' σ ρ _ w h6 hS hG hle h7 (h8.trans hd)⟩
def DR(ρ:Rho):List Nat->List Deferred->Prop
 | [],[]=>True
 |b::df,d::ds=>(∃h,ρ.at_ b 0=some h/\d.target= .collected h.blk)/\DR ρ df ds
 |_,_=>False
def DR.mono{ρ ρ':Rho}(hle:ρ.le ρ'):∀{df:List Nat} {ds:List Deferred},DR ρ df ds->DR ρ' df ds
 | [],[],_=>trivial
 |_::_,_::_,⟨⟨h,h1,h2⟩,h3⟩=>⟨⟨h,hle.at_ _ _ _ h1,h2⟩,DR.mono hle h3⟩
 | [],_::_,h=>h.elim
 |_::_,[],h=>h.elim
def fL{r:Nat}{o o':Obj}(h:w.heap[r]? =some o)(ho:∀c t f,o≠ .cells c t f):(setObj r o').run P w= .ok () {w with heap:=w.heap.setIfInBounds r o'}:=by cases o <;> first|(exact absurd rfl (ho _ _ _))|(simp [setObj,Sem.run,h])
def Good.setObj{H:T ABlk}{b:Nat}{x0 x:ABlk}{h:Home}{o o':Obj}(hG:Good w0 ρ H w)(hb:H.get b=some x0)(d4:b+1<2 ^ 64)(hh:ρ.at_ b 0=some h)(hB:Own ρ w0.heap.size h.blk)(hw:w.heap[h.blk]? =some o)(hx:BR ρ w0.heap.size {w with heap:=w.heap.setIfInBounds h.blk o'} b x)(hgx:∀g,F6 g x:=by intro g;trivial)(hnf:¬tz x0)(hxo:∀k I l,x≠ .obj k I l:=by intro _ _ _ h;cases h):Good w0 ρ (H.set b x) {w with heap:=w.heap.setIfInBounds h.blk o'}:=by
 refine hG.turn (hnf:=hnf) (hxo:=hxo) (hrs:=⟨b,0,h,hh,rfl⟩) hb d4 h.blk hB ⟨rfl,rfl,rfl,by simp,λk hk ho=>?_⟩ (by simp) (λk hk _=>?_) (λb' g h' g7 e=>(hG.inj _ _ _ _ _ _ g7 hh e).1) hx (λg _=>hgx g)
 ·show(w.heap.setIfInBounds h.blk o')[k]? =_;rw[aaD,if_neg (λe=>by rcases hB with hB|hB;omega;exact ho (e▸hB))]
 ·show(w.heap.setIfInBounds h.blk o')[k]? =_;rw[aaD,if_neg (λe=>hk e.symm)]
def lF{r:Nat}{o o':Obj}(h:w.heap[r]? =some o):(w.heap.setIfInBounds r o')[r]? =some o':=by
 have:r<w.heap.size:=by
  rcases aaf r w.heap.size with h'|h'
  ·exact h'
  ·rw[aaN h'] at h;cases h
 rw[aaD,if_pos rfl,if_pos this]
def Py{fn:Func}{tmps:Array Value}{R:Ending->World->Prop}{k:Tr}(hk:∀a8 w',run k a8 K=true->SI a8->Good w0 ρ a8.h w'->LeavesInM Fence.wide 0 P fn tmps R [] .returning w'):
 ∀(df:List Nat) (ds:List Deferred) (σ:St) (w:World),run (tP df k) σ K=true->SI σ->Good w0 ρ σ.h w->DR ρ df ds->LeavesInM Fence.wide 0 P fn tmps R ds .returning w:=by
 intro df
 induction df with
 |nil=>
  intro ds σ w h hS hG hd
  cases ds with
  |nil=>exact hk _ _ h hS hG
  |cons _ _=>exact hd.elim
 |cons b df ih=>
  intro ds σ w h hS hG hd
  cases ds with
  |nil=>exact hd.elim
  |cons d ds=>
   obtain⟨⟨hm,hh,ht⟩,hd⟩:=hd
   have h:run (.rd b λq=>(match q with | .dfr true=>.wr b (.dfr false) (tP df k)|_=>.fail)) σ K=true:=h
   obtain⟨q,c7,hq,e1,b6,h⟩:=aT hS h
   cases q with
   |dfr live=>
    cases live with
    |false=>exact(ac h).elim
    |true=>
     obtain⟨u0,g7,hB,c9⟩:=hG.blk _ _ hq
     rw[hh] at g7;injection g7 with g7;subst g7
     have c9:w.heap[hm.blk]? =some (.deferred (some [])):=c9
     obtain⟨x0,d5,A',e2,d8,d4,h⟩:=cr b6 h
     have b9:Good w0 ρ c7.h w:=by rw[e1];exact hG
     have d9:=b9.setObj (hnf:=nf e1 hq A' (λh=>h)) (x:=.dfr false) (o':=.deferred none) A' d4 hh hB c9 ⟨hm,hh,hB,lF c9⟩
     refine⟨by simp,.inl ⟨hm.blk,_,ht, ?_,ih ds d5 _ h d8 (by rw[e2];exact d9) hd⟩⟩
     simp only [Instr.takeDeferred,aaa,aC c9 (by simp),aad,fL c9 (by simp),aac]
   |_=>exact(ac h).elim
def Em(tmps:Array Value):ResultVar->Sem Value
 | .tmp t=>pure (tmps.getD t undef)
 | .cell a t=>do loadVar t (←asAddr (tmps.getD a undef))
def Ac(fn:Func)(tmps:Array Value):results fn tmps=(do
 let vs ←fn.results.mapM (Em tmps)
 pure (if h:vs.size=1 then vs[0] else .tuple vs)):=by
 unfold results
 congr 1
def BP{tmps:Array Value}{t:Nat}{v:Value}(h:tmps[t]? =some v):tmps.getD t undef=v:=by rw[aaU,h];rfl
def Va{tmps:Array Value}(hE:ER ρ nt env tmps):∀(l:List ResultVar) (σ:St) (k:List AV->Tr),run (GJ P env l k) σ K=true->SI σ->Good w0 ρ σ.h w->
 ∃avs vs a8,run (k avs) a8 K=true/\SI a8/\Good w0 ρ a8.h w/\LR ρ avs vs/\(l.mapM (Em tmps)).run P w= .ok vs w:=by
 intro l
 induction l with
 |nil=>intro σ k h hS hG;exact⟨[],[],σ,h,hS,hG,LR.nil ρ,by simp⟩
 |cons r l ih=>
  intro σ k h hS hG
  cases r with
  |tmp t=>
   have h:run (T.getK env t .fail λv=>GJ P env l λl=>k (v::l)) σ K=true:=h
   obtain⟨av,hv,h⟩:=mD h
   obtain⟨v,hu,hr⟩:=hE.val _ _ hv
   obtain⟨avs,vs,a8,h1,h2,h3,h5,h6⟩:=ih σ _ h hS hG
   refine⟨av::avs,v::vs,a8,h1,h2,h3,LR.cons hr h5, ?_⟩
   simp [List.mapM_cons,Em,BP hu,h6]
  |cell c t=>
   have h:run (T.getK env c .fail λp=>vO P t p λv=>GJ P env l λl=>k (v::l)) σ K=true:=h
   obtain⟨ap,YP,h⟩:=mD h
   obtain⟨p,hp,hr⟩:=hE.val _ _ YP
   obtain⟨av,c7,v,hb,b6,b9,hv,b7⟩:=ws (P:=P) hS hG hr h
   obtain⟨avs,vs,a8,h1,h2,h3,h5,h6⟩:=ih c7 _ hb b6 b9
   refine⟨av::avs,v::vs,a8,h1,h2,h3,LR.cons hv h5, ?_⟩
   have Ys:(do loadVar t (←asAddr p):Sem Value).run P w= .ok v w:=by
    cases hr with
    |ptr b g o hm hh ho=>simp only [Instr.loadAt,Instr.sureAddr,aaa,aac,aad] at b7;simp only [asAddr,aaa,aac,aad];exact b7
    |gptr b2 g2 i2 o2 Zq WT Xb Xh=>simp only [Instr.loadAt,Instr.sureAddr,aaa,aac,aad] at b7;simp only [asAddr,aaa,aac,aad];exact b7
    |aptr b2 g2 o2 n2 i2 WT Xb ho2 hi0 hi1=>simp only [Instr.loadAt,Instr.sureAddr,aaa,aac,aad] at b7;simp only [asAddr,aaa,aac,aad];exact b7
    |cptr l2 blk off arr XE hf hb r2=>simp only [Instr.loadAt,Instr.sureAddr,aaa,aac,aad] at b7;simp only [asAddr,aaa,aac,aad];exact b7
    |_=>exact(ac h).elim
   have:(Em tmps (.cell c t)).run P w= .ok v w:=by simp only [Em,BP hp];exact Ys
   simp [List.mapM_cons,this,h6]
def En:List Value->Value
 | [v]=>v
 |l=>.tuple l.toArray
def wV{fn:Func}{tmps:Array Value}{vs:List Value}{w':World}(h:(fn.results.toList.mapM (Em tmps)).run P w= .ok vs w'):(results fn tmps).run P w= .ok (En vs) w':=by
 rw[Ac,aaa,Array.mapM_eq_mapM_toList,Sem.run_map,h]
 cases vs with
 |nil=>simp [En]
 |cons v vs=>
  cases vs with
  |nil=>simp [En]
  |cons u vs=>simp [En]
end
end Go.Sym
namespace Go.Sym
open Go.RowKit (Below)
section
variable{env env':T AV}
def ay{x:Operand}{k k':AV->Tr}(h:∀t,x= .tmp t->env.get t=env'.get t)(hk:∀a,k a=k' a):cL env x k=cL env' x k':=by
 have e:k=k':=funext hk
 subst e
 cases x with
 |tmp t=>show T.getK env t .fail k=T.getK env' t .fail k;rw[T.getK_eq,T.getK_eq,h t rfl]
 |_=>rfl
def hY:∀{l:List Operand} {k k':List AV->Tr},(∀x∈l,∀t,x= .tmp t->env.get t=env'.get t)->(∀a,k a=k' a)->lg env l k=lg env' l k':=by
 intro l
 induction l with
 |nil=>intro k k' _ hk;exact hk []
 |cons x l ih=>intro k k' h hk;exact ay (h x (by simp)) λa=>ih (λy hy=>h y (by simp [hy])) λl=>hk (a::l)
def kJ{o:Option Operand}{k k':Option AV->Tr}(h:∀x,o=some x->∀t,x= .tmp t->env.get t=env'.get t)(hk:∀a,k a=k' a):DN env o k=DN env' o k':=by
 cases o with
 |none=>exact hk none
 |some x=>exact ay (h x rfl) λa=>hk (some a)
def iY:∀{l:List (Nat×Operand)} {k k':List (Nat×AV)->Tr},(∀x∈l,∀t,x.2= .tmp t->env.get t=env'.get t)->(∀a,k a=k' a)->gm env l k=gm env' l k':=by
 intro l
 induction l with
 |nil=>intro k k' _ hk;exact hk []
 |cons x l ih=>intro k k' h hk;exact ay (h x (by simp)) λa=>ih (λy hy=>h y (by simp [hy])) λl=>hk ((x.1,a)::l)
def Ad{P:Program}{t:TypeId}{k k':TypeDesc->Tr}(hk:∀a,k a=k' a):be P t k=be P t k':=by rw[show k=k' from funext hk]
def sb{b:Bool}{x x' y y':Tr}(h:x=x')(h':y=y'):aa b x y=aa b x' y':=by rw[h,h']
def Eo{P:Program}{en rn:cq}{op:Op}{k:AV->Tr}(h:∀t,Operand.tmp t∈op.operands->env.get t=env'.get t):Lb P en rn env op k=Lb P en rn env' op k:=by
 have one:∀x,x∈op.operands->∀t,x= .tmp t->env.get t=env'.get t:=λx hx t e=>h t (by subst e;exact hx)
 cases op with
 |move x=>exact ay (one x (by simp [Op.operands])) λ_=>rfl
 |assign x=>exact ay (one x (by simp [Op.operands])) λ_=>rfl
 |pick c a b=>
  exact ay (one c (by simp [Op.operands])) λv=>by
   cases v with
   |bool v=>exact sb (ay (one a (by simp [Op.operands])) λ_=>rfl) (ay (one b (by simp [Op.operands])) λ_=>rfl)
   |sB p=>show Tr.ask p (aa true (cL env a k) (cL env b k)) (aa false (cL env a k) (cL env b k))=Tr.ask p (aa true (cL env' a k) (cL env' b k)) (aa false (cL env' a k) (cL env' b k));rw[ay (one a (by simp [Op.operands])) (λ_=>rfl:∀x,k x=k x),ay (one b (by simp [Op.operands])) (λ_=>rfl:∀x,k x=k x)]
   |_=>rfl
 |box t x=>exact ay (one x (by simp [Op.operands])) λ_=>rfl
 |build t ps=>exact iY (λx hx=>one x.2 (by simp only [Op.operands,List.mem_toArray];exact List.mem_map.2 ⟨x,hx,rfl⟩)) λ_=>rfl
 |buildSlice t n ps=>exact iY (λx hx=>one x.2 (by simp only [Op.operands,List.mem_toArray];exact List.mem_map.2 ⟨x,hx,rfl⟩)) λ_=>rfl
 |load t x=>exact ay (one x (by simp [Op.operands])) λ_=>rfl
 |store t x y=>exact ay (one x (by simp [Op.operands])) λ_=>ay (one y (by simp [Op.operands])) λ_=>rfl
 |nilCheck x=>exact ay (one x (by simp [Op.operands])) λ_=>rfl
 |binOp op t x y z=>exact ay (one x (by simp [Op.operands])) λ_=>ay (one y (by simp [Op.operands])) λ_=>rfl
 |unOp op t x=>exact ay (one x (by simp [Op.operands])) λ_=>rfl
 |convert s d x=>exact ay (one x (by simp [Op.operands])) λ_=>rfl
 |makeInterface t x=>exact ay (one x (by simp [Op.operands])) λ_=>rfl
 |makeFunc fn first cap=>
  exact sb (hY (λx hx=>one x (by simp only [Op.operands,Array.mem_append];exact .inl (by simpa using hx))) λ_=>
   hY (λx hx=>one x (by simp only [Op.operands,Array.mem_append];exact .inr (by simpa using hx))) λ_=>rfl) rfl
 |makeMap t r=>
  cases r with
  |none=>rfl
  |some x=>
   exact Ad λd=>by
    cases d with
    |map _ _=>exact ay (one x (by simp [Op.operands])) λ_=>rfl
    |_=>rfl
 |slice t x lo hi mx=>
  exact ay (one x (by simp [Op.operands])) λ_=>kJ (λy hy=>one y (by subst hy;simp [Op.operands])) λ_=>
   kJ (λy hy=>one y (by subst hy;simp [Op.operands])) λ_=>kJ (λy hy=>one y (by subst hy;simp [Op.operands])) λ_=>rfl
 |fieldAddr t x f=>exact ay (one x (by simp [Op.operands])) λ_=>rfl
 |field t x f=>exact ay (one x (by simp [Op.operands])) λ_=>rfl
 |indexAddr t x i=>exact ay (one x (by simp [Op.operands])) λ_=>ay (one i (by simp [Op.operands])) λ_=>rfl
 |index t x i=>exact ay (one x (by simp [Op.operands])) λ_=>ay (one i (by simp [Op.operands])) λ_=>rfl
 |lookup t x i ok=>exact ay (one x (by simp [Op.operands])) λ_=>ay (one i (by simp [Op.operands])) λ_=>rfl
 |mapUpdate t x y z=>exact ay (one x (by simp [Op.operands])) λ_=>ay (one y (by simp [Op.operands])) λ_=>ay (one z (by simp [Op.operands])) λ_=>rfl
 |insert t x y z=>exact ay (one x (by simp [Op.operands])) λ_=>ay (one y (by simp [Op.operands])) λ_=>ay (one z (by simp [Op.operands])) λ_=>rfl
 |mapEntry t x i=>exact ay (one x (by simp [Op.operands])) λ_=>ay (one i (by simp [Op.operands])) λ_=>rfl
 |entryStore t x y z=>exact ay (one x (by simp [Op.operands])) λ_=>ay (one y (by simp [Op.operands])) λ_=>ay (one z (by simp [Op.operands])) λ_=>rfl
 |makeSlice t x y=>exact ay (one x (by simp [Op.operands])) λ_=>ay (one y (by simp [Op.operands])) λ_=>rfl
 |typeAssert x u t ok=>exact ay (one x (by simp [Op.operands])) λ_=>rfl
 |entry x=>exact ay (one x (by simp [Op.operands])) λ_=>rfl
 |range t x=>exact ay (one x (by simp [Op.operands])) λ_=>rfl
 |next x s=>exact ay (one x (by simp [Op.operands])) λ_=>rfl
 |extract x i=>exact ay (one x (by simp [Op.operands])) λ_=>rfl
 |call c=>
  have i7:∀x∈c.args.toList,x∈(Op.call c).operands:=λx hx=>by simp only [Op.operands,Call.operands,Array.mem_append];exact .inr (by simpa using hx)
  show(match c.callee with
   | .builtin b=>lg env c.args.toList λl=>mz l λl=>lp P b c.argTypes l k
   | .value f=>cL env f λf=>lg env c.args.toList λl=>BB P en rn f l k
   | .invoke _ _=>Tr.fail)=(match c.callee with
   | .builtin b=>lg env' c.args.toList λl=>mz l λl=>lp P b c.argTypes l k
   | .value f=>cL env' f λf=>lg env' c.args.toList λl=>BB P en rn f l k
   | .invoke _ _=>Tr.fail)
  cases hc:c.callee with
  |builtin b=>exact hY (λx hx=>one x (i7 x hx)) λ_=>rfl
  |value f=>exact ay (one f (by simp [Op.operands,Call.operands,hc])) λ_=>hY (λx hx=>one x (i7 x hx)) λ_=>rfl
  |invoke _ _=>rfl
 |_=>rfl
noncomputable def tk(P:Program)(en rn:cq)(ops:Array Oper)(env:T AV)(o:Oper):Tr:=iQ ops env o (Lb P en rn env o.op .ret) (.ret (.tup []))
def Ht{P:Program}{en rn:cq}{ops:Array Oper}{o:Oper}(h:∀t∈looks ops o,env.get t=env'.get t):tk P en rn ops env o=tk P en rn ops env' o:=by
 have h1:Lb P en rn env o.op .ret=Lb P en rn env' o.op .ret:=Eo λt ht=>h t (by unfold looks;refine abd _ (List.mem_filterMap.2 ⟨.tmp t,by simpa using ht,rfl⟩));unfold tk iQ;rw[h1];split
 ·rfl
 ·rename_i j want hg;split
  ·rename_i oj hj;split
   ·rename_i d hd;rw[T.getK_eq,T.getK_eq,h d];unfold looks;refine abe _ ?_;rw[hg];simp [hj,hd]
   ·rfl
  ·rfl
end
section
variable{X A:Type}
open Classical in
noncomputable def kT(H:Nat->X->A)(W:Nat->X->Prop)(S:Nat->Prop)(x:X):Nat->A
 |0=>H 0 x
 |m+1=>if S m/\W m x then H (m+1) x else kT H W S x m
variable{H:Nat->X->A}{W:Nat->X->Prop}{S S':Nat->Prop}{x:X}{n:Nat}
def ug(same:∀m,m<n->¬W m x->H (m+1) x=H m x):∀m,m<=n->(∀j,j<m->S j)->kT H W S x m=H m x:=by
 intro m
 induction m with
 |zero=>intro _ _;rfl
 |succ m ih=>
  intro hm hS;unfold kT;split
  ·rfl
  ·rename_i h;rw[ih (by omega) (λj hj=>hS j (by omega)),same m (by omega) (λhw=>h ⟨hS m (by omega),hw⟩)]
def sd:∀m,(∀j,j<m->W j x->(S j↔S' j))->kT H W S x m=kT H W S' x m:=by
 intro m
 induction m with
 |zero=>intro _;rfl
 |succ m ih=>
  intro h;unfold kT;rw[ih λj hj=>h j (by omega)];by_cases hw:W m x
  ·by_cases hs:S m
   ·rw[if_pos ⟨hs,hw⟩,if_pos ⟨(h m (by omega) hw).1 hs,hw⟩]
   ·rw[if_neg (λc=>hs c.1),if_neg (λc=>hs ((h m (by omega) hw).2 c.1))]
  ·rw[if_neg (λc=>hw c.2),if_neg (λc=>hw c.2)]
def lG {a : Nat} : ∀ m, a <= m -> (∀ j, a <= j -> j < m -> S j -> ¬ W j x) -> kT H W S x m = kT H W S x a := by
  intro m
  induction m with
  | zero => intro ha _; have : a = 0 := by omega
            subst this; rfl
  | succ m ih =>
    intro ha h
    by_cases e : a = m + 1
    · subst e; rfl
    · conv => lhs; unfold kT
      rw [if_neg (λc => h m (by omega) (by omega) c.1 c.2)]
      exact ih (by omega) λj h1 h2 => h j h1 (by omega)
variable{i:Nat}
def wW(same:∀m,m<n->¬W m x->H (m+1) x=H m x)(hi:i<n)(hS:¬S i)(h1:∀j,j<i->¬S j->¬W j x)(h2:∀j,i<j->j<n->S j->¬W j x):kT H W S x n=H i x:=by
 rw[lG (a:=i) n (by omega) λj a b c=>by
  by_cases e:j=i
  ·subst e;exact absurd c hS
  ·exact h2 j (by omega) b c]
 rw[sd (S':=λ_=>True) i λj hj hw=>⟨λ_=>trivial,λ_=>Classical.byContradiction λhn=>h1 j hj hn hw⟩];exact ug same i (by omega) λ_ _=>trivial
def pz(hi:i<n)(j7:∀j,S' j↔S j∨j=i)(hw:W i x)(h2:∀j,i<j->j<n->S j->¬W j x):kT H W S' x n=H (i+1) x:=by
 rw[lG (a:=i+1) n (by omega) λj a b c=>by
  rcases(j7 j).1 c with c|c
  ·exact h2 j (by omega) b c
  ·omega]
 unfold kT;rw[if_pos ⟨(j7 i).2 (.inr rfl),hw⟩]
def wX(j7:∀j,S' j↔S j∨j=i)(hw:¬W i x):kT H W S' x n=kT H W S x n:=
 sd n λj hj hwj=>by rw[j7 j];exact⟨λc=>c.elim id λe=>by subst e;exact absurd hwj hw,.inl⟩
end
structure Tape' where
 E:Nat->T AV
 H:Nat->T ABlk
 N:Nat->Nat
 V:Nat->AV
 TT:Nat->T Unit
 WW:Nat->List Nat
def Tape'.note(c:Tape')(j:Nat):Note:=.mk (c.N j) (c.N (j+1)) (c.TT j) (c.WW j)
def Tape'.notes(c:Tape')(i:Nat):Nat->List (Nat×Note)
 |0=>[]
 |m+1=>(i+m,c.note (i+m))::c.notes i m
def Tape'.notes_first(c:Tape')(i:Nat)(ns:List (Nat×Note)):∀m,c.notes i (m+1)++ns=c.notes (i+1) m++(i,c.note i)::ns:=by
 intro m
 induction m with
 |zero=>rfl
 |succ m ih=>rw[Tape'.notes,List.cons_append,ih,show i+(m+1)=i+1+m by omega];rfl
def Tape'.mem_notes(c:Tape')(i:Nat):∀m p,p<m->(i+p,c.note (i+p))∈c.notes i m:=by
 intro m
 induction m with
 |zero=>intro p hp;omega
 |succ m ih=>
  intro p hp;by_cases e:p=m
  ·subst e;exact aaj
  ·exact aag _ (ih p (by omega))
def Tape'.notes_congr(c d:Tape')(i:Nat):∀m,(∀j,i<=j->j<i+m->c.note j=d.note j)->c.notes i m=d.notes i m:=by
 intro m
 induction m with
 |zero=>intro _;rfl
 |succ m ih=>intro h;rw[Tape'.notes,Tape'.notes,ih (λj a b=>h j a (by omega)),h (i+m) (by omega) (by omega)]
def Ae(dst:Option Nat)(v:AV)(env:T AV):T AV:=match dst with|none=>env|some d=>env.set d v
structure StepOk(P:Program)(en rn:cq)(nt:Nat)(ops:Array Oper)(c:Tape')(j:Nat)(o:Oper):Prop where
 loc:LocAt (tk P en rn ops (c.E j) o) (c.H j) (c.N j) (c.N j) .leaf [] (c.V j) (c.H (j+1)) (c.N (j+1)) (c.TT j) (c.WW j)
 env:c.E (j+1)=Ae o.dst (c.V j) (c.E j)
 dst:∀d,o.dst=some d->d<nt
 lo:1<=c.N j
 hi:c.N j<=1000000001
def Tape'.before(c:Tape')(i:Nat)(env:T AV)(h:T ABlk)(n:Nat)(v:AV)(t:T Unit)(w:List Nat):Tape' where
 E j:=if j<=i then env else c.E j
 H j:=if j<=i then h else c.H j
 N j:=if j<=i then n else c.N j
 V j:=if j<=i then v else c.V j
 TT j:=if j<=i then t else c.TT j
 WW j:=if j<=i then w else c.WW j
def StepOk.later{P:Program}{en rn:cq}{nt:Nat}{ops:Array Oper}{c:Tape'}{j:Nat}{o:Oper}(h:StepOk P en rn nt ops c j o){i:Nat}(hi:i<j)(env:T AV)(hh:T ABlk)(n:Nat)(v:AV)(t:T Unit)(w:List Nat):
 StepOk P en rn nt ops (c.before i env hh n v t w) j o:=by
 obtain⟨h1,h2,h3,h4,h5⟩:=h
 have e1:¬j<=i:=by omega
 have e2:¬j+1<=i:=by omega
 refine⟨?_, ?_,h3, ?_, ?_⟩ <;> simp only [Tape'.before,if_neg e1,if_neg e2] <;> assumption
section
variable{P:Program}{w0:World}{ρ:Rho}{w:World}{σ:St}{K:Fin}{nt:Nat}{env:T AV}{a:Act}
def Hu{dst:Option Nat}{v:AV}{k:T AV->Tr}(h:run (wh nt dst v env k) σ K=true):run (k (Ae dst v env)) σ K=true/\∀d,dst=some d->d<nt:=by
 cases dst with
 |none=>exact⟨h,λd hd=>by cases hd⟩
 |some d=>obtain⟨hd,h⟩:=aj h;rw[T.setK_eq] at h;exact⟨h,λd' Wx=>by injection Wx with Wx;subst Wx;exact aU hd⟩
def Lx{t:Tr}{k:AV->Nat->Nat->T Unit->List Nat->Tr}{h:T ABlk}{n fs:Nat}{tc:T Unit}{w:List Nat}(hS:SI (.mk h n fs tc w))(hr:run (.sub t k) (.mk h n fs tc w) K=true):
 ∃a h' n' t' w',LocAt t h n n .leaf [] a h' n' t' w'/\∃tc2 w2,run (k a n n' t' w') (.mk h' n' fs tc2 w2) K=true/\SI (.mk h' n' fs tc2 w2):=by
 obtain⟨h1,h2,h3,h4,h5⟩:=hS
 rw[fD] at hr
 rcases loc t h n n .leaf [] (by omega) (aab _) h2 (by simp) (λb hb=>by simp [T.get] at hb) with hf|⟨a,h',n',t',w',L⟩
 ·rw[hf] at hr;cases hr
 ·rw[L.run] at hr;have hle:=L.le;have Y5:=L.lid;refine⟨a,h',n',t',w',L, ?_⟩;simp only at hr;split at hr
  ·exact⟨tc,w,hr,by omega,Y5,by omega,h4,h5⟩
  ·refine⟨_,_,hr,by omega,Y5,by omega,λb hb=>?_,λb hb=>?_⟩
   ·have X3:∀b∈T.keys t' id [],b+1<2 ^ 64:=λb hb=>by
     rcases rJ t' id [] b hb with hb|⟨x,u,e,hx⟩
     ·cases hb
     ·have:=L.low x hx;have e':b=x:=e;subst e';omega
    rcases lc _ _ _ hb with hb|⟨hb,c8⟩
    ·exact dI _ _ _ X3 (h4 b hb)
    ·exact iH _ _ _ X3 (by have:=T.mem_keys t' id [] b () (L.sub b hb);simpa using this) c8
   ·have key:∀(l:List Nat) (t:T Unit),(∀b,t.get b=some ()->b<fs)->∀b,(eL fs l t).get b=some ()->b<fs:=by
     intro l
     induction l with
     |nil=>intro t ht b hb;exact ht b hb
     |cons x l ih=>
      intro t ht b hb;refine ih _ (λy hy=>?_) b hb;by_cases e:fs<=x
      ·rw[Sym.note,if_pos e] at hy;exact ht y hy
      ·by_cases ey:y=x
       ·omega
       ·rw[Sym.note,if_neg e,T.get_set_ne _ ey] at hy;exact ht y hy
    exact key _ _ h5 b hb
def Sk{ops:Array Oper}{en rn:cq}{k:T AV->Tr}:∀(l:List Oper) (i:Nat) (env:T AV) (ns:List (Nat×Note)) (h:T ABlk) (n fs:Nat) (tc:T Unit) (w:List Nat),SI (.mk h n fs tc w)->
 run (BC P en rn nt ops l i env ns k) (.mk h n fs tc w) K=true->
 ∃c:Tape',c.E i=env/\c.H i=h/\c.N i=n/\(∀j o,l[j]? =some o->StepOk P en rn nt ops c (i+j) o)/\
  (∃tc' w',run (k (c.E (i+l.length))) (.mk (c.H (i+l.length)) (c.N (i+l.length)) fs tc' w') K=true/\SI (.mk (c.H (i+l.length)) (c.N (i+l.length)) fs tc' w'))/\
  mC (gR ops.toList []) (c.notes i l.length++ns)=true:=by
 intro l
 induction l with
 |nil=>
  intro i env ns h n fs tc w hS hr
  have hr:run (aa (mC (gR ops.toList []) ns) (k env) .fail) (.mk h n fs tc w) K=true:=hr
  obtain⟨hc,hr⟩:=aj hr
  exact⟨⟨λ_=>env,λ_=>h,λ_=>n,λ_=>.nilp,λ_=>.leaf,λ_=>[]⟩,rfl,rfl,rfl,λj o ho=>by simp at ho,⟨tc,w,hr,hS⟩,hc⟩
 |cons o l ih=>
  intro i env ns h n fs tc w hS hr
  have hr:run (.sub (tk P en rn ops env o) λv c c' t w=>wh nt o.dst v env λenv=>fN (Nat.succ i) λi'=>BC P en rn nt ops l i' env ((i,.mk c c' t w)::ns) k) (.mk h n fs tc w) K=true:=hr
  obtain⟨v,h',n',t',w',L,tc2,w2,hr,d8⟩:=Lx hS hr
  obtain⟨hr,hd⟩:=Hu hr
  have hr:=fg hr
  obtain⟨c,e1,e2,e3,l8,WU,Yt⟩:=ih _ _ _ _ _ _ _ _ d8 hr
  have g1:∀m,i+1+m=i+(m+1):=λm=>by omega
  have g2:∀m,¬i+(m+1)<=i:=λm=>by omega
  have g3:¬i+1<=i:=by omega
  refine⟨c.before i env h n v t' w',by simp [Tape'.before],by simp [Tape'.before],by simp [Tape'.before],λj o' ho=>?_, ?_, ?_⟩
  ·cases j with
   |zero=>
    simp at ho;subst ho;refine⟨?_, ?_,hd, ?_, ?_⟩
    ·simp only [Tape'.before,aas,aab,if_true,if_neg g3];have e2:c.H (i+1)=h':=e2;have e3:c.N (i+1)=n':=e3;rw[e2,e3];exact L
    ·simp only [Tape'.before,aas,aab,if_true,if_neg g3];exact e1
    ·simp only [Tape'.before,aas,aab,if_true];exact hS.1
    ·simp only [Tape'.before,aas,aab,if_true];exact hS.2.1
   |succ j=>simp at ho;have:=(l8 j o' ho).later (i:=i) (by omega) env h n v t' w';rw[g1] at this;exact this
  ·obtain⟨tc',w'',q1,q2⟩:=WU;refine⟨tc',w'', ?_⟩;simp only [aaM,Tape'.before,if_neg (g2 _)];have g1':Nat.succ i+l.length=i+(l.length+1):=by omega
   rw[g1'] at q1 q2;exact⟨q1,q2⟩
  ·rw[aaM,Tape'.notes_first];have e0:(c.before i env h n v t' w').note i= .mk n n' t' w':=by have e3:c.N (i+1)=n':=e3;simp only [Tape'.note,Tape'.before,aab,if_true,if_neg g3,e3]
   rw[e0,Tape'.notes_congr _ c (i+1) l.length λj a b=>by
    have e4:¬j<=i:=by omega
    have e5:¬j+1<=i:=by omega
    simp only [Tape'.note,Tape'.before,if_neg e4,if_neg e5]]
   exact Yt
end
def pA{t:T Unit}:∀{l:List Nat},mA t l=true->∀b∈l,t.get b=none:=by
 intro l
 induction l with
 |nil=>intro _ b hb;cases hb
 |cons x l ih=>
  intro h b hb;have h:T.getK t x (mA t l) (λ_=>false)=true:=h;rw[T.getK_eq] at h;split at h
  ·rename_i hx;rcases List.mem_cons.mp hb with e|hb
   ·subst e;exact hx
   ·exact ih h b hb
  ·cases h
def iB{c c':Nat}:∀{l:List Nat},cx c c' l=true->∀b∈l,¬(c<=b/\b<c'):=by
 intro l
 induction l with
 |nil=>intro _ b hb;cases hb
 |cons x l ih=>
  intro h b hb hc;have h:aa (Nat.ble c x) (aa (Nat.ble (Nat.succ x) c') false (cx c c' l)) (cx c c' l)=true:=h;rcases List.mem_cons.mp hb with e|hb
  ·subst e;rw[show Nat.ble c b=true from Nat.ble_eq.mpr hc.1,show Nat.ble (Nat.succ b) c'=true from Nat.ble_eq.mpr hc.2] at h;cases h
  ·refine ih ?_ b hb hc
   cases h1:Nat.ble c x with
   |false=>rw[h1] at h;exact h
   |true=>
    rw[h1] at h
    cases h2:Nat.ble (Nat.succ x) c' with
    |false=>rw[h2] at h;exact h
    |true=>rw[h2] at h;cases h
def wY{bs:List Nat}{c:Tape'}:∀{m:Nat} {ns:List (Nat×Note)},mC bs (c.notes 0 m++ns)=true->∀p q,p<q->q<m->(bs.getD q 0).testBit p=true∨zA (c.note p) (c.note q)=true:=by
 intro m
 induction m with
 |zero=>intro ns _ p q _ h;omega
 |succ m ih=>
  intro ns h p q hp hq;have h:aa ((c.notes 0 m++ns).all λx=>aa ((bs.getD (0+m) 0).testBit x.1) true (zA x.2 (c.note (0+m)))) (mC bs (c.notes 0 m++ns)) false=true:=h;obtain⟨h1,h2⟩:=az h;by_cases e:q=m
  ·subst e;have hm:=c.mem_notes 0 q p hp;have:=List.all_eq_true.mp h1 _ (abd _ hm);simp only [aam] at this;rw[ak] at this;split at this
   ·rename_i hb;exact .inl hb
   ·exact .inr this
  ·exact ih h2 p q hp (by omega)
def pB:∀(l:List Oper) (acc:List Nat) (i:Nat),i<acc.length->(gR l acc).getD i 0=acc.getD i 0:=by
 intro l
 induction l with
 |nil=>intro acc i _;rfl
 |cons o l ih=>intro acc i hi;rw[gR,ih _ _ (by simp;omega)];simp [aai,aaB hi]
def BQ(acc:List Nat)(o:Oper):Nat:=o.after.toList.foldl (λs e=>if Region.binds .any e then s ||| 2 ^ e.on ||| acc.getD e.on 0 else s) 0
def Ly:∀(l:List Oper) (acc:List Nat) (k:Nat) (o:Oper),l[k]? =some o->∃XQ,XQ.length=acc.length+k/\(∀i,i<XQ.length->(gR l acc).getD i 0=XQ.getD i 0)/\(gR l acc).getD (acc.length+k) 0=BQ XQ o:=by
 intro l
 induction l with
 |nil=>intro acc k o h;simp at h
 |cons o l ih=>
  intro acc k o' h
  cases k with
  |zero=>simp at h;subst h;refine⟨acc,rfl,λi hi=>pB _ _ _ hi, ?_⟩;rw[gR,pB _ _ _ (by simp)];simp [aai,BQ]
  |succ k=>simp at h;obtain⟨XQ,h1,h2,h3⟩:=ih (acc++ [BQ acc o]) k o' h;simp only [aal,Zx] at h1 h3;refine⟨XQ,by omega,h2, ?_⟩;rw[←h3,show acc.length+(k+1)=acc.length+1+k by omega];rfl
def Ep{acc:List Nat}{o:Oper}{i:Nat}(h:(BQ acc o).testBit i=true):∃e∈o.after,Region.binds .any e=true/\(e.on=i∨(acc.getD e.on 0).testBit i=true):=by
 have key:∀(l:List Edge) (s:Nat),(l.foldl (λs e=>if Region.binds .any e then s ||| 2 ^ e.on ||| acc.getD e.on 0 else s) s).testBit i=true->
  s.testBit i=true∨∃e∈l,Region.binds .any e=true/\(e.on=i∨(acc.getD e.on 0).testBit i=true):=by
  intro l
  induction l with
  |nil=>intro s h;exact .inl h
  |cons e l ih=>
   intro s h
   rw[List.foldl_cons] at h
   rcases ih _ h with h|⟨e',he,h⟩
   ·split at h
    ·rename_i hb;rw[Nat.testBit_or,Nat.testBit_or,Bool.or_eq_true,Bool.or_eq_true,Nat.testBit_two_pow] at h;rcases h with(h|h)|h
     ·exact .inl h
     ·exact .inr ⟨e,by simp,hb,.inl (by simpa using h)⟩
     ·exact .inr ⟨e,by simp,hb,.inr h⟩
    ·exact .inl h
   ·exact .inr ⟨e',by simp [he],h⟩
 rcases key _ _ h with h|⟨e,he,h⟩
 ·simp at h
 ·exact⟨e,by simpa using he,h⟩
def Lz{ops:Array Oper}{j i:Nat}{o:Oper}(ho:ops[j]? =some o)(h:((gR ops.toList []).getD j 0).testBit i=true):
 ∃e∈o.after,Region.binds .any e=true/\(e.on=i∨((gR ops.toList []).getD e.on 0).testBit i=true):=by
 obtain⟨XQ,h1,h2,h3⟩:=Ly ops.toList [] j o (by simpa using ho)
 simp only [abx,aam] at h1 h3
 rw[h3] at h
 obtain⟨e,he,hb,hc⟩:=Ep h
 refine⟨e,he,hb,hc.imp id λhc=>?_⟩
 rcases aaf e.on XQ.length with hl|hl
 ·rw[h2 _ hl];exact hc
 ·rw[aai,aak hl] at hc;simp at hc
def se{ops:Array Oper}(h:mB ops=true){j:Nat}{o:Oper}(ho:ops[j]? =some o):∀e∈o.after,Region.binds .any e=true->e.on<j:=by
 intro e he hb;unfold mB at h;have hm:(o,j)∈ops.toList.zipIdx:=by rw[abP];simpa using ho
 have:=List.all_eq_true.mp h _ hm;simp only [Bool.and_eq_true] at this;have:=List.all_eq_true.mp this.1 e (by simpa using he);simpa [hb] using this
def uh{ops:Array Oper}(h:mB ops=true){i j:Nat}{p o:Oper}(hp:ops[i]? =some p)(ho:ops[j]? =some o)(hij:i<j):((gR ops.toList []).getD j 0).testBit i=true∨tO ops p o=true:=by
 unfold mB at h;have hm:(o,j)∈ops.toList.zipIdx:=by rw[abP];simpa using ho
 have u0:(p,i)∈ops.toList.zipIdx:=by rw[abP];simpa using hp
 have:=List.all_eq_true.mp h _ hm;simp only [Bool.and_eq_true] at this;have:=List.all_eq_true.mp this.2 _ u0;simp only [Bool.or_eq_true,Bool.not_eq_true',decide_eq_false_iff_not] at this;rcases this with(c|c)|c
 ·exact absurd hij c
 ·exact .inl c
 ·exact .inr c
def Af{ops:Array Oper}{a b:Oper}(h:tO ops a b=true):(∀d,a.dst=some d->d∉looks ops b)/\(∀d,b.dst=some d->d∉looks ops a)/\∀d,a.dst=some d->b.dst≠some d:=by
 unfold tO at h;simp only [Bool.and_eq_true] at h;obtain⟨⟨h1,h2⟩,h3⟩:=h;refine⟨λd hd=>?_,λd hd=>?_,λd hd he=>?_⟩
 ·rw[hd] at h1;simpa using h1
 ·rw[hd] at h2;simpa using h2
 ·rw[hd,he] at h3;simp at h3
section
variable{P:Program}{w0:World}{ρ:Rho}{w:World}{σ:St}{K:Fin}{nt:Nat}{env:T AV}{a:Act}
def Good.like{H H':T ABlk}(hG:Good w0 ρ H w)(h:∀b,H'.get b=H.get b):Good w0 ρ H' w:=
 ⟨⟨hG.below,λb x hx=>hG.blk b x (by rw[←h];exact hx),λb g x hx=>by rw[h];exact hG.dom b g x hx,hG.inj,λb g y x hy hx=>hG.gens b g y x hy (by rw[←h];exact hx),λb arr ty hf=>⟨(hG.frz b arr ty hf).1,λb' g x hh e=>by rw[h];exact(hG.frz b arr ty hf).2 b' g x hh e⟩,hG.frzB,λb k I l hb=>hG.objO b k I l (by rw[←h];exact hb)⟩,hG.ownB⟩
def ER.like{env':T AV}{tmps:Array Value}(hE:ER ρ nt env tmps)(h:∀d,env'.get d=env.get d):ER ρ nt env' tmps:=
 ⟨hE.size,λt x hx=>hE.val t x (by rw[←h];exact hx)⟩
def LA{dst:Option Nat}{av:AV}{v:Value}(hv:VR ρ av v)(hE:ER ρ nt env a.tmps)(hd:∀d,dst=some d->d<nt):ER ρ nt (Ae dst av env) (a.put dst v).tmps:=by
 cases dst with
 |none=>exact hE
 |some d=>
  have hd:=hd d rfl;refine⟨?_,λt b hb=>?_⟩
  ·show(a.tmps.setIfInBounds d v).size=nt;rw[abO];exact hE.size
  ·show ∃u,(a.tmps.setIfInBounds d v)[t]? =some u/\VR ρ b u;by_cases e:t=d
   ·subst e;have:=T.get_set_some _ _ hb;subst this;refine⟨v, ?_,hv⟩;rw[aaD,if_pos rfl,if_pos (by rw[hE.size];omega)]
   ·have hb:(env.set d av).get t=some b:=hb;rw[T.get_set_ne _ e] at hb;obtain⟨u,hu,hr⟩:=hE.val t b hb;exact⟨u,by rw[aaD,if_neg (λe'=>e e'.symm)];exact hu,hr⟩
def sg{dst:Option Nat}{v:AV}{x:Nat}(h:dst≠some x):(Ae dst v env).get x=env.get x:=by
 cases dst with
 |none=>rfl
 |some d=>exact T.get_set_ne _ (λe=>h (by rw[e])) _
def BS{dst:Option Nat}{v:AV}{x:Nat}(h:dst=some x)(hx:x+1<2 ^ 64):(Ae dst v env).get x=some v:=by subst h;exact T.get_set_same _ _ _ hx
def f_(listed:Array Bool)(j:Nat):Prop:=listed.getD j false=true
def Hv{listed:Array Bool}{i:Nat}(hi:i<listed.size)(j:Nat):f_ (listed.setIfInBounds i true) j↔f_ listed j∨j=i:=by
 unfold f_;rw[aaU,aaD,aaU];by_cases e:i=j
 ·subst e;simp [hi]
 ·have e':¬j=i:=λh=>e h.symm;rw[if_neg e,or_iff_left e']
def wZ{listed:Array Bool}{j:Nat}(h:listed.getD j true=false):¬f_ listed j/\j<listed.size:=by
 rw[aaU] at h
 cases hj:listed[j]? with
 |none=>rw[hj] at h;cases h
 |some b=>rw[hj] at h;refine⟨λc=>?_,(Array.getElem?_eq_some_iff.1 hj).1⟩;unfold f_ at c;rw[aaU,hj] at c;have h:b=false:=h;have c:b=true:=c;rw[h] at c;cases c
def Pz(ops:Array Oper)(o:Oper)(x:Nat):Prop:=x∈looks ops o∨o.dst=some x
def Uu(ops:Array Oper)(j:Nat)(x:Nat):Prop:=∃o,ops[j]? =some o/\o.dst=some x
def PA(c:Tape')(j:Nat)(b:Nat):Prop:=N2 (c.N j) (c.N (j+1)) (c.WW j) b
def Uv(c:Tape')(j:Nat)(b:Nat):Prop:=Pc (c.N j) (c.N (j+1)) (c.TT j) b
open Classical in
theorem LB{rd:Option Nat}{ops:Array Oper}{en rn:cq}(Y6:wU P w0 en)(hrn:Lu P w0 rn)(hnt:nt<=1000000000)(hm:P.follows .mixedOrders=true){k:T AV->Tr}{Q:Exit->Act->World->Prop}(ZP:Rho)(ds:List Deferred)
 (hk:∀env' a8 ρ' a' w',run (k env') a8 K=true->SI a8->Good w0 ρ' a8.h w'->ZP.le ρ'->ER ρ' nt env' a'.tmps->a'.defers=ds->Q .normal a' w')
 (htm:mB ops=true) (h:run (BC P en rn nt ops ops.toList 0 env [] k) σ K=true) (hS:SI σ) (hG:Good w0 ρ σ.h w) (hle:ZP.le ρ) (hE:ER ρ nt env a.tmps) (hd:a.defers=ds) (id:Nat):
 (Code.region id ops true).wpIn (fR rd) 0 P Q a w:=by
 cases σ with
 |mk h0 n0 fs tc ww=>
 obtain⟨c,e1,e2,e3,l8,⟨tc',w',WU,ab0⟩,Yt⟩:=Sk _ _ _ _ _ _ _ _ _ hS h
 rw[aaI,aam] at WU ab0
 rw[aaI] at Yt
 have l8:∀j o,ops[j]? =some o->StepOk P en rn nt ops c j o:=λj o ho=>by
  have:=l8 j o (by simpa using ho)
  rwa [aam] at this
 have c8:∀{j o},ops[j]? =some o->j<ops.size:=λh=>(Array.getElem?_eq_some_iff.1 h).1
 have WY:∀{j},j<ops.size->∃o,ops[j]? =some o:=λh=>⟨_,aaK h⟩
 have hN1:∀j,j<ops.size->c.N j<=c.N (j+1):=λj hj=>by obtain⟨o,ho⟩:=WY hj;exact(l8 j o ho).loc.le
 have hN:∀i j,i<=j->j<=ops.size->c.N i<=c.N j:=λi j=>by
  induction j with
  |zero=>intro h1 _;rw[show i=0 by omega];exact aab _
  |succ j ih=>
   intro h1 h2;by_cases e:i=j+1
   ·subst e;exact aab _
   ·exact aaH (ih (by omega) (by omega)) (hN1 j (by omega))
 have sameH:∀b m,m<ops.size->¬PA c m b->(c.H (m+1)).get b=(c.H m).get b:=λb m hm hw=>by obtain⟨o,ho⟩:=WY hm;exact(l8 m o ho).loc.same b hw
 have sameE:∀x m,m<ops.size->¬Uu ops m x->(c.E (m+1)).get x=(c.E m).get x:=λx m hm hw=>by obtain⟨o,ho⟩:=WY hm;rw[(l8 m o ho).env];exact sg λe=>hw ⟨o,ho,e⟩
 have Yb:∀j b,j<ops.size->PA c j b->Uv c j b:=λj b hj hw=>by
  obtain⟨o,ho⟩:=WY hj;rcases hw with hw|hw
  ·exact .inl ((l8 j o ho).loc.sub b hw)
  ·exact .inr hw
 have apH:∀i j b,i<j->j<ops.size->¬((gR ops.toList []).getD j 0).testBit i=true->(¬(Uv c i b/\PA c j b))/\¬(PA c i b/\Uv c j b):=λi j b hij hj hnb=>by
  obtain⟨p,hp⟩:=WY (show i<ops.size by omega);obtain⟨o,ho⟩:=WY hj;have j6:=(wY Yt i j hij hj).resolve_left hnb;have j6:aa (mA (c.TT j) (c.WW i)) (aa (mA (c.TT i) (c.WW j)) (aa (cx (c.N i) (c.N (i+1)) (T.keys (c.TT j) _root_.id [])) (aa (cx (c.N i) (c.N (i+1)) (c.WW j)) true false) false) false) false=true:=j6;obtain⟨h1,j6⟩:=az j6;obtain⟨h2,j6⟩:=az j6;obtain⟨h3,j6⟩:=az j6;obtain⟨h4,_⟩:=az j6;have Li:=(l8 i p hp).loc;have Lj:=(l8 j o ho).loc;have ak8:=hN (i+1) j (by omega) (by omega);have hNi:=hN1 i (by omega);constructor
  ·rintro⟨ht,hw⟩;rcases hw with hw|hw
   ·rcases ht with ht|ht
    ·rw[pA h2 b hw] at ht;cases ht
    ·exact iB h4 b hw ht
   ·rcases ht with ht|ht
    ·have:=Li.low b ht;omega
    ·omega
  ·rintro⟨hw,ht⟩;rcases hw with hw|hw
   ·rcases ht with ht|ht
    ·rw[pA h1 b hw] at ht;cases ht
    ·have:=Li.low b (Li.sub b hw);omega
   ·rcases ht with ht|ht
    ·exact iB h3 b (by have:=T.mem_keys (c.TT j) _root_.id [] b () ht;simpa using this) hw
    ·omega
 have apE:∀i j p o x,i<j->ops[i]? =some p->ops[j]? =some o->¬((gR ops.toList []).getD j 0).testBit i=true->(¬(Pz ops p x/\o.dst=some x))/\¬(p.dst=some x/\Pz ops o x):=λi j p o x hij hp ho hnb=>by
  obtain⟨h1,h2,h3⟩:=Af ((uh htm hp ho hij).resolve_left hnb);constructor
  ·rintro⟨ht,hw⟩;rcases ht with ht|ht
   ·exact h2 x hw ht
   ·exact h3 x ht hw
  ·rintro⟨hw,ht⟩;rcases ht with ht|ht
   ·exact h1 x hw ht
   ·exact h3 x hw ht
 have main:∀(fuel:Nat) (listed:Array Bool) (g:T ABlk) (env':T AV) (ρ':Rho) (a':Act) (w':World),listed.size=ops.size->listed.toList.count false<=fuel->
  (∀j,f_ listed j->∀i,((gR ops.toList []).getD j 0).testBit i=true->f_ listed i)->
  (∀b,g.get b=kT (λm b=>(c.H m).get b) (PA c) (f_ listed) b ops.size)->(∀x,env'.get x=kT (λm x=>(c.E m).get x) (Uu ops) (f_ listed) x ops.size)->
  Good w0 ρ' g w'->ZP.le ρ'->ER ρ' nt env' a'.tmps->a'.defers=ds->wpAnyIn (fR rd) 0 P .any ops Q fuel listed a' w':=by
  intro fuel
  have fin:∀(listed:Array Bool) (g:T ABlk) (env':T AV) (ρ':Rho) (a':Act) (w':World),listed.size=ops.size->
   (∀b,g.get b=kT (λm b=>(c.H m).get b) (PA c) (f_ listed) b ops.size)->(∀x,env'.get x=kT (λm x=>(c.E m).get x) (Uu ops) (f_ listed) x ops.size)->
   Good w0 ρ' g w'->ZP.le ρ'->ER ρ' nt env' a'.tmps->a'.defers=ds->Region.ready .any ops listed= []->Q .normal a' w':=by
   intro listed g env' ρ' a' w' m8 hg he g9 Xi Zs Wx hr
   have Xg:∀m,∀j,j<m->j<ops.size->f_ listed j:=by
    intro m
    induction m with
    |zero=>intro j hj;omega
    |succ m ih=>
     intro j hj hjs;by_cases e:j<m
     ·exact ih j e hjs
     ·have e:j=m:=by omega
      subst e;refine byContradiction λhn=>?_;obtain⟨o,ho⟩:=WY hjs;have:j∈Region.ready .any ops listed:=mem_ready.2 ⟨?_,o,ho,λe he hb=>ih e.on (se htm ho e he hb) (by have:=se htm ho e he hb;omega)⟩
      ·rw[hr] at this;cases this
      ·unfold f_ at hn;rw[aaU,aaK (by omega)] at hn⊢;simpa using hn
   have hH:∀b,(c.H ops.size).get b=g.get b:=λb=>by rw[hg b,ug (sameH b) ops.size (aab _) λj hj=>Xg (j+1) j (by omega) hj]
   have hEE:∀x,(c.E ops.size).get x=env'.get x:=λx=>by rw[he x,ug (sameE x) ops.size (aab _) λj hj=>Xg (j+1) j (by omega) hj]
   exact hk _ _ ρ' a' w' WU ab0 (g9.like hH) Xi (Zs.like hEE) Wx
  induction fuel with
  |zero=>
   intro listed g env' ρ' a' w' m8 Y7 x8 hg he g9 Xi Zs Wx
   have hr:Region.ready .any ops listed= []:=by
    rw[List.eq_nil_iff_forall_not_mem];intro j hj;have:=(mem_ready.1 hj).1;have hn:=wZ this;have:false∈listed.toList:=by rw[aaU,aaK hn.2] at this;have this:listed[j]'hn.2=false:=this;rw[←this];simp
    have:=List.count_pos_iff.2 this;omega
   exact⟨hr,fin listed g env' ρ' a' w' m8 hg he g9 Xi Zs Wx hr⟩
  |succ fuel ih=>
   intro listed g env' ρ' a' w' m8 Y7 x8 hg he g9 Xi Zs Wx
   refine⟨fin listed g env' ρ' a' w' m8 hg he g9 Xi Zs Wx,λi hi=>?_⟩
   obtain⟨hun,o,ho,WK⟩:=mem_ready.1 hi
   obtain⟨YC,hil⟩:=wZ hun
   have WV:=c8 ho
   have st:=l8 i o ho
   have L:=st.loc
   have ae_:∀j,((gR ops.toList []).getD i 0).testBit j=true->f_ listed j:=λj hj=>by
    obtain⟨e,he,hb,hc⟩:=Lz ho hj;rcases hc with hc|hc
    ·subst hc;exact WK e he hb
    ·exact x8 _ (WK e he hb) j hc
   have later:∀j,i<j->j<ops.size->f_ listed j->¬((gR ops.toList []).getD j 0).testBit i=true:=λj _ _ hj hb=>YC (x8 j hj i hb)
   have sooner:∀j,j<i->¬f_ listed j->¬((gR ops.toList []).getD i 0).testBit j=true:=λj _ hj hb=>hj (ae_ j hb)
   have af0:∀b,Uv c i b->g.get b=(c.H i).get b:=λb hb=>by rw[hg b];exact wW (sameH b) WV YC (λj h1 h2 h3=>(apH j i b h1 WV (sooner j h1 h2)).2 ⟨h3,hb⟩) λj h1 h2 h3 h4=>(apH i j b h1 h2 (later j h1 h2 h3)).1 ⟨hb,h4⟩
   have af1:∀x,Pz ops o x->env'.get x=(c.E i).get x:=λx hx=>by
    rw[he x];refine wW (sameE x) WV YC (λj h1 h2 h3=>?_) λj h1 h2 h3 h4=>?_
    ·obtain⟨p,hp,hpx⟩:=h3;exact(apE j i p o x h1 hp ho (sooner j h1 h2)).2 ⟨hpx,hx⟩
    ·obtain⟨p,hp,hpx⟩:=h4;exact(apE i j o p x h1 ho hp (later j h1 h2 h3)).1 ⟨hx,hpx⟩
   obtain⟨g',r1,r2,r3⟩:=L.like g af0
   have b7:run (tk P en rn ops env' o) (.mk g (c.N i) (c.N i) .leaf []) (λx s=>decide (x=c.V i/\s= .mk g' (c.N (i+1)) (c.N i) (c.TT i) (c.WW i)))=true:=by rw[Ht (env':=c.E i) (λt ht=>af1 t (.inl ht)),r1];simp
   have hSi:SI (.mk g (c.N i) (c.N i) .leaf []):=⟨st.lo,st.hi,aab _,by simp,λb hb=>by simp [T.get] at hb⟩
   have next:∀(ρ2:Rho) (v:Value) (w2:World),Good w0 ρ2 g' w2->ρ'.le ρ2->VR ρ2 (c.V i) v->wpAnyIn (fR rd) 0 P .any ops Q fuel (listed.setIfInBounds i true) (a'.put o.dst v) w2:=by
    intro ρ2 v w2 d9 i5 hv;have hds:=Hv (listed:=listed) (i:=i) hil;refine ih (listed.setIfInBounds i true) g' (Ae o.dst (c.V i) env') ρ2 (a'.put o.dst v) w2 (by simp [m8]) ?_ (λj hj q hq=>?_) (λb=>?_) (λx=>?_) d9 (Xi.trans i5) (LA hv (Zs.mono i5) st.dst) (by cases ak9:o.dst <;> exact Wx)
    ·rw[Array.toList_setIfInBounds,List.count_set (by simpa using hil)];have e1:listed.toList[i]'(by simpa using hil)=false:=by rw[aaU,aaK hil] at hun;have hun:listed[i]'hil=false:=hun;simpa using hun
     have:0<listed.toList.count false:=List.count_pos_iff.2 (by rw[←e1];exact abk _);rw[e1,if_pos (by rfl),if_neg (by decide)];omega
    ·rcases(hds j).1 hj with hj|hj
     ·exact(hds q).2 (.inl (x8 j hj q hq))
     ·subst hj;exact(hds q).2 (.inl (ae_ q hq))
    ·by_cases hw:PA c i b
     ·rw[r2 b (Yb i b WV hw)];exact(pz (H:=λm b=>(c.H m).get b) WV hds hw λj h1 h2 h3 h4=>(apH i j b h1 h2 (later j h1 h2 h3)).1 ⟨Yb i b WV hw,h4⟩).symm
     ·rw[r3 b hw,hg b];exact(wX (H:=λm b=>(c.H m).get b) hds hw).symm
    ·by_cases hw:Uu ops i x
     ·have hx:o.dst=some x:=by obtain⟨o',YL,hx⟩:=hw;rw[ho] at YL;injection YL with YL;rw[YL];exact hx
      have af2:x+1<2 ^ 64:=by have:x<nt:=st.dst x hx;omega
      have q1:(Ae o.dst (c.V i) env').get x=(c.E (i+1)).get x:=by rw[st.env,BS hx af2,BS hx af2]
      rw[q1];refine(pz (H:=λm x=>(c.E m).get x) WV hds hw λj h1 h2 h3 h4=>?_).symm;obtain⟨p,hp,hpx⟩:=h4;exact(apE i j o p x h1 ho hp (later j h1 h2 h3)).1 ⟨.inr hx,hpx⟩
     ·rw[sg (λe=>hw ⟨o,ho,e⟩),he x];exact(wX (H:=λm x=>(c.E m).get x) hds hw).symm
   unfold wpOpIn
   simp only [ho]
   rcases Hs Zs b7 with⟨hw,hr⟩|⟨hw,hr⟩
   ·rw[if_pos hw];refine Hr Y6 hrn hSi g9 Zs hr λav v a8 ρ2 w2 q1 q2 q3 q4 q5=>?_;obtain⟨z1,z2⟩:=of_decide_eq_true (show decide (av=c.V i/\a8= .mk g' (c.N (i+1)) (c.N i) (c.TT i) (c.WW i))=true from q1);subst z1;subst z2;exact next ρ2 v w2 q3 q4 q5
   ·rw[if_neg (by rw[hw];simp)];obtain⟨z1,z2⟩:=of_decide_eq_true (show decide (AV.tup []=c.V i/\St.mk g (c.N i) (c.N i) .leaf []= .mk g' (c.N (i+1)) (c.N i) (c.TT i) (c.WW i))=true from hr);injection z2 with z2;refine⟨λ_ _=>trivial,next ρ' undef w' (by rw[←z2];exact g9) (Rho.le.refl _) (by rw[←z1];exact .tup [] #[] rfl (by simp))⟩
 refine wpIn_region_any hm (main ops.size (Array.replicate ops.size false) h0 env ρ a _ (by simp) (by simp) (λj hj=>?_) (λb=>?_) (λx=>?_) (hG.drawn _) hle hE hd)
 ·unfold f_ at hj;rw[aaU,abQ] at hj;split at hj <;> simp at hj
 ·have hn:∀j,¬f_ (Array.replicate ops.size false) j:=λj hj=>by unfold f_ at hj;rw[aaU,abQ] at hj;split at hj <;> simp at hj
  rw[lG (a:=0) ops.size (aan _) λj _ _ hj=>absurd hj (hn j)];show h0.get b=(c.H 0).get b;rw[e2]
 ·have hn:∀j,¬f_ (Array.replicate ops.size false) j:=λj hj=>by unfold f_ at hj;rw[aaU,abQ] at hj;split at hj <;> simp at hj
  rw[lG (a:=0) ops.size (aan _) λj _ _ hj=>absurd hj (hn j)];show env.get x=(c.E 0).get x;rw[e1]
end
end Go.Sym
namespace Go.Sym
open Go.RowKit (Below)
def RU:AEx->Exit
 | .normal=>.normal
 | .exit id=>.exit id
 | .goto l=>.goto l
 | .ret=>.ret
def Hw(w0:World)(ρ:Rho)(K:Fin)(nt:Nat)(k:XK)(Q:Exit->Act->World->Prop):Prop:=
 ∀ex env' WQ a8 ρ' w' a',run (k ex env' WQ) a8 K=true->SI a8->Good w0 ρ' a8.h w'->ρ.le ρ'->ER ρ' nt env' a'.tmps->DR ρ' WQ a'.defers->Q (RU ex) a' w'
def RW(ρ:Rho):Option Nat->Option Nat->Prop
 |none,r=>r=none
 |some l,r=>∃h,ρ.at_ l 0=some h/\r=some h.blk
def RW.mono{ρ ρ':Rho}(hle:ρ.le ρ'){dr rd:Option Nat}(h:RW ρ dr rd):RW ρ' dr rd:=by
 cases dr with
 |none=>exact h
 |some l=>obtain⟨x,h1,h2⟩:=h;exact⟨x,hle.at_ _ _ _ h1,h2⟩
inductive SubC:Code->Code->Prop where
 |refl (c:Code):SubC c c
 |seqL {a b c:Code} (h:SubC (.seq a b) c):SubC a c
 |seqR {a b c:Code} (h:SubC (.seq a b) c):SubC b c
 |condL {x:Operand} {a b c:Code} (h:SubC (.cond x a b) c):SubC a c
 |condR {x:Operand} {a b c:Code} (h:SubC (.cond x a b) c):SubC b c
 |block {id:Nat} {a c:Code} (h:SubC (.block id a) c):SubC a c
 |loop {a c:Code} (h:SubC (.loop a) c):SubC a c
def InF(P:Program)(f:Nat)(dr:Option Nat)(c:Code):Prop:=dr=none->wi c=true∨∃fn b,P.funcs[f]? =some fn/\fn.body=some b/\SubC c b
def InF.sub{P:Program}{f:Nat}{dr:Option Nat}{c d:Code}(h:InF P f dr c)(hs:∀b,SubC c b->SubC d b)(hj:wi c=false):InF P f dr d:=λhr=>by
 rcases h hr with h|⟨fn,b,h1,h2,h3⟩
 ·rw[hj] at h;cases h
 ·exact .inr ⟨fn,b,h1,h2,hs b h3⟩
def InF.round{P:Program}{f l:Nat}{c:Code}:InF P f (some l) c:=λh=>by cases h
def Ag(P:Program)(w0:World)(x:X):Prop:=
 ∀(c:Code) (env:T AV) (nt f:Nat) (df:List Nat) (k:XK) (σ:St) (K:Fin) (ρ:Rho) (w:World) (a:Act) (Q:Exit->Act->World->Prop) (dr rd:Option Nat),RW ρ dr rd->SI σ->Good w0 ρ σ.h w->ER ρ nt env a.tmps->DR ρ df a.defers->
  run (x c env nt f dr df k) σ K=true->Hw w0 ρ K nt k Q->InF P f dr c->c.wpIn (fR rd) 0 P Q a w
def h_(P:Program)(rd:Option Nat)(c:Code)(Q:Exit->Act->World->Prop)(a:Act)(w:World):Prop:=
 ∀(b:Frame) (k:List Item) (cs:List Frame),b.roundOf=(fR rd).round->(fR rd).fn b.fn->(fR rd).room (cs.length+1+0)->
  ∃e a' w',Q e a' w'/\ArrivesIn (Machine.fenced P (fR rd)) P (lone (b.atR a (.code c:: .inLoop c::k)) cs w) b k cs e a' w'
def LC(P:Program)(w0:World)(x:X):Prop:=
 ∀(c:Code) (env:T AV) (nt f:Nat) (df:List Nat) (k:XK) (σ:St) (K:Fin) (ρ:Rho) (w:World) (a:Act) (Q:Exit->Act->World->Prop) (dr rd:Option Nat),RW ρ dr rd->SI σ->Good w0 ρ σ.h w->ER ρ nt env a.tmps->DR ρ df a.defers->
  run (x (.loop c) env nt f dr df k) σ K=true->Hw w0 ρ K nt k Q->InF P f dr (.loop c)->h_ P rd c Q a w
section
variable{P:Program}{w0:World}{ρ:Rho}{w:World}{σ:St}{K:Fin}{nt:Nat}{env:T AV}{a:Act}
def Er{k:T AV->Tr}:∀(l:List AV) (i:Nat) (t:T AV),run (GI l i t k) σ K=true->
 ∃c,run (k c) σ K=true/\∀o x,c.get o=some x->(∃(j:Nat),o=i+j/\l[j]? =some x)∨(t.get o=some x/\(o<i∨i+l.length<=o)):=by
 intro l
 induction l with
 |nil=>intro i t h;exact⟨t,h,λo x hx=>.inr ⟨hx,by simp;omega⟩⟩
 |cons a l ih=>
  intro i t h
  have h:run (T.setK t i a λt=>fN (Nat.succ i) λi=>GI l i t k) σ K=true:=h
  rw[T.setK_eq] at h
  obtain⟨c,h1,h2⟩:=ih _ _ (fg h)
  refine⟨c,h1,λo x hx=>?_⟩
  rcases h2 o x hx with⟨j,e,hb⟩|⟨w6,ho⟩
  ·exact .inl ⟨j+1,by omega,by simpa using hb⟩
  ·by_cases e:o=i
   ·subst e;have:=T.get_set_some _ _ w6;exact .inl ⟨0,by omega,by rw[this];rfl⟩
   ·rw[T.get_set_ne _ e] at w6;exact .inr ⟨w6,by simp at ho⊢;omega⟩
def LD{l:List AV}{vs:List Value}{n:Nat}{c:T AV}(hl:LR ρ l vs)(hn:l.length<=n)(hc:∀o x,c.get o=some x->(∃(j:Nat),o=0+j/\l[j]? =some x)∨((T.leaf:T AV).get o=some x/\(o<0∨0+l.length<=o))):
 ER ρ n c (vs.toArray++Array.replicate (n-vs.toArray.size) undef):=by
 refine⟨by simp [hl.1];omega,λt x hx=>?_⟩
 rcases hc t x hx with⟨j,e,hj⟩|⟨h,_⟩
 ·have:t=j:=by omega
  subst this;obtain⟨v,hv,hr⟩:=hl.get hj;refine⟨v, ?_,hr⟩;have c8:t<vs.length:=by
   rcases aaf t vs.length with h'|h'
   ·exact h'
   ·rw[aak h'] at hv;cases hv
  rw[Array.getElem?_append_left (by simpa using c8)];simpa using hv
 ·simp [T.get] at h
def Sl(k:AV->Tr):List AV->Tr
 | [v]=>k v
 |l=>k (.tup l)
def Sm{l:List AV}{vs:List Value}{k:AV->Tr}(hl:LR ρ l vs)(h:run (Sl k l) σ K=true):∃av,run (k av) σ K=true/\VR ρ av (En vs):=by
 have tup:∀(l:List AV) (vs:List Value),LR ρ l vs->VR ρ (.tup l) (.tuple vs.toArray):=λl vs hl=>by
  have:LR ρ l vs.toArray.toList:=by simpa using hl
  exact .tup _ _ this.arr.1 this.arr.2
 cases l with
 |nil=>rw[hl.nil_inv];exact⟨_,h,tup _ _ (LR.nil ρ)⟩
 |cons a l=>
  obtain⟨v,YK,rfl,hv,u5⟩:=hl.cons_inv
  cases l with
  |nil=>rw[u5.nil_inv];exact⟨_,h,hv⟩
  |cons b l=>obtain⟨u,ZJ,rfl,hu,o5⟩:=u5.cons_inv;exact⟨_,h,tup _ _ hl⟩
def fk{x:X}(hx:Ag P w0 x):wU P w0 (iR P x):=by
 intro f l vs k σ K ρ w R hS hG hl h hR;obtain⟨fn,hf,h⟩:=br h;obtain⟨c,hb,h⟩:=br h;obtain⟨t7,h⟩:=kB h;have t7:¬fn.name= "runtime.NumGoroutine" :=by simpa using t7
 obtain⟨hlen,h⟩:=aj h;have hlen:=aU hlen;obtain⟨env,h,hc⟩:=Er _ _ _ h;have hE:=LD hl hlen hc;refine⟨λargs=>?_,callsIn_of_wp_marks hf hb trivial ?_⟩
 ·simp [callFunc,hf,t7,hb]
 ·refine hx c env fn.ntmps f [] _ σ K ρ w _ _ none none rfl hS hG hE trivial h (λex env' WQ a8 ρ' w' a' h1 h2 h3 h4 h5 h6=>?_) (λ_=>.inr ⟨fn,c,hf,hb,.refl c⟩)
  have main:run (tP WQ (GJ P env' fn.results.toList λl=>(match l with | [v]=>k v|l=>k (.tup l)))) a8 K=true->LeavesInM Fence.wide 0 P fn a'.tmps R a'.defers .returning w':=λh=>by refine Py (λd5 w2 g1 g2 g3=>?_) _ _ _ _ h h2 h3 h6;obtain⟨avs,vs,WO,q1,q2,q3,q4,q5⟩:=Va (P:=P) h5 _ _ _ g1 g2 g3;have q1:run (Sl k avs) WO K=true:=q1;obtain⟨av,r1,r2⟩:=Sm q4 q1;exact⟨En vs,wV q5,hR av _ WO ρ' w2 r1 q2 q3 h4 r2⟩
  cases ex with
  |normal=>exact main h1
  |ret=>exact main h1
  |exit id=>exact(ac h1).elim
  |goto l=>exact(ac h1).elim
def Ob(P:Program)(f:Nat)(arg:List Nat)(res:AV):Prop:=
 ∀(s:ByteArray) (w:World),bytesOf s=arg->Calls P f #[.string s] w λe w'=>∃v,e= .returned v/\(∀ρ,VR ρ res v)/\Below w.heap.size w w'
def Hx(P:Program)(f ty:Nat)(arg:List Nat)(res:AV):Prop:=
 ∀(blk:Nat) (arr:Array Value) (fr:Nat×Nat) (c:Nat) (w:World),w.heap[blk]? =some (.cells arr ty fr)->(∀(i n:Nat),arg[i]? =some n->arr[i]? =some (Value.int .u8 (n:Nat)))->arg.length<=c->c<=arr.size->
  Calls P f #[.slice (some ⟨blk,0,none⟩) arg.length c] w λe w'=>∃v,e= .returned v/\(∀ρ,VR ρ res v)/\Below w.heap.size w w'
def Oc(P:Program)(f:Nat)(res:AV):Prop:=
 ∀(w:World),Calls P f #[] w λe w'=>∃v,e= .returned v/\(∀ρ,VR ρ res v)/\Below w.heap.size w w'
def ga(P:Program):Memo->Prop
 | .mk f none arg res=>Ob P f arg res
 | .mk f (some _) [] res=>Oc P f res
 | .mk f (some ty) (a::arg) res=>Hx P f ty (a::arg) res
def Es{a b:Option Nat}(h:zE a b=true):a=b:=by cases a <;> cases b <;> first|rfl|(cases h;done)|(have:=aF h;subst this;rfl)
def kK{f:Nat}{ty:Option Nat}{arg:List Nat}{r:AV}:∀{l:List Memo},cY f ty arg l=some r->Memo.mk f ty arg r∈l:=by
 intro l
 induction l with
 |nil=>intro h;cases h
 |cons m l ih=>
  intro h
  cases m with
  |mk g u a q=>
   have h:aa (Nat.beq f g) (aa (zE ty u) (aa (vL arg a) (some q) (cY f ty arg l)) (cY f ty arg l)) (cY f ty arg l)=some r:=h;rw[ak,ak,ak] at h;split at h
   ·rename_i h1;split at h
    ·rename_i h2;split at h
     ·rename_i h3;injection h with h5;have e1:=aF h1;have e2:=Es h2;have e3:=(oa _ _).1 h3;rw[e1,e2,e3,h5];exact aaj
     ·exact aag _ (ih h)
    ·exact aag _ (ih h)
   ·exact aag _ (ih h)
def Et{f:Nat}(h:jY P f=true)(args:Array Value):(callFunc f args).run P w= .ok (.enter f args) w:=by
 unfold jY at h;split at h
 ·rename_i fn hf;split at h
  ·rename_i c hb;have hn:¬fn.name= "runtime.NumGoroutine" :=by simpa using h
   simp [callFunc,hf,hn,hb]
  ·cases h
 ·cases h
def Good.later{H:T ABlk}{w':World}(hG:Good w0 ρ H w)(hb:Below w.heap.size w w'):Good w0 ρ H w':=
 ⟨⟨hG.below.trans (Kept.of (hb.mono hG.below.size)),λb x hx=>(hG.blk b x hx).keep (Rho.le.refl ρ) λg h hh=>hb.block _ (hG.dom _ _ _ hh).1,λb g h hh=>by
  obtain⟨q1,q2⟩:=hG.dom b g h hh;exact⟨Zm q1 hb.size,q2⟩,hG.inj,hG.gens,λb arr ty hf=>by
  obtain⟨⟨fr,q1⟩,q2⟩:=hG.frz b arr ty hf;have c8:b<w.heap.size:=by
   rcases aaf b w.heap.size with h'|h'
   ·exact h'
   ·rw[aaN h'] at q1;cases q1
  exact⟨⟨fr,by rw[hb.block b c8];exact q1⟩,q2⟩,hG.frzB,hG.objO⟩,hG.ownB⟩
def Hy{M:List Memo}(hM:∀m∈M,ga P m){en:cq}(Y6:wU P w0 en):wU P w0 (GK P M en):=by
 intro f l vs k σ K ρ w R hS hG hl h hR
 have hit:∀(c7:St) (r:AV),run (aa (jY P f) (k r) .fail) c7 K=true->SI c7->Good w0 ρ c7.h w->(Calls P f vs.toArray w λe w'=>∃v,e= .returned v/\(∀ρ,VR ρ r v)/\Below w.heap.size w w')->
  (∀args:Array Value,(callFunc f args).run P w= .ok (.enter f args) w)/\CallsIn Fence.wide 0 P f vs.toArray w R:=by
  intro c7 r h b6 b9 hc
  obtain⟨ht,h⟩:=aj h
  refine⟨Et ht,(callsIn_wide.2 hc).mono λe w' he=>?_⟩
  obtain⟨v,rfl,hv,hb⟩:=he
  exact hR r v c7 ρ w' h b6 (b9.later hb) (Rho.le.refl ρ) (hv ρ)
 rcases bf h with⟨_,h⟩|⟨_,h⟩
 case inr=>exact Y6 f l vs k σ K ρ w R hS hG hl h hR
 have other:∀c7,SI c7->c7.h=σ.h->run (en f l k) c7 K=true->(∀args:Array Value,(callFunc f args).run P w= .ok (.enter f args) w)/\CallsIn Fence.wide 0 P f vs.toArray w R:=λc7 b6 e1 h=>
  Y6 f l vs k c7 K ρ w R b6 (by rw[e1];exact hG) hl h hR
 cases l with
 |nil=>
  have hv:=hl.nil_inv
  subst hv
  have h:run (bS (cY f (some 0) [] M) (en f [] k) λr=>aa (jY P f) (k r) .fail) σ K=true:=h
  cases hr:cY f (some 0) [] M with
  |none=>rw[hr] at h;exact other σ hS rfl h
  |some r=>rw[hr] at h;have hm:Oc P f r:=hM _ (kK hr);exact hit σ r h hS hG (hm w)
 |cons a l=>
  cases l with
  |cons a2 l=>exact other σ hS rfl h
  |nil=>
   have h:run (Se P M f a k (en f [a] k)) σ K=true:=h
   obtain⟨v,o7,rfl,hv,m7⟩:=hl.cons_inv
   have:=m7.nil_inv
   subst this
   cases hv with
   |str s=>
    have h:run (bS (cY f none (bytesOf s) M) (en f [.str (bytesOf s)] k) λr=>aa (jY P f) (k r) .fail) σ K=true:=h
    cases hr:cY f none (bytesOf s) M with
    |none=>rw[hr] at h;exact other σ hS rfl h
    |some r=>rw[hr] at h;have hm:Ob P f (bytesOf s) r:=hM _ (kK hr);exact hit σ r h hS hG (hm s w rfl)
   |slc b g o n cap es a cc t8=>
    cases cap with
    |some _=>exact other σ hS rfl h
    |none=>
     rcases bf h with⟨ho,h⟩|⟨_,h⟩
     case inr=>exact other σ hS rfl h
     rcases bf h with⟨n8,h⟩|⟨_,h⟩
     case inr=>exact other σ hS rfl h
     have ho:=aF ho
     have n8:=aF n8
     obtain⟨q,c7,hq,e1,b6,h⟩:=aT hS h
     have b9:Good w0 ρ c7.h w:=by rw[e1];exact hG
     cases q with
     |cells c gen lo hi fl fh ro ty=>
      obtain⟨k1,z1⟩:=aj h
      obtain⟨k2,z2⟩:=aj z1
      obtain⟨k3,z3⟩:=aj z2
      have k1:=aF k1
      have k2:=aU k2
      have k3:=aU k3
      obtain⟨av,z4,hlen,i3⟩:=Pq z3
      obtain⟨bs,WE,z5⟩:=br z4
      cases hr:cY f (some ty) bs M with
      |none=>have z6:run (bS (cY f (some ty) bs M) (en f [.slc b g o n none es] k) λr=>aa (jY P f) (k r) .fail) c7 K=true:=z5;rw[hr] at z6;exact other c7 b6 e1 z6
      |some r=>
       have z6:run (bS (cY f (some ty) bs M) (en f [.slc b g o n none es] k) λr=>aa (jY P f) (k r) .fail) c7 K=true:=z5;rw[hr] at z6;obtain⟨Wz,O'⟩:=t8;obtain⟨hm,hh,hos,ea,w7⟩:=O'.resolve_left (λhc=>by omega);subst ho;subst n8;have WZ:hm.shift=0:=by omega
       have hB:=hG.blk _ _ hq;obtain⟨u0,q1,_,_,arr,fr,q3,q4,q5,q6⟩:=hB.2 g k2;rw[hh] at q1;injection q1 with q1;subst q1;obtain⟨XD,Ya⟩:=r_ (o0:=0) WE i3 (λo tag a ho ht=>q6 o tag a ho ht) WZ;rw[hlen] at XD;have WT:Hx P f ty bs r:=by
        have hm3:=hM _ (kK hr)
        cases bs with
        |nil=>simp at XD;omega
        |cons _ _=>exact hm3
       refine hit c7 r z6 b6 b9 ?_;have:=WT hm.blk arr fr cc w q3 (λi m hi=>by have:=Ya i m hi;rwa [aam] at this) (by rw[XD];exact Wz) (by rw[WZ] at w7;omega);rw[XD] at this;rw[ea,WZ];exact this
     |_=>exact(ac h).elim
   |_=>exact other σ hS rfl h
def lH{M:Tab}{x:X}(hx:Ag P w0 x)(hl:LC P w0 x):LC P w0 (FX P M x):=by
 intro c env nt f df k σ K ρ w a Q dr rd hW hS hG hE hD h hQ hC b kk cs YW hb hr
 have h:run (x c env nt f dr df λex env df=>(match ex with
  | .normal=>x (.loop c) env nt f dr df k
  |ex=>k ex env df)) σ K=true:=h
 have hc:c.wpIn (fR rd) 0 P (λe a' w'=>match e with | .normal=>h_ P rd c Q a' w'|e=>Q e a' w') a w:=by
  refine hx c env nt f df _ σ K ρ w a _ dr rd hW hS hG hE hD h (λex env' WQ a8 ρ' w' a' h1 h2 h3 h4 h5 h6=>?_) (hC.sub (λ_=>.loop) rfl)
  cases ex with
  |normal=>exact hl c env' nt f WQ k a8 K ρ' w' a' Q dr rd (hW.mono h4) h2 h3 h5 h6 h1 (λex2 Y8 df2 d5 ρ2 w2 a2 g1 g2 g3 g4 g5 g6=>hQ ex2 Y8 df2 d5 ρ2 w2 a2 g1 g2 g3 (h4.trans g4) g5 g6) hC
  |exit id=>exact hQ (.exit id) env' WQ a8 ρ' w' a' h1 h2 h3 h4 h5 h6
  |goto l=>exact hQ (.goto l) env' WQ a8 ρ' w' a' h1 h2 h3 h4 h5 h6
  |ret=>exact hQ .ret env' WQ a8 ρ' w' a' h1 h2 h3 h4 h5 h6
 obtain⟨e,a₁,w₁,hq,Q'⟩:=hc b (.inLoop c::kk) cs YW hb hr
 cases e with
 |normal=>obtain⟨e₂,a₂,w₂,hq₂,harr₂⟩:=hq b kk cs YW hb hr;exact⟨e₂,a₂,w₂,hq₂,.of_steps (StepsIn.trans Q' (.one (fenced_calm hb hr rfl) stepR_inLoop)) harr₂⟩
 |exit id=>exact⟨_,a₁,w₁,hq,.pass (x:=.inLoop c) rfl (λ_ _=>.inl (by simp)) Q'⟩
 |goto l=>exact⟨_,a₁,w₁,hq,.pass (x:=.inLoop c) rfl (λ_ _=>.inl (by simp)) Q'⟩
 |ret=>exact⟨_,a₁,w₁,hq,.pass (x:=.inLoop c) rfl (λ_ _=>.inl (by simp)) Q'⟩
 |panic ch=>exact⟨_,a₁,w₁,hq,.pass (x:=.inLoop c) rfl (λ_ _=>.inl (by simp)) Q'⟩
 |outgrown=>exact⟨_,a₁,w₁,hq,.pass (x:=.inLoop c) rfl (λ_ _=>.inl (by simp)) Q'⟩
def Sn{av:AV}{v:Value}{t e:Tr}(hv:VR ρ av v)(h:run (N3 av t e) σ K=true):∃b,v= .bool b/\(b=true->run t σ K=true)/\(b=false->run e σ K=true):=by
 cases hv with
 |bool b=>
  rcases bf h with⟨e1,h⟩|⟨e1,h⟩
  ·subst e1;exact⟨true,rfl,λ_=>h,(λe=>by cases e)⟩
  ·subst e1;exact⟨false,rfl,(λe=>by cases e),λ_=>h⟩
 |anyB b=>have hp:=tS (n:=2) h;exact⟨b,rfl,λ_=>hp 0 (.inl rfl) (λ_=>rfl),λ_=>hp 1 (.inr (by omega)) (λh=>absurd h (by omega))⟩
 |sB p b hb=>
  refine⟨b,rfl,λe1=>?_,λe1=>?_⟩
  ·rcases bU h with⟨_,h⟩|⟨hp,_⟩
   ·exact h
   ·exact absurd (hb.1 e1) hp
  ·rcases bU h with⟨hp,_⟩|⟨_,h⟩
   ·exact absurd (hb.2 hp) (by rw[e1];simp)
   ·exact h
 |_=>exact(ac h).elim
def Eu{rd:Option Nat}{c:Code}{Q:Exit->Act->World->Prop}(hc:c.wpIn (fR rd) 0 P (λe a' w'=>match e with | .normal=>h_ P rd c Q a' w'|e=>Q e a' w') a w):h_ P rd c Q a w:=by
 intro b kk cs YW hb hr
 obtain⟨e,a₁,w₁,hq,Q'⟩:=hc b (.inLoop c::kk) cs YW hb hr
 cases e with
 |normal=>obtain⟨e₂,a₂,w₂,hq₂,harr₂⟩:=hq b kk cs YW hb hr;exact⟨e₂,a₂,w₂,hq₂,.of_steps (StepsIn.trans Q' (.one (fenced_calm hb hr rfl) stepR_inLoop)) harr₂⟩
 |exit id=>exact⟨_,a₁,w₁,hq,.pass (x:=.inLoop c) rfl (λ_ _=>.inl (by simp)) Q'⟩
 |goto l=>exact⟨_,a₁,w₁,hq,.pass (x:=.inLoop c) rfl (λ_ _=>.inl (by simp)) Q'⟩
 |ret=>exact⟨_,a₁,w₁,hq,.pass (x:=.inLoop c) rfl (λ_ _=>.inl (by simp)) Q'⟩
 |panic ch=>exact⟨_,a₁,w₁,hq,.pass (x:=.inLoop c) rfl (λ_ _=>.inl (by simp)) Q'⟩
 |outgrown=>exact⟨_,a₁,w₁,hq,.pass (x:=.inLoop c) rfl (λ_ _=>.inl (by simp)) Q'⟩
def BU{rd:Option Nat}{c:Code}{Q:Exit->Act->World->Prop}(h:h_ P rd c Q a w):(Code.loop c).wpIn (fR rd) 0 P Q a w:=by intro b k cs YW hb hr;obtain⟨e,a',w',hq,Q'⟩:=h b k cs YW hb hr;exact⟨e,a',w',hq,.of_steps (.one (fenced_calm hb hr rfl) stepR_loop) Q'⟩
def w_{l:Nat}{r:Loop}(h:w.heap[l]? =some (.loop r))(hb:r.state≠ .busy):(Instr.endLoop l).run P w= .ok r.pending {w with heap:=w.heap.setIfInBounds l (.loop {r with state:=.exhausted})}:=by
 have w9:(r.state== .busy)=false:=by cases hs:r.state <;> first|rfl|exact absurd hs hb
 simp only [Instr.endLoop,Instr.getLoop,aaa,aC h (by simp),aad,aac,w9,Bool.false_eq_true,if_false,fL h (by simp)]
def So(z:Tr)(go:Code->Tr):Option Code->Tr
 |none=>z
 |some c=>go c
def Hz{M:Tab}{x:X}(hx:Ag P w0 x){g:Operand}{ps:Array Tmp}{as bd:Code}{f:Nat}{df:List Nat}{k:XK}{Q:Exit->Act->World->Prop}{dr rd:Option Nat}(hW:RW ρ dr rd)(hS:SI σ)(hG:Good w0 ρ σ.h w)(hE:ER ρ nt env a.tmps)(hD:DR ρ df a.defers)(h:run (FX P M x (.rangeFunc g ps as bd) env nt f dr df k) σ K=true)(hQ:Hw w0 ρ K nt k Q):(Code.rangeFunc g ps as bd).wpIn (fR rd) 0 P Q a w:=by
 cases dr with
 |some _=>exact(ac h).elim
 |none=>
 have hW:rd=none:=hW
 subst hW
 show(Code.rangeFunc g ps as bd).wpIn Fence.wide 0 P Q a w
 have h:run (.new (.dfr true) λd=>.new (.loop .ready none f nt env ps.toList as bd d) λl=>cL env g λg=>
  zD P x g l id (λc=>aa (wi c) (x c env nt f none (d::df) k) .fail) (k .normal env (d::df))) σ K=true:=h
 obtain⟨d,c7,Yp,ah9,e1,b6,h⟩:=cZ hS h
 obtain⟨o8,b9⟩:=hG.alloc Yp ah9 (.dfr true) (.deferred (some [])) 0 0 (λρ' hle j5 _=>⟨_,j5,.new hG.below.size,by simp⟩)
 rw[←e1] at b9
 obtain⟨l,d5,hn2,ah_,e2,d8,h⟩:=cZ b6 h
 refine wpIn_rangeFunc λYU _=>?_
 obtain⟨i5,d9⟩:=b9.alloc hn2 ah_ (.loop .ready none f nt env ps.toList as bd d) (.loop {state:=.ready,pending:=none,fn:=YU,tmps:=a.tmps,params:=ps,assign:=as,body:=bd,defers:=w.heap.size}) 0 0
  (λρ' hle j5 _=>⟨_,j5,.new (by have:=hG.below.size;simp;omega),a.tmps,_,YU,hE.mono (o8.trans hle),hle.at_ _ _ _ (Rho.put_at _ _ _ _),Array.getElem?_push_size⟩)
 rw[←e2] at d9
 obtain⟨av,WO,e3,WP,h,hv⟩:=rP (x:=g) d8 d9 (hE.mono (o8.trans i5)) h
 rw[←e3] at d9
 generalize hgv:a.eval g=gv at hv
 cases hv with
 |func fn l1 m1 first captured h1 h2 r1 r2 hf=>
  cases fn with
  |func i=>
   have q1:=LR.of_arr h1 r1
   have q2:=LR.of_arr h2 r2
   have hl:=Rho.put_at (ρ.put d 0 ⟨w.heap.size,0,0⟩) l 0 ⟨(w.heap.push (.deferred (some []))).size,0,0⟩
   have hd:=i5.at_ _ _ _ (Rho.put_at ρ d 0 ⟨w.heap.size,0,0⟩)
   simp only [zD] at h
   have i7:=(q1.append (LR.cons (.yld l _ hl) (LR.nil _))).append q2
   obtain⟨hcf,hci⟩:=fk hx i _ _ _ WO K _ _ (rangePost Fence.wide 0 P (w.heap.push (.deferred (some []))).size Q {a with defers:=[{target:=.collected w.heap.size,args:= #[]}]++a.defers}) WP d9 i7 h
    (λav v a8 ρ' w' g1 g2 g3 g4 g5=>by
     obtain⟨q,σ4,hq,e4,hS4,g1⟩:=aT g2 g1
     have hG4:Good w0 ρ' σ4.h w':=by rw[e4];exact g3
     cases q with
     |loop st jump fn nt' tmps ps' m6 bd' d'=>
      have m7:=g4.at_ _ _ _ hl
      obtain⟨hm,hh,hB,WM,Wx,fn2,b1,b2,c9⟩:=g3.blk _ _ hq
      rw[m7] at hh;injection hh with hh;subst hh
      have fin:st≠ .busy->run (.wr l (.loop .exhausted jump fn nt' tmps ps' m6 bd' d') (So (k .normal env (d::df)) (λc=>aa (wi c) (x c env nt f none (d::df) k) .fail) jump)) σ4 K=true->
       rangePost Fence.wide 0 P (w.heap.push (.deferred (some []))).size Q {a with defers:=[{target:=.collected w.heap.size,args:= #[]}]++a.defers} (.returned v) w':=λhb g1=>by
       obtain⟨x0,σ5,A',e5,hS5,d4,g1⟩:=cr hS4 g1
       have hG5:=hG4.setObj (hnf:=nf e4 hq A' (λh=>h)) (x:=.loop .exhausted jump fn nt' tmps ps' m6 bd' d') (o':=.loop {state:=.exhausted,pending:=jump,fn:=fn2,tmps:=WM,params:=ps'.toArray,assign:=m6,body:=bd',defers:=Wx.blk}) A' d4 m7 hB c9
        ⟨_,m7,hB,WM,Wx,fn2,b1,b2,lF c9⟩
       rw[←e5] at hG5
       refine⟨jump,_,w_ c9 hb, ?_⟩
       have hDD:DR ρ' (d::df) ([{target:=.collected w.heap.size,args:= #[]}]++a.defers):=⟨⟨_,g4.at_ _ _ _ hd,rfl⟩,hD.mono (o8.trans (i5.trans g4))⟩
       have hEE:ER ρ' nt env a.tmps:=hE.mono (o8.trans (i5.trans g4))
       cases jump with
       |none=>exact hQ .normal env (d::df) σ5 ρ' _ {a with defers:=[{target:=.collected w.heap.size,args:= #[]}]++a.defers} g1 hS5 hG5 (o8.trans (i5.trans g4)) hEE hDD
       |some c=>
        obtain⟨hj,g1⟩:=aj g1
        exact hx c env nt f (d::df) k σ5 K ρ' _ {a with defers:=[{target:=.collected w.heap.size,args:= #[]}]++a.defers} Q none none rfl hS5 hG5 hEE hDD g1
         (λex2 Y8 df2 d5 ρ2 w2 a2 c1 c2 c3 c4 c5 c6=>hQ ex2 Y8 df2 d5 ρ2 w2 a2 c1 c2 c3 ((o8.trans (i5.trans g4)).trans c4) c5 c6) (λ_=>.inl hj)
      cases st with
      |busy=>exact(ac g1).elim
      |ready=>exact fin (by simp) (by cases jump <;> exact g1)
      |done=>exact fin (by simp) (by cases jump <;> exact g1)
      |exhausted=>exact fin (by simp) (by cases jump <;> exact g1)
     |_=>exact(ac g1).elim)
   have ea:(first++ #[Value.func (.yield (w.heap.push (.deferred (some []))).size) #[] #[]])++captured=(first.toList++ [Value.func (.yield (w.heap.push (.deferred (some []))).size) #[] #[]]++captured.toList).toArray:=by apply Array.ext';simp
   refine⟨(w.heap.push (.deferred (some []))).size,[{target:=.collected w.heap.size,args:= #[]}],{w with heap:=(w.heap.push (.deferred (some []))).push (.loop {state:=.ready,pending:=none,fn:=YU,tmps:=a.tmps,params:=ps,assign:=as,body:=bd,defers:=w.heap.size})},{target:=.fn (.func i) captured,args:=first++ #[.func (.yield (w.heap.push (.deferred (some []))).size) #[] #[]]},{w with heap:=(w.heap.push (.deferred (some []))).push (.loop {state:=.ready,pending:=none,fn:=YU,tmps:=a.tmps,params:=ps,assign:=as,body:=bd,defers:=w.heap.size})},i,_,_, ?_, ?_,λ_ _=>trivial, ?_,λh=>absurd h (by simp [Fence.wide]),hci⟩
   ·simp only [Instr.enterLoop,Fence.wide,aaa,run_newObj,aad,aac]
   ·have ai0:∀v,a.eval (.const v)=v:=λ_=>rfl;simp only [resolve,hgv,Deferred.ofValue,List.map_toArray,aaw,List.map_nil,ai0,aac]
   ·show(callFunc i ((first++ #[Value.func (.yield (w.heap.push (.deferred (some []))).size) #[] #[]])++captured)).run P _=_;rw[ea];exact hcf _
  |_=>exact(ac h).elim
 |_=>exact(ac h).elim
def HA{k:T AV->Tr}:∀(ps:List Nat) (as:List AV) (vs:List Value) (t:T AV) (tmps:Array Value),LR ρ as vs->ER ρ nt t tmps->run (BD ps as nt t k) σ K=true->
 ∃t',run (k t') σ K=true/\ps.length=vs.length/\ER ρ nt t' ((ps.zip vs).foldl (λtmps x=>tmps.setIfInBounds x.1 x.2) tmps):=by
 intro ps
 induction ps with
 |nil=>
  intro as vs t tmps hl hE h
  cases as with
  |nil=>rw[hl.nil_inv];exact⟨t,h,rfl,hE⟩
  |cons _ _=>exact(ac h).elim
 |cons p ps ih=>
  intro as vs t tmps hl hE h
  cases as with
  |nil=>exact(ac h).elim
  |cons av as=>
   obtain⟨v,o7,rfl,hv,m7⟩:=hl.cons_inv
   have h:run (aa (Nat.ble (Nat.succ p) nt) (T.setK t p av λt=>BD ps as nt t k) .fail) σ K=true:=h
   obtain⟨hp,h⟩:=aj h
   have hp:=aU hp
   rw[T.setK_eq] at h
   have Zs:ER ρ nt (t.set p av) (tmps.setIfInBounds p v):=by
    refine⟨by rw[abO];exact hE.size,λi b hb=>?_⟩;by_cases e:i=p
    ·subst e;have:=T.get_set_some _ _ hb;subst this;exact⟨v,by rw[aaD,if_pos rfl,if_pos (by rw[hE.size];omega)],hv⟩
    ·rw[T.get_set_ne _ e] at hb;obtain⟨u,hu,hr⟩:=hE.val i b hb;exact⟨u,by rw[aaD,if_neg (λe'=>e e'.symm)];exact hu,hr⟩
   obtain⟨t',q1,q2,q3⟩:=ih as o7 _ _ m7 Zs h
   exact⟨t',q1,by simp [q2],q3⟩
def Ev{l:Nat}{r:Loop}{vs:List Value}(h:w.heap[l]? =some (.loop r))(hn:r.params.size=vs.length):(Instr.yield l vs.toArray).run P w= .ok (.round l r.fn ((r.params.toList.zip vs).foldl (λtmps x=>tmps.setIfInBounds x.1 x.2) r.tmps) r.assign r.body) w:=by
 have e:r.params.zip vs.toArray=(r.params.toList.zip vs).toArray:=by apply Array.ext';simp
 simp only [Instr.yield,Instr.getLoop,aaa,aC h (by simp),aad,aac,List.size_toArray,hn,ne_eq,not_true_eq_false,if_false,e,List.foldl_toArray']
def pC{l:Nat}{r:Loop}(h:w.heap[l]? =some (.loop r))(hb:r.state= .ready):(Instr.beginRound l).run P w= .ok () {w with heap:=w.heap.setIfInBounds l (.loop {r with state:=.busy})}:=by simp only [Instr.beginRound,Instr.getLoop,aaa,aC h (by simp),aad,aac,fL h (by simp),hb]
def ui{l:Nat}{r:Loop}(jump:Option Code)(h:w.heap[l]? =some (.loop r)):(Instr.endRound l jump).run P w= .ok (.bool jump.isNone) {w with heap:=w.heap.setIfInBounds l (.loop {r with state:=if jump.isNone then .ready else .done,pending:=jump})}:=by simp only [Instr.endRound,Instr.getLoop,aaa,aC h (by simp),aad,aac,fL h (by simp)]
def sh{x:X}(hx:Ag P w0 x):Lu P w0 (zB x):=by
 intro l as vs k σ K ρ w R hS hG hl h hR
 obtain⟨q,c7,hq,e1,b6,h⟩:=aT hS h
 have b9:Good w0 ρ c7.h w:=by rw[e1];exact hG
 cases q with
 |loop st jump fn nt tmps ps asg bd d=>
  obtain⟨hm,hh,hB,WM,hd,YU,b1,b2,c9⟩:=hG.blk _ _ hq
  obtain⟨env,h,hlen,hE⟩:=HA _ _ _ _ _ hl b1 h
  refine⟨hm,hh,_,_,_,_,Ev c9 (by simpa using hlen),roundIn_of_wpIn trivial ?_⟩
  refine hx asg env nt fn [] _ c7 K ρ w _ _ (some l) (some hm.blk) ⟨hm,hh,rfl⟩ b6 b9 hE trivial h (λex env' WQ a8 ρ' w' a' g1 g2 g3 g4 g5 g6=>?_) .round
  cases ex with
  |normal=>
   cases WQ with
   |cons _ _=>exact(ac g1).elim
   |nil=>
    obtain⟨q2,d5,YR,e2,d8,g1⟩:=aT g2 g1
    have d9:Good w0 ρ' d5.h w':=by rw[e2];exact g3
    cases q2 with
    |loop st2 ab1 fn2 nt2 af3 ps2 as2 bd2 d2=>
     cases st2 with
     |ready=>
      have g7:=g4.at_ _ _ _ hh
      obtain⟨WT,Xb,hB2,Y9,hd2,af4,c1,c2,P'⟩:=g3.blk _ _ YR
      rw[g7] at Xb;injection Xb with Xb;subst Xb
      obtain⟨x0,WO,A',e3,WP,d4,g1⟩:=cr d8 g1
      have B':=d9.setObj (hnf:=nf e2 YR A' (λh=>h)) (x:=.loop .busy ab1 fn2 nt2 af3 ps2 as2 bd2 d2) (o':=.loop {state:=.busy,pending:=ab1,fn:=af4,tmps:=Y9,params:=ps2.toArray,assign:=as2,body:=bd2,defers:=hd2.blk}) A' d4 g7 hB2 P'
       ⟨_,g7,hB2,Y9,hd2,af4,c1,c2,lF P'⟩
      rw[←e3] at B'
      refine⟨_,pC P' rfl, ?_⟩
      refine hx bd env' nt fn2 [] _ WO K ρ' _ a' _ (some l) (some hm.blk) ⟨hm,g7,rfl⟩ WP B' g5 g6 g1 (λex3 ak_ df3 σ4 ρ4 w4 a4 k1 k2 k3 k4 k5 k6=>?_) .round
      have fin:∀jp,run (gp l jp k) σ4 K=true->∃v w5,(Instr.endRound hm.blk jp).run P w4= .ok v w5/\R (.returned v) w5:=λjp k1=>by
       obtain⟨q3,σ5,hq3,e5,hS5,k1⟩:=aT k2 k1
       have hG5:Good w0 ρ4 σ5.h w4:=by rw[e5];exact k3
       cases q3 with
       |loop st3 ak4 fn3 nt3 Yu ps3 as3 bd3 d3=>
        have hh4:=k4.at_ _ _ _ g7
        obtain⟨hm3,Yr,hB3,Xu,hd3,ZQ,c3,c4,W8⟩:=k3.blk _ _ hq3
        rw[hh4] at Yr;injection Yr with Yr;subst Yr
        obtain⟨x1,σ6,x9,e6,hS6,af5,k1⟩:=cr hS5 k1
        refine⟨_,_,ui jp W8, ?_⟩
        cases jp with
        |none=>
         have hG6:=hG5.setObj (hnf:=nf e5 hq3 x9 (λh=>h)) (x:=.loop .ready none fn3 nt3 Yu ps3 as3 bd3 d3) (o':=.loop {state:=.ready,pending:=none,fn:=ZQ,tmps:=Xu,params:=ps3.toArray,assign:=as3,body:=bd3,defers:=hd3.blk}) x9 af5 hh4 hB3 W8
          ⟨_,hh4,hB3,Xu,hd3,ZQ,c3,c4,lF W8⟩
         have e6:σ6.h=σ5.h.set l (.loop .ready none fn3 nt3 Yu ps3 as3 bd3 d3):=e6;rw[←e6] at hG6;exact hR (.bool true) _ σ6 ρ4 _ k1 hS6 hG6 (g4.trans k4) (.bool true)
        |some jc=>
         have hG6:=hG5.setObj (hnf:=nf e5 hq3 x9 (λh=>h)) (x:=.loop .done (some jc) fn3 nt3 Yu ps3 as3 bd3 d3) (o':=.loop {state:=.done,pending:=some jc,fn:=ZQ,tmps:=Xu,params:=ps3.toArray,assign:=as3,body:=bd3,defers:=hd3.blk}) x9 af5 hh4 hB3 W8
          ⟨_,hh4,hB3,Xu,hd3,ZQ,c3,c4,lF W8⟩
         have e6:σ6.h=σ5.h.set l (.loop .done (some jc) fn3 nt3 Yu ps3 as3 bd3 d3):=e6;rw[←e6] at hG6;exact hR (.bool false) _ σ6 ρ4 _ k1 hS6 hG6 (g4.trans k4) (.bool false)
       |_=>exact(ac k1).elim
      cases df3 with
      |cons _ _=>exact(ac k1).elim
      |nil=>
       cases ex3 with
       |normal=>exact fin none k1
       |ret=>exact fin (some .ret) k1
       |exit id=>exact fin (some (.exit id)) k1
       |goto t=>exact fin (some (.goto t)) k1
     |_=>exact(ac g1).elim
    |_=>exact(ac g1).elim
  |_=>exact(ac g1).elim
 |_=>exact(ac h).elim
def PB(P:Program)(w0:World)(f:Nat)(l:List AV)(t:(AV->Tr)->Tr):Prop:=
 ∀(vs:List Value) (k:AV->Tr) (σ:St) (K:Fin) (ρ:Rho) (w:World) (R:Ending->World->Prop),SI σ->Good w0 ρ σ.h w->LR ρ l vs->run (t k) σ K=true->
  (∀av v a8 ρ' w',run (k av) a8 K=true->SI a8->Good w0 ρ' a8.h w'->ρ.le ρ'->VR ρ' av v->R (.returned v) w')->
  (∀args:Array Value,(callFunc f args).run P w= .ok (.enter f args) w)/\CallsIn Fence.wide 0 P f vs.toArray w R
def Od(P:Program)(w0:World)(fn id:Nat)(t:Nat->T AV->(AEx->T AV->Tr)->Tr):Prop:=
 ∀(c:Code) (env:T AV) (nt:Nat) (k:XK) (σ:St) (K:Fin) (ρ:Rho) (w:World) (a:Act) (Q:Exit->Act->World->Prop),SI σ->Good w0 ρ σ.h w->ER ρ nt env a.tmps->a.defers= []->
  run (t nt env λex env=>k ex env []) σ K=true->Hw w0 ρ K nt k Q->(∃f b,P.funcs[fn]? =some f/\f.body=some b/\SubC (.block id c) b)->(Code.block id c).wpIn (fR none) 0 P Q a w
structure TabOk(P:Program)(M:Tab):Prop where
 memos:∀m∈M.memos,ga P m
 con:∀w0 f l t,M.con f l=some t->PB P w0 f l t
 blk:∀w0 fn id t,M.blk fn id=some t->Od P w0 fn id t
def HB{P:Program}{l:List Memo}(h:∀m∈l,ga P m):TabOk P (Tab.of l) where
 memos:=h
 con:=λ_ _ _ _ e=>by cases e
 blk:=λ_ _ _ _ e=>by cases e
def xa{M:Tab}(hM:TabOk P M){en:cq}(Y6:wU P w0 en):wU P w0 (GL P M en):=by
 intro f l vs k σ K ρ w R hS hG hl h hR
 have h:run (bS (M.con f l) (GK P M.memos en f l k) λt=>t k) σ K=true:=h
 cases hc:M.con f l with
 |none=>rw[hc] at h;exact Hy hM.memos Y6 f l vs k σ K ρ w R hS hG hl h hR
 |some t=>rw[hc] at h;exact hM.con w0 f l t hc vs k σ K ρ w R hS hG hl h hR
def uj{M:Tab}(hM:TabOk P M){x:X}(hx:Ag P w0 x)(hl:LC P w0 x):Ag P w0 (FX P M x):=by
 intro c env nt f df k σ K ρ w a Q dr rd hW hS hG hE hD h hQ hC
 have here:∀{ex:AEx},run (k ex env df) σ K=true->Q (RU ex) a w:=λh=>hQ _ env df σ ρ w a h hS hG (Rho.le.refl ρ) hE hD
 cases c with
 |skip=>exact wpIn_skip (here (ex:=.normal) h)
 |label l=>exact wpIn_label (here (ex:=.normal) h)
 |ret=>exact wpIn_ret (here (ex:=.ret) h)
 |exit id=>exact wpIn_exit (here (ex:=.exit id) h)
 |goto l=>exact wpIn_goto (here (ex:=.goto l) h)
 |region id ops draw=>
  cases draw with
  |true=>obtain⟨hm,h⟩:=aj h;obtain⟨hnt,h⟩:=aj h;obtain⟨htm,h⟩:=aj h;exact LB (xa hM (fk hx)) (sh hx) (aU hnt) hm ρ a.defers (λenv' a8 ρ' a' w' h1 h2 h3 h4 h5 h6=>hQ .normal env' df a8 ρ' w' a' h1 h2 h3 h4 h5 (by rw[h6];exact hD.mono h4)) htm h hS hG (Rho.le.refl ρ) hE rfl id
  |false=>refine wpIn_region_list (Lw (xa hM (fk hx)) (sh hx) ρ a.defers (λenv' a8 ρ' a' w' h1 h2 h3 h4 h5 h6=>?_) _ env σ ρ a w h hS hG (Rho.le.refl ρ) hE rfl);exact hQ .normal env' df a8 ρ' w' a' h1 h2 h3 h4 h5 (by rw[h6];exact hD.mono h4)
 |seq c d=>
  refine wpIn_seq (hx c env nt f df _ σ K ρ w a _ dr rd hW hS hG hE hD h (λex env' WQ a8 ρ' w' a' h1 h2 h3 h4 h5 h6=>?_) (hC.sub (λ_=>.seqL) rfl))
  cases ex with
  |normal=>exact hx d env' nt f WQ k a8 K ρ' w' a' Q dr rd (hW.mono h4) h2 h3 h5 h6 h1 (λex2 Y8 df2 d5 ρ2 w2 a2 g1 g2 g3 g4 g5 g6=>hQ ex2 Y8 df2 d5 ρ2 w2 a2 g1 g2 g3 (h4.trans g4) g5 g6) (hC.sub (λ_=>.seqR) rfl)
  |exit id=>exact hQ (.exit id) env' WQ a8 ρ' w' a' h1 h2 h3 h4 h5 h6
  |goto l=>exact hQ (.goto l) env' WQ a8 ρ' w' a' h1 h2 h3 h4 h5 h6
  |ret=>exact hQ .ret env' WQ a8 ρ' w' a' h1 h2 h3 h4 h5 h6
 |cond x c d=>
  obtain⟨av,c7,e1,b6,h,hv⟩:=rP hS hG hE h
  have b9:Good w0 ρ c7.h w:=by rw[e1];exact hG
  obtain⟨b,hxv,ht,he⟩:=Sn hv h
  refine wpIn_cond hxv ?_
  cases b with
  |true=>exact hx c env nt f df k c7 K ρ w a Q dr rd hW b6 b9 hE hD (ht rfl) hQ (hC.sub (λ_=>.condL) rfl)
  |false=>exact hx d env nt f df k c7 K ρ w a Q dr rd hW b6 b9 hE hD (he rfl) hQ (hC.sub (λ_=>.condR) rfl)
 |block id c=>
  cases hc:(match dr,df with|none,[]=>M.blk f id|_,_=>none) with
  |some t=>
   have h:run (bS (match dr,df with|none,[]=>M.blk f id|_,_=>none) (x c env nt f dr df λex env df=>(match ex with
    | .exit XJ=>aa (Nat.beq XJ id) (k .normal env df) (k (.exit XJ) env df)
    |ex=>k ex env df)) λt=>t nt env λex env=>k ex env df) σ K=true:=h
   rw[hc] at h
   cases dr with
   |some _=>cases hc
   |none=>
    cases df with
    |cons _ _=>cases hc
    |nil=>
     have hd0:a.defers= []:=by
      cases hd:a.defers with
      |nil=>rfl
      |cons _ _=>rw[hd] at hD;exact hD.elim
     have hW:rd=none:=hW;subst hW;refine hM.blk w0 f id t hc c env nt k σ K ρ w a Q hS hG hE hd0 h hQ ?_;rcases hC rfl with hj|hj
     ·cases hj
     ·exact hj
  |none=>
  have h:run (bS (match dr,df with|none,[]=>M.blk f id|_,_=>none) (x c env nt f dr df λex env df=>(match ex with
   | .exit XJ=>aa (Nat.beq XJ id) (k .normal env df) (k (.exit XJ) env df)
   |ex=>k ex env df)) λt=>t nt env λex env=>k ex env df) σ K=true:=h
  rw[hc] at h
  refine wpIn_block (hx c env nt f df _ σ K ρ w a _ dr rd hW hS hG hE hD h (λex env' WQ a8 ρ' w' a' h1 h2 h3 h4 h5 h6=>?_) (hC.sub (λ_=>.block) rfl))
  cases ex with
  |normal=>exact hQ .normal env' WQ a8 ρ' w' a' h1 h2 h3 h4 h5 h6
  |exit XJ=>
   rcases bf h1 with⟨e,ZY⟩|⟨e,ZY⟩
   ·have e:=aF e;show(if XJ=id then Q .normal a' w' else Q (.exit XJ) a' w');rw[if_pos e];exact hQ .normal env' WQ a8 ρ' w' a' ZY h2 h3 h4 h5 h6
   ·show(if XJ=id then Q .normal a' w' else Q (.exit XJ) a' w');rw[if_neg (λe'=>by subst e';simp at e)];exact hQ (.exit XJ) env' WQ a8 ρ' w' a' ZY h2 h3 h4 h5 h6
  |goto l=>exact hQ (.goto l) env' WQ a8 ρ' w' a' h1 h2 h3 h4 h5 h6
  |ret=>exact hQ .ret env' WQ a8 ρ' w' a' h1 h2 h3 h4 h5 h6
 |loop c=>exact BU (lH hx hl c env nt f df k σ K ρ w a Q dr rd hW hS hG hE hD h hQ hC)
 |rangeFunc g ps as bd=>exact Hz hx hW hS hG hE hD h hQ
 |_=>exact(ac h).elim
end
end Go.Sym
namespace Go.Sym
open Go.RowKit (Below)
def lI(P:Program){M:Tab}(hM:TabOk P M)(w0:World):∀n:Nat,Ag P w0 (oV P M n)/\LC P w0 (oV P M n):=by
 intro n
 induction n with
 |zero=>exact⟨λc env nt f df k σ K ρ w a Q dr rd hW hS hG hE hD h hQ hC=>(ac h).elim,λc env nt f df k σ K ρ w a Q dr rd hW hS hG hE hD h hQ hC=>(ac h).elim⟩
 |succ n ih=>exact⟨uj hM ih.1 ih.2,lH ih.1 ih.2⟩
def iZ{H:T ABlk}{next:Nat}(h1:1<=next)(h2:next<=1000000001):SI (start H next):=
 ⟨h1,h2,aan _,by simp,λy hy=>by simp [T.get] at hy⟩
def Ew{P:Program}{M:Tab}(hM:TabOk P M){fuel f next:Nat}{H:T ABlk}{avs:List AV}{K:Fin}{ρ:Rho}{w:World}{vs:List Value}{R:Ending->World->Prop}(h:run (iR P (oV P M fuel) f avs .ret) (start H next) K=true)(h1:1<=next)(h2:next<=1000000001)(hG:Good w ρ H w)(d6:∀x,¬ρ.own x)(hl:LR ρ avs vs)(hR:∀av v a8 ρ' w',K av a8=true->Below w.heap.size w w'->VR ρ' av v->R (.returned v) w'):Calls P f vs.toArray w R:=
 callsIn_wide.1 ((fk (lI P hM w fuel).1 f avs vs .ret (start H next) K ρ w R (iZ h1 h2) hG hl h λav v a8 ρ' w' q1 q2 q3 q4 q5=>hR av v a8 ρ' w' q1 (q3.below.below λx=>by rw[q4.own];exact d6 x) q5).2)
def dv(P:Program):TabOk P (Tab.of []):=HB λm h=>by cases h
def HC:∀(f:Nat) (x y:AV),bj f x y=true->∀(ρ ρ':Rho) (v:Value),VR ρ x v->VR ρ' y v:=by
 intro f
 induction f with
 |zero=>intro x y h;simp [bj] at h
 |succ f ih=>
  intro x y h ρ ρ' v hv;unfold bj at h;split at h
  ·cases hv;have e:=of_decide_eq_true (show decide (_=_)=true by simpa using h);rw[e];exact .bool _
  ·rename_i j a j' b;cases hv;obtain⟨h1,h2⟩:=az h;have h1:=of_decide_eq_true h1;have h2:a=b:=by simpa using h2
   subst h1;subst h2;exact .int _ _
  ·cases hv;have e:=(oa _ _).1 h;rw[←e];exact .str _
  ·rename_i a b
   cases hv with
   |agg _ cs h1 h2=>
    have key:∀(a b:List AV) (vs:List Value),bj.sameAll (bj f) a b=true->LR ρ a vs->LR ρ' b vs:=by
     intro a
     induction a with
     |nil=>
      intro b vs h hl
      cases b with
      |nil=>rw[hl.nil_inv];exact LR.nil _
      |cons _ _=>simp [bj.sameAll] at h
     |cons x a iha=>
      intro b vs h hl
      cases b with
      |nil=>simp [bj.sameAll] at h
      |cons y b=>obtain⟨u,o7,rfl,hu,m7⟩:=hl.cons_inv;have h:aa (bj f x y) (bj.sameAll (bj f) a b) false=true:=h;obtain⟨g1,g2⟩:=az h;exact LR.cons (ih x y g1 ρ ρ' u hu) (iha b o7 g2 m7)
    obtain⟨q1,q2⟩:=(key a b cs.toList h (LR.of_arr h1 h2)).arr;exact .agg _ _ q1 q2
  ·cases h
def xb{k:T Cell->Bool}:∀(l:List Nat) (i:Nat) (t:T Cell),tQ l i t k=true->
 ∃c,k c=true/\∀o x,c.get o=some x->(∃(j n:Nat),o=i+j/\l[j]? =some n/\x= .mk 0 (.int .u8 (n:Nat)))∨(t.get o=some x/\(o<i∨i+l.length<=o)):=by
 intro l
 induction l with
 |nil=>intro i t h;exact⟨t,h,λo x hx=>.inr ⟨hx,by simp;omega⟩⟩
 |cons a l ih=>
  intro i t h
  have h:T.setK t i (.mk 0 (.int .u8 (.ofNat a))) (λt=>fN (Nat.succ i) λi=>tQ l i t k)=true:=h
  rw[T.setK_eq,eG] at h
  obtain⟨c,h1,h2⟩:=ih _ _ h
  refine⟨c,h1,λo x hx=>?_⟩
  rcases h2 o x hx with⟨j,n,e,hb,w6⟩|⟨w6,ho⟩
  ·exact .inl ⟨j+1,n,by omega,by simpa using hb,w6⟩
  ·by_cases e:o=i
   ·subst e;have:=T.get_set_some _ _ w6;exact .inl ⟨0,a,by omega,rfl,this⟩
   ·rw[T.get_set_ne _ e] at w6;exact .inr ⟨w6,by simp at ho⊢;omega⟩
def bq{P:Program}{M:Tab}(hM:TabOk P M){fuel f ty:Nat}{arg:List Nat}{res:AV}(h:aW P M fuel f ty arg res=true)(j0:arg≠ []:=by decide):ga P (.mk f (some ty) arg res):=by
 suffices hB:Hx P f ty arg res by
  cases arg with
  |nil=>exact absurd rfl j0
  |cons _ _=>exact hB
 intro blk arr fr c w hw ai1 Wz hc
 obtain⟨t,h,ht⟩:=xb (k:=λt=>fN (List.length arg) λn=>T.singK 64 1048576 (ABlk.cells t 0 0 n 0 0 true ty) λH=>
  run (iR P (oV P M fuel) f [.slc 1048576 0 0 n none 1] .ret) (start H 1048577) λv _=>bj 8 v res) arg 0 .leaf h
 rw[eG,T.singK_eq] at h
 have i3:∀b x,(T.sing 64 1048576 (ABlk.cells t 0 0 arg.length 0 0 true ty)).get b=some x->b=1048576/\x= .cells t 0 0 arg.length 0 0 true ty:=λb x hx=>by
  rw[T.get_sing _ _ _ _ (by decide)] at hx;split at hx
  ·rename_i e;injection hx with hx;exact⟨e,hx.symm⟩
  ·cases hx
 have W4:blk<w.heap.size:=by
  rcases aaf blk w.heap.size with h'|h'
  ·exact h'
  ·rw[aaN h'] at hw;cases hw
 let ρ:Rho:=⟨λb g=>if b=1048576/\g=0 then some ⟨blk,0,arr.size⟩ else none,λ_=>undef,λ_=>False,λ_=>none,λ_=>none⟩
 have j5:∀b g h,ρ.at_ b g=some h->b=1048576/\g=0/\h=⟨blk,0,arr.size⟩:=λb g h hh=>by
  have hh:(if b=1048576/\g=0 then some (⟨blk,0,arr.size⟩:Home) else none)=some h:=hh;split at hh
  ·rename_i e;injection hh with hh;exact⟨e.1,e.2,hh.symm⟩
  ·cases hh
 have W5:ρ.at_ 1048576 0=some ⟨blk,0,arr.size⟩:=by show(if(1048576:Nat)=1048576/\(0:Nat)=0 then some (⟨blk,0,arr.size⟩:Home) else none)=some ⟨blk,0,arr.size⟩;rw[if_pos ⟨rfl,rfl⟩]
 have hG:Good w ρ (T.sing 64 1048576 (ABlk.cells t 0 0 arg.length 0 0 true ty)) w:=by
  refine⟨⟨Kept.refl _ _ _,λb x hx=>?_,λb g h hh=>?_,λb g h b' g' h' hh g7 _=>?_,λb g h x hh hx=>?_,(λb arr ty hh=>by cases hh),(λb x hh=>by cases hh),(λb k I l hx=>by obtain⟨_,e⟩:=i3 b _ hx;cases e)⟩,λx h=>h.elim⟩
  ·obtain⟨e1,e2⟩:=i3 b x hx;subst e1;subst e2;refine⟨λo x hx=>?_,λg hg=>?_⟩
   ·rcases ht o x hx with⟨j,n,e,hj,ex⟩|⟨w6,_⟩
    ·have:j<arg.length:=by
      rcases aaf j arg.length with h'|h'
      ·exact h'
      ·rw[aak h'] at hj;cases hj
     subst ex;exact⟨by omega,by omega,aab _⟩
    ·simp [T.get] at w6
   ·have:g=0:=by omega
    subst this;refine⟨_,W5,(λh=>by cases h),(λ_ h=>absurd h (by decide)),arr,fr,hw,rfl,(λh=>by cases h),λo tag a YZ _=>?_⟩;rcases ht o _ YZ with⟨j,n,e,hj,ex⟩|⟨w6,_⟩
    ·injection ex with e1 e2;subst e2;refine⟨aan _,_,ai1 j n hj |> λh=>?_,.int _ _⟩;rw[show o-0=j by omega];exact h
    ·simp [T.get] at w6
  ·obtain⟨e1,e2,e3⟩:=j5 b g h hh;subst e3;subst e1;exact⟨W4,_,by rw[T.get_sing _ _ _ _ (by decide),if_pos rfl]⟩
  ·obtain⟨e1,e2,e3⟩:=j5 b g h hh;obtain⟨f1,f2,f3⟩:=j5 b' g' h' g7;exact⟨by rw[e1,f1],by rw[e3,f3]⟩
  ·obtain⟨e1,e2,e3⟩:=j5 b g h hh;obtain⟨_,f2⟩:=i3 b x hx;subst f2;show g<=0;omega
 exact Ew (avs:=[.slc 1048576 0 0 arg.length none 1]) (vs:=[.slice (some ⟨blk,0,none⟩) arg.length c]) hM h (by decide) (by decide) hG (λ_ h=>h)
  (LR.cons (.slc _ _ _ _ _ _ _ _ ⟨Wz,.inr ⟨_,W5,aab _,by simp,by simpa using hc⟩⟩) (LR.nil _)) λav v a8 ρ' w' q1 q3 q5=>
  ⟨v,rfl,λρ2=>HC 8 av res q1 ρ' ρ2 v q5,q3⟩
end Go.Sym
namespace Go.Sym
open Go.RowKit (Below)
def EvTo(r:Fin->Bool)(Φ:AV->St->Prop):Prop:=∃a σ,(∀K,r K=K a σ)/\Φ a σ
def Wc(p:Prop):Prop:=p
end Go.Sym
namespace Go.Sym
noncomputable section
inductive Hn where
 |nil
 |both (a b:Hn)
 |yes (a:Hn)
 |no (a:Hn)
inductive Fm where
 |tt
 |ff
 |at(p:Prop)
 |an (p:Prop) (f:Fm)
 |two (p:Prop) (f g:Fm)
 |al (p:Sy->Prop) (f:Sy->Fm)
def Fm.den:Fm->Prop
 | .tt=>True
 | .ff=>False
 | .at p=>p
 | .an p f=>p/\(p->f.den)
 | .two p f g=>(p->f.den)/\(¬p->g.den)
 | .al p f=>∀y,p y->(f y).den
abbrev Lf:=AV->St->Hn->Fm
def kj(fs b:Nat)(t:T Unit)(k:T Unit->Fm):Fm:=aa (Nat.ble fs b) (k t) (T.setK t b () k)
def kL(fs b:Nat)(w:List Nat)(k:List Nat->Fm):Fm:=aa (Nat.ble fs b) (k w) (k (b::w))
def i_(fs:Nat):List Nat->T Unit->(T Unit->Fm)->Fm:=λl=>
 List.rec (motive:=λ_=>T Unit->(T Unit->Fm)->Fm) (λt k=>k t) (λb _ ih t k=>kj fs b t λt=>ih t k) l
def gA(fs:Nat):List Nat->List Nat->(List Nat->Fm)->Fm:=λl=>
 List.rec (motive:=λ_=>List Nat->(List Nat->Fm)->Fm) (λt k=>k t) (λb _ ih t k=>kL fs b t λt=>ih t k) l
def ja(fs b:Nat)(t:T Unit)(k:T Unit->Fm):kj fs b t k=k (note fs b t):=by
 unfold kj note;rw[ak,T.setK_eq];by_cases h:fs<=b
 ·simp [aa9,h]
 ·have:Nat.ble fs b=false:=by
   cases hb:Nat.ble fs b with
   |false=>rfl
   |true=>exact absurd (Nat.ble_eq.mp hb) h
  simp [this,h]
def mO(fs b:Nat)(w:List Nat)(k:List Nat->Fm):kL fs b w k=k (fB fs b w):=by
 unfold kL fB;rw[ak];by_cases h:fs<=b
 ·simp [aa9,h]
 ·have:Nat.ble fs b=false:=by
   cases hb:Nat.ble fs b with
   |false=>rfl
   |true=>exact absurd (Nat.ble_eq.mp hb) h
  simp [this,h]
def nA(fs:Nat):∀(l:List Nat) (t:T Unit) (k:T Unit->Fm),i_ fs l t k=k (eL fs l t):=by
 intro l
 induction l with
 |nil=>intro t k;rfl
 |cons b l ih=>intro t k;show kj fs b t (λt=>i_ fs l t k)=_;rw[ja,ih];rfl
def lJ(fs:Nat):∀(l:List Nat) (t:List Nat) (k:List Nat->Fm),gA fs l t k=k (dL fs l t):=by
 intro l
 induction l with
 |nil=>intro t k;rfl
 |cons b l ih=>intro t k;show kL fs b t (λt=>gA fs l t k)=_;rw[mO,ih];rfl
def Oe(_:St)(_:Lf)(_:Hn):Fm:=.ff
def Sp(a:AV)(σ:St)(K:Lf)(h:Hn):Fm:=K a σ h
def VG(b:Nat)(_:ABlk->Tr)(ih:ABlk->St->Lf->Hn->Fm)(σ:St)(K:Lf)(hn:Hn):Fm:=
 St.rec (motive:=λ_=>Fm) (λh n fs t w=>aa (Nat.ble (Nat.succ b) n) (T.getK h b .ff λx=>kj fs b t λt=>ih x (.mk h n fs t w) K hn) .ff) σ
def VH(b:Nat)(x:ABlk)(_:Tr)(ih:St->Lf->Hn->Fm)(σ:St)(K:Lf)(hn:Hn):Fm:=
 St.rec (motive:=λ_=>Fm) (λh n fs t w=>aa (Nat.ble (Nat.succ b) n) (T.getK h b .ff λ_=>T.setK h b x λh=>kj fs b t λt=>kL fs b w λw=>ih (.mk h n fs t w) K hn) .ff) σ
def Sq(x:ABlk)(_:Nat->Tr)(ih:Nat->St->Lf->Hn->Fm)(σ:St)(K:Lf)(hn:Hn):Fm:=
 St.rec (motive:=λ_=>Fm) (λh n fs t w=>aa (Nat.ble n 1000000000) (T.getK h n (T.setK h n x λh=>fN (Nat.succ n) λm=>ih n (.mk h m fs t w) K hn) λ_=>.ff) .ff) σ
def Ss(n:Nat)(_:Nat->Tr)(ih:Nat->St->Lf->Hn->Fm)(σ:St)(K:Lf)(hn:Hn):Fm:=aa (Nat.ble n 1) (ih 0 σ K hn) .ff
def Su(_:Tr)(_:AV->Nat->Nat->T Unit->List Nat->Tr)(it:St->Lf->Hn->Fm)(ik:AV->Nat->Nat->T Unit->List Nat->St->Lf->Hn->Fm)(σ:St)(K:Lf)(hn:Hn):Fm:=
 St.rec (motive:=λ_=>Fm) (λh n fs t w=>it (.mk h n n .leaf []) (λa a8 hn=>
  St.rec (motive:=λ_=>Fm) (λh' n' _ t' w'=>aa (Nat.beq fs 0) (ik a n n' t' w' (.mk h' n' fs t w) K hn)
   (i_ fs (T.keys t' id []) t λt2=>gA fs w' w λw2=>ik a n n' t' w' (.mk h' n' fs t2 w2) K hn)) a8) hn) σ
def Ex(p:Prop)(_ _:Tr)(it ie:St->Lf->Hn->Fm)(σ:St)(K:Lf)(hn:Hn):Fm:=
 Hn.rec (motive:=λ_=>Fm) (.two p (it σ K .nil) (ie σ K .nil)) (λa b _ _=>.two p (it σ K a) (ie σ K b)) (λa _=>.an p (it σ K a)) (λa _=>.an (¬p) (ie σ K a)) hn
def Sv(p:Prop)(_:Tr)(it:St->Lf->Hn->Fm)(σ:St)(K:Lf)(hn:Hn):Fm:=.an p (it σ K hn)
def VI(p:Sy->Prop)(_:{y:Sy // p y})(_:Sy->Tr)(ik:Sy->St->Lf->Hn->Fm)(σ:St)(K:Lf)(hn:Hn):Fm:=.al p λy=>ik y σ K hn
def Ah(t:Tr):St->Lf->Hn->Fm:=Tr.rec (motive:=λ_=>St->Lf->Hn->Fm) Oe Sp VG VH Sq Ss Su Ex Sv VI t
def EvTo.congr{r r':Fin->Bool}{Φ:AV->St->Prop}(h:∀K,r K=r' K)(he:EvTo r' Φ):EvTo r Φ:=by obtain⟨a,σ,e,q⟩:=he;exact⟨a,σ,λK=>(h K).trans (e K),q⟩
def HD:∀(t:Tr) (σ:St) (K:Lf) (hn:Hn),(Ah t σ K hn).den->EvTo (run t σ) λa a8=>∃Xc,(K a a8 Xc).den:=by
 intro t
 induction t with
 |fail=>intro σ K hn h;exact h.elim
 |ret a=>intro σ K hn h;exact⟨a,σ,λ_=>rfl,hn,h⟩
 |rd b k ih=>
  intro σ K hn h
  cases σ with
  |mk H n fs t w=>
   have h:(aa (Nat.ble (Nat.succ b) n) (T.getK H b Fm.ff λx=>kj fs b t λt=>Ah (k x) (.mk H n fs t w) K hn) .ff).den:=h;rw[ak] at h;split at h
   ·rename_i hb;have hb:=aau hb;rw[T.getK_eq] at h;split at h
    ·exact h.elim
    ·rename_i x hx;rw[ja] at h;refine(ih x _ K hn h).congr λK=>?_;rw[fY,if_pos (show b<n from hb),hx]
   ·exact h.elim
 |wr b x k ih=>
  intro σ K hn h
  cases σ with
  |mk H n fs t w=>
   have h:(aa (Nat.ble (Nat.succ b) n) (T.getK H b Fm.ff λ_=>T.setK H b x λH=>kj fs b t λt=>kL fs b w λw=>Ah k (.mk H n fs t w) K hn) .ff).den:=h;rw[ak] at h;split at h
   ·rename_i hb;have hb:=aau hb;rw[T.getK_eq] at h;split at h
    ·exact h.elim
    ·rename_i y hy;rw[T.setK_eq,ja,mO] at h;refine(ih _ K hn h).congr λK=>?_;rw[iF,if_pos (show b<n from hb),hy]
   ·exact h.elim
 |new x k ih=>
  intro σ K hn h
  cases σ with
  |mk H n fs t w=>
   have h:(aa (Nat.ble n 1000000000) (T.getK H n (T.setK H n x λH=>fN (Nat.succ n) λm=>Ah (k n) (.mk H m fs t w) K hn) λ_=>Fm.ff) .ff).den:=h;rw[ak] at h;split at h
   ·rename_i hb;have hb:=aau hb;rw[T.getK_eq] at h;split at h
    ·rename_i hx;rw[T.setK_eq,eG] at h;refine(ih n _ K hn h).congr λK=>?_;rw[fC,if_pos hb,hx]
    ·exact h.elim
   ·exact h.elim
 |pick n k ih=>
  intro σ K hn h;have h:(aa (Nat.ble n 1) (Ah (k 0) σ K hn) .ff).den:=h;rw[ak] at h;split at h
  ·rename_i hb;refine(ih 0 σ K hn h).congr λK=>?_;show aa (Nat.ble n 1) (run (k 0) σ K) _=_;rw[ak,if_pos hb]
  ·exact h.elim
 |sub t k iht ihk=>
  intro σ K hn h
  cases σ with
  |mk H n fs tc w=>
   obtain⟨a,a8,e,Xc,h2⟩:=iht _ _ _ h
   cases a8 with
   |mk h' n' f' t' w'=>
    have h2:(aa (Nat.beq fs 0) (Ah (k a n n' t' w') (.mk h' n' fs tc w) K Xc)
     (i_ fs (T.keys t' id []) tc λt2=>gA fs w' w λw2=>Ah (k a n n' t' w') (.mk h' n' fs t2 w2) K Xc)).den:=h2
    rw[ak,nA,lJ] at h2;by_cases hf:fs=0
    ·subst hf;rw[if_pos (show Nat.beq 0 0=true from rfl)] at h2;refine(ihk a n n' t' w' _ K Xc h2).congr λK=>?_;rw[fD,e];simp
    ·have:¬Nat.beq fs 0=true:=λhb=>hf (aae hb);rw[if_neg this] at h2;refine(ihk a n n' t' w' _ K Xc h2).congr λK=>?_;rw[fD,e];simp [hf]
 |ask p t e iht ihe=>
  intro σ K hn h
  have both:∀a b,(Fm.two p (Ah t σ K a) (Ah e σ K b)).den->EvTo (run (.ask p t e) σ) λa a8=>∃Xc,(K a a8 Xc).den:=λa b h=>by
   by_cases hp:p
   ·exact(iht σ K a (h.1 hp)).congr λK=>dM _ _ _ _ hp
   ·exact(ihe σ K b (h.2 hp)).congr λK=>dN _ _ _ _ hp
  cases hn with
  |nil=>exact both _ _ h
  |both a b=>exact both _ _ h
  |yes a=>have h:(Fm.an p (Ah t σ K a)).den:=h;exact(iht σ K a (h.2 h.1)).congr λK=>dM _ _ _ _ h.1
  |no a=>have h:(Fm.an (¬p) (Ah e σ K a)).den:=h;exact(ihe σ K a (h.2 h.1)).congr λK=>dN _ _ _ _ h.1
 |req p t ih=>intro σ K hn h;have h:(Fm.an p (Ah t σ K hn)).den:=h;exact(ih σ K hn (h.2 h.1)).congr λK=>dO _ _ _ h.1
 |sk p z k ih=>intro σ K hn h;have h:(Fm.al p λy=>Ah (k y) σ K hn).den:=h;exact ih z.1 σ K hn (h z.1 z.2)
end
end Go.Sym
namespace Go.Sym
noncomputable section
inductive Tm where
 |i (n:Int)
 |s (l:List Nat)
 |p (q:Prop)
 |g (l:List G)
inductive Sh where
 |i (k:IntKind) (t:Nat)
 |b (t:Nat)
 |s (t:Nat)
 |o
 |v (m t:Nat)
 |vb (t:Nat)
 |pi (k:IntKind) (n:Int)
 |pb (q:Prop)
 |ps (l:List Nat)
 |pv (m:Nat) (l:List G)
 |pvb (l:List Nat)
 |np
 |p (j:Nat)
 |m (j:Nat)
 |g (j es t:Nat)
 |gb (j t:Nat)
 |fn (f j:Nat)
 |li (k:IntKind) (n:Int)
 |nz
inductive Sa where
 |c (x:Sh)
 |ag (l:List Sh)
 |cp (l:List Sh)
inductive Sr where
 |one (a:Sa)
 |tu (l:List Sa)
inductive BSh where
 |cells (ty:Nat) (l:List Sh)
 |grow (m ty t:Nat)
 |growb (ty t:Nat)
 |sm (m t:Nat)
 |arr (m ty t:Nat)
 |arb (ty t:Nat)
 |obj (k:Nat) (C:List G->Nat->List Nat->World->Prop) (t:Nat)
abbrev jO:=Nat->Nat×Nat
def put(γ:jO)(y:Sy)(x:Sh):AV:=match x with
 | .i k t=>.sI k (y.i t)
 | .b t=>.sB (y.p t)
 | .s t=>.sS (y.s t)
 | .o=>.any1
 | .v m t=>.cv (.rows m (y.g t))
 | .vb t=>.cv (.bytes (y.s t))
 | .pi k n=>.sI k n
 | .pb q=>.sB q
 | .ps l=>.sS l
 | .pv m l=>.cv (.rows m l)
 | .pvb l=>.cv (.bytes l)
 | .np=>.nilp
 | .p j=>.ptr (γ j).1 0 0
 | .m j=>.map (γ j).1
 | .g j es t=>.gsl (γ j).1 (γ j).2 (y.g t).length es
 | .gb j t=>.gsl (γ j).1 (γ j).2 (y.s t).length 1
 | .fn f j=>.func (.func f) [] [.ptr (γ j).1 0 0]
 | .li k n=>.int k n
 | .nz=>.nils
def jP(γ:jO)(y:Sy)(l:List Sh):List AV:=List.rec (motive:=λ_=>List AV) [] (λx _ ih=>put γ y x::ih) l
def jb(γ:jO)(y:Sy)(a:Sa):AV:=match a with
 | .c x=>put γ y x
 | .ag l=>.agg (jP γ y l)
 | .cp l=>.cptr (jP γ y l)
def jd(γ:jO)(y:Sy)(l:List Sa):List AV:=List.rec (motive:=λ_=>List AV) [] (λx _ ih=>jb γ y x::ih) l
def Ai(γ:jO)(y:Sy)(r:Sr):AV:=match r with
 | .one a=>jb γ y a
 | .tu l=>.tup (jd γ y l)
def HE:List AV->Nat->T Cell->T Cell
 | [],_,t=>t
 |a::l,i,t=>HE l (i+1) (t.set i (.mk 0 a))
def kM(γ:jO)(y:Sy)(j:Nat)(b:BSh):ABlk:=match b with
 | .cells ty l=>.cells (HE (jP γ y l) 0 .leaf) 0 0 (List.length l) 0 0 false ty
 | .grow m ty t=>.grow (.rows m (y.g t)) (γ j).2 ty
 | .growb ty t=>.grow (.bytes (y.s t)) (γ j).2 ty
 | .sm m t=>.smap m (y.g t)
 | .arr m ty t=>.grow (.rows m (y.g t)) 0 ty
 | .arb ty t=>.grow (.bytes (y.s t)) 0 ty
 | .obj k C t=>.obj k (C (y.g t)) (y.g t)
def fm(γ:jO)(y:Sy):List BSh->Nat->T ABlk->T ABlk
 | [],_,H=>H
 |b::l,j,H=>fm γ y l (j+1) (H.set (γ j).1 (kM γ y j b))
def bw:jO:=λj=>(base+j,0)
structure PS where
 tm:List (Nat×Tm)
 loc:List (Nat×Nat×Nat)
 ln:List (Nat×Nat×Nat)
 pr:Prop
 fz:List Nat
def q_:PS:=⟨[],[],[],True,[]⟩
def bm{α:Type}(n:Nat)(l:List (Nat×α)):Option α:=List.rec (motive:=λ_=>Option α) none (λx _ ih=>aa (Nat.beq x.1 n) (some x.2) ih) l
def Uw(l:List (Nat×Tm))(n:Nat):Int:=match bm n l with|some (.i x)=>x|_=>0
def Ey(l:List (Nat×Tm))(n:Nat):List Nat:=match bm n l with|some (.s x)=>x|_=>[]
def Ux(l:List (Nat×Tm))(n:Nat):Prop:=match bm n l with|some (.p x)=>x|_=>False
def Aj(l:List (Nat×Tm))(n:Nat):List G:=match bm n l with|some (.g x)=>x|_=>[]
def aK(l:List (Nat×Tm)):Sy:=⟨Uw l,Ey l,Ux l,Aj l⟩
def PS.and(s:PS)(p:Prop):PS:=match s with|⟨tm,loc,ln,pr,fz⟩=>⟨tm,loc,ln,p/\pr,fz⟩
def PS.fzn(s:PS)(b:Nat):PS:=match s with|⟨tm,loc,ln,pr,fz⟩=>⟨tm,loc,ln,pr,b::fz⟩
def PS.name(s:PS)(x:Nat×Nat×Nat):PS:=match s with|⟨tm,loc,ln,pr,fz⟩=>⟨tm,x::loc,ln,pr,fz⟩
def PS.add(s:PS)(t:Nat)(x:Tm):Option PS:=match s with
 |⟨tm,loc,ln,pr,fz⟩=>(match bm t tm with
  |none=>some ⟨(t,x)::tm,loc,ln,pr,fz⟩
  |some _=>none)
def PS.must(s:PS)(p:Prop):Option PS:=some (s.and p)
def PS.at_(s:PS)(j b g:Nat):Option PS:=match s with
 |⟨tm,loc,ln,pr,fz⟩=>(match bm j loc with
  |none=>aa (iL b loc) (some ⟨tm,(j,b,g)::loc,ln,pr,fz⟩) none
  |some (b',g')=>aa (Nat.beq b b') (aa (Nat.beq g g') (some ⟨tm,loc,ln,pr,fz⟩) none) none)
def PS.len_(s:PS)(j tag n:Nat):Option PS:=match s with|⟨tm,loc,ln,pr,fz⟩=>some ⟨tm,loc,(j,tag,n)::ln,pr,fz⟩
def BV(F:T ABlk)(m:Nat)(a:AV)(s:PS)(k:List G->PS->Option PS):Option PS:=match a with
 | .nils=>k [] s
 | .cv (.rows m' l)=>aa (Nat.beq m m') (k l s) none
 | .gsl b g n es=>T.getK F b none λx=>(match x with
  | .grow (.rows m' l) gen _=>aa (Nat.ble (base+64) b) (aa (Nat.beq m m') (aa (Nat.beq g gen) (k l ((s.fzn b).and (l.length=n))) none) none) none
  | .froz (.rows m' l) gen=>aa (Nat.ble (base+64) b) (aa (Nat.beq m m') (aa (Nat.beq g gen) (aa (Nat.beq es (aS (bO m))) (k l ((s.fzn b).and (l.length=n))) none) none) none) none
  |_=>none)
 | .slc b g o len _ es=>T.getK F b none λx=>(match x with
  | .cells c gen _ _ _ _ ro _=>aa (Nat.ble (base+64) b) (aa ro none (aa (Nat.ble g gen) (aa (Nat.ble 1 len) (aa (Nat.beq es (aS (bO m))) (aa (Nat.ble 1 es) (bi (KZ c g (len * es) o) λl=>bi (cW (bO m) len l) λq=>(match q with
   |(gs,[])=>k gs (s.fzn b)
   |_=>none)) none) none) none) none)) none
  |_=>none)
 |_=>none
def uk(F:T ABlk)(a:AV)(s:PS)(k:List Nat->PS->Option PS):Option PS:=match a with
 | .nils=>k [] s
 | .cv (.bytes l)=>k l s
 | .gsl b g n es=>T.getK F b none λx=>(match x with
  | .grow (.bytes l) gen _=>aa (Nat.ble (base+64) b) (aa (Nat.beq g gen) (k l ((s.fzn b).and (l.length=n))) none) none
  | .froz (.bytes l) gen=>aa (Nat.ble (base+64) b) (aa (Nat.beq g gen) (aa (Nat.beq es 1) (k l ((s.fzn b).and (l.length=n))) none) none) none
  |_=>none)
 | .slc b g o len _ es=>T.getK F b none λx=>(match x with
  | .cells c gen _ _ _ _ ro _=>aa (Nat.ble (base+64) b) (aa ro none (aa (Nat.ble g gen) (aa (Nat.ble 1 len) (aa (Nat.beq es 1) (bi (KZ c g len o) λl=>bi (eZ l) λns=>k (aN ns) ((s.fzn b).and (bA ns))) none) none) none)) none
  |_=>none)
 |_=>none
def ia(blk:List BSh)(j:Nat):Bool:=match blk[j]? with|some (.cells _ _)=>true|some (.obj _ _ _)=>true|some (.arr _ _ _)=>true|some (.arb _ _)=>true|_=>false
def ul(blk:List BSh)(j:Nat):Bool:=match blk[j]? with|some (.sm _ _)=>true|_=>false
def si(F:T ABlk)(blk:List BSh)(x:Sh)(a:AV)(s:PS):Option PS:=match x with
 | .i k t=>(match bD a with|some (k',n)=>aa (decide (k=k')) (s.add t (.i n)) none|none=>none)
 | .b t=>(match cS a with|some q=>s.add t (.p q)|none=>none)
 | .s t=>(match eY a with|some l=>s.add t (.s l)|none=>none)
 | .o=>aa (eK a) (some s) none
 | .v m t=>BV F m a s λl s=>s.add t (.g l)
 | .vb t=>uk F a s λl s=>s.add t (.s l)
 | .pi k n=>(match bD a with|some (k',n')=>aa (decide (k=k')) (s.must (n'=n)) none|none=>none)
 | .pb q=>(match cS a with|some q'=>s.must (q'↔q)|none=>none)
 | .ps l=>(match eY a with|some l'=>s.must (l'=l)|none=>none)
 | .pv m l=>BV F m a s λl' s=>s.must (l'=l)
 | .pvb l=>uk F a s λl' s=>s.must (l'=l)
 | .np=>(match a with | .nilp=>some s|_=>none)
 | .p j=>(match a with | .ptr b g o=>aa (Nat.beq g 0) (aa (Nat.beq o 0) (aa (ia blk j) (s.at_ j b 0) none) none) none|_=>none)
 | .m j=>(match a with | .map b=>aa (ul blk j) (s.at_ j b 0) none|_=>none)
 | .g j es t=>(match a with | .gsl b g n o4=>aa (Nat.beq es o4) (bi (s.at_ j b g) λs=>s.len_ j (2 * t) n) none|_=>none)
 | .gb j t=>(match a with | .gsl b g n o4=>aa (Nat.beq 1 o4) (bi (s.at_ j b g) λs=>s.len_ j (2 * t+1) n) none|_=>none)
 | .fn f j=>(match a with | .func (.func f') [] [.ptr b g o]=>aa (Nat.beq f f') (aa (Nat.beq g 0) (aa (Nat.beq o 0) (aa (ia blk j) (s.at_ j b 0) none) none) none) none|_=>none)
 | .li k n=>(match a with | .int k' n'=>aa (decide (k=k')) (aa (decide (n=n')) (some s) none) none|_=>none)
 | .nz=>(match a with | .nils=>some s|_=>none)
def lK(F:T ABlk)(blk:List BSh)(l:List Sh)(as:List AV)(s:PS):Option PS:=
 List.rec (motive:=λ_=>List AV->PS->Option PS) (λas s=>match as with | []=>some s|_=>none) (λx _ ih as s=>match as with
  |a::as=>bi (si F blk x a s) λs=>ih as s
  | []=>none) l as s
def pD(F:T ABlk)(blk:List BSh)(x:Sa)(a:AV)(s:PS):Option PS:=match x with
 | .c x=>si F blk x a s
 | .ag l=>(match a with | .agg as=>lK F blk l as s|_=>none)
 | .cp l=>(match a with | .cptr as=>lK F blk l as s|_=>none)
def gc(F:T ABlk)(blk:List BSh)(l:List Sa)(as:List AV)(s:PS):Option PS:=
 List.rec (motive:=λ_=>List AV->PS->Option PS) (λas s=>match as with | []=>some s|_=>none) (λx _ ih as s=>match as with
  |a::as=>bi (pD F blk x a s) λs=>ih as s
  | []=>none) l as s
def HF(F:T ABlk)(blk:List BSh)(r:Sr)(a:AV)(s:PS):Option PS:=match r with
 | .one x=>pD F blk x a s
 | .tu l=>(match a with | .tup as=>gc F blk l as s|_=>none)
def lL(ty n:Nat)(q:ABlk)(g:Nat):Option (List AV):=match q with
 | .cells c gen lo hi fl fh ro Ww=>aa ro none (aa (Nat.beq gen 0) (aa (Nat.beq lo 0) (aa (Nat.beq hi n) (aa (Nat.beq fl 0) (aa (Nat.beq fh 0) (aa (Nat.beq Ww ty) (aa (Nat.beq g 0) (KZ c 0 n 0) none) none) none) none) none) none) none)
 |_=>none
def fo(x:BSh)(q:ABlk)(g:Nat)(s:PS):Option PS:=match x with
 | .grow m ty t=>(match q with
  | .grow (.rows m' l) gen Ww=>aa (Nat.beq m m') (aa (Nat.beq g gen) (aa (Nat.beq ty Ww) (s.add t (.g l)) none) none) none
  |_=>none)
 | .growb ty t=>(match q with
  | .grow (.bytes l) gen Ww=>aa (Nat.beq g gen) (aa (Nat.beq ty Ww) (s.add t (.s l)) none) none
  |_=>none)
 | .sm m t=>(match q with
  | .smap m' l=>aa (Nat.beq m m') (aa (Nat.beq g 0) (s.add t (.g l)) none) none
  | .mapo [] _=>aa (Nat.beq g 0) (s.add t (.g [])) none
  |_=>none)
 | .arb ty t=>(match q with
  | .grow (.bytes l) gen Ww=>aa (Nat.beq gen 0) (aa (Nat.beq g 0) (aa (Nat.beq ty Ww) (bi (s.must (0<l.length)) λs=>s.add t (.s l)) none) none) none
  |_=>none)
 | .arr m ty t=>(match q with
  | .grow (.rows m' l) gen Ww=>aa (Nat.beq m m') (aa (Nat.beq gen 0) (aa (Nat.beq g 0) (aa (Nat.beq ty Ww) (bi (s.must (0<l.length)) λs=>s.add t (.g l)) none) none) none) none
  |_=>none)
 | .obj k C t=>(match q with
  | .obj k' I l=>aa (Nat.beq k k') (aa (Nat.beq g 0) (bi (s.must (I=C l)) λs=>s.add t (.g l)) none) none
  |_=>none)
 | .cells _ _=>none
def mP(F:T ABlk)(blk:List BSh)(x:BSh)(q:ABlk)(g:Nat)(s:PS):Option PS:=match x with
 | .cells ty l=>bi (lL ty (List.length l) q g) λas=>lK F blk l as s
 |x=>fo x q g s
def kn(blk:List BSh)(l:List (Nat×Nat×Nat))(s:PS):Option PS:=
 List.rec (motive:=λ_=>PS->Option PS) (λs=>some s) (λ(x:Nat×Nat×Nat) _ ih s=>match blk[x.1]? with
  |some (.grow _ _ t)=>aa (Nat.beq x.2.1 (2 * t)) (bi (s.must ((Aj s.tm t).length=x.2.2)) ih) none
  |some (.growb _ t)=>aa (Nat.beq x.2.1 (2 * t+1)) (bi (s.must ((Ey s.tm t).length=x.2.2)) ih) none
  |_=>none) l s
structure FSpec where
 args:List Sa
 blk:List BSh
 pre:Sy->Prop
 res:Sy->Sr
 out:Sy->List BSh
 post:Sy->Sy->Prop
 gl:List (Nat×Nat×List Nat):=[]
def gB(x:BSh):Bool:=match x with | .grow _ _ _=>false | .growb _ _=>false|_=>true
def rp(q:ABlk):Nat:=match q with | .cells _ g _ _ _ _ _ _=>g | .grow _ g _=>g | .froz _ g=>g|_=>0
def Ez(H:T ABlk)(blk:List BSh)(l:List BSh)(j:Nat)(s:PS):Option PS:=
 List.rec (motive:=λ_=>Nat->PS->Option PS) (λ_ s=>some s) (λx _ ih j s=>match bm j s.loc with
  |some bg=>T.getK H bg.1 none λq=>bi (mP H blk x q bg.2 s) λs=>ih (Nat.succ j) s
  |none=>T.getK H (base+j) none λq=>bi (mP H blk x q (rp q) (s.name (j,base+j,rp q))) λs=>ih (Nat.succ j) s) l j s
def ko(n:Nat)(l:List (Nat×Nat×Nat)):Bool:=List.rec (motive:=λ_=>Bool) true (λx l ih=>aa (Nat.ble (Nat.succ x.1) n) (aa (iL x.2.1 l) ih false) false) l
def xc(x y:BSh):Bool:=match x,y with
 | .cells _ _,.cells _ _=>true
 | .grow _ _ _,.grow _ _ _=>true
 | .growb _ _,.growb _ _=>true
 | .sm _ _,.sm _ _=>true
 | .arr _ _ _,.arr _ _ _=>true
 | .arb _ _,.arb _ _=>true
 | .obj k _ _,.obj k' _ _=>Nat.beq k k'
 |_,_=>false
def nB:List BSh->List BSh->Bool
 | [],_=>true
 |x::l,y::m=>aa (xc x y) (nB l m) false
 |_,_=>false
def LE(bl:List BSh)(j:Nat):Bool:=match bl[j]? with|some (.grow _ _ _)=>true|some (.growb _ _)=>true|_=>false
def lM(bl:List BSh)(n:Nat)(l:List (Nat×Nat×Nat)):Bool:=List.rec (motive:=λ_=>Bool) true (λx _ ih=>aa (aa (Nat.ble (Nat.succ x.1) n) (aa (Nat.beq x.2.1 (base+x.1)) true (aa (LE bl x.1) (Nat.ble (base+64) x.2.1) false)) (Nat.ble (base+64) x.2.1)) ih false) l
def pE(fz:List Nat)(l:List (Nat×Nat×Nat)):Bool:=List.rec (motive:=λ_=>Bool) true (λb _ ih=>aa (iL b l) ih false) fz
def EA(H:T ABlk)(l:List BSh)(j:Nat)(s:PS):Option PS:=
 List.rec (motive:=λ_=>Nat->PS->Option PS) (λ_ s=>some s) (λx _ ih j s=>match bm j s.loc with
  |some _=>ih (Nat.succ j) s
  |none=>aa (gB x) (T.getK H (base+j) none λq=>ih (Nat.succ j) (s.name (j,base+j,rp q))) (ih (Nat.succ j) s)) l j s
def db(n:Nat)(H:T ABlk)(r:Sr)(l:List BSh)(a:AV):Option PS:=
 bi (HF H l r a q_) λs=>bi (EA H (l.take n) 0 s) λs=>bi (Ez H l l 0 s) λs=>bi (kn l s.ln s) λs=>aa (aa (lM l n s.loc) (pE s.fz s.loc) false) (aa (ko (List.length l) s.loc) (some s) none) none
def Of(n:Nat)(r:Sr)(l:List BSh)(post:Sy->Prop):Lf:=λa σ _=>match db n σ.h r l a with
 |some s=>.an s.pr (.at (post (aK s.tm)))
 |none=>.ff
def FSpec.argsA(S:FSpec)(z:Sy):List AV:=jd bw z S.args
def addTab(o:List (Nat×Nat×List Nat))(H:T ABlk):T ABlk:=List.rec (motive:=λ_=>T ABlk) H (λx _ ih=>ih.set x.1 (.tab x.2.1 x.2.2)) o
def Ak(o:List (Nat×Nat×List Nat)):Bool:=List.rec (motive:=λ_=>Bool) true (λx r ih=>aa (aa (Nat.ble (Nat.succ x.1) 1048576) (r.all λy=>aa (Nat.beq x.1 y.1) false true) false) ih false) o
def LG(o:List (Nat×Nat×List Nat))(k:Tr):Tr:=List.rec (motive:=λ_=>Tr) k (λx _ ih=>aa (Nat.ble (Nat.succ x.1) 1048576) (.rd x.1 λq=>match q with
 | .tab Ww l'=>aa (Nat.beq x.2.1 Ww) (aa (vL x.2.2 l') ih .fail) .fail
 |_=>.fail) .fail) o
def FSpec.heap(S:FSpec)(z:Sy):T ABlk:=addTab S.gl (fm bw z S.blk 0 .leaf)
def Al(loc:List (Nat×Nat×Nat))(a:AV)(k:AV->Tr):Tr:=match a with
 | .gsl b g n es=>.rd b λq=>(match q with
  | .grow c gen _=>aa (Nat.beq g gen) (aa (Nat.beq c.es es) (aa (aa (Nat.ble (base+64) b) (iL b loc) false) (.req (c.len=n) (.wr b (.froz c gen) (k (.cv c)))) .fail) .fail) .fail
  | .froz c gen=>aa (Nat.beq g gen) (aa (Nat.beq c.es es) (.req (c.len=n) (k (.cv c))) .fail) .fail
  |_=>.fail)
 |a=>k a
def LH(loc:List (Nat×Nat×Nat))(m:Nat)(a:AV)(k:AV->Tr):Tr:=match a with
 | .slc b g o len cap es=>aa (Nat.beq es (aS (bO m))) (my loc b g o len cap es (λty as k=>bS (cW (bO m) len as) .fail λq=>(match q with|(gs,[])=>k (.rows m gs) ty|_=>.fail)) λa=>Al loc a k) .fail
 |a=>Al loc a k
def frzB(loc:List (Nat×Nat×Nat))(a:AV)(k:AV->Tr):Tr:=match a with
 | .slc b g o len cap es=>aa (Nat.beq 1 es) (my loc b g o len cap 1 (λty as k=>bS (eZ as) .fail λns=>.req (bA ns) (k (.bytes (aN ns)) ty)) λa=>Al loc a k) .fail
 |a=>Al loc a k
def Vb(loc:List (Nat×Nat×Nat))(m b g:Nat)(k:Tr):Tr:=.rd b λq=>match q with
 | .cells _ _ _ hi _ _ _ _=>my loc b g 0 (hi/aS (bO m)) (some (hi/aS (bO m))) (aS (bO m)) (oP m (hi/aS (bO m))) λ_=>k
 |_=>k
def Vc(loc:List (Nat×Nat×Nat))(b g:Nat)(k:Tr):Tr:=.rd b λq=>match q with
 | .cells _ _ _ hi _ _ _ _=>my loc b g 0 hi (some hi) 1 oQ λ_=>k
 |_=>k
def sj(loc:List (Nat×Nat×Nat))(blk:List BSh)(x:Sh)(a:AV)(k:AV->Tr):Tr:=match x with
 | .g j es t=>(match a with
  | .nils=>(match blk[j]? with|some (.grow m ty _)=>.new (.grow (.rows m []) 0 ty) λb=>k (.gsl b 0 0 es)|_=>.fail)
  | .slc b g o len cap o4=>(match blk[j]? with
   |some (.grow m ty _)=>aa (Nat.beq es o4) (my loc b g o len cap es (λ_ as k=>bS (cW (bO m) len as) .fail λq=>(match q with|(gs,[])=>k (.rows m gs) ty|_=>.fail)) k) .fail
   |_=>.fail)
  |a=>k a)
 | .gb j t=>(match a with
  | .nils=>(match blk[j]? with|some (.growb ty _)=>.new (.grow (.bytes []) 0 ty) λb=>k (.gsl b 0 0 1)|_=>.fail)
  | .slc b g o len cap o4=>(match blk[j]? with
   |some (.growb ty _)=>aa (Nat.beq 1 o4) (my loc b g o len cap 1 (λ_ as k=>bS (eZ as) .fail λns=>.req (bA ns) (k (.bytes (aN ns)) ty)) k) .fail
   |_=>.fail)
  |a=>k a)
 | .p j=>(match a with
  | .ptr b g o=>(match blk[j]? with|some (.arr m _ _)=>Vb loc m b g (k (.ptr b g o))|some (.arb _ _)=>Vc loc b g (k (.ptr b g o))|_=>k (.ptr b g o))
  |a=>k a)
 | .v m _=>LH loc m a k
 | .pv m _=>LH loc m a k
 | .vb _=>frzB loc a k
 | .pvb _=>frzB loc a k
 |_=>k a
def um(loc:List (Nat×Nat×Nat))(blk:List BSh)(l:List Sh)(as:List AV)(k:List AV->Tr):Tr:=
 List.rec (motive:=λ_=>List AV->(List AV->Tr)->Tr) (λas k=>k as) (λx _ ih as k=>match as with
  | []=>k []
  |a::as=>sj loc blk x a λa=>ih as λas=>k (a::as)) l as k
def HG(loc:List (Nat×Nat×Nat))(blk:List BSh)(x:Sa)(a:AV)(k:AV->Tr):Tr:=match x with
 | .c x=>sj loc blk x a k
 | .ag l=>(match a with
  | .agg as=>aa (Nat.beq (List.length as) (List.length l)) (um loc blk l as λas=>k (.agg as)) .fail
  |a=>k a)
 | .cp _=>k a
def ib(loc:List (Nat×Nat×Nat))(blk:List BSh)(l:List Sa)(as:List AV)(k:List AV->Tr):Tr:=
 List.rec (motive:=λ_=>List AV->(List AV->Tr)->Tr) (λas k=>k as) (λx _ ih as k=>match as with
  | []=>k []
  |a::as=>HG loc blk x a λa=>ih as λas=>k (a::as)) l as k
def Sw(x:Sh):Sh:=match x with | .g j es t=>.g j es t | .gb j t=>.gb j t|_=>.o
def LI(x:Sa):Sa:=match x with | .c x=>.c (Sw x) | .ag l=>.ag (l.map Sw) | .cp l=>.cp l
def Am(blk:List BSh)(r:Sr)(a:AV)(k:AV->Tr):Tr:=match r with
 | .one x=>ib [] blk [LI x] [a] λas=>match as with | [a]=>k a|_=>.fail
 | .tu l=>(match a with
  | .tup as=>aa (Nat.beq (List.length (l.map LI)) (List.length as)) (ib [] blk (l.map LI) as λas=>k (.tup as)) (k (.tup as))
  |a=>k a)
def FSpec.callFm(S:FSpec)(P:Program)(M:Tab)(n f:Nat)(z:Sy)(h:Hn):Fm:=
 Ah (iR P (oV P M n) f (S.argsA z) λa=>Am (S.out z) (S.res z) a .ret) (start (S.heap z) (base+64)) (Of (List.length S.blk) (S.res z) (S.out z) (S.post z)) h
def Sx(blk:List BSh)(x:BSh)(q:ABlk)(g:Nat)(s:PS)(k:PS->Tr):Tr:=match x with
 | .cells ty l=>bS (lL ty (List.length l) q g) .fail λas=>um s.loc blk l as λas=>bS (lK .leaf blk l as s) .fail k
 |x=>bS (fo x q g s) .fail k
def sn(blk:List BSh)(l:List BSh)(j:Nat)(s:PS)(k:PS->Tr):Tr:=
 List.rec (motive:=λ_=>Nat->PS->(PS->Tr)->Tr) (λ_ s k=>k s) (λx _ ih j s k=>bS (bm j s.loc) .fail λbg=>.rd bg.1 λq=>Sx blk x q bg.2 s λs=>ih (Nat.succ j) s k) l j s k
def mQ(s:PS):jO:=λj=>match bm j s.loc with|some p=>p|none=>(0,0)
def BW(x:BSh)(g:Nat):Nat:=aa (gB x) g (g+1)
def nM(l:List BSh)(γ:jO):jO:=λj=>match l[j]? with|some x=>((γ j).1,BW x (γ j).2)|none=>γ j
def LJ(l:List BSh)(k:List Nat->Tr):Tr:=List.rec (motive:=λ_=>(List Nat->Tr)->Tr) (λk=>k []) (λ_ _ ih k=>.new (.grow (.bytes []) 0 0) λb=>ih λbs=>k (b::bs)) l k
def rq(n:Nat)(γ:jO)(bs:List Nat):jO:=λj=>aa (Nat.ble (Nat.succ j) n) (γ j) (bs.getD (j-n) 0,0)
def PC(γ:jO)(y:Sy)(l:List BSh)(j:Nat)(k:Tr):Tr:=
 List.rec (motive:=λ_=>Nat->Tr->Tr) (λ_ k=>k) (λx _ ih j k=>.wr (γ j).1 (kM γ y j x) (ih (Nat.succ j) k)) l j k
def PD(S:FSpec)(zf:(z:Sy)->{y:Sy // S.pre z->S.post z y})(args:List AV)(k:AV->Tr):Tr:=
 LG S.gl <| ib [] S.blk S.args args λargs=>bS (gc .leaf S.blk S.args args q_) .fail λs=>sn S.blk S.blk 0 s λs=>bS (kn S.blk s.ln s) .fail λs=>aa (aa (Nat.ble (List.length S.blk) 64) (aa (nB S.blk (S.out (aK s.tm))) (ko (List.length S.blk) s.loc) false) false) (.req (s.pr/\S.pre (aK s.tm))
  (.sk (λy=>S.pre (aK s.tm)->S.post (aK s.tm) y) (zf (aK s.tm)) λy=>LJ ((S.out (aK s.tm)).drop (List.length S.blk)) λbs=>PC (rq (List.length S.blk) (nM S.blk (mQ s)) bs) y (S.out (aK s.tm)) 0 (k (Ai (rq (List.length S.blk) (nM S.blk (mQ s)) bs) y (S.res (aK s.tm)))))) .fail
end
end Go.Sym
