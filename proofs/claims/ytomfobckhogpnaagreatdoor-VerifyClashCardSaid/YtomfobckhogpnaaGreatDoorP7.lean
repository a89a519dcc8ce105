/- Part 7. -/
import Derived.LaidOnce
import Derived.Test.YtomfobckhogpnaaGreatDoorProg
import Derived.KernelRfl
import Derived.Test.YtomfobckhogpnaaGreatDoorP4
import Derived.Test.YtomfobckhogpnaaGreatDoorP5
import Derived.Test.YtomfobckhogpnaaGreatDoorP6
set_option linter.all false
namespace Go.Proofs.YtomfobckhogpnaaGreatDoor
open Go.Sym Go.Maps
set_option maxRecDepth 100000
noncomputable section
structure PkE where
 nm:ByteArray
 f:Nat
 bk:Option Nat
 n:Nat
def PkE.ent(x:PkE):Lit×DataW Unit:=(.string x.nm.data.toList,.lit (.int .i64 x.f))
def PkE.row(x:PkE):G:=.node [.str (bytesOf x.nm),.int x.n]
def PkE.own(x:PkE):List Nat:=x.f::x.bk.toList
def PkFile(w:World)(x:PkE):Prop:=∃v xs lt,w.heap[x.f]? =some (.cells #[v,.int .u32 lt] 232)/\w.ownsRow 0 5 1 v x.n xs/\v.ownBlock=x.bk
def eL:List G->Nat
 | []=>0
 |r::l=>(gI (aa r 1)).toNat+eL l
def iD(nm:List Nat)(l:List G):Prop:=∃r∈l,gS (aa r 0)=nm
open Classical in
def gc(nm:List Nat)(n:Nat):List G->List G
 | []=>[.node [.str nm,.int n]]
 |r::l=>if gS (aa r 0)=nm then .node [.str nm,.int ((gI (aa r 1)).toNat+n:Nat)]::l else r::gc nm n l
def rk{nm:List Nat}{n:Nat}{r:G}{l:List G}(h:gS (aa r 0)=nm):gc nm n (r::l)= .node [.str nm,.int ((gI (aa r 1)).toNat+n:Nat)]::l:=if_pos h
def oK{nm:List Nat}{n:Nat}{r:G}{l:List G}(h:¬gS (aa r 0)=nm):gc nm n (r::l)=r::gc nm n l:=if_neg h
def qA(room:Int)(rows:List G)(d:Nat)(fp:List Nat)(w:World):Prop:=
 ∃(m:Nat) (lf:Int) (L:List PkE) (es:List (Lit×DataW Unit)),w.heap[d]? =some (.cells #[.int .i64 room,.map (some m),.bool false,.int .i64 lf] 112)/\w.ownsMap Tryz.prog 9 jS m L.length (.map es)/\
  es.Perm (L.map PkE.ent)/\rows=L.map PkE.row/\(∀x∈L,PkFile w x)/\fp=m::L.flatMap PkE.own/\(d::fp).Nodup/\eL rows<=1073741824/\(L= []->w.heap[m]? =some (.map #[] 0))
def eJ{w w':World}{m n:Nat}{D:DataW Unit}(h:w.ownsMap Tryz.prog 9 jS m n D)(hk:w'.heap[m]? =w.heap[m]?):w'.ownsMap Tryz.prog 9 jS m n D:=by obtain⟨es,c,hb,r⟩:=h;exact⟨es,c,hk.trans hb,r⟩
def PkFile.keep{w w':World}{x:PkE}(h:PkFile w x)(hk:∀k∈x.own,w'.heap[k]? =w.heap[k]?):PkFile w' x:=by
 obtain⟨v,xs,lt,h1,h2,h3⟩:=h;refine⟨v,xs,lt,(hk _ aan).trans h1,⟨h2.1, ?_⟩,h3⟩;rcases h2.2 with hn|⟨g,cap,sb,rfl,hb,hg,rest⟩
 ·exact .inl hn
 ·refine .inr ⟨g,cap,sb,rfl,hb,(hk g ?_).trans hg,rest⟩;have Q':x.bk=some g:=by rw[←h3];rfl
  exact aal _ (by rw[Q'];exact List.mem_singleton.2 rfl)
def lJ(room:Int)(l:List G):rz (qA room l):=λd fp w w' hk h=>by
 obtain⟨m,lf,L,es,h1,h2,h3,h4,h5,h6,h7,h8,h9⟩:=h;have hm:m∈d::fp:=by rw[h6];exact aal _ aan
 refine⟨m,lf,L,es,(hk d aan).trans h1,eJ h2 (hk m hm),h3,h4,λx hx=>(h5 x hx).keep λk hkx=>hk k ?_,h6,h7,h8,λhL=>(hk m hm).trans (h9 hL)⟩;rw[h6];exact aal _ (aal _ (List.mem_flatMap.2 ⟨x,hx,hkx⟩))
def iE(w:World)(b o:Nat)(v:Value):w.grownBy (w.setCell ⟨b,o,none⟩ v) (some b):=
 ⟨rfl,rfl,rfl,by simp,λk _ hk=>heap_setCell_other w _ k v (λe=>hk (by rw[e]))⟩
def PQ{a s:ByteArray}:(Lit.string a.data.toList= .string s.data.toList)↔a=s:=by
 constructor
 ·intro h;injection h with h;exact ByteArray.ext (Array.toList_inj.1 h)
 ·rintro rfl;rfl
def HT{L:List PkE}{s:ByteArray}:iD (bytesOf s) (L.map PkE.row)↔∃x∈L,x.nm=s:=by
 constructor
 ·rintro⟨r,hr,e⟩;obtain⟨x,hx,rfl⟩:=List.mem_map.1 hr;exact⟨x,hx,gX e⟩
 ·rintro⟨x,hx,rfl⟩;exact⟨x.row,abw hx,rfl⟩
def Yq{L:List PkE}{s:ByteArray}{n:Nat}(h:∀x∈L,x.nm≠s):gc (bytesOf s) n (L.map PkE.row)=L.map PkE.row++ [.node [.str (bytesOf s),.int n]]:=by
 induction L with
 |nil=>rfl
 |cons x L ih=>show gc _ _ (x.row::L.map PkE.row)=_;rw[oK (r:=x.row) (λe=>h x aan (gX e)),ih λy hy=>h y (aal _ hy)];rfl
def Yr{A B:List PkE}{x:PkE}{n:Nat}(h:∀y∈A,y.nm≠x.nm)(g:Option Nat):gc (bytesOf x.nm) n ((A++x::B).map PkE.row)=(A++{x with bk:=g,n:=x.n+n}::B).map PkE.row:=by
 induction A with
 |nil=>show gc _ _ (x.row::B.map PkE.row)=_;rw[rk (nm:=bytesOf x.nm) (r:=x.row) rfl];rfl
 |cons y A ih=>show gc _ _ (y.row::(A++x::B).map PkE.row)=_;rw[oK (r:=y.row) (λe=>h y aan (gX e)),ih λz hz=>h z (aal _ hz)];rfl
def Cx(nm:List Nat)(n:Nat):∀l,eL (gc nm n l)=eL l+n
 | []=>by show((n:Int)).toNat+0=0+n;omega
 |r::l=>by
  by_cases he:gS (aa r 0)=nm
  ·rw[rk he];show(((gI (aa r 1)).toNat+n:Nat):Int).toNat+eL l=((gI (aa r 1)).toNat+eL l)+n;omega
  ·rw[oK he];show(gI (aa r 1)).toNat+eL (gc nm n l)=((gI (aa r 1)).toNat+eL l)+n;rw[Cx nm n l];omega
def rl(nm:List Nat)(n:Nat):∀l,(gc nm n l).length<=l.length+1
 | []=>aac _
 |r::l=>by
  by_cases he:gS (aa r 0)=nm
  ·rw[rk he];simp
  ·rw[oK he];have:=rl nm n l;simp;omega
def rm(nm:List Nat)(n:Nat):∀l,iD nm (gc nm n l)/\∀r∈gc nm n l,gS (aa r 0)=nm∨∃r'∈l,gS (aa r' 0)=gS (aa r 0)
 | []=>⟨⟨_,List.mem_singleton.2 rfl,rfl⟩,λr hr=>.inl (by rw[List.mem_singleton.1 hr];rfl)⟩
 |r::l=>by
  obtain⟨⟨q,q1,q2⟩,q3⟩:=rm nm n l;by_cases he:gS (aa r 0)=nm
  ·rw[rk he];refine⟨⟨_,aan,rfl⟩,λx hx=>?_⟩;rcases List.mem_cons.1 hx with rfl|hx
   ·exact .inl rfl
   ·exact .inr ⟨x,aal _ hx,rfl⟩
  ·rw[oK he];refine⟨⟨q,aal _ q1,q2⟩,λx hx=>?_⟩;rcases List.mem_cons.1 hx with rfl|hx
   ·exact .inr ⟨x,aan,rfl⟩
   ·rcases q3 x hx with h|⟨r',h1,h2⟩
    ·exact .inl h
    ·exact .inr ⟨r',aal _ h1,h2⟩
def zm{L:List PkE}{x:PkE}(h:x∈L):x.n<=eL (L.map PkE.row):=by
 induction L with
 |nil=>cases h
 |cons y L ih=>
  show _<=(gI (aa y.row 1)).toNat+eL (L.map PkE.row);rcases List.mem_cons.1 h with rfl|h
  ·show _<=((x.n:Int)).toNat+_;omega
  ·have:=ih h;omega
def TJ{L:List PkE}(s:ByteArray):(∃A x B,L=A++x::B/\x.nm=s/\∀y∈A,y.nm≠s)∨∀y∈L,y.nm≠s:=by
 induction L with
 |nil=>exact .inr λy h=>absurd h aaS
 |cons y L ih=>
  by_cases e:y.nm=s
  ·exact .inl ⟨[],y,L,rfl,e,λz h=>absurd h aaS⟩
  ·rcases ih with⟨A,x,B,rfl,h1,h2⟩|h
   ·refine .inl ⟨y::A,x,B,rfl,h1,λz hz=>?_⟩;rcases List.mem_cons.1 hz with rfl|hz
    ·exact e
    ·exact h2 z hz
   ·refine .inr λz hz=>?_;rcases List.mem_cons.1 hz with rfl|hz
    ·exact e
    ·exact h z hz
def Cy{m n:Nat}{es:List (Lit×DataW Unit)}{L:List PkE}{w:World}(d9:w.ownsMap Tryz.prog 9 jS m n (.map es))(hp:es.Perm (L.map PkE.ent))(s:ByteArray)(hs:s.size<=maxLen):
 (∃A x B,L=A++x::B/\x.nm=s/\(∀y∈A,y.nm≠s)/\∀W:World,W.heap[m]? =w.heap[m]? ->(Instr.lookup 110 (.map (some m)) (.string s) false).run Tryz.prog W= .ok (.pointer (some ⟨x.f,0,none⟩)) W)∨
 ((∀y∈L,y.nm≠s)/\∀W:World,W.heap[m]? =w.heap[m]? ->(Instr.lookup 110 (.map (some m)) (.string s) false).run Tryz.prog W= .ok (.pointer none) W):=by
 obtain⟨M',he,hap,_⟩:=d9.entries pM
 injection he with he;subst he
 rcases TJ (L:=L) s with⟨A,x,B,e1,e2,e3⟩|h
 ·refine .inl ⟨A,x,B,e1,e2,e3,λW hW=>?_⟩;have hx:x.ent∈es:=hp.symm.mem_iff.1 (abw (by rw[e1];simp));have hk:x.ent.1= .string s.data.toList:=by rw[←e2];rfl
  have uniq:∀p∈es,p.1=x.ent.1->p=x.ent:=λp hp' e=>by have:=entry_key_one hap hp' hx e;exact this
  rcases zk (eJ d9 hW) s hs with⟨b,hm,hr⟩|⟨hn,_⟩
  ·have:=uniq _ hm hk.symm;have e:b=x.f:=by have h2:=congrArg Prod.snd this;have h2:(DataW.lit (Lit.int .i64 (b:Int)):DataW Unit)= .lit (.int .i64 x.f):=h2;injection h2 with h2;injection h2 with _ h2;omega
   rw[hr,e]
  ·exact absurd hk (hn _ hx)
 ·refine .inr ⟨h,λW hW=>?_⟩;rcases zk (eJ d9 hW) s hs with⟨b,hm,hr⟩|⟨_,hr⟩
  ·obtain⟨y,hy,e⟩:=List.mem_map.1 (hp.mem_iff.1 hm);exact absurd (PQ.1 (congrArg Prod.fst e)) (h y hy)
  ·exact hr
where
 entry_key_one:∀{l:List (Lit×DataW Unit)},l.Pairwise (λp q=>p.1≠q.1)->∀{p q:Lit×DataW Unit},p∈l->q∈l->p.1=q.1->p=q
  | [],_,_,_,h,_,_=>absurd h aaS
  |a::l,hp,p,q,h1,h2,e=>by
   obtain⟨q1,q2⟩:=List.pairwise_cons.1 hp;rcases List.mem_cons.1 h1 with r1|r1
   ·rcases List.mem_cons.1 h2 with r2|r2
    ·rw[r1,r2]
    ·subst r1;exact absurd e (q1 _ r2)
   ·rcases List.mem_cons.1 h2 with r2|r2
    ·subst r2;exact absurd e.symm (q1 _ r1)
    ·exact entry_key_one q2 r1 r2 e
def zn{w:World}{x:PkE}(h:PkFile w x):∃a cap v xs lt,w.heap[x.f]? =some (.cells #[v,.int .u32 lt] 232)/\v= .slice a x.n cap/\w.ownsRow 0 5 1 v x.n xs/\v.ownBlock=x.bk:=by
 obtain⟨v,xs,lt,h1,h2,h3⟩:=h;rcases h2.2 with⟨hv,hn⟩|⟨g,cap,sb,hv,_⟩
 ·exact⟨none,0,v,xs,lt,h1,by rw[hv,hn],h2,h3⟩
 ·exact⟨_,cap,v,xs,lt,h1,hv,h2,h3⟩
def PR{w:World}{x:PkE}(h:PkFile w x)(hn:x.n<4294967296):PkF w x.f x.n:=by obtain⟨a,cap,v,xs,lt,h1,rfl,_⟩:=zn h;exact⟨⟨a,cap,by rw[cell_of_row _ _ _ _ _ _ h1];rfl⟩,⟨lt,by rw[cell_of_row _ _ _ _ _ _ h1];rfl⟩,hn⟩
def PT{w:World}{x:PkE}(h:PkFile w x):VX w x.ent.2=x.n:=by
 obtain⟨a,cap,v,xs,lt,h1,rfl,_⟩:=zn h;have hc:w.cell? ⟨x.f,0,none⟩=some (.slice a x.n cap):=by rw[cell_of_row _ _ _ _ _ _ h1];rfl
 show(match w.cell? ⟨((x.f:Nat):Int).toNat,0,none⟩ with|some (.slice _ l _)=>l|_=>0)=_;rw[aar,hc]
def PU{w:World}{L:List PkE}{es:List (Lit×DataW Unit)}(hp:es.Perm (L.map PkE.ent))(h:∀x∈L,PkFile w x):dp (VX w) es=eL (L.map PkE.row):=by
 unfold dp
 rw[(hp.map _).sum_nat]
 clear hp
 induction L with
 |nil=>rfl
 |cons x L ih=>show VX w x.ent.2+_=(gI (aa x.row 1)).toNat+eL (L.map PkE.row);rw[PT (h x aan), ←ih λy hy=>h y (aal _ hy)];show _=((x.n:Int)).toNat+_;rw[aar];rfl
def lQ:Int:=4194304
def Et:List BSh:=[.obj 1 (qA lQ) 20]
def PV:FSpec:=⟨[.c (.i .i64 1)],[],λz=>z.i 1=4194304,λ_=>.tu [.c (.p 0),.c (.i .i64 30)],λ_=>Et,λz y=>y.g 20= []/\y.i 30=0,none⟩
def Eu:FSpec:=⟨[.c (.p 0),.c (.s 5)],Et,λz=>¬iD (z.s 5) (z.g 20)/\(z.s 5).length<=64,λ_=>.tu [.c .o,.c (.i .i64 30)],λ_=>Et,λz y=>y.g 20=z.g 20/\y.i 30=7,none⟩
def Ev:FSpec:=⟨[.c (.p 0),.c (.s 5)],Et,λz=>iD (z.s 5) (z.g 20)/\(1<=(z.s 5).length/\(z.s 5).length<=64),λ_=>.one (.c (.i .i64 30)),λ_=>Et,λz y=>y.g 20=z.g 20/\y.i 30=0,none⟩
def tZ:FSpec:=⟨[.c (.p 0),.c (.s 5),.c (.vb 6)],Et,λz=>(1<=(z.s 5).length/\(z.s 5).length<=64)/\1<=(z.s 6).length/\(eL (z.g 20):Int)+(z.s 6).length<=4194304/\(z.g 20).length<4000,λ_=>.one (.c (.i .i64 30)),λ_=>Et,λz y=>y.g 20=gc (z.s 5) (z.s 6).length (z.g 20)/\y.i 30=0,none⟩
def PW{ρ:Rho}{l:List Nat}{v:Value}(h:VR ρ (.sS l) v):∃s,bytesOf s=l/\v= .string s:=by cases h;exact⟨_,rfl,rfl⟩
def V1{ρ:Rho}{k:IntKind}{n:Int}{v:Value}(h:VR ρ (.sI k n) v):v= .int k n:=by cases h;rfl
def vr_vb{ρ:Rho}{l:List Nat}{v:Value}(h:VR ρ (.cv (.bytes l)) v)(hl:1<=l.length):
 ∃b off cp arr ty,v= .slice (some ⟨b,off,none⟩) l.length cp/\ρ.frz b=some (arr,ty)/\off+l.length<=arr.size/\∀i,i<l.length->∃n,arr[off+i]? =some (.int .u8 n):=by
 generalize hc:Ct.bytes l=c at h
 cases h with
 |cv c b off cp arr ty hf hcp hb r=>
  subst hc
  refine⟨b,off,cp,arr,ty,rfl,hf,by simpa [Ct.len,Ct.es] using hb,λi hi=>?_⟩
  have c9:off+i<arr.size:=by have:off+l.length * 1<=arr.size:=hb;omega
  have h1:arr[off+i]? =some arr[off+i]:=aaQ c9
  have:=r i 0 _ arr[off+i] hi (show((Ct.bytes l).row i)[0]? =some (.sI .u8 ((l.getD i 0:Nat):Int)) from rfl) (by rw[show off+i * (Ct.bytes l).es+0=off+i by show off+i * 1+0=_;omega];exact h1)
  exact⟨_,by rw[h1,V1 this]⟩
 |cvnil c h=>subst hc;have h:l.length=0:=h;omega
 |cvempty c a h=>subst hc;have h:l.length=0:=h;omega
def TK{w:World}{b off n:Nat}{arr:Array Value}{ty:TypeId}{fr:Nat×Nat}(hb:w.heap[b]? =some (.cells arr ty fr))(hn:off+n<=arr.size)(h:∀i,i<n->∃k,arr[off+i]? =some (.int .u8 k)):
 ∃news:List Value,news.length=n/\(∀j u,news[j]? =some u->w.cell? ((⟨b,off,none⟩:Addr).add j)=some u)/\∀u∈news,u.oneCell'=true:=by
 have key:∀j u,((arr.toList.drop off).take n)[j]? =some u->j<n/\arr[off+j]? =some u:=λj u hj=>by
  rw[aa3] at hj;split at hj
  ·rename_i c9;rw[aaz] at hj;exact⟨c9,by simpa using hj⟩
  ·cases hj
 refine⟨(arr.toList.drop off).take n,by simp;omega,λj u hj=>?_,λu hu=>?_⟩
 ·obtain⟨_,h2⟩:=key j u hj;rw[Addr.add_lit,cell_of_row _ _ _ _ _ _ hb];exact h2
 ·obtain⟨j,hj⟩:=List.getElem?_of_mem hu;obtain⟨h1,h2⟩:=key j u hj;obtain⟨k,hk⟩:=h j h1;rw[hk] at h2;injection h2 with h2;subst h2;rfl
def jh{A B:List PkE}{x:PkE}:(A++x::B).flatMap PkE.own=A.flatMap PkE.own++(x.own++B.flatMap PkE.own):=by simp
def lp(d m:Nat)(A B:List PkE)(o:List Nat):(d::m::(A.flatMap PkE.own++(o++B.flatMap PkE.own))).Perm (o++(d::m::(A.flatMap PkE.own++B.flatMap PkE.own))):=
 List.perm_append_comm_assoc (d::m::A.flatMap PkE.own) o (B.flatMap PkE.own)
def t_{d:Nat}{room lf:Int}{m:Nat}{w:World}(h:w.heap[d]? =some (.cells #[.int .i64 room,.map (some m),.bool false,.int .i64 lf] 112)):
 w.cell? ⟨d,0,none⟩=some (.int .i64 room)/\w.cell? ⟨d,1,none⟩=some (.map (some m))/\w.cell? ⟨d,2,none⟩=some (.bool false):=by
 refine⟨?_, ?_, ?_⟩ <;> (rw[cell_of_row _ _ _ _ _ _ h];rfl)
def Ew{s:ByteArray}{n:Nat}(h:(bytesOf s).length<=n):s.size<=n:=by rw[bV] at h;exact h
def TL:Ok Tryz.prog 79 Eu:=by
 refine RK (k:=1) (C:=qA lQ) (S:=Eu) (al:=[.c (.s 5)]) (lJ lQ) (λz=>z.g 20) (λ_=>.tup [.nils,.sI .i64 7]) (λz=>[(20,.g (z.g 20)),(30,.i 7)]) rfl rfl rfl (λz h=>⟨rfl,rfl⟩) (λz=>⟨_,rfl,⟨rfl,trivial⟩,rfl⟩) (λargs w=>Tryz.call79 args w) ?_;rintro z ⟨o7,hlen⟩ w ρ d fp vs hfz c9 L' ⟨m,lf,L,es,h1,h2,h3,h4,h5,h6,h7,h8,h9⟩;obtain⟨v,E',rfl,hv,hn⟩:=LR.cons_inv (show LR ρ [.sS (z.s 5)] vs from L');obtain rfl:=LR.nil_inv hn;obtain⟨s,hs,rfl⟩:=PW hv;obtain⟨_,c1,_⟩:=t_ h1;refine(TH d m _ es s w c1 h2 (by have:=Ew (s:=s) (n:=64) (by rw[hs];exact hlen);unfold maxLen;omega) (λp hp e=>o7 ?_)).mono ?_
 ·rw[←hs,h4];obtain⟨x,hx,rfl⟩:=List.mem_map.1 (h3.mem_iff.1 hp);exact HT.2 ⟨x,hx,PQ.1 e⟩
 ·rintro e w' ⟨rfl,rfl⟩;refine⟨_,fp,rfl,⟨m,lf,L,es,h1,h2,h3,h4,h5,h6,h7,h8,h9⟩,⟨rfl,rfl,rfl,aac _,λ_ _ _=>rfl,λx hx=>.inl hx⟩,λρ'=>.tup _ _ rfl ?_⟩;exact(LR.arr (cs:= #[.slice none 0 0,.int .i64 7]) (LR.cons .nils (LR.cons (.sI .i64 7) (LR.nil _)))).2
def TM:Ok Tryz.prog 82 Ev:=by
 refine RK (k:=1) (C:=qA lQ) (S:=Ev) (al:=[.c (.s 5)]) (lJ lQ) (λz=>z.g 20) (λ_=>.sI .i64 0) (λz=>[(20,.g (z.g 20)),(30,.i 0)]) rfl rfl rfl (λz h=>⟨rfl,rfl⟩) (λz=>⟨_,rfl,⟨rfl,trivial⟩,rfl⟩) (λargs w=>Tryz.call82 args w) ?_;rintro z ⟨his,hl1,hl2⟩ w ρ d fp vs hfz c9 L' ⟨m,lf,L,es,h1,h2,h3,h4,h5,h6,h7,h8,h9⟩;obtain⟨v,E',rfl,hv,hn⟩:=LR.cons_inv (show LR ρ [.sS (z.s 5)] vs from L');obtain rfl:=LR.nil_inv hn;obtain⟨s,hs,rfl⟩:=PW hv;obtain⟨_,c1,c2⟩:=t_ h1;have hs1:1<=s.size:=by rw[←bV,hs];exact hl1
 have hs2:s.size<=64:=Ew (by rw[hs];exact hl2);rcases Cy h2 h3 s (by unfold maxLen;omega) with⟨A,x,B,e1,e2,e3,c7⟩|⟨o7,_⟩
 ·have hx:x∈L:=by rw[e1];simp
  have hxn:x.n<=1073741824:=aaL (zm hx) (by rw[←h4];exact h8);obtain⟨a,cap,v,xs,lt,q1,q2,q3,q4⟩:=zn (h5 x hx);have hfm:x.f∈d::fp:=by rw[h6];exact aal _ (aal _ (List.mem_flatMap.2 ⟨x,hx,aan⟩))
  have O':m∈d::fp:=by rw[h6];exact aal _ aan
  refine(TI d m L.length x.f x.n s w c1 c2 hs1 hs2 c7 (c9 m O') (PR (h5 x hx) (by omega)) (frozen_of_row _ _ _ _ _ q1)).mono ?_;rintro e w' ⟨rfl,rfl⟩;have hold:∀k,k<w.heap.size->k≠x.f->((w.alloc (.cells #[.string s] 9)).setCell ⟨x.f,1,none⟩ (.int .u32 x.n)).heap[k]? =w.heap[k]? :=λk hk m7=>by rw[heap_setCell_other _ _ _ _ m7];exact heap_alloc_old w _ hk
  have hxf:((w.alloc (.cells #[.string s] 9)).setCell ⟨x.f,1,none⟩ (.int .u32 x.n)).heap[x.f]? =some (.cells #[v,.int .u32 x.n] 232):=
   heap_setCell_same _ _ _ #[v,.int .u32 lt] _ _ ((heap_alloc_old w _ (c9 _ hfm)).trans q1)
  have hnd:∀k∈d::fp,k<w.heap.size:=c9;have hP:(d::m::(A.flatMap PkE.own++(x.own++B.flatMap PkE.own))).Nodup:=by rw[←jh, ←e1, ←h6];exact h7
  have hP:=((lp d m A B x.own).nodup_iff).1 hP;have m7:∀k,k∈x.bk.toList∨k∈(d::m::(A.flatMap PkE.own++B.flatMap PkE.own))->k≠x.f:=λk hk e=>by have:=(List.nodup_cons.1 (show(x.f::(x.bk.toList++(d::m::(A.flatMap PkE.own++B.flatMap PkE.own)))).Nodup from hP)).1;rw[←e] at this;exact this (List.mem_append.2 hk)
  have ab1:∀k,k∈(d::m::(A.flatMap PkE.own++B.flatMap PkE.own))->k∈d::fp:=λk hk=>by rw[h6,e1,jh];have:=((lp d m A B x.own).mem_iff (a:=k)).2 (abr _ hk);exact this
  have hA:∀y,y∈A∨y∈B->∀k∈y.own,k∈(d::m::(A.flatMap PkE.own++B.flatMap PkE.own)):=λy hy k hk=>by
   refine aal _ (aal _ (List.mem_append.2 ?_));rcases hy with hy|hy
   ·exact .inl (List.mem_flatMap.2 ⟨y,hy,hk⟩)
   ·exact .inr (List.mem_flatMap.2 ⟨y,hy,hk⟩)
  refine⟨_,fp,rfl,⟨m,lf,L,es, ?_, ?_,h3,h4,λy hy=>?_,h6,h7,h8,λhL=>absurd hx (by rw[hL];exact aaS)⟩,⟨rfl,rfl,rfl,by simp,λk hk o7=>hold k hk (λe=>o7 (e▸hfm)),λx hx=>.inl hx⟩,λρ'=>.sI .i64 0⟩
  ·exact(hold d (c9 d aan) (m7 d (.inr aan))).trans h1
  ·exact eJ h2 (hold m (c9 m O') (m7 m (.inr (aal _ aan))))
  ·have hy':y∈A∨y=x∨y∈B:=by rw[e1] at hy;simpa using hy
   rcases hy' with hy'|rfl|hy'
   ·exact(h5 y hy).keep λk hk=>hold k (c9 k (ab1 k (hA y (.inl hy') k hk))) (m7 k (.inr (hA y (.inl hy') k hk)))
   ·refine⟨v,xs,_,hxf,⟨q3.1, ?_⟩,q4⟩;rcases q3.2 with hn|⟨g,cp,sb,rfl,hb,hg,rest⟩
    ·exact .inl hn
    ·have Q':y.bk=some g:=by rw[←q4];rfl
     have hgm:g∈d::fp:=by rw[h6];exact aal _ (aal _ (List.mem_flatMap.2 ⟨y,hx,aal _ (by rw[Q'];exact List.mem_singleton.2 rfl)⟩))
     exact .inr ⟨g,cp,sb,rfl,hb,(hold g (c9 g hgm) (m7 g (.inl (by rw[Q'];exact List.mem_singleton.2 rfl)))).trans hg,rest⟩
   ·exact(h5 y hy).keep λk hk=>hold k (c9 k (ab1 k (hA y (.inr hy') k hk))) (m7 k (.inr (hA y (.inr hy') k hk)))
 ·rw[←hs,h4] at his;obtain⟨x,hx,e⟩:=HT.1 his;exact absurd e (o7 x hx)
def qr(x:Lit×DataW Unit):∀l:List (Lit×DataW Unit),(DataW.insert x l).Perm (x::l)
 | []=>.refl _
 |y::l=>by
  unfold DataW.insert;split
  ·exact .refl _
  ·exact((qr x l).cons y).trans (.swap _ _ _)
def Ke:Ok Tryz.prog 132 tZ:=by
 refine RK (k:=1) (C:=qA lQ) (S:=tZ) (al:=[.c (.s 5),.c (.vb 6)]) (lJ lQ) (λz=>gc (z.s 5) (z.s 6).length (z.g 20)) (λ_=>.sI .i64 0) (λz=>[(20,.g (gc (z.s 5) (z.s 6).length (z.g 20))),(30,.i 0)]) rfl rfl rfl (λz h=>⟨rfl,rfl⟩) (λz=>⟨_,rfl,⟨rfl,trivial⟩,rfl⟩) (λargs w=>Tryz.call132 args w) ?_;rintro z ⟨⟨hl1,hl2⟩,hb1,ac2,al1⟩ w ρ d fp vs hfz c9 L' ⟨m,lf,L,es,h1,h2,h3,h4,h5,h6,h7,h8,h9⟩;obtain⟨v1,E',rfl,Jx,hn⟩:=LR.cons_inv (show LR ρ [.sS (z.s 5),.cv (.bytes (z.s 6))] vs from L');obtain⟨v2,E',rfl,Sb,hn⟩:=LR.cons_inv hn;obtain rfl:=LR.nil_inv hn;obtain⟨s,hs,rfl⟩:=PW Jx;obtain⟨bb,off,cp,arr,ty,rfl,hf,T',ag2⟩:=vr_vb Sb hb1;obtain⟨hbn,fr,hbb⟩:=hfz _ _ hf;obtain⟨news,n1,n2,n3⟩:=TK hbb T' ag2;obtain⟨c0,c1,c2⟩:=t_ h1;have hs1:1<=s.size:=by rw[←bV,hs];exact hl1
 have hs2:s.size<=64:=Ew (by rw[hs];exact hl2);have hU:dp (VX w) es=eL (z.g 20):=by rw[PU h3 h5,h4]
 have at9:L.length=(z.g 20).length:=by rw[h4,aaR]
 have hlen:es.length=L.length:=by rw[h3.length_eq,aaR]
 have hfl:∀p∈es,∀b:Nat,p.2= .lit (.int .i64 b)->PkF w b (VX w p.2):=λp hp b hb=>by
  obtain⟨x,hx,rfl⟩:=List.mem_map.1 (h3.mem_iff.1 hp);rw[PT (h5 x hx)];have:(DataW.lit (Lit.int .i64 (x.f:Int)):DataW Unit)= .lit (.int .i64 b):=hb;injection this with this;injection this with _ this;have e:x.f=b:=by omega
  subst e;exact PR (h5 x hx) (by have:=zm hx;rw[←h4] at this;omega)
 have ad2:(dp (VX w) es:Int)+(z.s 6).length<=lQ:=by rw[hU];exact ac2
 have O':m∈d::fp:=by rw[h6];exact aal _ aan
 have ai7:∀k,k∈d::fp↔k=d∨k=m∨∃x∈L,k∈x.own:=λk=>by rw[h6,List.mem_cons,List.mem_cons,List.mem_flatMap]
 have ad9:eL (gc (z.s 5) (z.s 6).length (z.g 20))<=1073741824:=by rw[Cx];omega
 rcases Cy h2 h3 s (by unfold maxLen;omega) with⟨A,x,B,e1,e2,e3,c7⟩|⟨o7,c7⟩
 ·have hx:x∈L:=by rw[e1];simp
  obtain⟨a,cap,v,xs,lt,q1,q2,q3,q4⟩:=zn (h5 x hx);have hxn:x.n+(z.s 6).length<=1073741824:=by have:=zm hx;rw[←h4] at this;omega
  have hP:(d::m::(A.flatMap PkE.own++(x.own++B.flatMap PkE.own))).Nodup:=by rw[←jh, ←e1, ←h6];exact h7
  have hP:=((lp d m A B x.own).nodup_iff).1 hP;obtain⟨hQ1,hQ2⟩:=List.nodup_cons.1 (show(x.f::(x.bk.toList++(d::m::(A.flatMap PkE.own++B.flatMap PkE.own)))).Nodup from hP);have hbk:∀k,k∈(d::m::(A.flatMap PkE.own++B.flatMap PkE.own))->v.ownBlock≠some k:=λk hk e=>by rw[q4] at e;have:=(List.nodup_append.1 hQ2).2.2;exact this k (by rw[e];exact List.mem_singleton.2 rfl) k hk rfl
  have m7:∀k,k∈(d::m::(A.flatMap PkE.own++B.flatMap PkE.own))->k≠x.f:=λk hk e=>hQ1 (e▸abr _ hk);have hvb:v.ownBlock≠some x.f:=λe=>hQ1 (abq _ (by rw[←q4,e];exact List.mem_singleton.2 rfl));have ab1:∀k,k∈(d::m::(A.flatMap PkE.own++B.flatMap PkE.own))->k∈d::fp:=λk hk=>by rw[h6,e1,jh];exact((lp d m A B x.own).mem_iff (a:=k)).2 (abr _ hk)
  have hA:∀y,y∈A∨y∈B->∀k∈y.own,k∈(d::m::(A.flatMap PkE.own++B.flatMap PkE.own)):=λy hy k hk=>by
   refine aal _ (aal _ (List.mem_append.2 ?_));rcases hy with hy|hy
   ·exact .inl (List.mem_flatMap.2 ⟨y,hy,hk⟩)
   ·exact .inr (List.mem_flatMap.2 ⟨y,hy,hk⟩)
  have hfm:x.f∈d::fp:=(ai7 _).2 (.inr (.inr ⟨x,hx,aan⟩));refine(uH d m L.length x.f x.n (z.s 6).length cp lQ es (VX w) s v xs news ⟨bb,off,none⟩ w c0 c1 c2 hs1 hs2 h2 hfl ad2 (by decide) c7 (by rw[cell_of_row _ _ _ _ _ _ q1];rfl) (frozen_of_row _ _ _ _ _ q1) q3 hvb (hbk d aan) (λe=>m7 d aan e.symm) hxn n1 hb1 n2 n3).mono ?_;rintro e w' ⟨rfl,g,ah2,w1,hg,ag9,ae6,rfl⟩;have hold:∀k,k<w.heap.size->v.ownBlock≠some k->k≠x.f->(w1.setCell ⟨x.f,0,none⟩ (.slice (some ⟨g,0,none⟩) (x.n+(z.s 6).length) ah2)).heap[k]? =w.heap[k]? :=λk hk hn2 at3=>by rw[heap_setCell_other _ _ _ _ at3];exact hg.block k hk (λe=>hn2 e.symm)
  have ab3:∀k,k∈(d::m::(A.flatMap PkE.own++B.flatMap PkE.own))->(w1.setCell ⟨x.f,0,none⟩ (.slice (some ⟨g,0,none⟩) (x.n+(z.s 6).length) ah2)).heap[k]? =w.heap[k]? :=λk hk=>hold k (c9 k (ab1 k hk)) (hbk k hk) (m7 k hk);have am7:g<w1.heap.size:=by obtain⟨g',_,hv',_,q9⟩:=ag9.form (by omega);injection hv' with hv';injection hv' with hv';injection hv' with hv';rw[hv'];exact q9
  have hgx:g≠x.f:=λe=>by
   rcases ae6 with h|h
   ·exact hvb (e▸h)
   ·have:=c9 _ hfm;omega
  have hgk:∀k,k∈(d::m::(A.flatMap PkE.own++B.flatMap PkE.own))->g≠k:=λk hk e=>by
   rcases ae6 with h|h
   ·exact hbk k hk (e▸h)
   ·have:=c9 _ (ab1 k hk);omega
  have hL':∀y,y∈A++{x with bk:=some g,n:=x.n+(z.s 6).length}::B↔y∈A∨y={x with bk:=some g,n:=x.n+(z.s 6).length}∨y∈B:=λy=>by simp
  refine⟨_,m::(A++{x with bk:=some g,n:=x.n+(z.s 6).length}::B).flatMap PkE.own,rfl,⟨m,lf,A++{x with bk:=some g,n:=x.n+(z.s 6).length}::B,es, ?_, ?_, ?_, ?_,λy hy=>?_,rfl, ?_,ad9,λhL=>absurd hL (by simp)⟩,⟨hg.os,hg.tape,hg.output,by simpa using hg.size,λk hk o7=>hold k hk (λe=>o7 ?_) (λe=>o7 (e▸hfm)),λk hk=>?_⟩,λρ'=>.sI .i64 0⟩
  ·exact(ab3 d aan).trans h1
  ·have:(A++{x with bk:=some g,n:=x.n+(z.s 6).length}::B).length=L.length:=by rw[e1];simp
   rw[this];exact eJ h2 (ab3 m (aal _ aan))
  ·rw[e1] at h3;simpa [PkE.ent] using h3
  ·rw[h4,e1, ←hs, ←e2];exact Yr (λy hy=>by rw[e2];exact e3 y hy) _
  ·rcases(hL' y).1 hy with hy|rfl|hy
   ·exact(h5 y (by rw[e1];simp [hy])).keep λk hk=>ab3 k (hA y (.inl hy) k hk)
   ·refine⟨.slice (some ⟨g,0,none⟩) (x.n+(z.s 6).length) ah2,xs++news,lt,heap_setCell_same w1 x.f 0 #[v,.int .u32 lt] _ _ ((hg.block x.f (c9 _ hfm) (λe=>hvb e.symm)).trans q1),ag9.kept (iE w1 x.f 0 _) (.inr (λe=>hgx (by injection e))),rfl⟩
   ·exact(h5 y (by rw[e1];simp [hy])).keep λk hk=>ab3 k (hA y (.inr hy) k hk)
  ·have hp:=lp d m A B ({x with bk:=some g,n:=x.n+(z.s 6).length}:PkE).own;rw[jh];refine hp.nodup_iff.2 (List.nodup_cons.2 ⟨λhm=>?_,List.nodup_cons.2 ⟨λhm=>hgk g hm rfl,(List.nodup_append.1 hQ2).2.1⟩⟩);rcases List.mem_cons.1 hm with h|h
   ·exact hgx h.symm
   ·exact m7 _ h rfl
  ·rw[q4] at e;exact(ai7 _).2 (.inr (.inr ⟨x,hx,aal _ (by rw[e];exact List.mem_singleton.2 rfl)⟩))
  ·rcases List.mem_cons.1 hk with rfl|hk
   ·rw[h6];exact .inl aan
   ·obtain⟨y,hy,hky⟩:=List.mem_flatMap.1 hk;have qY:∀y∈L,∀k∈y.own,k∈fp:=λy hy k hk=>by rw[h6];exact aal _ (List.mem_flatMap.2 ⟨y,hy,hk⟩)
    rcases(hL' y).1 hy with hy|rfl|hy
    ·exact .inl (qY y (by rw[e1];simp [hy]) k hky)
    ·rcases List.mem_cons.1 hky with rfl|hky
     ·exact .inl (qY x hx _ aan)
     ·obtain rfl:=List.mem_singleton.1 hky;rcases ae6 with h|h
      ·rw[q4] at h;exact .inl (qY x hx _ (aal _ (by rw[h];exact List.mem_singleton.2 rfl)))
      ·exact .inr ⟨h,by simpa using am7⟩
    ·exact .inl (qY y (by rw[e1];simp [hy]) k hky)
 ·refine(uI d m L.length (z.s 6).length cp lQ es (VX w) s news ⟨bb,off,none⟩ w c0 c1 c2 hs1 hs2 h2 hfl ad2 (by decide) c7 (by omega) (by omega) n1 hb1 n2 n3).mono ?_;rintro e w' ⟨rfl,b,g,ah2,w1,hg,hb,hgb,hbg,am5,ag9,ak4,aq1,rfl⟩;have am7:g<w1.heap.size:=by obtain⟨g',_,hv',_,q9⟩:=ak4.form (by omega);injection hv' with hv';injection hv' with hv';injection hv' with hv';rw[hv'];exact q9
  have ab3:∀k,k<w.heap.size->k≠m->(w1.setCell ⟨b,0,none⟩ (.slice (some ⟨g,0,none⟩) (z.s 6).length ah2)).heap[k]? =w.heap[k]? :=λk hk m7=>by rw[heap_setCell_other _ _ _ _ (show k≠b by omega)];exact hg.block k hk (λe=>m7 (Option.some.inj e))
  obtain⟨hdm,hnd⟩:=List.nodup_cons.1 h7;have hdm:d≠m:=λe=>hdm (by rw[h6,e];exact aan);rw[h6] at hnd;obtain⟨hm1,hnd⟩:=List.nodup_cons.1 hnd;have av3:∀k∈d::fp,k<w.heap.size:=c9;refine⟨_,m::(L++ [(⟨s,b,some g,(z.s 6).length⟩:PkE)]).flatMap PkE.own,rfl,⟨m,lf,L++ [(⟨s,b,some g,(z.s 6).length⟩:PkE)],DataW.insert (.string s.data.toList,.lit (.int .i64 b)) (es.filter λp=>!p.1.sameKey (.string s.data.toList)), ?_, ?_, ?_, ?_,λy hy=>?_,rfl, ?_,ad9,λhL=>absurd hL (by simp)⟩,⟨hg.os,hg.tape,hg.output,by simpa using hg.size,λk hk o7=>ab3 k hk (λe=>o7 (e▸O')),λk hk=>?_⟩,λρ'=>.sI .i64 0⟩
  ·exact(ab3 d (c9 d aan) hdm).trans h1
  ·have e:(L++ [(⟨s,b,some g,(z.s 6).length⟩:PkE)]).length=L.length+1:=by simp
   rw[e];exact ag9.kept (iE w1 b 0 _) (λe=>by have:=c9 m O';have:=Option.some.inj e;omega)
  ·have at4:es.filter (λp=>!p.1.sameKey (.string s.data.toList))=es:=List.filter_eq_self.2 λp hp=>by obtain⟨x,hx,rfl⟩:=List.mem_map.1 (h3.mem_iff.1 hp);have:x.ent.1.sameKey (.string s.data.toList)=false:=Maps.sameKey_ne λe=>o7 x hx (PQ.1 e);rw[this];rfl
   rw[at4,List.map_append];exact((qr _ _).trans (h3.cons _)).trans (List.perm_append_comm (l₁:=[(⟨s,b,some g,(z.s 6).length⟩:PkE).ent]))
  ·rw[h4, ←hs,Yq o7,List.map_append];rfl
  ·rcases List.mem_append.1 hy with hy|hy
   ·refine(h5 y hy).keep λk hk=>ab3 k (c9 k ((ai7 k).2 (.inr (.inr ⟨y,hy,hk⟩)))) (λe=>hm1 (e▸List.mem_flatMap.2 ⟨y,hy,hk⟩))
   ·obtain rfl:=List.mem_singleton.1 hy;exact⟨.slice (some ⟨g,0,none⟩) (z.s 6).length ah2,news,0,heap_setCell_same w1 b 0 #[.slice none 0 0,.int .u32 0] _ _ aq1,ak4.kept (iE w1 b 0 _) (.inr (λe=>hbg (by injection e with e;exact e.symm))),rfl⟩
  ·have e:(d::m::(L++ [(⟨s,b,some g,(z.s 6).length⟩:PkE)]).flatMap PkE.own)=(d::fp)++ [b,g]:=by rw[h6];simp [PkE.own]
   rw[e];refine List.nodup_append.2 ⟨h7,by simp [hbg],λk hk k' hk'=>?_⟩;have:=c9 k hk;rcases List.mem_cons.1 hk' with rfl|hk'
   ·omega
   ·obtain rfl:=List.mem_singleton.1 hk';omega
  ·have e:m::(L++ [(⟨s,b,some g,(z.s 6).length⟩:PkE)]).flatMap PkE.own=fp++ [b,g]:=by rw[h6];simp [PkE.own]
   rw[e] at hk;rcases List.mem_append.1 hk with hk|hk
   ·exact .inl hk
   ·right;rw[World.size_setCell];rcases List.mem_cons.1 hk with rfl|hk
    ·exact⟨hb,am5⟩
    ·obtain rfl:=List.mem_singleton.1 hk;exact⟨hgb,am7⟩
def Ys:Ok Tryz.prog 15 PV:=by
 refine Z2 (k:=1) (C:=qA lQ) (S:=PV) (lJ lQ) (λz=>[]) (λ_=>.tup [.ptr (base+64) 0 0,.sI .i64 0]) (λz=>[(20,.g []),(30,.i 0)]) rfl rfl (λz h=>⟨rfl,rfl⟩) (λz=>⟨_,rfl,⟨rfl,trivial⟩,rfl⟩) (λargs w=>Tryz.call15 args w) ?_;rintro z hz w ρ vs L';obtain⟨v1,E',rfl,Jx,hn⟩:=LR.cons_inv (show LR ρ [.sI .i64 (z.i 1)] vs from L');obtain rfl:=LR.nil_inv hn;obtain rfl:=V1 Jx;have hz:z.i 1=4194304:=hz;rw[hz];refine(Yp 4194304 w (by decide) (by decide)).mono ?_;rintro e w' ⟨rfl,rfl⟩;have e1:((w.alloc (.map #[] 0)).alloc (.cells #[.int .i64 4194304,.map (some w.heap.size),.bool false,.int .i64 0] 112)).heap[w.heap.size+1]? =some (.cells #[.int .i64 4194304,.map (some w.heap.size),.bool false,.int .i64 0] 112):=by have:=heap_alloc_new (w.alloc (.map #[] 0)) (.cells #[.int .i64 4194304,.map (some w.heap.size),.bool false,.int .i64 0] 112);simpa using this
 refine⟨_,w.heap.size+1,[w.heap.size],rfl,⟨w.heap.size,0,[],[],e1,(World.ownsMap_made w _ _ _).alloc _,.refl _,rfl,λx h=>absurd h aaS,rfl,by simp,by simp [eL],λ_=>(heap_alloc_old _ _ (by simp)).trans (heap_alloc_new w _)⟩,((RowKit.Below.refl _ _).alloc (aac _) _).alloc (by simp) _,λx hx=>?_,λρ' hρ=>.tup _ _ rfl ?_⟩
 ·simp at hx⊢;omega
 ·exact(LR.arr (cs:= #[.pointer (some ⟨w.heap.size+1,0,none⟩),.int .i64 0]) (LR.cons (.ptr _ _ _ _ hρ (aac _)) (LR.cons (.sI .i64 0) (LR.nil _)))).2
def Cz{nm:List Nat}{l:List G}(h:iD nm l):∃r∈l,gS (aa r 0)=nm:=h
def zo:eL []=0:=rfl
attribute [irreducible] qA eL iD gc
end
open Go.Sym
noncomputable section
def na(l:List G):G:=@ite _ (l.length=0) (Classical.propDecidable _) hZ (hX (aa (aq l (((l.length:Nat):Int)-1).toNat) 0))
def HU{l:List G}(h:l.length=0):na l=hZ:=if_pos h
def PX{l:List G}(h:¬l.length=0):na l=hX (aa (aq l (((l.length:Nat):Int)-1).toNat) 0):=if_neg h
def zp{l:List G}(h:RowsOk l):HOk (na l):=by
 by_cases e:l.length=0
 ·rw[HU e];exact fy
 ·rw[PX e];exact h.at (by omega) (by omega)
def PY(k:Int)(n:Nat)(l:List G):Prop:=(∀r∈l,gS (aa r 0)=fF∨∃i:Int,0<=i/\i<k/\gS (aa r 0)=cW i)/\(l.length:Int)<=2 * k/\eL l<=n
def TN:PY 0 0 []:=⟨λr h=>absurd h aaS,by simp,by rw[zo];exact aac _⟩
def TO{k:Int}{n:Nat}{l:List G}(h:PY k n l)(h0:0<=k)(h1:k<100):¬iD (cW k) l:=λhs=>by
 obtain⟨r,hr,e⟩:=Cz hs;rcases h.1 r hr with h2|⟨i,i0,ik,h2⟩
 ·exact OL k (e.symm.trans h2)
 ·have:=G9 h0 i0 h1 (by omega) (e.symm.trans h2);omega
def HV{k:Int}{n:Nat}{l:List G}(h:PY k n l):(l.length:Int)<=2 * k/\eL l<=n:=h.2
def PZ{k:Int}{n m:Nat}{l:List G}(h:PY k n l)(h0:0<=k):(∀r∈gc (cW k) m l,gS (aa r 0)=fF∨∃i:Int,0<=i/\i<k+1/\gS (aa r 0)=cW i)/\((gc (cW k) m l).length:Int)<=2 * k+1/\eL (gc (cW k) m l)<=n+m:=by
 obtain⟨h1,h2,h3⟩:=h;have:=rl (cW k) m l;refine⟨λr hr=>?_,by omega,by rw[Cx];omega⟩;rcases(rm (cW k) m l).2 r hr with h|⟨r',hr',e'⟩
 ·exact .inr ⟨k,h0,by omega,h⟩
 ·rcases h1 r' hr' with h|⟨i,i0,ik,h⟩
  ·exact .inl (e'.symm.trans h)
  ·exact .inr ⟨i,i0,by omega,e'.symm.trans h⟩
def HW{k:Int}{n m:Nat}{l:List G}(h1:∀r∈l,gS (aa r 0)=fF∨∃i:Int,0<=i/\i<k+1/\gS (aa r 0)=cW i)(h2:(l.length:Int)<=2 * k+1)(h3:eL l<=n):PY (k+1) (n+m) (gc fF m l):=by
 have:=rl fF m l;refine⟨λr hr=>?_,by omega,by rw[Cx];omega⟩;rcases(rm fF m l).2 r hr with h|⟨r',hr',e'⟩
 ·exact .inl h
 ·rcases h1 r' hr' with h|⟨i,i0,ik,h⟩
  ·exact .inl (e'.symm.trans h)
  ·exact .inr ⟨i,i0,ik,e'.symm.trans h⟩
def P0{k:Int}{n a b:Nat}{l:List G}(h:PY k n l)(h0:0<=k):PY (k+1) (n+a+b) (gc fF b (gc (cW k) a l)):=by obtain⟨q1,q2,q3⟩:=PZ (m:=a) h h0;exact HW q1 q2 q3
def TP{k:Int}{n b:Nat}{l:List G}(h:PY k n l)(h0:0<=k):PY (k+1) (n+b) (gc fF b l):=by
 obtain⟨h1,h2,h3⟩:=h;refine HW (λr hr=>?_) (by omega) h3;rcases h1 r hr with h|⟨i,i0,ik,h⟩
 ·exact .inl h
 ·exact .inr ⟨i,i0,by omega,h⟩
def Ex(nm:List Nat)(n:Nat)(l:List G):iD nm (gc nm n l):=(rm nm n l).1
def zq(nm:List Nat)(n:Nat)(l:List G):eL (gc nm n l)=eL l+n/\(gc nm n l).length<=l.length+1:=⟨Cx nm n l,rl nm n l⟩
def wM:FSpec:=⟨[.c (.p 0),.c (.s 5)],Et,λz=>¬iD (z.s 5) (z.g 20)/\(z.s 5).length<=64,λ_=>.one (.c (.i .i64 30)),λ_=>Et,λz y=>y.g 20=z.g 20/\y.i 30=0,none⟩
def P1:FSpec:=⟨[.c (.p 0),.c (.s 5),.c (.vb 6)],Et,λz=>¬iD (z.s 5) (z.g 20)/\(1<=(z.s 5).length/\(z.s 5).length<=64)/\(z.s 6).length<=524288/\(eL (z.g 20):Int)+(z.s 6).length+12<=4194304/\(z.g 20).length<4000,λ_=>.one (.c (.i .i64 30)),λ_=>Et,λz y=>y.g 20=gc (z.s 5) ((z.s 6).length+12) (z.g 20)/\y.i 30=0,none⟩
def P2:FSpec:=⟨[.cp [.o,.v 11 31,.v 6 32,.o]],[],λz=>RowsOk (z.g 32)/\(z.g 32).length<=1000,λ_=>.one (.ag (hs 300)),λ_=>[],λz y=>hT y 300=na (z.g 32),none⟩
end
set_option maxHeartbeats 4000000
def Yt:bj 15 PV:=Ys
def HX:bj 79 Eu:=TL
def wN:bj 132 tZ:=Ke
def HY:bj 82 Ev:=TM
def hv20(z:Sy):=λh h0 hi=>@RowsOk.at (z.g 32) h (((z.g 32).length:Int)-1) h0 hi
def HZ:bj 19 P2:=bB 4 33 eN lN λz hA=>show Fm.den (let v0:=(↑(z.g 32).length:Int);(.two (v0=0) (.ax (hZ=na (z.g 32))) (.an ((-9223372036854775808)<=v0-1/\v0-1<=9223372036854775807) (.an (yq v0) (.ax (hX (aQ (aL (z.g 32) (v0-1)))=na (z.g 32))))))) by
 dsimp only [P2,hs] at hA;have:=@HU (z.g 32);have:=@PX (z.g 32);have:=hv20 z;conv=>zeta
 repeat' with_reducible first|intro _|apply cd|apply ck|apply cg|apply cE|apply cr
 all_goals first|omega|grind [ao,ak,aj,aT,aU,aV,aW,aX,aY,aZ,a_,ba,aC,List.append_assoc,dI]
abbrev mU(a:List G):=qA lQ a=qA lQ a/\True
def EA:bj 136 wM:=bB 2 2 (ai HX eN) lN λz hA=>show Fm.den ((.cl ((mU (z.g 20))) (¬iD (z.s 5) (z.g 20)/\(z.s 5).length<=64) (λy0=>y0.g 20=z.g 20/\y0.i 30=7) λy0=>(.an (y0.i 30≠0) (.an (mU (y0.g 20)) (.at (y0.g 20=z.g 20/\(0:Int)=0)))))) by
 dsimp only [wM,Et] at hA;repeat' with_reducible first|intro _|apply cd|apply ck|apply cg|apply cE|apply cr
 all_goals first|omega|grind [ao,ak,aj,aT,aU,aV,aW,aX,aY,aZ,a_,ba,aC,List.append_assoc,dI]
abbrev H0(a:List Nat):=1<=a.length/\a.length<=64
abbrev H1(a:Prop)(b:List Nat)(c d:Int)(e:List G):=a/\1<=b.length/\c+d<=4194304/\e.length<4000
def TR:bj 129 P1:=bB 4 63 (ai EA (ai wE (ai wN (ai HY eN)))) lN λz hA=>show Fm.den ((.cl ((mU (z.g 20))) (¬iD (z.s 5) (z.g 20)/\(z.s 5).length<=64) (λy0=>y0.g 20=z.g 20/\y0.i 30=0) λy0=>(.an (¬(y0.i 30≠0)) (Tc (z.s 6) λy1=>(.an (¬(y1.i 50≠0)) (.cl ((mU (y0.g 20))) (H1 (H0 (z.s 5)) (y1.s 10) (↑(eL (y0.g 20)):Int) (↑(y1.s 10).length:Int) (y0.g 20)) (λy2=>y2.g 20=gc (z.s 5) (y1.s 10).length (y0.g 20)/\y2.i 30=0) λy2=>(.an (¬(y2.i 30≠0)) (.cl ((mU (y2.g 20))) (iD (z.s 5) (y2.g 20)/\1<=(z.s 5).length/\(z.s 5).length<=64) (λy3=>y3.g 20=y2.g 20/\y3.i 30=0) λy3=>(.an (mU (y3.g 20)) (.at (y3.g 20=gc (z.s 5) ((z.s 6).length+12) (z.g 20)/\y3.i 30=0))))))))))) by
 dsimp only [P1,Et] at hA;have:=Ex (z.s 5) ((z.s 6).length+12) (z.g 20);have:=dI (z.s 6);repeat' with_reducible first|intro _|apply cd|apply ck|apply cg|apply cE|apply cr
 all_goals first|omega|grind [ao,ak,aj,aT,aU,aV,aW,aX,aY,aZ,a_,ba,aC,List.append_assoc,dI]
noncomputable section
def nb(es:List G):Nat:=(gg True es 0).length+(gj es 0).length+96
def lR(k t n:Int)(pv:G)(es:List G):G:=.node [.int k,.int t,.int n,pv,.node es]
def P5(k t n:Int)(pv:G)(es:List G):lR k t n pv es= .node [.int k,.int t,.int n,pv,.node es]:=rfl
def pN(l:List G)(t:Int):Prop:=0<l.length->gI (aa (aq l (((l.length:Nat):Int)-1).toNat) 1)<=t
def V2{l:List G}{t:Int}(h:pN l t)(hl:0<l.length):gI (aa (aq l (((l.length:Nat):Int)-1).toNat) 1)<=t:=h hl
def Yu(t:Int):pN [] t:=λh=>by simp at h
def Yv{l:List G}{k t n u:Int}{pv:G}{es:List G}(h:t<=u):pN (l++ [lR k t n pv es]) u:=λ_=>by
 have e:(((l++ [lR k t n pv es]).length:Nat):Int)-1=l.length:=by simp
 rw[e,tT rfl];exact h
def TS{l:List G}{t u:Int}(h:pN l t)(hu:t<=u):pN l u:=λhl=>Int.le_trans (h hl) hu
def oL{es:List G}{k t n:Int}{pv:G}(h:dT es)(hp:HOk pv)(hk:k<9223372036854775808)(ht:t<9223372036854775808)(hn:n<9223372036854775808)(hb:bw k t n pv es=0):
 jN es/\(mY False k t n pv es).length<=262144/\(gj es 0).length<=270000/\(gj es 0).length+(mY False k t n pv es).length+24<=nb es/\1<=es.length:=by
 obtain⟨h1,h2,h3⟩:=fm hb
 have h1:(0<=k/\k<=2147483648)/\(0<=t/\t<=9007199254740992)/\(0<=n/\n<=9007199254740992)/\1<=es.length/\es.length<=200:=by unfold yd at h1;exact h1
 have h4:=h1.2.2.2.2
 have a:=ri h4 es.length 0 (by omega) (by omega)
 have b:=Pj es
 have c:=ij hp hk ht hn
 have d:=fC (n:=es.length) (by omega)
 unfold mY at h3⊢
 simp only [aai] at h3⊢
 unfold nb
 exact⟨⟨h2,tU h,h4⟩,by omega,by omega,by omega,h1.2.2.2.1⟩
def qB(k:Int)(l:List G):Prop:=Ho k (cj l) l
def TU:qB 0 []:=by unfold qB;rw[yK];exact Td
def P6{k:Int}{n:Nat}{l:List G}(h:Ho k n l):qB k l:=by unfold qB Ho at *;exact⟨h.1,h.2.1,aac _⟩
def zr{k:Int}{n:Nat}{l:List G}(h:Ho k n l):(l.length:Int)<=2 * k/\cj l<=n:=by unfold Ho at h;exact h.2
def TV{k:Int}{l:List G}(h:qB k l)(h0:0<=k)(h1:k<100)(b r:List Nat)(hr:cj l+b.length+r.length<=1000000):
 (¬bW (cW k) l/\l.length<=200)/\dn 4194304 (cW k) b.length l/\bW (cW k) (ga (cW k) b l)/\((ga (cW k) b l).length<=300/\cj (ga (cW k) b l)<=1000000)/\
  ((mf (cW k) (ga (cW k) b l)).length<=300/\cj (mf (cW k) (ga (cW k) b l))<=1000000)/\dn 4194304 fF r.length (mf (cW k) (ga (cW k) b l))/\
  bW fF (ga fF r (mf (cW k) (ga (cW k) b l)))/\((ga fF r (mf (cW k) (ga (cW k) b l))).length<=300/\cj (ga fF r (mf (cW k) (ga (cW k) b l)))<=1000000)/\qB (k+1) (mf fF (ga fF r (mf (cW k) (ga (cW k) b l))))/\cj (mf fF (ga fF r (mf (cW k) (ga (cW k) b l))))<=cj l+b.length+r.length:=by
 have hk:Ho k (cj l) l:=h
 have hl:=zr hk
 obtain⟨q1,q2,q3,q4⟩:=O4 (b:=b) hk h0
 have f1:=Hq (nm:=cW k) (b:=b) (room:=4194304) hk h1 (by omega)
 obtain⟨a1,a2,a3,_⟩:=jg (cW k) b l
 obtain⟨s1,s2,s3⟩:=pJ _ _ q1
 obtain⟨r1,r2⟩:=Hr (b:=r) q2 q3 q4
 obtain⟨c1,c2,c3,_⟩:=jg fF r (mf (cW k) (ga (cW k) b l))
 have hk2:=zr r2
 refine⟨⟨Te hk h0 h1,by omega⟩,f1,q1,⟨by omega,by omega⟩,⟨by omega,by omega⟩, ?_,r1,⟨by omega,by omega⟩,P6 r2,by omega⟩
 unfold dn
 exact⟨by omega,.inr (by omega)⟩
def TW{k:Int}{l:List G}(h:qB k l)(h0:0<=k)(h1:k<100)(r:List Nat)(hr:cj l+r.length<=1000000):
 l.length<=200/\dn 4194304 fF r.length l/\bW fF (ga fF r l)/\((ga fF r l).length<=300/\cj (ga fF r l)<=1000000)/\qB (k+1) (mf fF (ga fF r l))/\cj (mf fF (ga fF r l))<=cj l+r.length:=by
 have hk:Ho k (cj l) l:=h
 have hl:=zr hk
 have f1:=Hq (nm:=fF) (b:=r) (room:=4194304) hk h1 (by omega)
 have hn:∀r∈l,gS (aa r 0)=fF∨∃i:Int,0<=i/\i<k+1/\gS (aa r 0)=cW i:=λr hr=>by
  have hk:=hk;unfold Ho at hk;rcases hk.1 r hr with h|⟨i,i0,ik,h⟩
  ·exact .inl h
  ·exact .inr ⟨i,i0,by omega,h⟩
 obtain⟨r1,r2⟩:=Hr (k:=k) (n:=cj l) (b:=r) hn (by omega) (aac _)
 obtain⟨c1,c2,c3,_⟩:=jg fF r l
 have hk2:=zr r2
 exact⟨by omega,f1,r1,⟨by omega,by omega⟩,P6 r2,by omega⟩
def H3(p:Sy):LSpec:=⟨[(3,.c (.p 0)),(7,.c (.i .i64 9))],[.cells 79 (mZ p)],λz=>dT (p.g 24)/\(0<=z.i 9/\z.i 9<=(p.g 24).length)/\(p.g 24).length<=1000000,λz=>((p.g 24).length-z.i 9).toNat,[⟨.exit 0,[],[.cells 79 (mZ p)]⟩],λz y=>True,none,[]⟩
def Kf(z:Sy):Prop:=RowsOk (z.g 32)/\(z.g 31).length=(z.g 32).length/\(z.g 31).length<=60/\z.i 21=(z.g 31).length/\hT z 200=na (z.g 32)/\pN (z.g 31) (z.i 22)
def V3:FSpec:=⟨[.cp [.o,.v 11 31,.v 6 32,.o],.ag bk],[],λz=>Kf z/\CJ z/\dT (z.g 24),λ_=>.one (.c (.i .i64 50)),λ_=>[],λz y=>y.i 50=bw (z.i 21) (z.i 22) (z.i 23) (hT z 200) (z.g 24),none⟩
def H4(p:Sy):LSpec:=⟨[(3,.c (.p 0)),(7,.c (.i .i64 9))],[.cells 79 (mZ p)],λz=>dT (p.g 24)/\(0<=z.i 9/\z.i 9<=(p.g 24).length)/\(p.g 24).length<=1000000,λz=>((p.g 24).length-z.i 9).toNat,[⟨.exit 0,[],[.cells 79 (mZ p)]⟩],λz y=>True,none,[0,6]⟩
def Zp:List BSh:=[.cells 75 [.p 1,.g 2 36 31,.g 3 32 32,.pb False],.cells 121 [.i .i64 1,.g 4 3 20,.i .i64 2],.grow 11 79 31,.grow 6 28 32,.grow 12 191 20]
def H5(p:Sy):LSpec:=⟨[(0,.c (.p 0)),(6,.c (.m 5)),(14,.c (.i .i64 9))],Zp++ [.sm 5 35],λz=>(0<=z.i 9/\z.i 9<=(z.g 31).length)/\(z.g 31).length<=60/\z.g 35= [],λz=>((z.g 31).length-z.i 9).toNat,[⟨.exit 2,[(0,.c (.p 0)),(6,.c (.m 5))],Zp++ [.sm 5 35]⟩],λz y=>y.g 31=z.g 31/\y.g 32=z.g 32/\y.g 20=z.g 20/\y.i 1=z.i 1/\y.i 2=z.i 2/\y.g 35= [],none,[13]⟩
def P7:FSpec:=⟨[.c (.p 0),.ag bk],Zp,λz=>Kf z/\CJ z/\dT (z.g 24)/\(z.i 1=4194304/\z.i 2= -1)/\qB (z.i 21) (z.g 20)/\(tz z=0->cj (z.g 20)+nb (z.g 24)<=1000000),λ_=>.one (.c (.i .i64 50)),λ_=>Zp,λz y=>y.i 50=tz z/\(y.i 1=4194304/\y.i 2= -1)/\(tz z=0->y.g 31=z.g 31++ [lR (z.i 21) (z.i 22) (z.i 23) (hT z 200) (z.g 24)]/\y.g 32=z.g 32++ [.node [jY (z.i 21) (z.i 22) (z.i 23) (hT z 200) (z.g 24)]]/\qB (z.i 21+1) (y.g 20)/\cj (y.g 20)<=cj (z.g 20)+nb (z.g 24))/\(¬tz z=0->y.g 31=z.g 31/\y.g 32=z.g 32/\y.g 20=z.g 20),none⟩
def rp{P:Program}{f:Nat}{S:FSpec}(am8:Sy->Prop)(af5:Sy->Sy->Prop)(hp:∀z,am8 z->S.pre z)(h:∀z y,am8 z->S.post z y->af5 z y)(hS:Ok P f S):Ok P f {S with pre:=am8,post:=af5}:=by obtain⟨zf,hc⟩:=hS;exact⟨λz=>⟨(zf z).1,λhz=>h z _ hz ((zf z).2 (hp z hz))⟩,λz hz=>hc z (hp z hz)⟩
def H6:FSpec:={yP with pre:=λz=>oB z/\¬bW (z.s 5) (z.g 20),post:=λz y=>y.g 20=z.g 20/\yN z y/\y.i 30=7}
def P8(h:Ok Tryz.prog 43 yP):Ok Tryz.prog 43 H6:=rp (λz=>oB z/\¬bW (z.s 5) (z.g 20)) _ (λz h=>h.1) (λz y h q=>⟨q.1,q.2.1,(q.2.2.2 h.2).1⟩) h
def wO:FSpec:={oC with pre:=λz=>(oB z/\(1<=(z.s 5).length/\(z.s 5).length<=64)/\(z.s 6).length<=1000000)/\dn (z.i 1) (z.s 5) (z.s 6).length (z.g 20),post:=λz y=>yN z y/\y.i 30=0/\y.g 20=ga (z.s 5) (z.s 6) (z.g 20)}
def EB(h:Ok Tryz.prog 118 oC):Ok Tryz.prog 118 wO:=rp (λz=>(oB z/\(1<=(z.s 5).length/\(z.s 5).length<=64)/\(z.s 6).length<=1000000)/\dn (z.i 1) (z.s 5) (z.s 6).length (z.g 20)) _ (λz h=>h.1) (λz y h q=>⟨q.1,q.2.1 h.2⟩) h
def H7:FSpec:={yO with pre:=λz=>(oB z/\(1<=(z.s 5).length/\(z.s 5).length<=64))/\bW (z.s 5) (z.g 20),post:=λz y=>yN z y/\y.i 30=0/\y.g 20=mf (z.s 5) (z.g 20)}
def P9(h:Ok Tryz.prog 46 yO):Ok Tryz.prog 46 H7:=rp (λz=>(oB z/\(1<=(z.s 5).length/\(z.s 5).length<=64))/\bW (z.s 5) (z.g 20)) _ (λz h=>h.1) (λz y h q=>⟨q.1,q.2.1 h.2⟩) h
def wP:FSpec:={jd with pre:=λz=>(z.s 1).length<=524288,post:=λz y=>y.i 50=0/\y.s 10=zB (z.s 1)}
def EC(h:Ok Tryz.prog 131 jd):Ok Tryz.prog 131 wP:=rp (λz=>(z.s 1).length<=524288) _ (λz h=>by have h:(z.s 1).length<=524288:=h;show(z.s 1).length<=100000000;omega) (λz y h q=>q.1 h) h
def un(k:Int)(l:List G):Prop:=PY k (eL l) l
def TX:un 0 []:=by unfold un;rw[zo];exact TN
def P_{k:Int}{n:Nat}{l:List G}(h:PY k n l):un k l:=⟨h.1,h.2.1,aac _⟩
def TY{k:Int}{l:List G}(h:un k l)(h0:0<=k)(h1:k<100)(a r:Nat):
 (¬iD (cW k) l/\l.length<=200)/\(eL (gc (cW k) a l)=eL l+a/\(gc (cW k) a l).length<=201)/\iD fF (gc fF r (gc (cW k) a l))/\un (k+1) (gc fF r (gc (cW k) a l))/\eL (gc fF r (gc (cW k) a l))=eL l+a+r:=by
 have hf:=HV h
 have e1:=zq (cW k) a l
 have e2:=zq fF r (gc (cW k) a l)
 exact⟨⟨TO h h0 h1,by omega⟩,⟨e1.1,by omega⟩,Ex _ _ _,P_ (P0 (a:=a) (b:=r) h h0),by omega⟩
def TZ{k:Int}{l:List G}(h:un k l)(h0:0<=k)(h1:k<100)(r:Nat):l.length<=200/\iD fF (gc fF r l)/\un (k+1) (gc fF r l)/\eL (gc fF r l)=eL l+r:=by have hf:=HV h;exact⟨by omega,Ex _ _ _,P_ (TP (b:=r) h h0),(zq fF r l).1⟩
def Yw{n n':Int}{rows n8:List G}{h:G}(ht:BN n rows h n' n8)(hh:HOk h)(hx:dG n rows):dG n' n8:=by unfold dG at hx;obtain⟨L,h1,h2⟩:=hx;exact N7 (GJ ht L h1) (gN h2 hh)
def V4:List BSh:=[.cells 117 [.p 1,.g 2 36 31,.g 3 32 32,.p 4,.m 6,.pb False],.obj 1 (qA lQ) 20,.grow 11 79 31,.grow 6 28 32,.cells 162 [.i .i64 1,.m 5],.sm 0 2,.sm 1 36]
def H8(p:Sy):LSpec:=⟨[(0,.c (.p 0)),(42,.c (.pv 7 (p.g 24))),(43,.c (.pi .i64 (p.g 24).length)),(44,.c (.i .i64 9))],V4,λz=>dT (p.g 24)/\(0<=z.i 9/\z.i 9<=(p.g 24).length)/\(p.g 24).length<=1000000/\(z.g 31).length<=1000000,λz=>((p.g 24).length-z.i 9).toNat,[⟨.exit 0,[(0,.c (.p 0))],V4⟩],λz y=>y.g 31=z.g 31/\y.g 32=z.g 32/\y.g 20=z.g 20/\y.i 1=z.i 1/\y.g 2=z.g 2/\y.g 36=z.g 36,none,[]⟩
def Qa:FSpec:=⟨[.c (.p 0),.ag bk],V4,λz=>Kf z/\CJ z/\dT (z.g 24)/\un (z.i 21) (z.g 20)/\(tz z=0->eL (z.g 20)+nb (z.g 24)<=1000000)/\(0<=z.i 1/\z.i 1<=1000)/\dG (z.i 1) (z.g 2),λ_=>.one (.c (.i .i64 50)),λ_=>V4,λz y=>y.i 50=tz z/\(tz z=0->y.g 31=z.g 31++ [lR (z.i 21) (z.i 22) (z.i 23) (hT z 200) (z.g 24)]/\y.g 32=z.g 32++ [.node [jY (z.i 21) (z.i 22) (z.i 23) (hT z 200) (z.g 24)]]/\un (z.i 21+1) (y.g 20)/\eL (y.g 20)<=eL (z.g 20)+nb (z.g 24)/\y.i 1=z.i 1+1/\dG (y.i 1) (y.g 2))/\(¬tz z=0->y.g 31=z.g 31/\y.g 32=z.g 32/\y.g 20=z.g 20/\y.i 1=z.i 1/\y.g 2=z.g 2),kX⟩
def Qb{m:Nat}{l:List G}{k:List Int}(h:l= []):¬j_ m l k:=by subst h;unfold j_;simp
attribute [irreducible] qB pN nb un
end
def P3:bj 43 H6:=P8 S8
def Ey:bj 118 wO:=EB JV
def P4:bj 46 H7:=P9 S9
def Ez:bj 131 wP:=EC wE
def Qc:bH 51 0 H3:=bG 12 150037 eN lN λp z hA=>show Fm.den (let v0:=(qy (p.g 24) (kg p 200) (ja (p.i 23) (p.i 22) (p.i 21)));let v1:=(yZ (p.g 24) (dF (z.i 9) (p.g 24)));let v2:=(aL (p.g 24) (z.i 9));let v3:=((-9223372036854775808)<=z.i 9+1/\z.i 9+1<=9223372036854775807);let v4:=(↑(p.g 24).length:Int);(.two (bO (z.i 9) (p.g 24)) (.an (bS (z.i 9) (p.g 24)) (.two (gI (aa v2 0)=2) (.two (gI (aa v2 12)=1) .ff (.an (gI (aa v2 0)≠4) (.an v3 (.an v0 (.at (El v1 (v4-(z.i 9+1)) (v4-z.i 9))))))) (.two (gI (aa v2 0)≠4) (.an v3 (.an v0 (.at (El v1 (v4-(z.i 9+1)) (v4-z.i 9))))) .ff))) (.an v0 (.at (True))))) by dsimp only [H3,mZ,uC] at hA;have:=J4 p z;exact cZ
def Yx:bj 51 V3:=bB 68 2722258935348047528044841860678099312639 (jX HZ (ai pE eN)) (aG (ptm:=[(1,.ag bk)]) Qc lN) λz hA=>show Fm.den (let v1:=(hT z 200);let v2:=(¬(z.i 21≠ ↑(z.g 31).length));let v3:=(JG (z.g 24) v1 (z.i 21) (z.i 22) (z.i 23));let v4:=(↑(z.g 31).length:Int);let v0:=(0<v4);let v5:=((qy (z.g 24) (kg z 200) (ja (z.i 23) (z.i 22) (z.i 21))));let v6:=(yZ (z.g 24) (fL (↑(z.g 24).length:Int)));let v7:=((1:Int)=bw (z.i 21) (z.i 22) (z.i 23) v1 (z.g 24));let v8:=((0:Int)=bw (z.i 21) (z.i 22) (z.i 23) v1 (z.g 24));(.an v2 (.an v2 (.an v2 (.an v2 (.ct (RowsOk (z.g 32)/\(z.g 32).length<=1000) (λy0=>hT y0 300=na (z.g 32)) λy0=>(let v9:=(¬kr v1 (hT y0 300));(.an v2 (.an v2 (.two v9 (.an v9 (.an v9 (.an v9 (.an v9 (.an v9 (.an v9 (.an v9 (.an v9 (.ax v7))))))))) (.an (¬v9) (.an (¬v9) (.an (¬v9) (.an (¬v9) (.an (¬v9) (.an (¬v9) (.two v0 (.an v0 (.an v0 (.an v0 (.an v0 (.an v0 (.an v0 (.an v0 (.an v0 (.an v0 (.an v0 (.an v0 (.an ((-9223372036854775808)<=v4-1/\v4-1<=9223372036854775807) (.an v0 (.an (yq v4) (.an v0 (.an v0 (.an v0 (.an (¬v9) (.an v0 (.an (¬v9) (.two (z.i 22<gI (aa (aL (z.g 31) (v4-1)) 1)) (.ax v7) (.ct v3 (λy1=>y1.i 50=bw (z.i 21) (z.i 22) (z.i 23) v1 (z.g 24)) λy1=>(.two (y1.i 50≠0) (.ax (y1.i 50=bw (z.i 21) (z.i 22) (z.i 23) v1 (z.g 24))) (.cl v5 v6 (λy2=>True) λy2=>(.ax v8))))))))))))))))))))))))) (.an (¬v0) (.an (¬v0) (.an (¬v0) (.an (¬v0) (.an (¬v0) (.an (¬v0) (.an (¬v0) (.an (¬v0) (.an (¬v0) (.an (¬v0) (.an (¬v0) (.an (¬v0) (.an (¬v0) (.an (¬v0) (.an (¬v0) (.an (¬v9) (.an (¬v0) (.an (¬v9) (.ct v3 (λy3=>y3.i 50=bw (z.i 21) (z.i 22) (z.i 23) v1 (z.g 24)) λy3=>(.two (y3.i 50≠0) (.ax (y3.i 50=bw (z.i 21) (z.i 22) (z.i 23) v1 (z.g 24))) (.cl v5 v6 (λy4=>True) λy4=>(.ax v8))))))))))))))))))))))))))))))))))))))) by dsimp only [V3,bk,hs,Kf,CJ] at hA;have:=@zp (z.g 32);have:=@V2 (z.g 31) (z.i 22);exact cZ
def Qd:bH 52 0 H4:=bG 20 67824691493 eN lN λp z hA=>show Fm.den (let v0:=(gI (aa (aL (p.g 24) (z.i 9)) 13)<0);let v1:=(qy (p.g 24) (kg p 200) (ja (p.i 23) (p.i 22) (p.i 21)));let v2:=(yZ (p.g 24) (dF (z.i 9) (p.g 24)));let v3:=((-9223372036854775808)<=z.i 9+1/\z.i 9+1<=9223372036854775807);let v4:=(↑(p.g 24).length:Int);let v5:=(bS (z.i 9) (p.g 24));(.two (bO (z.i 9) (p.g 24)) (.an v5 (.an v5 (.two (gI (aQ (aL (p.g 24) (z.i 9)))≠4) (.an v3 (.an v1 (.at (El v2 (v4-(z.i 9+1)) (v4-z.i 9))))) (.two v0 (.an v0 (.an v0 (.an v0 (.an v0 (.an v0 (.an v0 (.an v0 (.an v0 (.an v3 (.an v1 (.at (El v2 (v4-(z.i 9+1)) (v4-z.i 9))))))))))))) (.an (¬v0) (.an (¬v0) (.an (¬v0) .ff))))))) (.an v1 (.at (True))))) by dsimp only [H4,mZ,uC] at hA;have:=J4 p z;exact cZ
abbrev Yy(a b c:List G)(d:Prop):=a.length=a.length/\b.length=b.length/\c.length=c.length/\d/\True
abbrev qt:=False↔False
def Qe:bH 52 2 H5:=bG 6 133 eN lN λp z hA=>show Fm.den (let v0:=(Yy (z.g 31) (z.g 32) (z.g 20) (qt));let v1:=(↑(z.g 31).length:Int);(.two (bO (z.i 9) (z.g 31)) (.two (j_ 5 (z.g 35) [z.i 9]) .ff (.an ((-9223372036854775808)<=z.i 9+1/\z.i 9+1<=9223372036854775807) (.an v0 (.at (((dF (z.i 9) (z.g 31))/\(z.g 31).length<=60/\z.g 35= [])/\(v1-(z.i 9+1)).toNat<(v1-z.i 9).toNat/\∀(y:Sy),y.g 31=z.g 31/\y.g 32=z.g 32/\y.g 20=z.g 20/\y.i 1=z.i 1/\y.i 2=z.i 2/\y.g 35= []->y.g 31=z.g 31/\y.g 32=z.g 32/\y.g 20=z.g 20/\y.i 1=z.i 1/\y.i 2=z.i 2/\y.g 35= []))))) (.an v0 (.at (z.g 31=z.g 31/\z.g 32=z.g 32/\z.g 20=z.g 20/\z.i 1=z.i 1/\z.i 2=z.i 2/\z.g 35= []))))) by dsimp only [H5,Zp] at hA;have:=@Qb 5 (z.g 35) [z.i 9];exact cZ
abbrev Zq(a:Prop)(b c d:Int)(e:G)(f:List G):=Fm.ct a (λy=>y.i 50=bw b c d e f/\(bw b c d e f=(0:Int)->hT y 300=jY b c d e f)/\(¬bw b c d e f=(0:Int)->hT y 300=hZ))
abbrev Kg(a:Prop)(b c d:Int)(e:G)(f:List G)(g:Prop):=Fm.ct a (λy=>y.i 50=bw b c d e f/\(bw b c d e f=(0:Int)->y.s 10=mY g b c d e f)/\(¬bw b c d e f=(0:Int)->y.s 10= []))
abbrev V5(a b:Prop)(c:List G)(d e:Int):=Fm.cl (a) (b/\bW [106,111,117,114,110,97,108] c) (λy=>(y.i 1=d/\y.i 2=e)/\y.i 30=0/\y.g 20=mf [106,111,117,114,110,97,108] c)
abbrev ug:=false=true
abbrev V6(a:Int):=Fm.ct (0<=a/\a<100) (λy=>y.s 10=cW a)
def T0:bj 21 P7:=bB 18 17129536785 (jX Yx (ai X6 (ai DU (ai tP (ai Oe (ai Cg (ai XT (ai P3 (ai Ey (ai P4 eN)))))))))) (aG (ptm:=[(1,.ag bk)]) Qd (aG (ptm:=[]) Qe lN)) λz hA=>show Fm.den (let v2:=(Yy (z.g 31) (z.g 32) (z.g 20) (qt));let v3:=(hT z 200);let v0:=(JG (z.g 24) v3 (z.i 21) (z.i 22) (z.i 23));let v1:=(bw (z.i 21) (z.i 22) (z.i 23) v3 (z.g 24)=(0:Int)->z.g 31=z.g 31++ [lR (z.i 21) (z.i 22) (z.i 23) v3 (z.g 24)]/\z.g 32=z.g 32++ [G.node [jY (z.i 21) (z.i 22) (z.i 23) v3 (z.g 24)]]/\qB (z.i 21+1) (z.g 20)/\cj (z.g 20)<=cj (z.g 20)+nb (z.g 24));let v4:=(oM (z.g 24));let v5:=(¬bw (z.i 21) (z.i 22) (z.i 23) v3 (z.g 24)=(0:Int)->z.g 31=z.g 31/\z.g 32=z.g 32/\z.g 20=z.g 20);let v6:=(z.i 1=4194304/\z.i 2=(-1));let v7:=(gj (z.g 24) 0);(.two (False) (.an v2 (.at ((20:Int)=bw (z.i 21) (z.i 22) (z.i 23) v3 (z.g 24)/\v6/\v1/\v5))) (.an (yQ (z.g 31)) (.an (yQ (z.g 32)) (.ct ((RowsOk (z.g 32)/\(z.g 31).length=(z.g 32).length/\(z.g 31).length<=60/\z.i 21= ↑(z.g 31).length/\hT z 200=na (z.g 32)/\pN (z.g 31) (z.i 22))/\v0/\dT (z.g 24)) (λy0=>y0.i 50=bw (z.i 21) (z.i 22) (z.i 23) v3 (z.g 24)) λy0=>(.two (y0.i 50≠0) (.an v2 (.at (y0.i 50=bw (z.i 21) (z.i 22) (z.i 23) v3 (z.g 24)/\v6/\v1/\v5))) (.cl ((qy (z.g 24) (kg z 200) (ja (z.i 23) (z.i 22) (z.i 21)))) (yZ (z.g 24) (fL (↑(z.g 24).length:Int))) (λy1=>True) λy1=>(.cl (v2) ((fL (↑(z.g 31).length:Int))/\(z.g 31).length<=60/\M3) (λy2=>y2.g 31=z.g 31/\y2.g 32=z.g 32/\y2.g 20=z.g 20/\y2.i 1=z.i 1/\y2.i 2=z.i 2/\y2.g 35= []) λy2=>(let v8:=((y2.g 20).length<=5000/\cj (y2.g 20)<=1000000/\0<=y2.i 1/\y2.i 1<=1073741824/\y2.i 2=(-1));let v9:=(ot (y2.g 31));let v10:=(ot (y2.g 32));let v11:=((jb (y2.g 20)));(.ct v4 (λy3=>(y3.p 40↔0<v7.length)/\(v7.length<=524288->y3.s 30=zB v7)/\(y3.s 30).length<=524300) λy3=>(.two (y3.p 40) (V6 (z.i 21) λy4=>(.cl v11 (v8/\¬bW (y4.s 10) (y2.g 20)) (λy5=>y5.g 20=y2.g 20/\(y5.i 1=y2.i 1/\y5.i 2=y2.i 2)/\y5.i 30=7) λy5=>(.an (¬(y5.i 30=0)) (.cl ((jb (y5.g 20))) ((((y5.g 20).length<=5000/\cj (y5.g 20)<=1000000/\0<=y5.i 1/\y5.i 1<=1073741824/\y5.i 2=(-1))/\(H0 (y4.s 10))/\(y3.s 30).length<=1000000)/\dn (y5.i 1) (y4.s 10) (y3.s 30).length (y5.g 20)) (λy6=>(y6.i 1=y5.i 1/\y6.i 2=y5.i 2)/\y6.i 30=0/\y6.g 20=ga (y4.s 10) (y3.s 30) (y5.g 20)) λy6=>(.an (¬(y6.i 30≠0)) (.cl ((jb (y6.g 20))) ((((y6.g 20).length<=5000/\cj (y6.g 20)<=1000000/\0<=y6.i 1/\y6.i 1<=1073741824/\y6.i 2=(-1))/\1<=(y4.s 10).length/\(y4.s 10).length<=64)/\bW (y4.s 10) (y6.g 20)) (λy7=>(y7.i 1=y6.i 1/\y7.i 2=y6.i 2)/\y7.i 30=0/\y7.g 20=mf (y4.s 10) (y6.g 20)) λy7=>(.an (¬(y7.i 30≠0)) (Kg v0 (z.i 21) (z.i 22) (z.i 23) v3 (z.g 24) (ug) λy8=>(Tc (y8.s 10) λy9=>(.cl ((jb (y7.g 20))) ((((y7.g 20).length<=5000/\cj (y7.g 20)<=1000000/\0<=y7.i 1/\y7.i 1<=1073741824/\y7.i 2=(-1))/\(1<=7/\7<=64)/\(y9.s 10).length<=1000000)/\dn (y7.i 1) [106,111,117,114,110,97,108] (y9.s 10).length (y7.g 20)) (λC'=>(C'.i 1=y7.i 1/\C'.i 2=y7.i 2)/\C'.i 30=0/\C'.g 20=ga [106,111,117,114,110,97,108] (y9.s 10) (y7.g 20)) λC'=>(let d7:=(C'.g 20);(.an (¬(C'.i 30≠0)) (V5 (jb d7) ((d7.length<=5000/\cj d7<=1000000/\0<=C'.i 1/\C'.i 1<=1073741824/\C'.i 2=(-1))/\1<=7/\7<=64) d7 (C'.i 1) (C'.i 2) λy11=>(.an (¬(y11.i 30=6)) (.an (¬(y11.i 30=6)) (.an (¬(y11.i 30≠0)) (Zq v0 (z.i 21) (z.i 22) (z.i 23) v3 (z.g 24) λy12=>(.ct v4 (λR'=>R'.i 31=z.i 21/\R'.i 32=z.i 22/\R'.i 33=z.i 23/\hT R' 400=hT z 200/\R'.g 34=ld (z.g 24) 0) λR'=>(.an v9 (.an v10 (.an ((y2.g 31++ [G.node [G.int (R'.i 31),G.int (R'.i 32),G.int (R'.i 33),hT R' 400,G.node (R'.g 34)]]).length=(y2.g 31).length+1/\(y2.g 32++ [G.node [hT y12 300]]).length=(y2.g 32).length+1/\(y11.g 20).length=(y11.g 20).length/\(qt)/\True) (.at ((0:Int)=bw (z.i 21) (z.i 22) (z.i 23) v3 (z.g 24)/\(y11.i 1=4194304/\y11.i 2=(-1))/\(bw (z.i 21) (z.i 22) (z.i 23) v3 (z.g 24)=(0:Int)->y2.g 31++ [G.node [G.int (R'.i 31),G.int (R'.i 32),G.int (R'.i 33),hT R' 400,G.node (R'.g 34)]]=z.g 31++ [lR (z.i 21) (z.i 22) (z.i 23) v3 (z.g 24)]/\y2.g 32++ [G.node [hT y12 300]]=z.g 32++ [G.node [jY (z.i 21) (z.i 22) (z.i 23) v3 (z.g 24)]]/\qB (z.i 21+1) (y11.g 20)/\cj (y11.g 20)<=cj (z.g 20)+nb (z.g 24))/\(¬bw (z.i 21) (z.i 22) (z.i 23) v3 (z.g 24)=(0:Int)->y2.g 31++ [G.node [G.int (R'.i 31),G.int (R'.i 32),G.int (R'.i 33),hT R' 400,G.node (R'.g 34)]]=z.g 31/\y2.g 32++ [G.node [hT y12 300]]=z.g 32/\y11.g 20=z.g 20)))))))))))))))))))))))) (Kg v0 (z.i 21) (z.i 22) (z.i 23) v3 (z.g 24) (ug) λy14=>(Tc (y14.s 10) λy15=>(.cl v11 ((v8/\(1<=7/\7<=64)/\(y15.s 10).length<=1000000)/\dn (y2.i 1) [106,111,117,114,110,97,108] (y15.s 10).length (y2.g 20)) (λy16=>(y16.i 1=y2.i 1/\y16.i 2=y2.i 2)/\y16.i 30=0/\y16.g 20=ga [106,111,117,114,110,97,108] (y15.s 10) (y2.g 20)) λy16=>(let i9:=(y16.g 20);(.an (¬(y16.i 30≠0)) (V5 (jb i9) ((i9.length<=5000/\cj i9<=1000000/\0<=y16.i 1/\y16.i 1<=1073741824/\y16.i 2=(-1))/\1<=7/\7<=64) i9 (y16.i 1) (y16.i 2) λy17=>(.an (¬(y17.i 30=6)) (.an (¬(y17.i 30=6)) (.an (¬(y17.i 30≠0)) (Zq v0 (z.i 21) (z.i 22) (z.i 23) v3 (z.g 24) λy18=>(.ct v4 (λy19=>y19.i 31=z.i 21/\y19.i 32=z.i 22/\y19.i 33=z.i 23/\hT y19 400=hT z 200/\y19.g 34=ld (z.g 24) 0) λy19=>(.an v9 (.an v10 (.an ((y2.g 31++ [G.node [G.int (y19.i 31),G.int (y19.i 32),G.int (y19.i 33),hT y19 400,G.node (y19.g 34)]]).length=(y2.g 31).length+1/\(y2.g 32++ [G.node [hT y18 300]]).length=(y2.g 32).length+1/\(y17.g 20).length=(y17.g 20).length/\(qt)/\True) (.at ((0:Int)=bw (z.i 21) (z.i 22) (z.i 23) v3 (z.g 24)/\(y17.i 1=4194304/\y17.i 2=(-1))/\(bw (z.i 21) (z.i 22) (z.i 23) v3 (z.g 24)=(0:Int)->y2.g 31++ [G.node [G.int (y19.i 31),G.int (y19.i 32),G.int (y19.i 33),hT y19 400,G.node (y19.g 34)]]=z.g 31++ [lR (z.i 21) (z.i 22) (z.i 23) v3 (z.g 24)]/\y2.g 32++ [G.node [hT y18 300]]=z.g 32++ [G.node [jY (z.i 21) (z.i 22) (z.i 23) v3 (z.g 24)]]/\qB (z.i 21+1) (y17.g 20)/\cj (y17.g 20)<=cj (z.g 20)+nb (z.g 24))/\(¬bw (z.i 21) (z.i 22) (z.i 23) v3 (z.g 24)=(0:Int)->y2.g 31++ [G.node [G.int (y19.i 31),G.int (y19.i 32),G.int (y19.i 33),hT y19 400,G.node (y19.g 34)]]=z.g 31/\y2.g 32++ [G.node [hT y18 300]]=z.g 32/\y17.g 20=z.g 20)))))))))))))))))))))))))))) by
 dsimp only [P7,bk,hs,Zp,Kf,CJ,tz] at hA;have:=@oL (z.g 24) (z.i 21) (z.i 22) (z.i 23) (hT z 200);have:=@HC (z.g 24);have:=@Hw (z.g 24);have b8:(false=true)=False:=by simp
 have d2:=λh h0 h1 hr=>@TV (z.i 21) (z.g 20) h h0 h1 (zB (gj (z.g 24) 0)) (zB (mY False (z.i 21) (z.i 22) (z.i 23) (hT z 200) (z.g 24))) hr;have d1:=λh h0 h1 hr=>@TW (z.i 21) (z.g 20) h h0 h1 (zB (mY False (z.i 21) (z.i 22) (z.i 23) (hT z 200) (z.g 24))) hr;have:=yJ (z.i 21);have:=P5 (z.i 21) (z.i 22) (z.i 23) (hT z 200) (z.g 24);have:=dI (gj (z.g 24) 0);have:=dI (mY False (z.i 21) (z.i 22) (z.i 23) (hT z 200) (z.g 24));unfold fF at d1 d2;conv=>zeta
 repeat' with_reducible first|intro _|apply cd|apply ck|apply cg|apply cE|apply cr
 all_goals first|omega|grind [ao,ak,aj,aT,aU,aV,aW,aX,aY,aZ,a_,ba,aC,List.append_assoc,dI]
abbrev QX(a:Prop)(b c:Int)(d e f:List G)(g:Int)(h i:List G):=a/\b.toNat<c.toNat/\∀(y:Sy),y.g 31=d/\y.g 32=e/\y.g 20=f/\y.i 1=g/\y.g 2=h/\y.g 36=i->y.g 31=d/\y.g 32=e/\y.g 20=f/\y.i 1=g/\y.g 2=h/\y.g 36=i
abbrev ED(a b c:List G)(d:Prop):=a.length=a.length/\b.length=b.length/\qA lQ c=qA lQ c/\d/\True
abbrev Qf(a:List G)(b:Prop)(c:List G):=dT a/\b/\a.length<=1000000/\c.length<=1000000
def Qg:bH 63 0 H8:=bG 82 779735233060740043664323263096199472354386684581 eN lN λp z hA=>show Fm.den (let v1:=(aL (p.g 24) (z.i 9));let v2:=(Qf (p.g 24) (dF (z.i 9) (p.g 24)) (z.g 31));let v3:=((-9223372036854775808)<=z.i 9+1/\z.i 9+1<=9223372036854775807);let v4:=(↑(p.g 24).length:Int);let v0:=((z.g 31).length=(z.g 31).length/\(z.g 32).length=(z.g 32).length/\qA lQ (z.g 20)=qA lQ (z.g 20)/\(qt)/\v4=v4/\p.g 24=p.g 24/\True);let v6:=(aa v1 13);let v7:=((↑(z.g 31).length:Int)<=gI v6);let v8:=(v4-(z.i 9+1));let v9:=(gI v6<0);let v10:=(v4-z.i 9);let v11:=(gL (aa (aL (z.g 31) (gI v6)) 4));let d7:=(gI (aa v1 0)=4);let i9:=((0:Int)<=gI v6/\gI v6 < ↑(z.g 31).length);let j8:=(aa v1 14);let v5:=(gI j8<0);let n7:=(eB (gI v6) (z.g 31));(.two (bO (z.i 9) (p.g 24)) (.an (bS (z.i 9) (p.g 24)) (.two v9 (.an v9 (.an v9 (.an v9 (.an v9 (.an v9 (.an v9 (.an v9 (.an v9 (.two d7 (.an v3 (.an v0 (.at (QX v2 v8 v10 (z.g 31) (z.g 32) (z.g 20) (z.i 1) (z.g 2) (z.g 36))))) (.an v3 (.an v0 (.at (QX v2 v8 v10 (z.g 31) (z.g 32) (z.g 20) (z.i 1) (z.g 2) (z.g 36)))))))))))))) (.an (¬v9) (.an (¬v9) (.an (¬v9) (.an (¬v9) (.an (¬v9) (.an (¬v9) (.an (¬v9) (.an (¬v9) (.two v7 (.an v7 (.an v7 (.an v7 (.two d7 (.an v3 (.an v0 (.at (QX v2 v8 v10 (z.g 31) (z.g 32) (z.g 20) (z.i 1) (z.g 2) (z.g 36))))) (.an v3 (.an v0 (.at (QX v2 v8 v10 (z.g 31) (z.g 32) (z.g 20) (z.i 1) (z.g 2) (z.g 36))))))))) (.an (¬v7) (.an (¬v7) (.an (¬v7) (.two v5 (.an v5 (.an v5 (.an v5 (.an v5 (.an v5 (.an v5 (.an v5 (.an v5 (.an v5 (.an v5 (.an v5 (.an v5 (.an v5 (.two d7 (.an v3 (.an v0 (.at (QX v2 v8 v10 (z.g 31) (z.g 32) (z.g 20) (z.i 1) (z.g 2) (z.g 36))))) (.an v3 (.an v0 (.at (QX v2 v8 v10 (z.g 31) (z.g 32) (z.g 20) (z.i 1) (z.g 2) (z.g 36))))))))))))))))))) (.an (¬v5) (.an (¬v5) (.an (¬v5) (.an (¬v5) (.an (¬v5) (.an (¬v5) (.an (¬v5) (.an (¬v5) (.an i9 (.an (¬v5) (.an (¬v5) (.an n7 (.an (¬v5) (.an (¬v5) (.an (¬v5) (.two ((↑v11.length:Int)<=gI j8) (.two d7 (.an v3 (.an v0 (.at (QX v2 v8 v10 (z.g 31) (z.g 32) (z.g 20) (z.i 1) (z.g 2) (z.g 36))))) (.an v3 (.an v0 (.at (QX v2 v8 v10 (z.g 31) (z.g 32) (z.g 20) (z.i 1) (z.g 2) (z.g 36)))))) (.an i9 (.an n7 (.an ((0:Int)<=gI j8/\gI j8<(↑v11.length:Int)) (.two d7 (.two (gI (aQ (aL v11 (gI j8)))=2) (.an v3 (.an v0 (.at (v2/\v8.toNat<v10.toNat/\∀(y:Sy),y.g 31=z.g 31/\y.g 32=z.g 32/\y.g 20=z.g 20/\y.i 1=z.i 1/\y.g 2=z.g 2/\y.g 36=db 1 (z.g 36) [gI v6,gI j8] [G.int (pI (true=true))]->y.g 31=z.g 31/\y.g 32=z.g 32/\y.g 20=z.g 20/\y.i 1=z.i 1/\y.g 2=z.g 2/\y.g 36=z.g 36)))) (.an v3 (.an v0 (.at (QX v2 v8 v10 (z.g 31) (z.g 32) (z.g 20) (z.i 1) (z.g 2) (z.g 36)))))) (.an v3 (.an v0 (.at (QX v2 v8 v10 (z.g 31) (z.g 32) (z.g 20) (z.i 1) (z.g 2) (z.g 36)))))))))))))))))))))))))))))))))))))))) (.an (ED (z.g 31) (z.g 32) (z.g 20) (qt)) (.at (z.g 31=z.g 31/\z.g 32=z.g 32/\z.g 20=z.g 20/\z.i 1=z.i 1/\z.g 2=z.g 2/\z.g 36=z.g 36))))) by
 dsimp only [H8,V4] at hA;have:=J4 p z;conv=>zeta
 repeat' with_reducible first|intro _|apply cd|apply ck|apply cg|apply cE|apply cr
 all_goals first|omega|grind [ao,ak,aj,aT,aU,aV,aW,aX,aY,aZ,a_,ba,aC,List.append_assoc,dI]
abbrev T1(a:Prop)(b:List G):=Fm.cl (a) (iD [106,111,117,114,110,97,108] b/\1<=7/\7<=64) (λy=>y.g 20=b/\y.i 30=0)
abbrev T2(a b:Prop)(c:List G)(d e f:Int)(g:Sy)(h i:List G)(j:Sy)(k:List G)(l:Int)(m n:List G):=Fm.cl (a) b (λy=>y.g 31=c++ [G.node [G.int d,G.int e,G.int f,hT g 400,G.node h]]/\y.g 32=i++ [G.node [hT j 300]]/\y.g 20=k/\y.i 1=l/\y.g 2=m/\y.g 36=n)
abbrev T3(a:List Nat):=Fm.ct (a.length<=524288) (λy=>y.i 50=0/\y.s 10=zB a)
abbrev T4(a b c d e:List G)(f:Prop)(g:Int)(h:List G):=a.length=b.length+1/\c.length=d.length+1/\qA lQ e=qA lQ e/\f/\g=g/\h=h/\True
abbrev V7(a:List G)(b:List Nat):=Fm.ct (oM a) (λy=>(y.p 40↔0<b.length)/\y.s 30=gj a 0)
abbrev V9(a b:Prop)(c:List Nat)(d e:Int)(f:List G):=Fm.cl a (H1 b c d e f) (λy=>y.g 20=gc [106,111,117,114,110,97,108] c.length f/\y.i 30=0)
def T5:bj 22 Qa:=bB 115 401421777011331167478751233781421460905177276836459194589713730625521 (ai tB (ai o_own (ai O3 (ai TR (ai D9 (ai JH (ai Ez (ai wN (ai HY (ai SF (ai Vk eN))))))))))) (aG (ptm:=[(68,.c (.v 7 24))]) Pn (aG (ptm:=[(30,.c (.v 7 24))]) Po (aG (ptm:=[(42,.c (.v 7 24))]) Qg lN))) λz hA=>show Fm.den (let zw:=(0:Int)<=0;let v5:=(hT z 200);let v3:=(¬bw (z.i 21) (z.i 22) (z.i 23) v5 (z.g 24)=(0:Int)->z.g 31=z.g 31/\z.g 32=z.g 32/\z.g 20=z.g 20/\z.i 1=z.i 1/\z.g 2=z.g 2);let v6:=(¬(z.i 21≠ ↑(z.g 31).length));let v7:=(ot (z.g 31));let v8:=(ot (z.g 32));let v9:=(¬kr v5 hZ);let v10:=(JG (z.g 24) v5 (z.i 21) (z.i 22) (z.i 23));let v11:=(↑(z.g 32).length:Int);let v1:=(¬kr v5 (hX (aQ (aL (z.g 32) (v11-1)))));let d7:=(↑(z.g 31).length:Int);let v2:=(0<d7);let i9:=((mU (z.g 20)));let n7:=(↑(z.g 24).length:Int);let u0:=(0<=z.i 1/\z.i 1<1000000);let o8:=((oM (z.g 24))/\O9 (z.g 24));let s8:=(yZ (z.g 24) (zw/\0<=n7));let s9:=(↑(eL (z.g 20)):Int);let v20:=(1<=7/\7<=64);let v21:=(qt);let v4:=(ED (z.g 31) (z.g 32) (z.g 20) v21);let p9:=((Ek n7 (z.g 24)));let v23:=(ug);let z':=(z.i 21+1);let v0:=(bw (z.i 21) (z.i 22) (z.i 23) v5 (z.g 24)=(0:Int)->z.g 31=z.g 31++ [lR (z.i 21) (z.i 22) (z.i 23) v5 (z.g 24)]/\z.g 32=z.g 32++ [G.node [jY (z.i 21) (z.i 22) (z.i 23) v5 (z.g 24)]]/\un z' (z.g 20)/\eL (z.g 20)<=eL (z.g 20)+nb (z.g 24)/\z.i 1=z.i 1+1/\dG (z.i 1) (z.g 2));let j8:=((1:Int)=bw (z.i 21) (z.i 22) (z.i 23) v5 (z.g 24)/\v0/\v3);(.two (False) (.an v4 (.at ((20:Int)=bw (z.i 21) (z.i 22) (z.i 23) v5 (z.g 24)/\v0/\v3))) (.an v6 (.an v6 (.an v6 (.an v6 (.two (v11=0) (.an v6 (.an v6 (.two v9 (.an v9 (.an v9 (.an v9 (.an v9 (.an v9 (.an v9 (.an v9 (.an v9 (.an v4 (.at j8)))))))))) (.an (¬v9) (.an (¬v9) (.an (¬v9) (.an (¬v9) (.an (¬v9) (.an (¬v9) (.an (¬v2) (.an (¬v2) (.an (¬v2) (.an (¬v2) (.an (¬v2) (.an (¬v2) (.an (¬v2) (.an (¬v2) (.an (¬v2) (.an (¬v2) (.an (¬v2) (.an (¬v2) (.an (¬v2) (.an (¬v2) (.an (¬v2) (.an (¬v2) (.an (¬v9) (.an (¬v2) (.an (¬v9) (.ct v10 (λy0=>y0.i 50=bw (z.i 21) (z.i 22) (z.i 23) v5 (z.g 24)) λy0=>(.two (y0.i 50≠0) (.an (y0.i 50≠0) (.an v4 (.at (y0.i 50=bw (z.i 21) (z.i 22) (z.i 23) v5 (z.g 24)/\v0/\v3)))) (.cl p9 s8 (λy1=>True) λy1=>(.ct o8 (λy2=>y2.i 31=z.i 21/\y2.i 32=z.i 22/\y2.i 33=z.i 23/\hT y2 400=hT z 200/\y2.g 34=z.g 24) λy2=>(let v26:=(z.g 31++ [G.node [G.int (y2.i 31),G.int (y2.i 32),G.int (y2.i 33),hT y2 400,G.node (y2.g 34)]]);let v27:=(↑(y2.g 34).length:Int);let v28:=(hT y2 400);let v25:=(JG (y2.g 34) v28 (y2.i 31) (y2.i 32) (y2.i 33));let v29:=(Qf (y2.g 34) (zw/\0<=v27) v26);(.cl ((Ek v27 (y2.g 34))) (yZ (y2.g 34) (zw/\0<=v27)) (λy3=>True) λy3=>(V7 (y2.g 34) (gj (y2.g 34) 0) λy4=>(.two (y4.p 40) (V6 (y2.i 31) λy5=>(.cl i9 (¬iD (y5.s 10) (z.g 20)/\(H0 (y5.s 10))/\(y4.s 30).length<=524288/\s9+(↑(y4.s 30).length:Int)+12<=4194304/\(z.g 20).length<4000) (λy6=>y6.g 20=gc (y5.s 10) ((y4.s 30).length+12) (z.g 20)/\y6.i 30=0) λy6=>(Kg v25 (y2.i 31) (y2.i 32) (y2.i 33) v28 (y2.g 34) v23 λy7=>(T3 (y7.s 10) λy8=>(.an (y6.i 30=0) (.an (y8.i 50=0) (.cl ((mU (y6.g 20))) (H1 v20 (y8.s 10) (↑(eL (y6.g 20)):Int) (↑(y8.s 10).length:Int) (y6.g 20)) (λy9=>y9.g 20=gc [106,111,117,114,110,97,108] (y8.s 10).length (y6.g 20)/\y9.i 30=0) λy9=>(.an (¬(y9.i 30=6)) (.an (y9.i 30=0) (T1 (mU (y9.g 20)) (y9.g 20) λC'=>(.an (¬(C'.i 30≠0)) (Zq v25 (y2.i 31) (y2.i 32) (y2.i 33) v28 (y2.g 34) λy11=>(.an v7 (.an v8 (Of (hT y11 300) u0 (z.i 1) (z.g 2) λy12=>(T2 (T4 v26 (z.g 31) (z.g 32++ [G.node [hT y11 300]]) (z.g 32) (C'.g 20) (C'.i 30≠0↔False) v27 (y2.g 34)) v29 (z.g 31) (y2.i 31) (y2.i 32) (y2.i 33) y2 (y2.g 34) (z.g 32) y11 (C'.g 20) (y12.i 1) (y12.g 2) (z.g 36) λR'=>(.an (ED (R'.g 31) (R'.g 32) (R'.g 20) v21) (.at ((0:Int)=bw (z.i 21) (z.i 22) (z.i 23) v5 (z.g 24)/\(bw (z.i 21) (z.i 22) (z.i 23) v5 (z.g 24)=(0:Int)->R'.g 31=z.g 31++ [lR (z.i 21) (z.i 22) (z.i 23) v5 (z.g 24)]/\R'.g 32=z.g 32++ [G.node [jY (z.i 21) (z.i 22) (z.i 23) v5 (z.g 24)]]/\un z' (R'.g 20)/\eL (R'.g 20)<=eL (z.g 20)+nb (z.g 24)/\R'.i 1=z.i 1+1/\dG (R'.i 1) (R'.g 2))/\(¬bw (z.i 21) (z.i 22) (z.i 23) v5 (z.g 24)=(0:Int)->R'.g 31=z.g 31/\R'.g 32=z.g 32/\R'.g 20=z.g 20/\R'.i 1=z.i 1/\R'.g 2=z.g 2)))))))))))))))))))) (Kg v25 (y2.i 31) (y2.i 32) (y2.i 33) v28 (y2.g 34) v23 λy14=>(T3 (y14.s 10) λy15=>(.an (y15.i 50=0) (V9 i9 v20 (y15.s 10) s9 (↑(y15.s 10).length:Int) (z.g 20) λy16=>(.an (¬(y16.i 30=6)) (.an (y16.i 30=0) (T1 (mU (y16.g 20)) (y16.g 20) λy17=>(.an (¬(y17.i 30≠0)) (Zq v25 (y2.i 31) (y2.i 32) (y2.i 33) v28 (y2.g 34) λy18=>(.an v7 (.an v8 (Of (hT y18 300) u0 (z.i 1) (z.g 2) λy19=>(T2 (T4 v26 (z.g 31) (z.g 32++ [G.node [hT y18 300]]) (z.g 32) (y17.g 20) (y17.i 30≠0↔False) v27 (y2.g 34)) v29 (z.g 31) (y2.i 31) (y2.i 32) (y2.i 33) y2 (y2.g 34) (z.g 32) y18 (y17.g 20) (y19.i 1) (y19.g 2) (z.g 36) λy20=>(.an (ED (y20.g 31) (y20.g 32) (y20.g 20) v21) (.at ((0:Int)=bw (z.i 21) (z.i 22) (z.i 23) v5 (z.g 24)/\(bw (z.i 21) (z.i 22) (z.i 23) v5 (z.g 24)=(0:Int)->y20.g 31=z.g 31++ [lR (z.i 21) (z.i 22) (z.i 23) v5 (z.g 24)]/\y20.g 32=z.g 32++ [G.node [jY (z.i 21) (z.i 22) (z.i 23) v5 (z.g 24)]]/\un z' (y20.g 20)/\eL (y20.g 20)<=eL (z.g 20)+nb (z.g 24)/\y20.i 1=z.i 1+1/\dG (y20.i 1) (y20.g 2))/\(¬bw (z.i 21) (z.i 22) (z.i 23) v5 (z.g 24)=(0:Int)->y20.g 31=z.g 31/\y20.g 32=z.g 32/\y20.g 20=z.g 20/\y20.i 1=z.i 1/\y20.g 2=z.g 2))))))))))))))))))))))))))))))))))))))))))))))))))))) (.an ((-9223372036854775808)<=v11-1/\v11-1<=9223372036854775807) (.an (yq v11) (.an (eB (v11-1) (z.g 32)) (.an v6 (.an v6 (.two v1 (.an v1 (.an v1 (.an v1 (.an v1 (.an v1 (.an v1 (.an v1 (.an v1 (.an v4 (.at j8)))))))))) (.an (¬v1) (.an (¬v1) (.an (¬v1) (.an (¬v1) (.an (¬v1) (.an (¬v1) (.an v2 (.an v2 (.an v2 (.an v2 (.an v2 (.an v2 (.an v2 (.an v2 (.an v2 (.an v2 (.an v2 (.an v2 (.an ((-9223372036854775808)<=d7-1/\d7-1<=9223372036854775807) (.an v2 (.an (yq d7) (.an v2 (.an v2 (.an (eB (d7-1) (z.g 31)) (.an v2 (.an (¬v1) (.an v2 (.an (¬v1) (.two (z.i 22<gI (aa (aL (z.g 31) (d7-1)) 1)) (.an v4 (.at j8)) (.ct v10 (λy21=>y21.i 50=bw (z.i 21) (z.i 22) (z.i 23) v5 (z.g 24)) λy21=>(.two (y21.i 50≠0) (.an (y21.i 50≠0) (.an v4 (.at (y21.i 50=bw (z.i 21) (z.i 22) (z.i 23) v5 (z.g 24)/\v0/\v3)))) (.cl p9 s8 (λy22=>True) λy22=>(.ct o8 (λy23=>y23.i 31=z.i 21/\y23.i 32=z.i 22/\y23.i 33=z.i 23/\hT y23 400=hT z 200/\y23.g 34=z.g 24) λy23=>(let v32:=(y23.g 34);let v33:=(↑v32.length:Int);let v34:=(hT y23 400);let v30:=(JG v32 v34 (y23.i 31) (y23.i 32) (y23.i 33));let U':=(y23.i 31);let v36:=(y23.i 32);let v37:=(y23.i 33);let v31:=(z.g 31++ [G.node [G.int U',G.int v36,G.int v37,hT y23 400,G.node v32]]);let v38:=(Qf v32 (zw/\0<=v33) v31);(.cl ((Ek v33 (y23.g 34))) (yZ v32 (zw/\0<=v33)) (λy24=>True) λy24=>(V7 v32 (gj v32 0) λy25=>(.two (y25.p 40) (.ct (0<=y23.i 31/\y23.i 31<100) (λy26=>y26.s 10=cW U') λy26=>(.cl i9 (¬iD (y26.s 10) (z.g 20)/\(H0 (y26.s 10))/\(y25.s 30).length<=524288/\s9+(↑(y25.s 30).length:Int)+12<=4194304/\(z.g 20).length<4000) (λy27=>y27.g 20=gc (y26.s 10) ((y25.s 30).length+12) (z.g 20)/\y27.i 30=0) λy27=>(let v39:=(y27.g 20);(Kg v30 U' v36 v37 v34 v32 v23 λy28=>(T3 (y28.s 10) λy29=>(.an (y27.i 30=0) (.an (y29.i 50=0) (.cl ((mU v39)) (H1 v20 (y29.s 10) (↑(eL v39):Int) (↑(y29.s 10).length:Int) v39) (λy30=>y30.g 20=gc [106,111,117,114,110,97,108] (y29.s 10).length v39/\y30.i 30=0) λy30=>(.an (¬(y30.i 30=6)) (.an (y30.i 30=0) (T1 (mU (y30.g 20)) (y30.g 20) λy31=>(.an (¬(y31.i 30≠0)) (Zq v30 U' v36 v37 v34 v32 λy32=>(.an v7 (.an v8 (Of (hT y32 300) u0 (z.i 1) (z.g 2) λy33=>(T2 (T4 v31 (z.g 31) (z.g 32++ [G.node [hT y32 300]]) (z.g 32) (y31.g 20) (y31.i 30≠0↔False) v33 (y23.g 34)) v38 (z.g 31) U' v36 v37 y23 v32 (z.g 32) y32 (y31.g 20) (y33.i 1) (y33.g 2) (z.g 36) λy34=>(.an (ED (y34.g 31) (y34.g 32) (y34.g 20) v21) (.at ((0:Int)=bw (z.i 21) (z.i 22) (z.i 23) v5 (z.g 24)/\(bw (z.i 21) (z.i 22) (z.i 23) v5 (z.g 24)=(0:Int)->y34.g 31=z.g 31++ [lR (z.i 21) (z.i 22) (z.i 23) v5 (z.g 24)]/\y34.g 32=z.g 32++ [G.node [jY (z.i 21) (z.i 22) (z.i 23) v5 (z.g 24)]]/\un z' (y34.g 20)/\eL (y34.g 20)<=eL (z.g 20)+nb (z.g 24)/\y34.i 1=z.i 1+1/\dG (y34.i 1) (y34.g 2))/\(¬bw (z.i 21) (z.i 22) (z.i 23) v5 (z.g 24)=(0:Int)->y34.g 31=z.g 31/\y34.g 32=z.g 32/\y34.g 20=z.g 20/\y34.i 1=z.i 1/\y34.g 2=z.g 2))))))))))))))))))))) (Kg v30 U' v36 v37 v34 v32 v23 λy35=>(T3 (y35.s 10) λy36=>(.an (y36.i 50=0) (V9 i9 v20 (y36.s 10) s9 (↑(y36.s 10).length:Int) (z.g 20) λy37=>(.an (¬(y37.i 30=6)) (.an (y37.i 30=0) (T1 (mU (y37.g 20)) (y37.g 20) λy38=>(.an (¬(y38.i 30≠0)) (Zq v30 U' v36 v37 v34 v32 λy39=>(.an v7 (.an v8 (Of (hT y39 300) u0 (z.i 1) (z.g 2) λy40=>(T2 (T4 v31 (z.g 31) (z.g 32++ [G.node [hT y39 300]]) (z.g 32) (y38.g 20) (y38.i 30≠0↔False) v33 (y23.g 34)) v38 (z.g 31) U' v36 v37 y23 v32 (z.g 32) y39 (y38.g 20) (y40.i 1) (y40.g 2) (z.g 36) λy41=>(.an (ED (y41.g 31) (y41.g 32) (y41.g 20) v21) (.at ((0:Int)=bw (z.i 21) (z.i 22) (z.i 23) v5 (z.g 24)/\(bw (z.i 21) (z.i 22) (z.i 23) v5 (z.g 24)=(0:Int)->y41.g 31=z.g 31++ [lR (z.i 21) (z.i 22) (z.i 23) v5 (z.g 24)]/\y41.g 32=z.g 32++ [G.node [jY (z.i 21) (z.i 22) (z.i 23) v5 (z.g 24)]]/\un z' (y41.g 20)/\eL (y41.g 20)<=eL (z.g 20)+nb (z.g 24)/\y41.i 1=z.i 1+1/\dG (y41.i 1) (y41.g 2))/\(¬bw (z.i 21) (z.i 22) (z.i 23) v5 (z.g 24)=(0:Int)->y41.g 31=z.g 31/\y41.g 32=z.g 32/\y41.g 20=z.g 20/\y41.i 1=z.i 1/\y41.g 2=z.g 2))))))))))))))))))))))))))))))))))))))))))))))))))))))))))))))))))) by
 dsimp only [Qa,bk,hs,V4,Kf,CJ,tz] at hA;have a1:=@HU (z.g 32);have a2:=@PX (z.g 32);have:=hv20 z;have a1:=@zp (z.g 32);have a2:=@V2 (z.g 31) (z.i 22);have:=@oL (z.g 24) (z.i 21) (z.i 22) (z.i 23) (hT z 200);have:=@HC (z.g 24);have b8:(false=true)=False:=by simp
 have d2:=λh h0 h1=>@TY (z.i 21) (z.g 20) h h0 h1 ((gj (z.g 24) 0).length+12) ((mY False (z.i 21) (z.i 22) (z.i 23) (hT z 200) (z.g 24)).length+12);have d1:=λh h0 h1=>@TZ (z.i 21) (z.g 20) h h0 h1 ((mY False (z.i 21) (z.i 22) (z.i 23) (hT z 200) (z.g 24)).length+12);have:=yJ (z.i 21);have:=P5 (z.i 21) (z.i 22) (z.i 23) (hT z 200) (z.g 24);have:=dI (mY False (z.i 21) (z.i 22) (z.i 23) (hT z 200) (z.g 24));have:=λn' n8 ht hh hx=>@Yw (z.i 1) n' (z.g 2) n8 (jY (z.i 21) (z.i 22) (z.i 23) (hT z 200) (z.g 24)) ht hh hx;have:=mP (z.i 21) (z.i 22) (z.i 23) (hT z 200) (z.g 24);unfold fF at d1 d2;conv=>zeta
 repeat' with_reducible first|intro _|apply cd|apply ck|apply cg|apply cE|apply cr
 all_goals first|omega|grind [ao,ak,aj,aT,aU,aV,aW,aX,aY,aZ,a_,ba,aC,List.append_assoc,dI]
noncomputable section
def plC(room lf:Int):ABlk:=.cells (si [.sI .i64 room,.map (base+1),.bool false,.sI .i64 lf] 0 .leaf) 0 0 4 0 0 true 112
def zE(room lf:Int):T ABlk:=(((T.leaf:T ABlk).set base (plC room lf)).set (base+1) (.mapo [] 0))
def plL(room lf:Int):Lf:=λa σ _=>match a with | .nils=>.at (σ.h.get base=(zE room lf).get base/\σ.h.get (base+1)=(zE room lf).get (base+1))|_=>.ff
def plF(room lf:Int):Fm:=CF (nu Tryz.prog (xf Tryz.prog (nQ [] [] []) 1000) 87 [.ptr base 0 0] λa=>.ret a) (Go.Sym.start (zE room lf) (base+64)) (plL room lf) .nil
def plF_t(room lf:Int):plF room lf= .at ((zE room lf).get base=(zE room lf).get base/\(zE room lf).get (base+1)=(zE room lf).get (base+1)):=by kernel_rfl
def Yz(room lf:Int):∃σf,(∀K,run (nu Tryz.prog (xf Tryz.prog (nQ [] [] []) 1000) 87 [.ptr base 0 0] λa=>.ret a) (Go.Sym.start (zE room lf) (base+64)) K=K .nils σf)/\σf.h.get base=(zE room lf).get base/\σf.h.get (base+1)=(zE room lf).get (base+1):=by
 have hd:(plF room lf).den:=by rw[plF_t];exact⟨rfl,rfl⟩
 obtain⟨a,σf,e,hn,hl⟩:=Dm _ _ _ _ hd;unfold plL at hl;split at hl
 ·exact⟨σf,e,hl⟩
 ·exact hl.elim
def Qh(room lf:Int):(zE room lf).get base=some (plC room lf):=by unfold zE;rw[T.get_set_ne _ (by decide),T.get_set_same _ _ _ (by decide)]
def H9(room lf:Int):(zE room lf).get (base+1)=some (.mapo [] 0):=by unfold zE;rw[T.get_set_same _ _ _ (by decide)]
def H_{room lf:Int}{b:Nat}{x:ABlk}(h:(zE room lf).get b=some x):b=base/\x=plC room lf∨b=base+1/\x= .mapo [] 0:=by
 by_cases e1:b=base+1
 ·subst e1;rw[H9] at h;exact .inr ⟨rfl,(Option.some.inj h).symm⟩
 ·by_cases e0:b=base
  ·subst e0;rw[Qh] at h;exact .inl ⟨rfl,(Option.some.inj h).symm⟩
  ·unfold zE at h;rw[T.get_set_ne _ e1,T.get_set_ne _ e0] at h;simp [T.get] at h
def Zr(d m:Nat):Rho:={at_:=λb g=>if b=base/\g=0 then some ⟨d,0,4⟩ else if b=base+1/\g=0 then some ⟨m,0,0⟩ else none,val:=λ_=>default,own:=λx=>x=m,frz:=λ_=>none,frz0:=λ_=>none}
def V_(d m:Nat):(Zr d m).at_ base 0=some ⟨d,0,4⟩:=by show(if base=base/\0=0 then some (⟨d,0,4⟩:Home) else if base=base+1/\0=0 then some ⟨m,0,0⟩ else none)=_;exact if_pos ⟨rfl,rfl⟩
def Ia(d m:Nat):(Zr d m).at_ (base+1) 0=some ⟨m,0,0⟩:=by show(if base+1=base/\0=0 then some (⟨d,0,4⟩:Home) else if base+1=base+1/\0=0 then some ⟨m,0,0⟩ else none)=_;rw[if_neg (by omega),if_pos ⟨rfl,rfl⟩]
def rq{d m b g:Nat}{h:Home}(hh:(Zr d m).at_ b g=some h):(b=base/\g=0/\h=⟨d,0,4⟩)∨(b=base+1/\g=0/\h=⟨m,0,0⟩):=by
 have hh:(if b=base/\g=0 then some (⟨d,0,4⟩:Home) else if b=base+1/\g=0 then some ⟨m,0,0⟩ else none)=some h:=hh;split at hh
 ·rename_i hc;injection hh with hh;exact .inl ⟨hc.1,hc.2,hh.symm⟩
 ·split at hh
  ·rename_i hc;injection hh with hh;exact .inr ⟨hc.1,hc.2,hh.symm⟩
  ·cases hh
def T6{d m:Nat}{room lf:Int}{w:World}(hd:w.heap[d]? =some (.cells #[.int .i64 room,.map (some m),.bool false,.int .i64 lf] 112))(hm:w.heap[m]? =some (.map #[] 0)):Go.Sym.Good w (Zr d m) (zE room lf) w:=by
 have hdm:d≠m:=λe=>by rw[e,hm] at hd;cases hd
 have hdl:=(Array.getElem?_eq_some_iff.1 hd).1;have hml:=(Array.getElem?_eq_some_iff.1 hm).1;refine⟨⟨Kept.refl _ _ _,λb x hx=>?_,λb g h hh=>?_,λb g h b' g' h' h1 h2 e=>?_,λb g h x hh hx=>?_,λb arr ty hf=>(by cases hf),λb x hf _=>(by cases hf),λb k I l hx=>?_⟩,λx hx=>?_⟩
 ·rcases H_ hx with⟨rfl,rfl⟩|⟨rfl,rfl⟩
  ·have ae4:∀o x,(si [.sI .i64 room,.map (base+1),.bool false,.sI .i64 lf] 0 .leaf).get o=some x->∃a,x= .mk 0 a/\o<4/\ [AV.sI .i64 room,.map (base+1),.bool false,.sI .i64 lf][o]? =some a:=λo x hx=>by
    unfold si at hx;simp only [si] at hx;by_cases h3:o=3
    ·subst h3;rw[T.get_set_same _ _ _ (by decide)] at hx;injection hx with hx;exact⟨_,hx.symm,by decide,rfl⟩
    by_cases h2:o=2
    ·subst h2;rw[T.get_set_ne _ (by decide),T.get_set_same _ _ _ (by decide)] at hx;injection hx with hx;exact⟨_,hx.symm,by decide,rfl⟩
    by_cases h1:o=1
    ·subst h1;rw[T.get_set_ne _ (by decide),T.get_set_ne _ (by decide),T.get_set_same _ _ _ (by decide)] at hx;injection hx with hx;exact⟨_,hx.symm,by decide,rfl⟩
    by_cases h0:o=0
    ·subst h0;rw[T.get_set_ne _ (by decide),T.get_set_ne _ (by decide),T.get_set_ne _ (by decide),T.get_set_same _ _ _ (by decide)] at hx;injection hx with hx;exact⟨_,hx.symm,by decide,rfl⟩
    rw[T.get_set_ne _ h3,T.get_set_ne _ h2,T.get_set_ne _ h1,T.get_set_ne _ h0] at hx;simp [T.get] at hx
   refine⟨λo x hx=>?_,λg hg=>⟨⟨d,0,4⟩, ?_,(λh=>by cases h),(λ_ h=>absurd h (by decide)),_,_,hd,rfl,(λh=>by cases h),λo tag a ho ht=>⟨aaq _, ?_⟩⟩⟩
   ·obtain⟨a,rfl,h4,_⟩:=ae4 o x hx;exact⟨aaq _,h4,aac _⟩
   ·obtain rfl:g=0:=by omega
    exact V_ d m
   ·obtain⟨a',e,h4,hl⟩:=ae4 o _ ho;injection e with _ e;subst e;have hL:LR (Zr d m) [AV.sI .i64 room,.map (base+1),.bool false,.sI .i64 lf] [.int .i64 room,.map (some m),.bool false,.int .i64 lf]:=
     LR.cons (.sI _ _) (LR.cons (.map _ _ (Ia d m)) (LR.cons (.bool _) (LR.cons (.sI _ _) (LR.nil _))))
    obtain⟨v,hv,hr⟩:=hL.get hl;exact⟨v,by show #[Value.int .i64 room,.map (some m),.bool false,.int .i64 lf][o]? =_;simpa using hv,hr⟩
  ·exact⟨⟨m,0,0⟩,Ia d m,.inr rfl, #[],hm,rfl,λi k v n e hi=>by simp at hi⟩
 ·rcases rq hh with⟨rfl,rfl,rfl⟩|⟨rfl,rfl,rfl⟩
  ·exact⟨hdl,_,Qh _ _⟩
  ·exact⟨hml,_,H9 _ _⟩
 ·rcases rq h1 with⟨rfl,rfl,rfl⟩|⟨rfl,rfl,rfl⟩ <;> rcases rq h2 with⟨rfl,rfl,rfl⟩|⟨rfl,rfl,rfl⟩
  ·exact⟨rfl,rfl⟩
  ·exact absurd e hdm
  ·exact absurd e.symm hdm
  ·exact⟨rfl,rfl⟩
 ·rcases rq hh with⟨rfl,rfl,rfl⟩|⟨rfl,rfl,rfl⟩
  ·rw[Qh] at hx;injection hx with hx;subst hx;exact aaq _
  ·rw[H9] at hx;injection hx with hx;subst hx;trivial
 ·rcases H_ hx with⟨_,e⟩|⟨_,e⟩ <;> cases e
 ·have hx:x=m:=hx;exact⟨base+1,0,⟨m,0,0⟩,by decide,Ia d m,hx.symm⟩
def EE:FSpec:=⟨[.c (.p 0)],Et,λz=>z.g 20= [],λ_=>.one (.c .nz),λ_=>Et,λz y=>y.g 20= [],none⟩
def T7:Ok Tryz.prog 87 EE:=by
 refine RK (k:=1) (C:=qA lQ) (S:=EE) (al:=[]) (lJ lQ) (λz=>[]) (λ_=>.nils) (λz=>[(20,.g [])]) rfl rfl rfl (λz h=>rfl) (λz=>⟨_,rfl,⟨rfl,trivial⟩,rfl⟩) (λargs w=>Tryz.call87 args w) ?_;intro z hz w ρ d fp vs hfz c9 L' hC;have hz:z.g 20= []:=hz;rw[hz] at hC;obtain rfl:=LR.nil_inv (show LR ρ [] vs from L');have hC0:=hC;unfold qA at hC;obtain⟨m,lf,L,es,h1,_,_,h4,_,h6,_,_,h9⟩:=hC;have hL:L= []:=List.map_eq_nil_iff.1 h4.symm;subst hL;have hm:m∈d::fp:=by rw[h6];exact aal _ aan
 have hb:=h9 rfl;obtain⟨σf,c7,e0,e1⟩:=Yz lQ lf;have hG:=T6 h1 hb;have hM:TabOk Tryz.prog (nQ [] [] []):=nR (λm hm=>by cases hm) (λe he=>by cases he) (λe he=>by cases he);have hc:=iP (qM Tryz.prog hM w 1000).1 87 [.ptr base 0 0] [.pointer (some ⟨d,0,none⟩)] (λa=>.ret a) (Go.Sym.start (zE lQ lf) (base+64)) (λa s=>dP (a= .nils/\s=σf)) (Zr d m) w
  (λe w'=>∃v fp',e= .returned v/\qA lQ [] d fp' w'/\ObStep d fp fp' w w'/\∀ρ',VR ρ' .nils v) (nG (by decide) (by decide)) hG (LR.cons (.ptr _ _ _ _ (V_ d m) (aac _)) (LR.nil _)) (by rw[c7];exact fG.2 ⟨rfl,rfl⟩) (λav v a9 ρ' w' q1 q2 q3 q4 q5=>by
   obtain⟨a1,a2⟩:=fG.1 (show dP (av= .nils/\a9=σf)=true from q1);subst a1;subst a2;have hbm:=q3.blk _ _ (e1.trans (H9 _ _));obtain⟨h,o6,_,M',B',hse,_⟩:=hbm;rw[q4.at_ _ _ _ (Ia d m)] at o6;injection o6 with o6;subst o6;have at5:M'= #[]:=Array.eq_empty_of_size_eq_zero (by simpa using hse);subst at5;have d9:∀x,ρ'.own x↔x=m:=λx=>by rw[q4.own];exact Iff.rfl
   have hk:=q3.below;have hold:∀k,k<w.heap.size->k≠m->w'.heap[k]? =w.heap[k]? :=λk hk1 m7=>hk.block k hk1 (λho=>m7 ((d9 k).1 ho));have hdm:d≠m:=λe=>by rw[e,hb] at h1;cases h1
   have x9:∀x∈d::fp,w'.heap[x]? =w.heap[x]? :=λx hx=>by
    by_cases e:x=m
    ·subst e;rw[hb];exact B'
    ·exact hold x (c9 x hx) e
   refine⟨v,fp,rfl,lJ lQ [] d fp w w' x9 hC0,⟨hk.os,hk.tape,hk.output,hk.size,λk hk1 o7=>hold k hk1 (λe=>o7 (e▸hm)),λx hx=>.inl hx⟩,λav4=>?_⟩;cases q5;exact .nils)
 exact callsIn_wide.1 hc.2
end
def TQ:bj 87 EE:=T7
noncomputable section
abbrev fc(l:List G)(i:Int):List G:=gL (aa (aq l i.toNat) 0)
def iF(l:List G):Prop:=(∀i:Int,0<=i->i<l.length->ko (fc l i))/\m_ l 0<=1000/\l.length<=30
def Wa{l:List G}{i:Int}(h:iF l)(h0:0<=i)(hi:i<l.length):ko (fc l i):=h.1 i h0 hi
def uh{l:List G}(h:iF l):l.length<=30/\m_ l 0<=1000:=⟨h.2.2,h.2.1⟩
def T8{l:List G}{i:Int}(h0:0<=i)(h:i<l.length):m_ l i=2+jk 1002 (fc l i) 0+m_ l (i+1):=gM h0 h
def Qi(v:G)(vs:List G):jk 1002 (v::vs) 0=oO 1002 v+jk 1002 vs 0:=by unfold jk;simp
def CA(d:Prop)(e:G)(es:List G):gg d (e::es) 0=zA d e++gg d es 0:=by unfold gg;simp
def T9{k:Int}{v:G}(hi:wh (lP k v))(he:me (lP k v)=0)(hv:ti 16 (gI (aa v 1)) (gS (aa v 3)) (gL (aa v 4)) (gL (aa v 5))):(zA True (lP k v)).length<=147 * oO 1002 v:=by
 obtain⟨h1,h2⟩:=da he;have hn:=iA h1;unfold wh mX at hi;have hl:(uk (lP k v)).length<=93+(gS (aa (lP k v) 1)).length:=fZ (kd:=gI (aa (lP k v) 0)) (tx:=gS (aa (lP k v) 1)) (tb:=gI (aa (lP k v) 2)) (dc:=gI (aa (lP k v) 3)) (vr:=gI (aa (lP k v) 4)) (h:=hX (aa (lP k v) 11)) (ab:=gI (aa (lP k v) 13)) (ae:=gI (aa (lP k v) 14)) hi.2.1.2 hi.2.2.1.2 hi.2.2.2.1.2 hi.2.2.2.2.1.2 hi.2.2.2.2.2.1.2 hi.1 hi.2.2.2.2.2.2.2.2;have e0:gI (aa (lP k v) 0)=2:=by rw[lj];rfl
 have e12:¬gI (aa (lP k v) 12)=1:=by rw[lj];show ¬(0:Int)=1;decide
 have e1:(gS (aa (lP k v) 1)).length=0:=by rw[lj];rfl
 have hc:=ya (h2 ⟨e0,e12⟩);have hen:kj (lP k v)=dM 16 (gI (aa v 0)) (gI (aa v 1)) (gI (aa v 2)) (gS (aa v 3)) (gL (aa v 4)) (gL (aa v 5)):=by rw[lj];rfl
 have hch:eG 16 (gI (aa v 0)) (gI (aa v 1)) (gI (aa v 2)) (gS (aa v 3)) (gL (aa v 4)) (gL (aa v 5))=0:=by have:=hc.1;rw[lj] at this;exact this
 have hlen:(kj (lP k v)).length<=xW 16 (gS (aa v 3)) (gL (aa v 5)):=by rw[hen];have:=od 16 v ((gE 16 _).symm.trans hch) ((mI 16 _)▸hv);rw[←pA, ←pB] at this;exact this
 have hw:ku 16 v+50<=93 * oO 1002 v:=(Ej 16 1001 v (by omega)).2 (by omega);rw[pB] at hlen;have hu:=fC (n:=(kj (lP k v)).length) (by have:(kj (lP k v)).length<=65536:=hc.2;omega);rw[kV e0 (by rintro(h|h);exact e12 h;exact h trivial),aai,aai,aai];have:([1]:List Nat).length=1:=rfl;have hp:1<=oO 1002 v:=oF 1001 v;omega
def CB:∀(vs:List G) (k:Int),(∀i:Nat,i<vs.length->wh (lP (k+i) (aq vs i))/\me (lP (k+i) (aq vs i))=0/\ti 16 (gI (aa (aq vs i) 1)) (gS (aa (aq vs i) 3)) (gL (aa (aq vs i) 4)) (gL (aa (aq vs i) 5)))->
 (gg True (J3 vs k) 0).length<=147 * jk 1002 vs 0/\vs.length<=jk 1002 vs 0
 | [],k,_=>⟨by rw[J3,qZ (by simp)];exact aaq _,aaq _⟩
 |v::vs,k,h=>by
  obtain⟨a1,a2,a3⟩:=h 0 (by simp);have e:k+((0:Nat):Int)=k:=by omega
  rw[e] at a1 a2;have b:=T9 (v:=v) a1 a2 a3;obtain⟨c1,c2⟩:=CB vs (k+1) λi hi=>by have:=h (i+1) (by simpa using hi);rw[show k+((i+1:Nat):Int)=k+1+i by omega] at this;exact this
  rw[J3,CA,Qi,aai,aat];have:1<=oO 1002 v:=oF 1001 v;exact⟨by omega,by omega⟩
def YA{l:List G}{k t n:Int}{pv:G}(h:ko l)(hb:bw k t n pv (cz l)=0):nb (cz l)<=600 * (2+jk 1002 l 0):=by
 obtain⟨h1,h2,h3⟩:=fm hb;have h4:(cz l).length<=200:=by unfold yd at h1;exact h1.2.2.2.2
 have hE:=pK h;have hin:=tU hE;have hl:=oG l;have hm:cz l=Kt::J3 l 0:=by rw[yY];unfold um;rfl
 have a:=ri h4 (cz l).length 0 (by omega) (by omega);have p8:(zA True Kt).length<=200:=by have:=ye (d:=True) (e:=Kt) VV (by have:=tv hin (i:=0) (by omega) (by omega);rw[hm] at this;exact this);have e:zA True Kt=uk Kt:=og (by show ¬(1:Int)=2;decide);have hz:hX hZ=hZ:=cI fy;have q:(uk Kt).length<=93+(gS (aa Kt 1)).length:=fZ (kd:=1) (tx:=[115]) (tb:=0) (dc:=0) (vr:=0) (h:=hX hZ) (ab:=0) (ae:=0) (by decide) (by decide) (by decide) (by decide) (by decide) (by decide) (by rw[hz];exact fy);have q2:(gS (aa Kt 1)).length=1:=rfl;rw[e];omega
 obtain⟨b1,b2⟩:=CB l 0 λi hi=>by
  have e1:=yW l 0 i hi;have e2:aq (cz l) ((i:Int)+1).toNat=aq (J3 l 0) i:=by rw[hm,show((i:Int)+1).toNat=i+1 by omega];rfl
  have c1:=tv hin (i:=(i:Int)+1) (by omega) (by omega);have c2:=lF h2 (i:=(i:Int)+1) (by omega) (by omega);rw[e2,e1] at c1 c2;have c3:=(Pl h (i:=i) (by omega) (by omega)).1;rw[aar] at c3;exact⟨c1,c2,c3⟩
 have hle:(gg True (cz l) 0).length<=200+147 * jk 1002 l 0:=by rw[hm,CA,aai];omega
 have hs:nb (cz l)=(gg True (cz l) 0).length+(gj (cz l) 0).length+96:=by unfold nb;rfl
 rw[hs];omega
def gk(l:List G):Nat->List G×List G
 |0=>([],[])
 |n+1=>@ite _ (bw (gk l n).1.length n n (na (gk l n).2) (cz (fc l n))=0) (Classical.propDecidable _)
  ((gk l n).1++ [lR (gk l n).1.length n n (na (gk l n).2) (cz (fc l n))],(gk l n).2++ [.node [jY (gk l n).1.length n n (na (gk l n).2) (cz (fc l n))]]) (gk l n)
def gP(l:List G)(i:Int):List G:=(gk l i.toNat).1
def jl(l:List G)(i:Int):List G:=(gk l i.toNat).2
def Qj{l:List G}{n:Nat}(h:bw (gk l n).1.length n n (na (gk l n).2) (cz (fc l n))=0):gk l (n+1)=((gk l n).1++ [lR (gk l n).1.length n n (na (gk l n).2) (cz (fc l n))],(gk l n).2++ [.node [jY (gk l n).1.length n n (na (gk l n).2) (cz (fc l n))]]):=if_pos h
def Qk{l:List G}{n:Nat}(h:¬bw (gk l n).1.length n n (na (gk l n).2) (cz (fc l n))=0):gk l (n+1)=gk l n:=if_neg h
def iG(k i n:Int):List G:=((List.range n.toNat).drop (max i 1).toNat).map λ(j:Nat)=>.node [.int k,.int (j:Int)]
def Ib{k i n:Int}(h:n<=i)(h0:0<=i):iG k i n= []:=by unfold iG;rw[aaH (by rw[abK];omega)];rfl
def Wb{k i n:Int}(h0:0<=i)(h:¬1<=i):iG k i n=iG k (i+1) n:=by
 obtain rfl:i=0:=by omega
 rfl
def Wc{k i n:Int}(h:1<=i)(hi:i<n):iG k i n= .node [.int k,.int i]::iG k (i+1) n:=by unfold iG;rw[show max i 1=i by omega,show max (i+1) 1=i+1 by omega,aaX (by rw[abK];omega),aax,List.getElem_range,show(i+1).toNat=i.toNat+1 by omega,abf (by omega)]
def T_(k i n:Int):((iG k i n).length:Int)<=n∨(iG k i n).length=0:=by unfold iG;rw[aaR,aas,abK];omega
def rr(L:List G):List G:=L.flatMap λb=>iG (gI (aa b 0)) 0 (gL (aa b 4)).length
def Ic:rr []= []:=rfl
def Id(L:List G)(k t n:Int)(pv:G)(es:List G):rr (L++ [lR k t n pv es])=rr L++iG k 0 es.length:=by unfold rr;rw[List.flatMap_append,List.flatMap_singleton];rfl
def md_0(l:List G):gP l 0= []/\jl l 0= []:=⟨rfl,rfl⟩
def md_1{l:List G}{i:Int}{k:Int}{pv:G}(h0:0<=i)(hk:k=(gP l i).length)(hp:pv=na (jl l i))(h:bw k i i pv (cz (fc l i))=0):gP l (i+1)=gP l i++ [lR k i i pv (cz (fc l i))]/\jl l (i+1)=jl l i++ [.node [jY k i i pv (cz (fc l i))]]/\rr (gP l (i+1))=rr (gP l i)++iG k 0 (cz (fc l i)).length:=by
 subst hk;subst hp;have e:((i.toNat:Nat):Int)=i:=abf h0;have h2:bw (gk l i.toNat).1.length i.toNat i.toNat (na (gk l i.toNat).2) (cz (fc l i.toNat))=0:=by rw[e];exact h
 have h1:=Qj h2;rw[e] at h1;have e2:(i+1).toNat=i.toNat+1:=by omega
 have a1:gP l (i+1)=gP l i++ [lR (gP l i).length i i (na (jl l i)) (cz (fc l i))]:=by unfold gP jl;rw[e2,h1]
 exact⟨a1,by unfold gP jl;rw[e2,h1],by rw[a1,Id]⟩
def md_2{l:List G}{i:Int}{k:Int}{pv:G}(h0:0<=i)(hk:k=(gP l i).length)(hp:pv=na (jl l i))(h:¬bw k i i pv (cz (fc l i))=0):gP l (i+1)=gP l i/\jl l (i+1)=jl l i:=by
 subst hk;subst hp;have e:((i.toNat:Nat):Int)=i:=abf h0;have h2:¬bw (gk l i.toNat).1.length i.toNat i.toNat (na (gk l i.toNat).2) (cz (fc l i.toNat))=0:=by rw[e];exact h
 have h1:=Qk h2;have e2:(i+1).toNat=i.toNat+1:=by omega
 unfold gP jl;rw[e2,h1];exact⟨rfl,rfl⟩
def Ql{l:List G}(hl:iF l):∀n:Nat,n<=l.length->RowsOk (gk l n).2/\(gk l n).1.length=(gk l n).2.length/\(gk l n).1.length<=n/\pN (gk l n).1 n/\(rr (gk l n).1).length<=200 * n
 |0,_=>⟨gO,rfl,aac _,Yu _,aac _⟩
 |n+1,hn=>by
  obtain⟨h1,h2,h3,h4,h5⟩:=Ql hl n (by omega);by_cases hb:bw (gk l n).1.length n n (na (gk l n).2) (cz (fc l n))=0
  ·rw[Qj hb];have hx:=(fm hb).1;have hx:(cz (fc l n)).length<=200:=by unfold yd at hx;exact hx.2.2.2.2
   refine⟨gN h1 (mP _ _ _ _ _),by simp [h2],by simp;omega,Yv (by omega), ?_⟩;show(rr ((gk l n).1++ [_])).length<=_;rw[Id,aai];have:=T_ (gk l n).1.length 0 (cz (fc l n)).length;omega
  ·rw[Qk hb];exact⟨h1,h2,by omega,TS h4 (by omega),by omega⟩
def Wd{l:List G}{i:Int}(hl:iF l)(h0:0<=i)(hi:i<=l.length):RowsOk (jl l i)/\(gP l i).length=(jl l i).length/\((gP l i).length:Int)<=i/\pN (gP l i) i/\(rr (gP l i)).length<=6000/\HOk (na (jl l i)):=by obtain⟨h1,h2,h3,h4,h5⟩:=Ql hl i.toNat (by omega);rw[abf h0] at h4;have:=(uh hl).1;exact⟨h1,h2,by unfold gP;omega,h4,by unfold gP;omega,zp h1⟩
def Ie(p:Sy):LSpec:=⟨[(16,.c (.g 1 2 34)),(18,.c (.p 0)),(23,.c (.i .i64 9))],[.cells 79 (mZ p),.grow 14 30 34],λz=>dT (p.g 24)/\(p.g 24).length<=1000000/\(0<=z.i 9/\z.i 9<=(p.g 24).length)/\(z.g 34).length<=10000+z.i 9,λz=>((p.g 24).length-z.i 9).toNat,[⟨.exit 4,[(16,.c (.g 1 2 34))],[.cells 79 (mZ p),.grow 14 30 34]⟩],λz y=>y.g 34=z.g 34++iG (p.i 21) (z.i 9) (p.g 24).length,none,[0,1,10,14,17]⟩
def CC(p:Sy):LSpec:=⟨[(0,.c (.pv 13 (p.g 1))),(17,.c (.pi .i64 (p.i 8))),(18,.c (.p 0)),(19,.c (.i .i64 9))],wG p,λz=>(0<=p.i 8/\p.i 8<(p.g 1).length)/\ko (fc (p.g 1) (p.i 8))/\(0<=z.i 9/\z.i 9<=(fc (p.g 1) (p.i 8)).length)/\(z.g 20).length=z.i 9+1,λz=>((fc (p.g 1) (p.i 8)).length-z.i 9).toNat,[⟨.exit 2,[(0,.c (.pv 13 (p.g 1))),(17,.c (.pi .i64 (p.i 8))),(18,.c (.p 0))],wG p⟩],λz y=>y.g 20=z.g 20++um (fc (p.g 1) (p.i 8)) (z.i 9),none,[1,10,14,16]⟩
def moB:List BSh:=V4++ [.cells 75 [.p 8,.g 9 36 41,.g 10 32 42,.pb False],.cells 121 [.i .i64 51,.g 11 3 40,.i .i64 52],.grow 11 79 41,.grow 6 28 42,.grow 12 191 40,.grow 14 30 34]
def Qm(p:Sy):LSpec:=⟨[(0,.c (.pv 13 (p.g 1))),(1,.c (.pv 8 [])),(10,.c (.p 0)),(14,.c (.p 7)),(16,.c (.g 12 2 34)),(17,.c (.i .i64 9))],moB,λz=>iF (p.g 1)/\(0<=z.i 9/\z.i 9<=(p.g 1).length)/\z.g 31=gP (p.g 1) (z.i 9)/\z.g 32=jl (p.g 1) (z.i 9)/\z.g 41=z.g 31/\z.g 42=z.g 32/\z.g 34=rr (z.g 31)/\(z.i 51=4194304/\z.i 52= -1)/\z.i 1=(z.g 31).length/\dG (z.i 1) (z.g 2)/\un (z.g 31).length (z.g 20)/\eL (z.g 20)+600 * m_ (p.g 1) (z.i 9)<=600000/\qB (z.g 31).length (z.g 40)/\cj (z.g 40)+600 * m_ (p.g 1) (z.i 9)<=600000,λz=>((p.g 1).length-z.i 9).toNat,[⟨.exit 0,[(0,.c (.pv 13 (p.g 1))),(10,.c (.p 0)),(14,.c (.p 7)),(16,.c (.g 12 2 34))],moB⟩],λz y=>y.g 31=gP (p.g 1) (p.g 1).length/\y.g 32=jl (p.g 1) (p.g 1).length/\y.g 41=y.g 31/\y.g 42=y.g 32/\y.g 34=rr (y.g 31),kX,[]⟩
def Qn:FSpec:=⟨[.c (.v 13 1),.c (.v 8 2)],[],λz=>iF (z.g 1)/\(z.g 2).length=0,λ_=>.tu [.c .o,.c (.p 0),.c (.v 14 34),.c (.b 35)],λ_=>[.cells 75 [.o,.v 11 31,.v 6 32,.b 33]],λz y=>y.p 35/\y.g 31=gP (z.g 1) (z.g 1).length/\y.g 32=jl (z.g 1) (z.g 1).length/\y.g 34=rr (y.g 31),kX⟩
def Qo(nm:List Nat):¬iD nm []:=λh=>by obtain⟨r,hr,_⟩:=Cz h;exact absurd hr aaS
def Ua:dG 0 []:=yt (yr [])
attribute [irreducible] iF gP jl iG rr
end
def Kh:bH 6 2 CC:=bG 7 549 (ai Gn eN) lN λp z hA=>show Fm.den (let v0:=(aq (gL (aQ (aL (p.g 1) (p.i 8)))) (z.i 9).toNat);let v1:=(fc (p.g 1) (p.i 8));let v2:=(bS (p.i 8) (p.g 1));let v3:=(DQ (p.i 23) (p.i 22) (p.i 21) (p.i 8) (p.g 1));let v4:=(↑(gL (aQ (aL (p.g 1) (p.i 8)))).length:Int);let v5:=(gS (aa v0 3));let v6:=(gL (aa v0 5));let v7:=(gI (aa v0 1));let v8:=(gL (aa v0 4));let v9:=(gI (aa v0 0));let v10:=(gI (aa v0 2));let v11:=(pI (ug));let d7:=(ot (z.g 20));let i9:=((-9223372036854775808)<=z.i 9+1/\z.i 9+1<=9223372036854775807);let j8:=(eI (1+z.i 9));let n7:=(↑v1.length:Int);let u0:=(0<=z.i 9/\z.i 9<v4);let o8:=(dF (z.i 9) v1);let s8:=(kg p 200);(.an v2 (.two (z.i 9<v4) (.an v2 (.an u0 (Xi v7 v5 v8 v6 v9 v10 λy0=>(let s9:=(z.g 20++ [G.node [G.int 2,G.str [],G.int 1,G.int (1+z.i 9),G.int 0,G.int v9,G.int v7,G.int v10,G.str v5,G.node v8,G.node v6,hT y0 300,G.int v11,G.int 0,G.int 0]]);let v20:=(z.g 20++ [G.node [G.int 2,G.str [],G.int 1,G.int j8,G.int 0,G.int v9,G.int v7,G.int v10,G.str v5,G.node v8,G.node v6,hT y0 300,G.int v11,G.int 0,G.int 0]]);(.two ((-9223372036854775808)<=1+z.i 9/\1+z.i 9<=9223372036854775807) (.an v2 (.an u0 (.an d7 (.an i9 (.an (s9.length=(z.g 20).length+1/\fW s8 s8 v3) (.at ((v2/\ko v1/\o8/\(↑s9.length:Int)=z.i 9+1+1)/\(n7-(z.i 9+1)).toNat<(n7-z.i 9).toNat/\∀(y:Sy),y.g 20=z.g 20++ [G.node [G.int 2,G.str [],G.int 1,G.int (1+z.i 9),G.int 0,G.int v9,G.int v7,G.int v10,G.str v5,G.node v8,G.node v6,hT y0 300,G.int v11,G.int 0,G.int 0]]++um v1 (z.i 9+1)->y.g 20=z.g 20++um v1 (z.i 9)))))))) (.an v2 (.an u0 (.an d7 (.an i9 (.an (v20.length=(z.g 20).length+1/\fW s8 s8 v3) (.at ((v2/\ko v1/\o8/\(↑v20.length:Int)=z.i 9+1+1)/\(n7-(z.i 9+1)).toNat<(n7-z.i 9).toNat/\∀(y:Sy),y.g 20=z.g 20++ [G.node [G.int 2,G.str [],G.int 1,G.int j8,G.int 0,G.int v9,G.int v7,G.int v10,G.str v5,G.node v8,G.node v6,hT y0 300,G.int v11,G.int 0,G.int 0]]++um v1 (z.i 9+1)->y.g 20=z.g 20++um v1 (z.i 9))))))))))))) (.an ((z.g 20).length=(z.g 20).length/\fW s8 s8 v3) (.at (z.g 20=z.g 20++um v1 (z.i 9))))))) by dsimp only [CC,wG,uC] at hA;have:=@Pl (fc (p.g 1) (p.i 8)) (z.i 9);have:=@Pk (fc (p.g 1) (p.i 8)) (z.i 9);have:=@Tq (fc (p.g 1) (p.i 8)) (z.i 9);have a3:=lj (z.i 9) (aq (fc (p.g 1) (p.i 8)) (z.i 9).toNat);have a5:pI (false=true)=0:=if_neg (by simp);have a6:pI False=0:=if_neg id;have:=@Pm (fc (p.g 1) (p.i 8));dsimp only [Zk] at a3;exact cZ
def Qp:bH 6 4 Ie:=bG 7 549 eN lN λp z hA=>show Fm.den (let v0:=(↑(p.g 24).length:Int);let v1:=(NQ (z.g 34) (p.g 24) (kg p 200) (ja (p.i 23) (p.i 22) (p.i 21)));let v2:=((-9223372036854775808)<=z.i 9+1/\z.i 9+1<=9223372036854775807);let v3:=(dF (z.i 9) (p.g 24));let v4:=(z.g 34++ [G.node [G.int (p.i 21),G.int (z.i 9)]]);let v5:=(z.i 9+1);(.two (bO (z.i 9) (p.g 24)) (.an (bS (z.i 9) (p.g 24)) (.two (gI (aQ (aL (p.g 24) (z.i 9)))=2) (.an (ot (z.g 34)) (.an v2 (.an (v4.length=(z.g 34).length+1/\p.g 24=p.g 24/\fW (kg p 200) (kg p 200) (ja (p.i 23) (p.i 22) (p.i 21))) (.at ((dT (p.g 24)/\(p.g 24).length<=1000000/\v3/\(↑v4.length:Int)<=10000+v5)/\(v0-v5).toNat<(v0-z.i 9).toNat/\∀(y:Sy),y.g 34=z.g 34++ [G.node [G.int (p.i 21),G.int (z.i 9)]]++iG (p.i 21) v5 v0->y.g 34=z.g 34++iG (p.i 21) (z.i 9) v0))))) (.an v2 (.an v1 (.at ((dT (p.g 24)/\(p.g 24).length<=1000000/\v3/\(↑(z.g 34).length:Int)<=10000+v5)/\(v0-v5).toNat<(v0-z.i 9).toNat/\∀(y:Sy),y.g 34=z.g 34++iG (p.i 21) v5 v0->y.g 34=z.g 34++iG (p.i 21) (z.i 9) v0)))))) (.an v1 (.at (z.g 34=z.g 34++iG (p.i 21) (z.i 9) v0))))) by dsimp only [Ie,mZ,uC] at hA;have:=J4 p z;have:=@Wb (p.i 21) (z.i 9) (p.g 24).length;have:=@Wc (p.i 21) (z.i 9) (p.g 24).length;have:=@Ib (p.i 21) (z.i 9) (p.g 24).length;exact cZ
abbrev Zs(a:Prop)(b c:Int)(d:List G)(e:Int):=a/\b.toNat<c.toNat/\∀(y:Sy),y.g 31=gP d e/\y.g 32=jl d e/\y.g 41=y.g 31/\y.g 42=y.g 32/\y.g 34=rr (y.g 31)->y.g 31=gP d e/\y.g 32=jl d e/\y.g 41=y.g 31/\y.g 42=y.g 32/\y.g 34=rr (y.g 31)
abbrev Ki(a:List G)(b:Prop)(c:List G)(d:Int)(e f g h:List G)(i:Prop)(j:Int)(k:List G)(l:Int)(m n:List G):=iF a/\b/\c=gP a d/\e=jl a d/\f=c/\g=e/\h=rr c/\i/\j= ↑c.length/\dG j k/\un l m/\eL m+600 * m_ a d<=600000/\qB l n/\cj n+600 * m_ a d<=600000
abbrev Ub(a b c d e f:List G)(g:Prop)(h i:List G):=a.length=a.length/\b.length=b.length/\c.length=c.length/\d.length=d.length/\e.length=e.length/\f.length=f.length/\g/\qA lQ h=qA lQ h/\g/\M3/\i=i/\True
abbrev We(a:List G)(b:G)(c d:Int):=qY a/\HOk b/\a.length<=1000000/\c<9223372036854775808/\d<9223372036854775808/\d<9223372036854775808
abbrev Wf(a b:List G)(c:Int)(d:Sy)(e:Int):=RowsOk a/\b.length=a.length/\b.length<=60/\c=c/\hT d 300=na a/\pN b e
def Uc:bH 6 0 Qm:=bG 26 45097547762149 (jX HZ (ai T0 (ai T5 eN))) (aG (ptm:=[(61,.c (.i .i64 21)),(62,.c (.i .i64 22)),(63,.c (.i .i64 23)),(65,.ag (hs 200)),(0,.c (.v 13 1)),(17,.c (.i .i64 8))]) Kh (aG (ptm:=[(136,.ag bk)]) Qp lN)) (hgl:=λp g ty l h=>by cases h;decide) λp z hA=>show Fm.den (let v1:=(↑(z.g 41).length:Int);let v2:=(↑(p.g 1).length:Int);let v3:=(pI (ug));let v6:=(z.i 9+1);let v7:=(Int.ofNat ((aE (oo) 0).land (aE (oo) 65535)));let v8:=((-9223372036854775808)<=z.i 9+1/\z.i 9+1<=9223372036854775807);let v9:=(qt);let v4:=((Yy (z.g 41) (z.g 42) (z.g 40) v9));let v5:=((z.g 34).length=(z.g 34).length/\(z.g 31).length=(z.g 31).length/\(z.g 32).length=(z.g 32).length/\(z.g 41).length=(z.g 41).length/\(z.g 42).length=(z.g 42).length/\(z.g 40).length=(z.g 40).length/\v9/\qA lQ (z.g 20)=qA lQ (z.g 20)/\v9/\p.g 1=p.g 1/\True);let v10:=((bS (z.i 9) (p.g 1))/\ko (fc (p.g 1) (z.i 9))/\(fL (↑(fc (p.g 1) (z.i 9)).length:Int))/\(↑1:Int)=0+1);let v11:=(dF (z.i 9) (p.g 1));let d7:=(eI v6);let i9:=((ED (z.g 31) (z.g 32) (z.g 20) v9));let j8:=(z.g 31=gP (p.g 1) v2/\z.g 32=jl (p.g 1) v2/\z.g 41=z.g 31/\z.g 42=z.g 32/\z.g 34=rr (z.g 31));let n7:=(↑(z.g 34).length:Int);let v0:=(aL (z.g 34) (IntKind.i64.wrap v7%n7));let u0:=(gI (aa v0 0));let o8:=(gI (aa v0 1));let s8:=(z.i 51=4194304/\z.i 52=(-1));let s9:=(z.i 9=z.i 9/\z.i 9=z.i 9/\v1=v1/\z.i 9=z.i 9/\p.g 1=p.g 1/\True);let v20:=((0:Int)<=IntKind.i64.wrap v6/\IntKind.i64.wrap v6<= ↑(p.g 1).length);let v21:=(z.i 9=z.i 9/\z.i 9=z.i 9/\v1=v1/\True);let p9:=(v2-z.i 9);let v23:=(RowsOk (z.g 42)/\(z.g 42).length<=1000);let z':=(yQ (z.g 41));let v25:=(yQ (z.g 42));let v26:=(0<=z.i 1/\z.i 1<=1000);let v27:=(v2-IntKind.i64.wrap v6);(.two ((-9223372036854775808)<=v2+(↑0:Int)/\v2+(↑0:Int)<=9223372036854775807) (.two (z.i 9 < ↑(p.g 1).length+ ↑0) (.an z' (.an v25 (.ct v23 (λy0=>hT y0 300=na (z.g 42)) λy0=>(let v28:=(hT y0 300);let v29:=(kg y0 300);(.an (bO (z.i 9) (p.g 1)) (.an (1=1) (.cl ((1=1/\fW v29 v29 s9)) v10 (λy1=>y1.g 20= [G.node [G.int 1,G.str [115],G.int 0,G.int 0,G.int 0,G.int 0,G.int 0,G.int 0,G.str [],G.node [],G.node [],hZ,G.int v3,G.int 0,G.int 0]]++um (fc (p.g 1) (z.i 9)) 0) λy1=>(let v30:=(We (y1.g 20) v28 v1 (z.i 9));let v31:=(yQ (y1.g 20));(.an v31 (.cl v4 ((Wf (z.g 42) (z.g 41) v1 y0 (z.i 9))/\v30/\dT (y1.g 20)/\s8/\qB v1 (z.g 40)/\(bw v1 (z.i 9) (z.i 9) v28 (y1.g 20)=0->cj (z.g 40)+nb (y1.g 20)<=1000000)) (λy2=>y2.i 50=bw ↑(z.g 41).length (z.i 9) (z.i 9) v28 (y1.g 20)/\(y2.i 1=4194304/\y2.i 2=(-1))/\(bw v1 (z.i 9) (z.i 9) v28 (y1.g 20)=0->y2.g 31=z.g 41++ [lR v1 (z.i 9) (z.i 9) v28 (y1.g 20)]/\y2.g 32=z.g 42++ [G.node [jY v1 (z.i 9) (z.i 9) v28 (y1.g 20)]]/\qB (v1+1) (y2.g 20)/\cj (y2.g 20)<=cj (z.g 40)+nb (y1.g 20))/\(¬bw v1 (z.i 9) (z.i 9) v28 (y1.g 20)=0->y2.g 31=z.g 41/\y2.g 32=z.g 42/\y2.g 20=z.g 40)) λy2=>(let v32:=(y2.i 1=4194304/\y2.i 2=(-1));(.an v31 (.cl i9 ((RowsOk (z.g 32)/\(z.g 31).length=(z.g 32).length/\(z.g 31).length<=60/\v1=(↑(z.g 31).length:Int)/\hT y0 300=na (z.g 32)/\pN (z.g 31) (z.i 9))/\v30/\dT (y1.g 20)/\un v1 (z.g 20)/\(bw v1 (z.i 9) (z.i 9) v28 (y1.g 20)=0->eL (z.g 20)+nb (y1.g 20)<=1000000)/\v26/\dG (z.i 1) (z.g 2)) (λy3=>y3.i 50=bw ↑(z.g 41).length (z.i 9) (z.i 9) v28 (y1.g 20)/\(bw v1 (z.i 9) (z.i 9) v28 (y1.g 20)=0->y3.g 31=z.g 31++ [lR v1 (z.i 9) (z.i 9) v28 (y1.g 20)]/\y3.g 32=z.g 32++ [G.node [jY v1 (z.i 9) (z.i 9) v28 (y1.g 20)]]/\un (v1+1) (y3.g 20)/\eL (y3.g 20)<=eL (z.g 20)+nb (y1.g 20)/\y3.i 1=z.i 1+1/\dG (y3.i 1) (y3.g 2))/\(¬bw v1 (z.i 9) (z.i 9) v28 (y1.g 20)=0->y3.g 31=z.g 31/\y3.g 32=z.g 32/\y3.g 20=z.g 20/\y3.i 1=z.i 1/\y3.g 2=z.g 2)) λy3=>(let v33:=(↑(y3.g 31).length:Int);(.an (¬(y3.i 50≠y2.i 50)) (.two (y2.i 50=0) (.an v31 (.an v31 (.cl ((NQ (z.g 34) (y1.g 20) v29 v21)) (dT (y1.g 20)/\(y1.g 20).length<=1000000/\(fL (↑(y1.g 20).length:Int))/\n7<=10000+0) (λy4=>y4.g 34=z.g 34++iG v1 0 (↑(y1.g 20).length:Int)) λy4=>(.an v8 (.an (Ub (y4.g 34) (y3.g 31) (y3.g 32) (y2.g 31) (y2.g 32) (y2.g 20) v9 (y3.g 20) (p.g 1)) (.at (Zs (Ki (p.g 1) v11 (y3.g 31) v6 (y3.g 32) (y2.g 31) (y2.g 32) (y4.g 34) v32 (y3.i 1) (y3.g 2) v33 (y3.g 20) (y2.g 20)) (v2-v6) p9 (p.g 1) v2))))))) (.an v8 (.an (Ub (z.g 34) (y3.g 31) (y3.g 32) (y2.g 31) (y2.g 32) (y2.g 20) v9 (y3.g 20) (p.g 1)) (.at (Zs (Ki (p.g 1) v11 (y3.g 31) v6 (y3.g 32) (y2.g 31) (y2.g 32) (z.g 34) v32 (y3.i 1) (y3.g 2) v33 (y3.g 20) (y2.g 20)) (v2-v6) p9 (p.g 1) v2)))))))))))))))))))) (.an v5 (.at j8))) (.two (z.i 9<IntKind.i64.wrap (v2+(↑0:Int))) (.an z' (.an v25 (.ct v23 (λy5=>hT y5 300=na (z.g 42)) λy5=>(let v34:=(Wf (z.g 42) (z.g 41) v1 y5 (z.i 9));let U':=(hT y5 300);let v36:=(kg y5 300);(.two (bO (z.i 9) (p.g 1)) (.an (1=1) (.cl ((1=1/\fW v36 v36 s9)) v10 (λy6=>y6.g 20= [G.node [G.int 1,G.str [115],G.int 0,G.int 0,G.int 0,G.int 0,G.int 0,G.int 0,G.str [],G.node [],G.node [],hZ,G.int v3,G.int 0,G.int 0]]++um (fc (p.g 1) (z.i 9)) 0) λy6=>(let v37:=(We (y6.g 20) U' v1 (z.i 9));let v38:=(yQ (y6.g 20));(.an v38 (.cl v4 (v34/\v37/\dT (y6.g 20)/\s8/\qB v1 (z.g 40)/\(bw v1 (z.i 9) (z.i 9) U' (y6.g 20)=0->cj (z.g 40)+nb (y6.g 20)<=1000000)) (λy7=>y7.i 50=bw ↑(z.g 41).length (z.i 9) (z.i 9) U' (y6.g 20)/\(y7.i 1=4194304/\y7.i 2=(-1))/\(bw v1 (z.i 9) (z.i 9) U' (y6.g 20)=0->y7.g 31=z.g 41++ [lR v1 (z.i 9) (z.i 9) U' (y6.g 20)]/\y7.g 32=z.g 42++ [G.node [jY v1 (z.i 9) (z.i 9) U' (y6.g 20)]]/\qB (v1+1) (y7.g 20)/\cj (y7.g 20)<=cj (z.g 40)+nb (y6.g 20))/\(¬bw v1 (z.i 9) (z.i 9) U' (y6.g 20)=0->y7.g 31=z.g 41/\y7.g 32=z.g 42/\y7.g 20=z.g 40)) λy7=>(let v39:=(y7.i 1=4194304/\y7.i 2=(-1));(.an v38 (.cl i9 ((RowsOk (z.g 32)/\(z.g 31).length=(z.g 32).length/\(z.g 31).length<=60/\v1=(↑(z.g 31).length:Int)/\hT y5 300=na (z.g 32)/\pN (z.g 31) (z.i 9))/\v37/\dT (y6.g 20)/\un v1 (z.g 20)/\(bw v1 (z.i 9) (z.i 9) U' (y6.g 20)=0->eL (z.g 20)+nb (y6.g 20)<=1000000)/\v26/\dG (z.i 1) (z.g 2)) (λy8=>y8.i 50=bw ↑(z.g 41).length (z.i 9) (z.i 9) U' (y6.g 20)/\(bw v1 (z.i 9) (z.i 9) U' (y6.g 20)=0->y8.g 31=z.g 31++ [lR v1 (z.i 9) (z.i 9) U' (y6.g 20)]/\y8.g 32=z.g 32++ [G.node [jY v1 (z.i 9) (z.i 9) U' (y6.g 20)]]/\un (v1+1) (y8.g 20)/\eL (y8.g 20)<=eL (z.g 20)+nb (y6.g 20)/\y8.i 1=z.i 1+1/\dG (y8.i 1) (y8.g 2))/\(¬bw v1 (z.i 9) (z.i 9) U' (y6.g 20)=0->y8.g 31=z.g 31/\y8.g 32=z.g 32/\y8.g 20=z.g 20/\y8.i 1=z.i 1/\y8.g 2=z.g 2)) λy8=>(let v40:=(Ub (z.g 34) (y8.g 31) (y8.g 32) (y7.g 31) (y7.g 32) (y7.g 20) v9 (y8.g 20) (p.g 1));let v41:=(↑(y8.g 31).length:Int);(.an (¬(y8.i 50≠y7.i 50)) (.two (y7.i 50=0) (.an v38 (.an v38 (.cl ((NQ (z.g 34) (y6.g 20) v36 v21)) (dT (y6.g 20)/\(y6.g 20).length<=1000000/\(fL (↑(y6.g 20).length:Int))/\n7<=10000+0) (λy9=>y9.g 34=z.g 34++iG v1 0 (↑(y6.g 20).length:Int)) λy9=>(let v42:=(Ub (y9.g 34) (y8.g 31) (y8.g 32) (y7.g 31) (y7.g 32) (y7.g 20) v9 (y8.g 20) (p.g 1));(.two v8 (.an v42 (.at (Zs (Ki (p.g 1) v11 (y8.g 31) v6 (y8.g 32) (y7.g 31) (y7.g 32) (y9.g 34) v39 (y8.i 1) (y8.g 2) v41 (y8.g 20) (y7.g 20)) (v2-v6) p9 (p.g 1) v2))) (.an v42 (.at (Zs (Ki (p.g 1) v20 (y8.g 31) d7 (y8.g 32) (y7.g 31) (y7.g 32) (y9.g 34) v39 (y8.i 1) (y8.g 2) v41 (y8.g 20) (y7.g 20)) v27 p9 (p.g 1) v2)))))))) (.two v8 (.an v40 (.at (Zs (Ki (p.g 1) v11 (y8.g 31) v6 (y8.g 32) (y7.g 31) (y7.g 32) (z.g 34) v39 (y8.i 1) (y8.g 2) v41 (y8.g 20) (y7.g 20)) (v2-v6) p9 (p.g 1) v2))) (.an v40 (.at (Zs (Ki (p.g 1) v20 (y8.g 31) d7 (y8.g 32) (y7.g 31) (y7.g 32) (z.g 34) v39 (y8.i 1) (y8.g 2) v41 (y8.g 20) (y7.g 20)) v27 p9 (p.g 1) v2))))))))))))))) (.two (0<n7) (.an ((-9223372036854775808)<=z.i 9-v2/\z.i 9 - ↑(p.g 1).length<=9223372036854775807) (.an (0<=z.i 9-v2/\z.i 9 - ↑(p.g 1).length < ↑0) (.an (n7≠0) (.an ((0:Int)<=IntKind.i64.wrap v7/\0<n7) (.an (0<=IntKind.i64.wrap v7%n7/\IntKind.i64.wrap v7 % ↑(z.g 34).length < ↑(z.g 34).length) (.an (eB (IntKind.i64.wrap v7 % ↑(z.g 34).length) (z.g 34)) (.an (2=2) (.an (2=2) (.cl v4 (v34/\(qY [G.node [G.int 1,G.str [115],G.int 0,G.int 0,G.int 0,G.int 0,G.int 0,G.int 0,G.str [],G.node [],G.node [],hZ,G.int v3,G.int 0,G.int 0],G.node [G.int 4,G.str [],G.int 0,G.int 0,G.int 0,G.int 0,G.int 0,G.int 0,G.str [],G.node [],G.node [],hZ,G.int v3,G.int u0,G.int o8]]/\HOk U'/\2<=1000000/\v1<9223372036854775808/\z.i 9<9223372036854775808/\z.i 9<9223372036854775808)/\dT [G.node [G.int 1,G.str [115],G.int 0,G.int 0,G.int 0,G.int 0,G.int 0,G.int 0,G.str [],G.node [],G.node [],hZ,G.int v3,G.int 0,G.int 0],G.node [G.int 4,G.str [],G.int 0,G.int 0,G.int 0,G.int 0,G.int 0,G.int 0,G.str [],G.node [],G.node [],hZ,G.int v3,G.int u0,G.int o8]]/\s8/\qB v1 (z.g 40)/\(bw v1 (z.i 9) (z.i 9) U' [G.node [G.int 1,G.str [115],G.int 0,G.int 0,G.int 0,G.int 0,G.int 0,G.int 0,G.str [],G.node [],G.node [],hZ,G.int v3,G.int 0,G.int 0],G.node [G.int 4,G.str [],G.int 0,G.int 0,G.int 0,G.int 0,G.int 0,G.int 0,G.str [],G.node [],G.node [],hZ,G.int v3,G.int u0,G.int o8]]=0->cj (z.g 40)+nb [G.node [G.int 1,G.str [115],G.int 0,G.int 0,G.int 0,G.int 0,G.int 0,G.int 0,G.str [],G.node [],G.node [],hZ,G.int v3,G.int 0,G.int 0],G.node [G.int 4,G.str [],G.int 0,G.int 0,G.int 0,G.int 0,G.int 0,G.int 0,G.str [],G.node [],G.node [],hZ,G.int v3,G.int u0,G.int o8]]<=1000000)) (λC'=>C'.i 50=bw ↑(z.g 41).length (z.i 9) (z.i 9) U' [G.node [G.int 1,G.str [115],G.int 0,G.int 0,G.int 0,G.int 0,G.int 0,G.int 0,G.str [],G.node [],G.node [],hZ,G.int v3,G.int 0,G.int 0],G.node [G.int 4,G.str [],G.int 0,G.int 0,G.int 0,G.int 0,G.int 0,G.int 0,G.str [],G.node [],G.node [],hZ,G.int v3,G.int u0,G.int o8]]/\(C'.i 1=4194304/\C'.i 2=(-1))/\(bw v1 (z.i 9) (z.i 9) U' [G.node [G.int 1,G.str [115],G.int 0,G.int 0,G.int 0,G.int 0,G.int 0,G.int 0,G.str [],G.node [],G.node [],hZ,G.int v3,G.int 0,G.int 0],G.node [G.int 4,G.str [],G.int 0,G.int 0,G.int 0,G.int 0,G.int 0,G.int 0,G.str [],G.node [],G.node [],hZ,G.int v3,G.int u0,G.int o8]]=0->C'.g 31=z.g 41++ [lR v1 (z.i 9) (z.i 9) U' [G.node [G.int 1,G.str [115],G.int 0,G.int 0,G.int 0,G.int 0,G.int 0,G.int 0,G.str [],G.node [],G.node [],hZ,G.int v3,G.int 0,G.int 0],G.node [G.int 4,G.str [],G.int 0,G.int 0,G.int 0,G.int 0,G.int 0,G.int 0,G.str [],G.node [],G.node [],hZ,G.int v3,G.int u0,G.int o8]]]/\C'.g 32=z.g 42++ [G.node [jY v1 (z.i 9) (z.i 9) U' [G.node [G.int 1,G.str [115],G.int 0,G.int 0,G.int 0,G.int 0,G.int 0,G.int 0,G.str [],G.node [],G.node [],hZ,G.int v3,G.int 0,G.int 0],G.node [G.int 4,G.str [],G.int 0,G.int 0,G.int 0,G.int 0,G.int 0,G.int 0,G.str [],G.node [],G.node [],hZ,G.int v3,G.int u0,G.int o8]]]]/\qB (v1+1) (C'.g 20)/\cj (C'.g 20)<=cj (z.g 40)+nb [G.node [G.int 1,G.str [115],G.int 0,G.int 0,G.int 0,G.int 0,G.int 0,G.int 0,G.str [],G.node [],G.node [],hZ,G.int v3,G.int 0,G.int 0],G.node [G.int 4,G.str [],G.int 0,G.int 0,G.int 0,G.int 0,G.int 0,G.int 0,G.str [],G.node [],G.node [],hZ,G.int v3,G.int u0,G.int o8]])/\(¬bw v1 (z.i 9) (z.i 9) U' [G.node [G.int 1,G.str [115],G.int 0,G.int 0,G.int 0,G.int 0,G.int 0,G.int 0,G.str [],G.node [],G.node [],hZ,G.int v3,G.int 0,G.int 0],G.node [G.int 4,G.str [],G.int 0,G.int 0,G.int 0,G.int 0,G.int 0,G.int 0,G.str [],G.node [],G.node [],hZ,G.int v3,G.int u0,G.int o8]]=0->C'.g 31=z.g 41/\C'.g 32=z.g 42/\C'.g 20=z.g 40)) λC'=>.ff))))))))) (.an (1=1) (.an (1=1) (.cl v4 (v34/\(qY [G.node [G.int 1,G.str [115],G.int 0,G.int 0,G.int 0,G.int 0,G.int 0,G.int 0,G.str [],G.node [],G.node [],hZ,G.int v3,G.int 0,G.int 0]]/\HOk U'/\1<=1000000/\v1<9223372036854775808/\z.i 9<9223372036854775808/\z.i 9<9223372036854775808)/\dT [G.node [G.int 1,G.str [115],G.int 0,G.int 0,G.int 0,G.int 0,G.int 0,G.int 0,G.str [],G.node [],G.node [],hZ,G.int v3,G.int 0,G.int 0]]/\s8/\qB v1 (z.g 40)/\(bw v1 (z.i 9) (z.i 9) U' [G.node [G.int 1,G.str [115],G.int 0,G.int 0,G.int 0,G.int 0,G.int 0,G.int 0,G.str [],G.node [],G.node [],hZ,G.int v3,G.int 0,G.int 0]]=0->cj (z.g 40)+nb [G.node [G.int 1,G.str [115],G.int 0,G.int 0,G.int 0,G.int 0,G.int 0,G.int 0,G.str [],G.node [],G.node [],hZ,G.int v3,G.int 0,G.int 0]]<=1000000)) (λy11=>y11.i 50=bw ↑(z.g 41).length (z.i 9) (z.i 9) U' [G.node [G.int 1,G.str [115],G.int 0,G.int 0,G.int 0,G.int 0,G.int 0,G.int 0,G.str [],G.node [],G.node [],hZ,G.int v3,G.int 0,G.int 0]]/\(y11.i 1=4194304/\y11.i 2=(-1))/\(bw v1 (z.i 9) (z.i 9) U' [G.node [G.int 1,G.str [115],G.int 0,G.int 0,G.int 0,G.int 0,G.int 0,G.int 0,G.str [],G.node [],G.node [],hZ,G.int v3,G.int 0,G.int 0]]=0->y11.g 31=z.g 41++ [lR v1 (z.i 9) (z.i 9) U' [G.node [G.int 1,G.str [115],G.int 0,G.int 0,G.int 0,G.int 0,G.int 0,G.int 0,G.str [],G.node [],G.node [],hZ,G.int v3,G.int 0,G.int 0]]]/\y11.g 32=z.g 42++ [G.node [jY v1 (z.i 9) (z.i 9) U' [G.node [G.int 1,G.str [115],G.int 0,G.int 0,G.int 0,G.int 0,G.int 0,G.int 0,G.str [],G.node [],G.node [],hZ,G.int v3,G.int 0,G.int 0]]]]/\qB (v1+1) (y11.g 20)/\cj (y11.g 20)<=cj (z.g 40)+nb [G.node [G.int 1,G.str [115],G.int 0,G.int 0,G.int 0,G.int 0,G.int 0,G.int 0,G.str [],G.node [],G.node [],hZ,G.int v3,G.int 0,G.int 0]])/\(¬bw v1 (z.i 9) (z.i 9) U' [G.node [G.int 1,G.str [115],G.int 0,G.int 0,G.int 0,G.int 0,G.int 0,G.int 0,G.str [],G.node [],G.node [],hZ,G.int v3,G.int 0,G.int 0]]=0->y11.g 31=z.g 41/\y11.g 32=z.g 42/\y11.g 20=z.g 40)) λy11=>.ff))))))))) (.an v5 (.at j8))))) by dsimp only [Qm,moB,V4] at hA;have:=@Wa (p.g 1) (z.i 9);have:=@uh (p.g 1);have:=@T8 (p.g 1) (z.i 9);have:=@Wd (p.g 1) (z.i 9);have:=@md_1 (p.g 1) (z.i 9);have:=@md_2 (p.g 1) (z.i 9);have:=λk pv h hb=>@YA (fc (p.g 1) (z.i 9)) k (z.i 9) (z.i 9) pv h hb;have:=@pK (fc (p.g 1) (z.i 9));have:=@yY (fc (p.g 1) (z.i 9));have:=oG (fc (p.g 1) (z.i 9));have:=@Pm (fc (p.g 1) (z.i 9));have:=λh=>tU (es:=cz (fc (p.g 1) (z.i 9))) h;have:=@fy;have a5:pI (false=true)=0:=if_neg (by simp);have a6:pI False=0:=if_neg id;exact cZ
def If:bj 6 Qn:=bB 2 2 (ai Yt (ai TQ (ai HX (ai Vq eN)))) (aG (ptm:=[(0,.c (.v 13 1))]) Uc lN) λz hA=>show Fm.den (let v0:=(↑(z.g 1).length:Int);(.ct ((4194304:Int)=4194304) (λy0=>y0.g 20= []/\y0.i 30=0) λy0=>(Vs λy1=>(.cl ((mU (y0.g 20))) (¬iD [106,111,117,114,110,97,108] (y0.g 20)/\7<=64) (λy2=>y2.g 20=y0.g 20/\y2.i 30=7) λy2=>(.an (y2.i 30≠0) (.cl ((mU (y2.g 20))) (y2.g 20= []) (λy3=>y3.g 20= []) λy3=>(.cl ((0=0/\0=0/\0=0/\0=0/\0=0/\0=0/\(false=true↔False)/\qA lQ (y3.g 20)=qA lQ (y3.g 20)/\(false=true↔False)/\z.g 2= []/\z.g 1=z.g 1/\True)) (iF (z.g 1)/\(fL v0)/\ []=gP (z.g 1) 0/\ []=jl (z.g 1) 0/\M3/\M3/\ []=rr []/\((4194304:Int)=4194304/\(-1:Int)=(-1))/\y1.i 1= ↑0/\dG (y1.i 1) (y1.g 2)/\un (↑0:Int) (y3.g 20)/\eL (y3.g 20)+600 * m_ (z.g 1) 0<=600000/\qB (↑0:Int) []/\cj []+600 * m_ (z.g 1) 0<=600000) (λy4=>y4.g 31=gP (z.g 1) v0/\y4.g 32=jl (z.g 1) v0/\y4.g 41=y4.g 31/\y4.g 42=y4.g 32/\y4.g 34=rr (y4.g 31)) λy4=>(.an ((y4.g 42).length=(y4.g 42).length/\(y4.g 41).length=(y4.g 41).length/\(y4.g 34).length=(y4.g 34).length/\True) (.at ((↑(y4.g 31).length:Int)=(↑(y4.g 41).length:Int)/\y4.g 41=gP (z.g 1) v0/\y4.g 42=jl (z.g 1) v0/\y4.g 34=rr (y4.g 41))))))))))) by dsimp only [Qn] at hA;have:=md_0 (z.g 1);have:=@uh (z.g 1);have:=TX;have:=TU;have:=Ua;have:=λnm=>Qo nm;have:=Ic;have:=zo;have:=yK;exact cZ
noncomputable section
def zs{l:List G}(hl:iF l):∀n:Nat,n<=l.length->∀i:Int,0<=i->i<(gk l n).1.length->∃(t:Nat) (pv:G),t<l.length/\HOk pv/\bw i t t pv (cz (fc l t))=0/\aq (gk l n).1 i.toNat=lR i t t pv (cz (fc l t))/\aq (gk l n).2 i.toNat= .node [jY i t t pv (cz (fc l t))]
 |0,_,i,h0,hi=>by
  have:(0:Int)<=i/\i<(([]:List G).length:Nat):=⟨h0,hi⟩
  simp at this;omega
 |n+1,hn,i,h0,hi=>by
  obtain⟨h1,h2,h3,h4,h5⟩:=Ql hl n (by omega);by_cases hb:bw (gk l n).1.length n n (na (gk l n).2) (cz (fc l n))=0
  ·rw[Qj hb] at hi⊢;by_cases hx:i<(gk l n).1.length
   ·rw[HB h0 hx,HB h0 (by omega)];exact zs hl n (by omega) i h0 hx
   ·have hi:i<(((gk l n).1++ [lR (gk l n).1.length n n (na (gk l n).2) (cz (fc l n))]).length:Nat):=hi;rw[aai,aaI] at hi;have e:i=((gk l n).1.length:Nat):=by omega
    rw[tT e,tT (by omega),e];exact⟨n,_,by omega,zp h1,hb,rfl,rfl⟩
  ·rw[Qk hb] at hi⊢;exact zs hl n (by omega) i h0 hi
def Qq(k t n:Int)(pv:G)(es:List G):gL (aa (lR k t n pv es) 4)=es/\gI (aa (lR k t n pv es) 0)=k/\gI (aa (lR k t n pv es) 1)=t/\gI (aa (lR k t n pv es) 2)=n/\aa (lR k t n pv es) 3=pv:=⟨rfl,rfl,rfl,rfl,rfl⟩
def Qr{l:List G}{i:Int}(hl:iF l)(h0:0<=i)(hi:i<(gP l l.length).length):∃(t:Nat) (pv:G),t<l.length/\HOk pv/\bw i t t pv (cz (fc l t))=0/\aq (gP l l.length) i.toNat=lR i t t pv (cz (fc l t))/\aq (jl l l.length) i.toNat= .node [jY i t t pv (cz (fc l t))]:=by unfold gP jl at *;rw[aar] at *;exact zs hl _ (aac _) i h0 hi
def Wg{l:List G}{t:Nat}(hl:iF l)(h:t<l.length):ko (fc l t):=Wa hl (by omega) (by omega)
def Wh{l:List G}(hl:iF l):lm (gP l l.length)/\RowsOk (jl l l.length)/\(gP l l.length).length=(jl l l.length).length/\(gP l l.length).length<=1000:=by
 obtain⟨h1,h2,h3,_⟩:=Wd hl (i:=l.length) (by omega) (Int.le_refl _);have h4:=(uh hl).1;refine⟨?_,h1,h2,by omega⟩;unfold lm;intro b hb;obtain⟨n,hn,rfl⟩:=abI hb;have e:(gP l l.length)[n]=aq (gP l l.length) (n:Int).toNat:=by unfold aq;rw[aag,aar,aak hn];rfl
 obtain⟨t,pv,ht,hp,hb,e1,e2⟩:=Qr hl (i:=n) (by omega) (by omega);have he:=pK (Wg hl ht);rw[e,e1];obtain⟨b4,b0,b1,b2,b3⟩:=Qq n t t pv (cz (fc l t));show jN (gL (aa _ 4))/\O9 (gL (aa _ 4))/\HOk (hX (aa _ 3))/\gI (aa _ 0)<_/\gI (aa _ 1)<_/\gI (aa _ 2)<_;rw[b4,b0,b1,b2,b3,cI hp];exact⟨(oL he hp (by omega) (by omega) (by omega) hb).1,HC he,hp,by omega,by omega,by omega⟩
def Qs{l:List G}{i k n:Int}{B:G}(hl:iF l)(hn1:1<=n)(hn:n<=(jl l l.length).length)(i0:0<=i)(hi:i<n)(hB:B=aq (gP l l.length) i.toNat)(k0:0<=k)(hk:k<(pL B).length):
 cP 0 (aA (uk (aq (pL B) k.toNat))) (ci (kw (gI (aa B 0)) (gI (aa B 1)) (gI (aa B 2)) (hX (aa B 3)))) i k (pL B).length n (aR k (gJ (pL B) 0)) (aR i ((jl l l.length).take n.toNat)) (aO ((jl l l.length).take n.toNat))/\
  jN (pL B)/\1<=(pL B).length/\wh (aq (pL B) k.toNat)/\me (aq (pL B) k.toNat)=0/\B8 (gS (aa (aq (pL B) k.toNat) 1))/\RowsOk (aR k (gJ (pL B) 0))/\(aR k (gJ (pL B) 0)).length<=1000000/\RowsOk (aR i ((jl l l.length).take n.toNat))/\(aR i ((jl l l.length).take n.toNat)).length<=1000000/\HOk (aO ((jl l l.length).take n.toNat)):=by
 obtain⟨q1,q2,q3,q4⟩:=Wh hl
 have h30:=(uh hl).1
 obtain⟨t,pv,ht,hp,hb,e1,e2⟩:=Qr hl i0 (by omega)
 have he:=pK (Wg hl ht)
 have l8:=TA (fc l t)
 have hE:=(oL he hp (by omega) (by omega) (by omega) hb).1
 subst hB
 rw[e1] at hk⊢
 obtain⟨b4,b0,b1,b2,b3⟩:=Qq i t t pv (cz (fc l t))
 unfold pL at *
 rw[b4] at hk⊢
 rw[b0,b1,b2,b3,cI hp]
 have hE':=PC hE k0 hk
 have l1:=oI k (gJ (cz (fc l t)) 0)
 rw[jP] at l1
 have l2:=oI i ((jl l l.length).take n.toNat)
 rw[aao] at l2
 have l3:=hE.2.2
 refine⟨Cv ⟨l8,hE.2.2⟩ k0 hk q2 hn (by omega) i0 hi ?_,hE,l8,hE'.1,hE'.2,mk_tx k0 hk,oJ (jQ _),by omega,oJ (q2.take _),by omega,cD _ (q2.take _)⟩
 rw[e2]
 exact cI (mP _ _ _ _ _)
def md_kv:Cm (cz kv) (gP [.node [.node kv]] 1) (jl [.node [.node kv]] 1) (rr (gP [.node [.node kv]] 1)):=by
 obtain⟨m1,m2⟩:=md_0 [.node [.node kv]];have e:=md_1 (l:=[.node [.node kv]]) (i:=0) (k:=0) (pv:=hZ) (by decide) (by rw[m1];rfl) (by rw[m2];exact(HU rfl).symm) PH;rw[m1,m2,Ic] at e;have e:gP [.node [.node kv]] (0+1)= []++ [lR 0 0 0 hZ (cz kv)]/\jl [.node [.node kv]] (0+1)= []++ [.node [jY 0 0 0 hZ (cz kv)]]/\rr (gP [.node [.node kv]] (0+1))= []++iG 0 0 (cz kv).length:=e;have hl:(cz kv).length=2:=by rw[mT];rfl
 unfold Cm;refine⟨λ_=>?_,λh=>absurd PH h⟩;rw[show(1:Int)=0+1 from rfl,e.1,e.2.1];refine⟨rfl,rfl, ?_⟩;rw[show(0:Int)+1=1 from rfl,VW, ←e.1,show(0:Int)+1=1 from rfl];have:=e.2.2;rw[show(0:Int)+1=1 from rfl] at this;rw[this,hl,aa6];show iG 0 0 2=_;rw[Wb (by decide) (by decide),Wc (by decide) (by decide),Ib (by decide) (by decide)];rfl
def ls_kv:iF [.node [.node kv]]:=by
 have hv:=PG;unfold iF;refine⟨λi h0 hi=>?_, ?_,by decide⟩
 ·have:i=0:=by have:i<1:=hi;omega
  subst this;exact hv
 ·rw[gM (by omega) (by simp),yT (by simp)];have h:kv.length=1:=by unfold kv;rfl
  show 2+jk 1002 kv 0+0<=1000;rw[lg (by omega) (by omega),oE (by omega)];unfold kv;show 2+(1+0/20+0+0+0)+0<=1000;decide
def NfM(l:List G):Prop:=∀r∈l,Zl (gL (aa r 0))
def ls_of{l:List G}(h:NfM l)(hn:Eh l)(hl:l.length<=30/\m_ l 0<=1000):iF l:=by
 unfold iF;refine⟨λi h0 hi=>?_,hl.2,hl.1⟩;have hm:=bY h0 hi;have h1:=(Ei hn h0 hi).1;have key:∀(n:Nat) (j:Int),(j.toNat+n=i.toNat)->0<=j->jk 1002 (gL (aa (aq l i.toNat) 0)) 0<=m_ l j:=by
  intro n
  induction n with
  |zero=>intro j hj hj0;rw[gM hj0 (by omega),show j=i by omega];omega
  |succ n ih=>intro j hj hj0;rw[gM hj0 (by omega)];have:=ih (j+1) (by omega) (by omega);omega
 have h2:=key i.toNat 0 (by omega) (by omega);unfold ko;have h2:jk 1002 (fc l i) 0<=1000:=aaL h2 hl.2;exact⟨h _ hm,h1,h2,wI h2⟩
def Kj{kd i c:Int}{t:List Nat}{ns ks:List G}(h:QV 1002 i t ns ks)(hg:QW 1002 t ns ks<=1000):ti 16 i t ns ks/\xW 16 t ks<=10000000:=by have h1:QU 1002 (.node [.int kd,.int i,.int c,.str t,.node ns,.node ks]):=(yS 1002 (.node [.int kd,.int i,.int c,.str t,.node ns,.node ks]))▸h;have h2:oO 1002 (.node [.int kd,.int i,.int c,.str t,.node ns,.node ks])<=1000:=(Ef 1002 (.node [.int kd,.int i,.int c,.str t,.node ns,.node ks]))▸hg;obtain⟨a,b⟩:=Ck (l:=[.node [.int kd,.int i,.int c,.str t,.node ns,.node ks]]) (i:=0) (by unfold wH;intro x hx;rw[List.mem_singleton.1 hx];exact h1) (by rw[lg (by omega) (by simp),oE (by simp)];exact h2) (by decide) (by simp);exact⟨a,aaL b (by decide)⟩
def Qt{kd:Int}{tx:List Nat}{tb dc vr vk vi vs:Int}{vt:List Nat}{vn vx:List G}{h:G}{gn:Prop}{ab ae:Int}{lh hd:G}{xb xe c n:Int}{ip op:List G}{r:G}(ht:B8 tx)(hh:HOk h)(hr:cP (cR kd tx tb dc vr vk vi vs vt vn vx h gn ab ae) lh hd xb xe c n ip op r):0<=tb/\0<=dc/\0<=vr/\0<=ab/\0<=ae/\(cu kd tx tb dc vr h ab ae).length<=90000:=by
 obtain⟨hs,_⟩:=(fE _ _ _ _ _ _ _ _ _ _).1 hr
 obtain⟨h3,_⟩:=(lI _ _ _ _ _ _ _).1 hs
 have h1:=(da h3).1
 have hn:=iA h1
 have:=(Cr (h:=h) h1 ht hh).2
 omega
def XrP(L H:List G)(i k n:Int)(y:Sy):Prop:=(1<=n/\n<=H.length)/\((0<=i/\i<n)/\0<=k/\k<(pL (aq L i.toNat)).length)/\y.i 61=i/\y.i 62=k/\Yk y (aq (pL (aq L i.toNat)) k.toNat)/\hT y 400=ci (kw (gI (aa (aq L i.toNat) 0)) (gI (aa (aq L i.toNat) 1)) (gI (aa (aq L i.toNat) 2)) (hX (aa (aq L i.toNat) 3)))/\y.g 63=aR k (gJ (pL (aq L i.toNat)) 0)/\y.i 64=(pL (aq L i.toNat)).length/\y.g 65=aR i (List.take n.toNat H)
def Qu:FSpec:={HR with post:=λz y=>y.i 50=0->XrP (z.g 31) (z.g 32) (z.i 61) (z.i 62) (z.i 66) y/\0<=y.i 64/\y.i 64<=200}
def Ud(h:Ok Tryz.prog 7 HR):Ok Tryz.prog 7 Qu:=Ts _ (λz y hp q=>by
 intro h0;obtain⟨h1,h2⟩:=Classical.not_not.1 λh=>q.2 h h0;obtain⟨_,a2,a3,a4,a5,a6,a7,a8⟩:=q.1 h1.1 h1.2 h2;have hb:=(PB (i:=z.i 61) hp.1 h2.1.1 (by have:=hp.2.2.1;have:=h1.2;have:=h2.1.2;omega)).1.2.2;refine⟨by unfold XrP;exact⟨h1,h2,a2,a3,a4,a5,a6,a7,a8⟩, ?_, ?_⟩
 ·rw[a7];exact Int.natCast_nonneg _
 ·rw[a7];exact Int.ofNat_le.2 hb) h
def Qv:FSpec:=⟨[.c (.p 0),.c (.i .i64 67)],Zm,J_,λ_=>.tu [.ag (dg 66 500),.c (.i .i64 50)],Zn,λz y=>(0<=z.i 67->z.i 67<=(z.g 32).length->y.i 50=0/\y.i 66=z.i 67/\hT y 500=aO ((z.g 32).take (z.i 67).toNat))/\(¬(0<=z.i 67/\z.i 67<=(z.g 32).length)->y.i 50=1/\y.i 66=0/\hT y 500=hZ),none⟩
def Ue:FSpec:=⟨[.c (.v 13 201),.c (.i .i64 202),.c (.i .i64 203),.c (.i .i64 204),.c (.i .i64 205),.c (.i .u8 206),.ag enD],[],λz=>(Eh (z.g 201)/\NfM (z.g 201)/\(z.g 201).length<=1125899906842624)/\(-9223372036854775808<=z.i 205/\z.i 205<9223372036854775808)/\((z.s 1002).length<=1125899906842624/\B8 (z.s 1002))/\(-9223372036854775808<=z.i 1003/\z.i 1003<9223372036854775808)/\(-9223372036854775808<=z.i 1004/\z.i 1004<9223372036854775808)/\(-9223372036854775808<=z.i 1005/\z.i 1005<9223372036854775808)/\(-9223372036854775808<=z.i 1013/\z.i 1013<9223372036854775808)/\(-9223372036854775808<=z.i 1014/\z.i 1014<9223372036854775808)/\QV 1002 (z.i 1007) (z.s 1009) (z.g 1010) (z.g 1011)/\HOk (hT z 1100),λ_=>.one (.c (.b 50)),λ_=>[],λz y=>y.p 50,kX⟩
attribute [irreducible] NfM XrP
end
def Uf:bj 7 Qu:=Ud PK
abbrev Wi(a b:List G):=lm a/\RowsOk b/\a.length=b.length/\a.length<=1000
def Qw:bj 9 Yl:=bB 9 1297 (ai If (ai PK (ai Yn (ai OJ eN)))) lN λz hA=>show Fm.den (let vxn:=Int.toNat 0;let v0:=(iZ);let v1:=(sN);let v2:=(ug);(.an (1=1) (.an (1=1) (.an (1=1) (.an (1=1) (.ct (iF [G.node [G.node [G.node [G.int 3,G.int 5,G.int 0,G.str [],G.node [],G.node []]]]]/\0=0) (λy0=>y0.p 35/\y0.g 31=gP [G.node [G.node [G.node [G.int 3,G.int 5,G.int 0,G.str [],G.node [],G.node []]]]] (↑1:Int)/\y0.g 32=jl [G.node [G.node [G.node [G.int 3,G.int 5,G.int 0,G.str [],G.node [],G.node []]]]] (↑1:Int)/\y0.g 34=rr (y0.g 31)) λy0=>(let v6:=(aq (y0.g 34) (vxn));let v5:=(aL (y0.g 31) (gI (aa v6 0)));let v7:=(Wi (y0.g 31) (y0.g 32));let v8:=(↑(gL (aa v5 4)).length:Int);let v9:=((0:Int)<=gI (aa v6 0)/\gI (aa v6 0)<1);let v10:=(aq (y0.g 34) v0);let v11:=(aa v6 1);let v3:=(aL (gL (aa v5 4)) (gI v11));let v4:=(aq (gL (aa (aL (y0.g 31) (gI (aa v10 0))) 4)) (gI v11).toNat);(.two (¬y0.p 35) (.ax v2) (.two ((↑(y0.g 34).length:Int)≠1) (.ax v2) (.an (Ba (↑(y0.g 34).length:Int)) (.ct v7 (λy1=>((1:Int)<=1->1<=(↑(y0.g 32).length:Int)->v9/\(0:Int)<=gI v11/\gI v11<v8->y1.i 50=0/\y1.i 61=gI (aa v6 0)/\y1.i 62=gI v11/\(y1.i 1=gI (aa v3 0)/\y1.s 2=gS (aa v4 1)/\y1.i 3=gI (aa v3 2)/\y1.i 4=gI (aa v3 3)/\y1.i 5=gI (aa v3 4)/\y1.i 6=gI (aa v3 5)/\y1.i 7=gI (aa v3 6)/\y1.i 8=gI (aa v3 7)/\y1.s 9=gS (aa v4 8)/\y1.g 10=gL (aa v4 9)/\y1.g 11=gL (aa v4 10)/\hT y1 100=hX (aa v4 11)/\(y1.p 12↔gI (aa v3 12)=1)/\y1.i 13=gI (aa v3 13)/\y1.i 14=gI (aa v3 14))/\hT y1 400=ci (kw (gI (aQ (aL (y0.g 31) (gI (aa v10 0))))) (gI (aa v5 1)) (gI (aa v5 2)) (hX (aa v5 3)))/\y1.g 63=aR (gI (aa v10 1)) (gJ (gL (aa v5 4)) 0)/\y1.i 64=v8/\y1.g 65=aR (gI (aa v10 0)) (List.take (Int.toNat 1) (y0.g 32)))/\(¬(((1:Int)<=1/\1<=(↑(y0.g 32).length:Int))/\v9/\(0:Int)<=gI v11/\gI v11<v8)->¬y1.i 50=0)) λy1=>(let d7:=(D7 (y1.s 2) (y1.i 3) (y1.i 4) (y1.i 5) (y1.i 7) (y1.s 9) (y1.g 10) (y1.g 11) (hT y1 100) (y1.i 13) (y1.i 14) (hT y1 400) (y1.g 63) (y1.g 65));let i9:=(cR (y1.i 1) (y1.s 2) (y1.i 3) (y1.i 4) (y1.i 5) (y1.i 6) (y1.i 7) (y1.i 8) (y1.s 9) (y1.g 10) (y1.g 11) (hT y1 100) (y1.p 12) (y1.i 13) (y1.i 14));let j8:=(aA (cu (y1.i 1) (y1.s 2) (y1.i 3) (y1.i 4) (y1.i 5) (hT y1 100) (y1.i 13) (y1.i 14)));(.ct v7 (λy2=>y2.i 66= ↑(y0.g 31).length/\hT y2 500=aO (y0.g 32)) λy2=>(let n7:=(G.node [G.int (y2.i 500),G.int (y2.i 501),G.int (y2.i 502),G.int (IntKind.u8.wrap (Int.ofNat ((aE v1 (y2.i 503)).xor (aE v1 1)))),G.int (y2.i 504),G.int (y2.i 505),G.int (y2.i 506),G.int (y2.i 507),G.int (y2.i 508),G.int (y2.i 509),G.int (y2.i 510),G.int (y2.i 511),G.int (y2.i 512),G.int (y2.i 513),G.int (y2.i 514),G.int (y2.i 515),G.int (y2.i 516),G.int (y2.i 517),G.int (y2.i 518),G.int (y2.i 519),G.int (y2.i 520),G.int (y2.i 521),G.int (y2.i 522),G.int (y2.i 523),G.int (y2.i 524),G.int (y2.i 525),G.int (y2.i 526),G.int (y2.i 527),G.int (y2.i 528),G.int (y2.i 529),G.int (y2.i 530),G.int (y2.i 531)]);(.two (y1.i 50=0) (Cs d7 (hT y2 500) i9 j8 (hT y1 400) (y1.i 61) (y1.i 62) (y1.i 64) (y2.i 66) (y1.g 63) (y1.g 65) λy3=>(.two (y3.p 40) (Cs d7 n7 i9 j8 (hT y1 400) (y1.i 61) (y1.i 62) (y1.i 64) (y2.i 66) (y1.g 63) (y1.g 65) λy4=>(.ax (¬y4.p 40))) (.ax v2))) (.ax v2)))))))))))))))) by
 clear hA
 conv=>zeta
 delta aQ iZ Wi ug Ba sN aL D7 Cs
 have hls:=ls_kv
 have hmd:=md_kv
 have hkv:=kv_eq
 refine cg rfl λ_=>cg rfl λ_=>cg rfl λ_=>cg rfl λ_=>cd ⟨trivial,by rw[hkv] at hls;exact hls,rfl⟩ λ_ y0 k0=>ck (λq=>absurd k0.1 q) λ_=>?_
 obtain⟨_,k1,k2,k3⟩:=k0
 rw[←hkv] at k1 k2
 have k0:Cm (cz kv) (y0.g 31) (y0.g 32) (y0.g 34):=by rw[k3,k1,k2];exact hmd
 clear k1 k2 k3 hmd hls hkv
 obtain⟨e1,e2,e3,hl⟩:=PI k0
 obtain⟨q1,q2,q3,q4,q5⟩:=PF PG k0
 obtain⟨_,_,hE⟩:=q5 (by rw[e1];simp)
 rw[e1] at q1
 rw[e2] at q2
 rw[e1,e2,e3]
 have htk:=PJ
 have gK:=PC (i:=1) hE (by decide) (by omega)
 clear q3 q4 q5 e1 e2 e3 k0
 generalize cz kv=E at *
 obtain⟨b4,b0,b1,b2,b3⟩:=bk_es E
 have g0:aq [jZ E] 0=jZ E:=rfl
 have g1:gI (aa (aq [G.node [G.int 0,G.int 1]] 0) 0)=0:=rfl
 have g2:gI (aa (aq [G.node [G.int 0,G.int 1]] 0) 1)=1:=rfl
 have g3:Int.toNat 0=0:=rfl
 simp only [g1,g2,g3,g0,b4,b0,b1,b2,b3]
 refine ck (λq=>absurd (by simp) q) λ_=>cg ⟨by decide,by simp⟩ λ_=>cd ⟨trivial,q1,q2,rfl,by simp⟩ λ_ y1 k1=>?_
 obtain⟨a1,a2,a3,⟨v1,v2,v3,v4,v5,v6,v7,v8,v9,va,vb,vc,vd,ve,vf⟩,w4,w5,w6,w7⟩:=k1.1 (by decide) (by simp) ⟨⟨by decide,by decide⟩,by decide,by omega⟩
 clear k1
 have vd:=propext vd
 refine cd ⟨trivial,q1,q2,rfl,by simp⟩ λ_ y2 k2=>ck (λ_=>?_) (λq=>absurd a1 q)
 rw[v1,v2,v3,v4,v5,v6,v7,v8,v9,va,vb,vc,vd,ve,vf,a2,a3,w4,w5,w6,w7]
 obtain⟨o1,o2,o3,o4,o5⟩:=Kc (E:=E) (i:=1)
 have gI2:=gK.2
 dsimp only [me] at gI2
 have rOk:HOk (hT y2 500):=by rw[k2.2];exact o5
 refine cd ⟨trivial,⟨gK.1,fX _,o1,by omega,o3,by omega⟩,rOk⟩ λ_ y3 k3=>?_
 have t3:y3.p 40:=k3.2 (by rw[k2.1,k2.2,gI2];exact htk)
 refine ck (λ_=>?_) (λq=>absurd t3 q)
 obtain⟨f1,f2⟩:=TC rOk
 exact cd ⟨trivial,⟨gK.1,fX _,o1,by omega,o3,by omega⟩,f1⟩ λ_ y4 k4=>cg trivial λ_=>cr λt4=>f2 (TB (k3.1 t3) (k4.1 t4))
def Ug:bj 8 Qv:=bB 5 17 (ai (kY 1000001) eN) lN λz hA=>show Fm.den (let v0:=((0<=z.i 67->z.i 67<= ↑(z.g 32).length->(1:Int)=0/\0=z.i 67/\hZ=aO (mO (z.i 67) (z.g 32)))/\(¬(Cb (z.i 67) (z.g 32))->(1:Int)=1/\(0:Int)=0/\hZ=hZ));let v1:=(List.drop (iZ) (mO (z.i 67) (z.g 32)));let v2:=(wK (z.g 32) (z.g 31));(.two (z.i 67<0) (.an v2 (.at v0)) (.two ((↑(z.g 32).length:Int)<z.i 67) (.an v2 (.at v0)) (.an (BQ (z.i 67) (z.g 32)) (N9 v1 λy0=>(.an v2 (.at ((0<=z.i 67->z.i 67<= ↑(z.g 32).length->(0:Int)=0/\z.i 67=z.i 67/\hT y0 300=aO (mO (z.i 67) (z.g 32)))/\(¬(Cb (z.i 67) (z.g 32))->(0:Int)=1/\z.i 67=0/\hT y0 300=hZ))))))))) by
 dsimp only [Qv,Zm,J_,dg,hs,Zn] at hA;have:=λh=>@RowsOk.take (z.g 32) h (z.i 67).toNat;conv=>zeta
 repeat' with_reducible first|intro _|apply cd|apply ck|apply cg|apply cE|apply cr
 all_goals first|omega|grind [ao,ak,aj,aT,aU,aV,aW,aX,aY,aZ,a_,ba,aC,List.append_assoc,fX]
abbrev CD(a b:List Nat):=Fm.ct (a.length<=100000000/\b.length<=100000000) (λy=>(y.p 50↔a=b))
abbrev lq:=Fm.ct (True) (λy=>y.p 50)
def Qx:bj 3 Ue:=bB 192 1005251343027847833449438925300571410879906316491862583143286177232853435162970102689513977128583056287945364410641 (ai Tn (ai (tS 1002) (ai If (ai Qw (ai Uf (ai Ug (ai Ty (ai XQ (ai rc (ai Yj (ai vR eN))))))))))) lN λz hA=>show Fm.den (let v0:=(Int.ofNat ((aE (sN) (z.i 206)).land (aE (sN) 3)));let v1:=(ug);let v2:=(Int.ofNat ((aE (oo) (z.i 205)).land (aE (oo) 3)));let v5:=(z.s 1002);let v6:=(hT z 1100);let v7:=(z.s 1009);let v8:=(z.g 1010);let v9:=(z.g 1011);let v10:=(z.i 1003);let v11:=(z.i 1004);let d7:=(z.i 1005);let i9:=(z.i 1013);let j8:=(z.i 1014);let v3:=(cR (z.i 1001) v5 v10 v11 d7 (z.i 1006) (z.i 1007) (z.i 1008) v7 v8 v9 v6 (z.p 1012) i9 j8);let v4:=(aA (cu (z.i 1001) v5 v10 v11 d7 v6 i9 j8));(.ct (Eh (z.g 201)/\(z.g 201).length<=1125899906842624) (λy0=>¬y0.p 10->(z.g 201).length<=30/\m_ (z.g 201) 0<=1000) λy0=>(.two (y0.p 10) (.ax (true=true)) (.ct (QV 1002 (z.i 1007) v7 v8 v9/\((0:Int)<=0/\(0:Int)<=3000000000000000)/\(1001:Int)<=0+1002/\1<=1002) (λy1=>(y1.p 10↔1000<y1.i 21)/\0<y1.i 21/\y1.i 21<=5000000000000000/\(y1.i 21<=1000->y1.i 21=0+ ↑(QW 1002 v7 v8 v9))) λy1=>(.two (y1.p 10) (.ax (true=true)) (.two (500<(↑v5.length:Int)) (.ax (true=true)) (.ct (iF (z.g 201)/\0=0) (λy2=>y2.p 35/\y2.g 31=gP (z.g 201) (↑(z.g 201).length:Int)/\y2.g 32=jl (z.g 201) (↑(z.g 201).length:Int)/\y2.g 34=rr (y2.g 31)) λy2=>(let n7:=(Wi (y2.g 31) (y2.g 32));(.two (¬y2.p 35) (.ax v1) (.ct n7 (λy3=>y3.i 50=0->XrP (y2.g 31) (y2.g 32) (z.i 202) (z.i 203) (z.i 204) y3/\0<=y3.i 64/\y3.i 64<=200) λy3=>(let p9:=(hT y3 100);let o8:=(cR (y3.i 1) (y3.s 2) (y3.i 3) (y3.i 4) (y3.i 5) (y3.i 6) (y3.i 7) (y3.i 8) (y3.s 9) (y3.g 10) (y3.g 11) p9 (y3.p 12) (y3.i 13) (y3.i 14));let s8:=(mX (y3.s 2) (y3.i 3) (y3.i 4) (y3.i 5) (y3.i 7) (y3.s 9) (y3.g 10) (y3.g 11) p9 (y3.i 13) (y3.i 14)/\0<=y3.i 3/\0<=y3.i 4/\0<=y3.i 5/\0<=y3.i 13/\0<=y3.i 14);let s9:=(aA (cu (y3.i 1) (y3.s 2) (y3.i 3) (y3.i 4) (y3.i 5) p9 (y3.i 13) (y3.i 14)));let v23:=(cR (y3.i 1) (y3.s 2) (y3.i 3) (y3.i 4) (y3.i 5) 0 0 0 [] [] [] p9 (y3.i 1=2) (y3.i 13) (y3.i 14));let z':=(hT y3 400);let u0:=(D7 (y3.s 2) (y3.i 3) (y3.i 4) (y3.i 5) (y3.i 7) (y3.s 9) (y3.g 10) (y3.g 11) p9 (y3.i 13) (y3.i 14) z' (y3.g 63) (y3.g 65));let v20:=(mX (y3.s 2) (y3.i 3) (y3.i 4) (y3.i 5) 0 [] [] [] p9 (y3.i 13) (y3.i 14)/\HOk z'/\RowsOk (y3.g 63)/\(y3.g 63).length<=1000000/\RowsOk (y3.g 65)/\(y3.g 65).length<=1000000);let v21:=(D7 v5 v10 v11 d7 (z.i 1007) v7 v8 v9 v6 i9 j8 z' (y3.g 63) (y3.g 65));let v25:=(y3.i 64+IntKind.u8.wrap v0-1);(.ct n7 (λy4=>(0<=z.i 204->z.i 204<= ↑(y2.g 32).length->y4.i 50=0/\y4.i 66=z.i 204/\hT y4 500=aO (mO (z.i 204) (y2.g 32)))/\(¬(Cb (z.i 204) (y2.g 32))->y4.i 50=1/\y4.i 66=0/\hT y4 500=hZ)) λy4=>(let v26:=(hT y4 500);let v27:=(u0/\u0/\HOk v26/\B8 (y3.s 2)/\B8 (y3.s 2));(.two (y3.i 50≠0) (lq λy5=>(.ax (y5.p 50))) (.two (IntKind.i64.wrap v2=0) (.ct (u0/\v21/\HOk v26/\B8 (y3.s 2)/\B8 v5) (λy6=>(y6.p 40↔cP o8 s9 z' (y3.i 61) (y3.i 62) (y3.i 64) (y4.i 66) (y3.g 63) (y3.g 65) v26/\cP v3 v4 z' (y3.i 61) (y3.i 62) (y3.i 64) (y4.i 66) (y3.g 63) (y3.g 65) v26/\y3.i 61=y3.i 61/\y3.i 62=y3.i 62/\¬cu (y3.i 1) (y3.s 2) (y3.i 3) (y3.i 4) (y3.i 5) p9 (y3.i 13) (y3.i 14)=cu (z.i 1001) v5 v10 v11 d7 v6 i9 j8)/\(Eo (y6.p 40) (y6.s 30) (y6.s 31))/\(¬y6.p 40->y6.s 30= []/\y6.s 31= [])/\(y6.s 30).length<=100000/\(y6.s 31).length<=100000) λy6=>(let v28:=((-9223372036854775808)<=(↑(y6.s 30).length:Int)+(↑(y6.s 31).length:Int)/\(↑(y6.s 30).length:Int)+(↑(y6.s 31).length:Int)<=9223372036854775807);let v29:=((↑(y6.s 30).length:Int)+(↑(y6.s 31).length:Int)=0);(Cs v21 v26 v3 v4 z' (y3.i 61) (y3.i 62) (y3.i 64) (y4.i 66) (y3.g 63) (y3.g 65) λy7=>(let v30:=(¬(y7.p 40));(.two (y7.p 40) (.an (y7.p 40) (.an (y7.p 40) (.ct s8 (λy8=>y8.s 10=cu (y3.i 1) (y3.s 2) (y3.i 3) (y3.i 4) (y3.i 5) p9 (y3.i 13) (y3.i 14)) λy8=>(.an (y7.p 40) (.an (y7.p 40) (.an (y7.p 40) (.ct (mX v5 v10 v11 d7 (z.i 1007) v7 v8 v9 v6 i9 j8/\0<=z.i 1003/\0<=z.i 1004/\0<=z.i 1005/\0<=z.i 1013/\0<=z.i 1014) (λy9=>y9.s 10=cu (z.i 1001) v5 v10 v11 d7 v6 i9 j8) λy9=>(.an (y7.p 40) (CD (y8.s 10) (y9.s 10) λC'=>(.an (y7.p 40) (.an (y7.p 40) (.two (y6.p 40) (.two (¬C'.p 50) (.two (¬y6.p 40) (.an v28 (.two v29 (lq λy11=>(.ax (y11.p 50))) (.ax v1))) (CD (y6.s 30) (y6.s 31) λy12=>(.two (¬y12.p 50) (s_ (y6.s 30) λR'=>(s_ (y6.s 31) λy14=>(.two (kr (hG (eD (y6.s 30))) (hG (eD (y6.s 31)))) (lq λy15=>(.ax (y15.p 50))) (.ax v1)))) (.ax v1)))) (.ax v1)) (.two (¬C'.p 50) (.ax v1) (.an (¬y6.p 40) (.an v28 (.two v29 (lq λy16=>(.ax (y16.p 50))) (.ax v1))))))))))))))))) (.an v30 (.an v30 (.an v30 (.an v30 (.an v30 (.an v30 (.an v30 (.an v30 (.two (y6.p 40) (.ax v1) (.an (¬y6.p 40) (.an v28 (.two v29 (lq λy17=>(.ax (y17.p 50))) (.ax v1)))))))))))))))))) (.two (IntKind.i64.wrap v2=1) (.an ((-9223372036854775808:Int)<=IntKind.u8.wrap v0/\IntKind.u8.wrap v0<=9223372036854775807) (.an ((-9223372036854775808)<=y3.i 64+IntKind.u8.wrap v0/\y3.i 64+IntKind.u8.wrap v0<=9223372036854775807) (.an ((-9223372036854775808)<=y3.i 64+IntKind.u8.wrap v0-1/\y3.i 64+IntKind.u8.wrap v0-1<=9223372036854775807) (.ct v27 (λy18=>(y18.p 40↔cP o8 s9 z' (y3.i 61) (y3.i 62) (y3.i 64) (y4.i 66) (y3.g 63) (y3.g 65) v26/\cP o8 s9 z' (y3.i 61) (y3.i 62) v25 (y4.i 66) (y3.g 63) (y3.g 65) v26/\y3.i 61=y3.i 61/\y3.i 62=y3.i 62/\¬cu (y3.i 1) (y3.s 2) (y3.i 3) (y3.i 4) (y3.i 5) p9 (y3.i 13) (y3.i 14)=cu (y3.i 1) (y3.s 2) (y3.i 3) (y3.i 4) (y3.i 5) p9 (y3.i 13) (y3.i 14))/\(Eo (y18.p 40) (y18.s 30) (y18.s 31))/\(¬y18.p 40->y18.s 30= []/\y18.s 31= [])/\(y18.s 30).length<=100000/\(y18.s 31).length<=100000) λy18=>(let v31:=((-9223372036854775808)<=(↑(y18.s 30).length:Int)+(↑(y18.s 31).length:Int)/\(↑(y18.s 30).length:Int)+(↑(y18.s 31).length:Int)<=9223372036854775807);let v32:=((↑(y18.s 30).length:Int)+(↑(y18.s 31).length:Int)=0);(Cs u0 v26 o8 s9 z' (y3.i 61) (y3.i 62) v25 (y4.i 66) (y3.g 63) (y3.g 65) λy19=>(let v33:=(y19.p 40);(.two v33 (.an v33 (.an v33 (.ct s8 (λy20=>y20.s 10=cu (y3.i 1) (y3.s 2) (y3.i 3) (y3.i 4) (y3.i 5) p9 (y3.i 13) (y3.i 14)) λy20=>(.an v33 (.an v33 (.an v33 (.ct s8 (λy21=>y21.s 10=cu (y3.i 1) (y3.s 2) (y3.i 3) (y3.i 4) (y3.i 5) p9 (y3.i 13) (y3.i 14)) λy21=>(.an v33 (CD (y20.s 10) (y21.s 10) λy22=>(.an v33 (.an v33 (.two (y18.p 40) (.two (¬y22.p 50) (.two (¬y18.p 40) (.an v31 (.two v32 (lq λy23=>(.ax (y23.p 50))) (.ax v1))) (CD (y18.s 30) (y18.s 31) λy24=>(.two (¬y24.p 50) (s_ (y18.s 30) λy25=>(s_ (y18.s 31) λy26=>(.two (kr (hG (eD (y18.s 30))) (hG (eD (y18.s 31)))) (lq λy27=>(.ax (y27.p 50))) (.ax v1)))) (.ax v1)))) (.ax v1)) (.two (¬y22.p 50) (.ax v1) (.an (¬y18.p 40) (.an v31 (.two v32 (lq λy28=>(.ax (y28.p 50))) (.ax v1))))))))))))))))) (.an (¬v33) (.an (¬v33) (.an (¬v33) (.an (¬v33) (.an (¬v33) (.an (¬v33) (.an (¬v33) (.an (¬v33) (.two (y18.p 40) (.ax v1) (.an (¬y18.p 40) (.an v31 (.two v32 (lq λy29=>(.ax (y29.p 50))) (.ax v1))))))))))))))))))))) (.two (IntKind.i64.wrap v2=2) (.ct (u0/\v20/\HOk v26/\B8 (y3.s 2)/\B8 (y3.s 2)) (λy30=>(y30.p 40↔cP o8 s9 z' (y3.i 61) (y3.i 62) (y3.i 64) (y4.i 66) (y3.g 63) (y3.g 65) v26/\cP v23 s9 z' (y3.i 61) (y3.i 62) (y3.i 64) (y4.i 66) (y3.g 63) (y3.g 65) v26/\y3.i 61=y3.i 61/\y3.i 62=y3.i 62/\¬cu (y3.i 1) (y3.s 2) (y3.i 3) (y3.i 4) (y3.i 5) p9 (y3.i 13) (y3.i 14)=cu (y3.i 1) (y3.s 2) (y3.i 3) (y3.i 4) (y3.i 5) p9 (y3.i 13) (y3.i 14))/\(Eo (y30.p 40) (y30.s 30) (y30.s 31))/\(¬y30.p 40->y30.s 30= []/\y30.s 31= [])/\(y30.s 30).length<=100000/\(y30.s 31).length<=100000) λy30=>(let v34:=((-9223372036854775808)<=(↑(y30.s 30).length:Int)+(↑(y30.s 31).length:Int)/\(↑(y30.s 30).length:Int)+(↑(y30.s 31).length:Int)<=9223372036854775807);let U':=((↑(y30.s 30).length:Int)+(↑(y30.s 31).length:Int)=0);(Cs v20 v26 v23 s9 z' (y3.i 61) (y3.i 62) (y3.i 64) (y4.i 66) (y3.g 63) (y3.g 65) λy31=>(let v36:=(y31.p 40);(.two v36 (.an v36 (.an v36 (.ct s8 (λy32=>y32.s 10=cu (y3.i 1) (y3.s 2) (y3.i 3) (y3.i 4) (y3.i 5) p9 (y3.i 13) (y3.i 14)) λy32=>(.an v36 (.an v36 (.an v36 (.ct (mX (y3.s 2) (y3.i 3) (y3.i 4) (y3.i 5) 0 [] [] [] p9 (y3.i 13) (y3.i 14)/\0<=y3.i 3/\0<=y3.i 4/\0<=y3.i 5/\0<=y3.i 13/\0<=y3.i 14) (λy33=>y33.s 10=cu (y3.i 1) (y3.s 2) (y3.i 3) (y3.i 4) (y3.i 5) p9 (y3.i 13) (y3.i 14)) λy33=>(.an v36 (CD (y32.s 10) (y33.s 10) λy34=>(.an v36 (.an v36 (.two (y30.p 40) (.two (¬y34.p 50) (.two (¬y30.p 40) (.an v34 (.two U' (lq λy35=>(.ax (y35.p 50))) (.ax v1))) (CD (y30.s 30) (y30.s 31) λy36=>(.two (¬y36.p 50) (s_ (y30.s 30) λy37=>(s_ (y30.s 31) λy38=>(.two (kr (hG (eD (y30.s 30))) (hG (eD (y30.s 31)))) (lq λy39=>(.ax (y39.p 50))) (.ax v1)))) (.ax v1)))) (.ax v1)) (.two (¬y34.p 50) (.ax v1) (.an (¬y30.p 40) (.an v34 (.two U' (lq λy40=>(.ax (y40.p 50))) (.ax v1))))))))))))))))) (.an (¬v36) (.an (¬v36) (.an (¬v36) (.an (¬v36) (.an (¬v36) (.an (¬v36) (.an (¬v36) (.an (¬v36) (.two (y30.p 40) (.ax v1) (.an (¬y30.p 40) (.an v34 (.two U' (lq λy41=>(.ax (y41.p 50))) (.ax v1)))))))))))))))))) (.ct v27 (λy42=>(y42.p 40↔cP o8 s9 z' (y3.i 61) (y3.i 62) (y3.i 64) (y4.i 66) (y3.g 63) (y3.g 65) v26/\cP o8 s9 z' (y3.i 61) (y3.i 62) (y3.i 64) (y4.i 66) (y3.g 63) (y3.g 65) v26/\y3.i 61=y3.i 61/\y3.i 62=y3.i 62/\¬cu (y3.i 1) (y3.s 2) (y3.i 3) (y3.i 4) (y3.i 5) p9 (y3.i 13) (y3.i 14)=cu (y3.i 1) (y3.s 2) (y3.i 3) (y3.i 4) (y3.i 5) p9 (y3.i 13) (y3.i 14))/\(Eo (y42.p 40) (y42.s 30) (y42.s 31))/\(¬y42.p 40->y42.s 30= []/\y42.s 31= [])/\(y42.s 30).length<=100000/\(y42.s 31).length<=100000) λy42=>(let v37:=((-9223372036854775808)<=(↑(y42.s 30).length:Int)+(↑(y42.s 31).length:Int)/\(↑(y42.s 30).length:Int)+(↑(y42.s 31).length:Int)<=9223372036854775807);let v38:=((↑(y42.s 30).length:Int)+(↑(y42.s 31).length:Int)=0);(Cs u0 v26 o8 s9 z' (y3.i 61) (y3.i 62) (y3.i 64) (y4.i 66) (y3.g 63) (y3.g 65) λy43=>(let v39:=(y43.p 40);(.two v39 (.an v39 (.an v39 (.ct s8 (λy44=>y44.s 10=cu (y3.i 1) (y3.s 2) (y3.i 3) (y3.i 4) (y3.i 5) p9 (y3.i 13) (y3.i 14)) λy44=>(.an v39 (.an v39 (.an v39 (.ct s8 (λy45=>y45.s 10=cu (y3.i 1) (y3.s 2) (y3.i 3) (y3.i 4) (y3.i 5) p9 (y3.i 13) (y3.i 14)) λy45=>(.an v39 (CD (y44.s 10) (y45.s 10) λy46=>(.an v39 (.an v39 (.two (y42.p 40) (.two (¬y46.p 50) (.two (¬y42.p 40) (.an v37 (.two v38 (lq λy47=>(.ax (y47.p 50))) (.ax v1))) (CD (y42.s 30) (y42.s 31) λy48=>(.two (¬y48.p 50) (s_ (y42.s 30) λy49=>(s_ (y42.s 31) λy50=>(.two (kr (hG (eD (y42.s 30))) (hG (eD (y42.s 31)))) (lq λy51=>(.ax (y51.p 50))) (.ax v1)))) (.ax v1)))) (.ax v1)) (.two (¬y46.p 50) (.ax v1) (.an (¬y42.p 40) (.an v37 (.two v38 (lq λy52=>(.ax (y52.p 50))) (.ax v1))))))))))))))))) (.an (¬v39) (.an (¬v39) (.an (¬v39) (.an (¬v39) (.an (¬v39) (.an (¬v39) (.an (¬v39) (.an (¬v39) (.two (y42.p 40) (.ax v1) (.an (¬y42.p 40) (.an v37 (.two v38 (lq λy53=>(.ax (y53.p 50))) (.ax v1))))))))))))))))))))))))))))))))))) by
 replace hA:=And.intro trivial hA
 obtain⟨-,⟨hn,hf,hl⟩,hp,⟨htl,ht8⟩,h3,h4,h5,h13,h14,hv,hh⟩:=hA
 conv=>zeta
 delta oo Wi ug sN Cb CD lq s_ D7 mO Eo Cs
 refine cd ⟨trivial,hn,hl⟩ λ_ y0 k0=>ck (λ_=>cg trivial λ_=>cr rfl) λn0=>cd ⟨trivial,hv,⟨by decide,by decide⟩,by decide,by decide⟩ λ_ y1 k1=>ck (λ_=>cg trivial λ_=>cr rfl) λn1=>ck (λ_=>cg trivial λ_=>cr rfl) λn2=>?_
 have hls:iF (z.g 201):=ls_of hf hn (k0 n0)
 obtain⟨k1a,_,_,k1b⟩:=k1
 have n1:¬1000<y1.i 21:=λh=>n1 (k1a.2 h)
 have hg:QW 1002 (z.s 1009) (z.g 1010) (z.g 1011)<=1000:=by have:=k1b (by omega);omega
 obtain⟨Jx,Sb⟩:=Kj (kd:=0) (c:=0) hv hg
 have hin:mX (z.s 1002) (z.i 1003) (z.i 1004) (z.i 1005) (z.i 1007) (z.s 1009) (z.g 1010) (z.g 1011) (hT z 1100) (z.i 1013) (z.i 1014):=yX ⟨by omega,h3,h4,h5,h13,h14,Jx,Sb,hh⟩
 clear hn hl n2 h3 h4 h5 h13 h14 hv Jx Sb hg k1a k1b n1 htl hf k0 n0
 refine cd ⟨trivial,hls,rfl⟩ λ_ y2 k2=>ck (λq=>absurd k2.1 q) λ_=>?_
 obtain⟨_,e1,e2,_⟩:=k2
 obtain⟨q1,q2,q3,q4⟩:=Wh hls
 rw[e1,e2]
 clear e1 e2
 refine cd ⟨trivial,q1,q2,q3,q4⟩ λ_ y3 k3=>cd ⟨trivial,q1,q2,q3,q4⟩ λ_ y4 k4=>ck (λ_=>cd ⟨trivial,trivial⟩ λ_ y5 k5=>cg trivial λ_=>cr k5) λn3=>?_
 clear q1 q2 q3 q4
 have n3:y3.i 50=0:=Classical.not_not.1 n3
 obtain⟨k3,c2,c1⟩:=k3 n3
 unfold XrP at k3
 obtain⟨⟨g1,g2⟩,⟨⟨g3,g4⟩,g5,g6⟩,a2,a3,⟨u1,u2,u3,u4,u5,u6,u7,u8,u9,ua,ub,uc,ud,ue,uf⟩,a4,a5,a6,a7⟩:=k3
 obtain⟨_,b1,b2⟩:=k4.1 (by omega) g2
 obtain⟨t0,t1,t2,t3,t4,t5,t6,t7,t8,t9,t10⟩:=Qs hls g1 g2 g3 g4 rfl g5 g6
 have ud:=propext ud
 have T:cP (cR (y3.i 1) (y3.s 2) (y3.i 3) (y3.i 4) (y3.i 5) (y3.i 6) (y3.i 7) (y3.i 8) (y3.s 9) (y3.g 10) (y3.g 11) (hT y3 100) (y3.p 12) (y3.i 13) (y3.i 14)) (aA (cu (y3.i 1) (y3.s 2) (y3.i 3) (y3.i 4) (y3.i 5) (hT y3 100) (y3.i 13) (y3.i 14))) (hT y3 400) (y3.i 61) (y3.i 62) (y3.i 64) (y4.i 66) (y3.g 63) (y3.g 65) (hT y4 500):=by dsimp only [me] at t4;rw[u1,u2,u3,u4,u5,u6,u7,u8,u9,ua,ub,uc,ud,ue,uf,a2,a3,a4,a5,a6,a7,b1,b2,t4];exact t0
 have X:mX (y3.s 2) (y3.i 3) (y3.i 4) (y3.i 5) (y3.i 7) (y3.s 9) (y3.g 10) (y3.g 11) (hT y3 100) (y3.i 13) (y3.i 14):=by rw[u2,u3,u4,u5,u7,u9,ua,ub,uc,ue,uf];exact t3
 have r1:B8 (y3.s 2):=by rw[u2];exact t5
 have r2:HOk (hT y3 400):=by rw[a4];exact fX _
 have r3:RowsOk (y3.g 63)/\(y3.g 63).length<=1000000:=by rw[a5];exact⟨t6,t7⟩
 have r4:RowsOk (y3.g 65)/\(y3.g 65).length<=1000000:=by rw[a7];exact⟨t8,t9⟩
 have r5:HOk (hT y4 500):=by rw[b2];exact t10
 have hX:=X
 obtain⟨i1,i2,i3,i4,i5,i6,_,_,i7⟩:=cO X
 have N1:=Qt r1 i7 T
 have B:mX (y3.s 2) (y3.i 3) (y3.i 4) (y3.i 5) 0 [] [] [] (hT y3 100) (y3.i 13) (y3.i 14):=yX ⟨i1,i2,i3,i4,i5,i6,HE,HF,i7⟩
 clear i1 i2 i3 i4 i5 i6 u1 u2 u3 u4 u5 u6 u7 u8 u9 ua ub uc ud ue uf a2 a3 a4 a5 a6 a7 b1 b2 t0 t1 t2 t3 t4 t5 t6 t7 t8 t9 t10 k4 g1 g2 g3 g4 g5 g6 n3
 have w0:0<=Go.IntKind.u8.wrap (Int.ofNat ((aE (am Go.IntKind.u8) (z.i 206)).land (aE (am Go.IntKind.u8) 3)))/\Go.IntKind.u8.wrap (Int.ofNat ((aE (am Go.IntKind.u8) (z.i 206)).land (aE (am Go.IntKind.u8) 3)))<256:=by rw[nP];omega
 have N2:∀(lh hd:G) (xb xe c n:Int) (ip op:List G) (r:G),cP (cR (z.i 1001) (z.s 1002) (z.i 1003) (z.i 1004) (z.i 1005) (z.i 1006) (z.i 1007) (z.i 1008) (z.s 1009) (z.g 1010) (z.g 1011) (hT z 1100) (z.p 1012) (z.i 1013) (z.i 1014)) lh hd xb xe c n ip op r->0<=z.i 1003/\0<=z.i 1004/\0<=z.i 1005/\0<=z.i 1013/\0<=z.i 1014/\(cu (z.i 1001) (z.s 1002) (z.i 1003) (z.i 1004) (z.i 1005) (hT z 1100) (z.i 1013) (z.i 1014)).length<=90000:=λ_ _ _ _ _ _ _ _ _ h=>Qt ht8 hh h
 have S:=@sum2G
 clear hX i7 hls
 repeat' with_reducible first|intro _|apply cd|apply ck|apply cg|apply cE|apply cr
 all_goals first|omega|grind [Ym]
end Go.Proofs.YtomfobckhogpnaaGreatDoor
