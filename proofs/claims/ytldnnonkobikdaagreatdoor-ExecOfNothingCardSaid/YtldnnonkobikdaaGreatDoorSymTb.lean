/- SYM, part Lo: loops, told ahead: a round runs from a state with terms to another one of less measure, or leaves; SYM, part Lk: functions that are lent nothing and hand back plain values: they may look into slices of our own; SYM, part Tb: tables of what is told ahead. -/
import Derived.Test.YtldnnonkobikdaaGreatDoorSymMv
namespace Go.Sym
open Go.RowKit (Below)
set_option linter.unusedVariables false
noncomputable section
def blkIds : Code → List Nat
  | .block j a => j :: blkIds a
  | .seq a b => blkIds a ++ blkIds b
  | .cond _ a b => blkIds a ++ blkIds b
  | .loop a => blkIds a
  | _ => []
def findB (id : Nat) : Code → Option Code
  | .block j a => bif' (Nat.beq j id) (some a) (findB id a)
  | .seq a b => Option.rec (motive := fun _ => Option Code) (findB id b) some (findB id a)
  | .cond _ a b => Option.rec (motive := fun _ => Option Code) (findB id b) some (findB id a)
  | .loop a => findB id a
  | _ => none
def memN (n : Nat) (l : List Nat) : Bool := List.rec (motive := fun _ => Bool) false (fun x _ ih => bif' (Nat.beq x n) true ih) l
def nodupN : List Nat → Bool
  | [] => true
  | x :: l => bif' (memN x l) false (nodupN l)
theorem memN_iff {n : Nat} : ∀ {l : List Nat}, memN n l = true ↔ n ∈ l := by
  intro l
  induction l with
  | nil => exact ⟨fun h => (by cases h), fun h => (by cases h)⟩
  | cons x l ih =>
    show bif' (Nat.beq x n) true (memN n l) = true ↔ _
    rw [bif'_eq]
    split
    · rename_i e; have := Nat.eq_of_beq_eq_true e; subst this; simp
    · rename_i e
      rw [ih]
      exact ⟨fun h => by simp [h], fun h => by rcases List.mem_cons.1 h with h | h; exact absurd (by rw [h]; exact Nat.beq_refl _) e; exact h⟩
theorem nodupN_ok : ∀ {l : List Nat}, nodupN l = true → l.Nodup := by
  intro l
  induction l with
  | nil => intro _; exact List.nodup_nil
  | cons x l ih =>
    intro h
    have h : bif' (memN x l) false (nodupN l) = true := h
    obtain ⟨h1, h2⟩ := bif'_false h
    refine List.nodup_cons.2 ⟨fun hm => ?_, ih h2⟩
    rw [memN_iff.2 hm] at h1; cases h1
theorem findB_some {id : Nat} : ∀ {c : Code}, id ∈ blkIds c → ∃ d, findB id c = some d := by
  intro c
  induction c with
  | block j a ih =>
    intro h
    show ∃ d, bif' (Nat.beq j id) (some a) (findB id a) = some d
    rw [bif'_eq]
    split
    · exact ⟨_, rfl⟩
    · rename_i e
      rcases List.mem_cons.1 h with h | h
      · exact absurd (by rw [h]; exact Nat.beq_refl _) e
      · exact ih h
  | seq a b iha ihb =>
    intro h
    show ∃ d, Option.rec (motive := fun _ => Option Code) (findB id b) some (findB id a) = some d
    cases ha : findB id a with
    | some d => exact ⟨d, rfl⟩
    | none =>
      rcases List.mem_append.1 h with h | h
      · obtain ⟨d, e⟩ := iha h; rw [ha] at e; cases e
      · exact ihb h
  | cond x a b iha ihb =>
    intro h
    show ∃ d, Option.rec (motive := fun _ => Option Code) (findB id b) some (findB id a) = some d
    cases ha : findB id a with
    | some d => exact ⟨d, rfl⟩
    | none =>
      rcases List.mem_append.1 h with h | h
      · obtain ⟨d, e⟩ := iha h; rw [ha] at e; cases e
      · exact ihb h
  | loop a ih => intro h; exact ih h
  | _ => intro h; cases h
theorem findB_none {id : Nat} : ∀ {c : Code}, id ∉ blkIds c → findB id c = none := by
  intro c
  induction c with
  | block j a ih =>
    intro h
    show bif' (Nat.beq j id) (some a) (findB id a) = none
    rw [bif'_eq, if_neg (fun e => h (by have := Nat.eq_of_beq_eq_true e; subst this; exact List.mem_cons_self))]
    exact ih fun hm => h (List.mem_cons_of_mem _ hm)
  | seq a b iha ihb =>
    intro h
    show Option.rec (motive := fun _ => Option Code) (findB id b) some (findB id a) = none
    rw [iha fun hm => h (List.mem_append.2 (.inl hm))]
    exact ihb fun hm => h (List.mem_append.2 (.inr hm))
  | cond x a b iha ihb =>
    intro h
    show Option.rec (motive := fun _ => Option Code) (findB id b) some (findB id a) = none
    rw [iha fun hm => h (List.mem_append.2 (.inl hm))]
    exact ihb fun hm => h (List.mem_append.2 (.inr hm))
  | loop a ih => intro h; exact ih h
  | _ => intro h; rfl
theorem findB_two {id : Nat} {a b : Code} {f : Code} (hf : findB id f = Option.rec (motive := fun _ => Option Code) (findB id b) some (findB id a)) (hn : (blkIds a ++ blkIds b).Nodup) :
    (id ∈ blkIds a → findB id f = findB id a) ∧ (id ∈ blkIds b → findB id f = findB id b) := by
  refine ⟨fun h => ?_, fun h => ?_⟩
  · obtain ⟨d, e⟩ := findB_some h
    rw [hf, e]
  · have : id ∉ blkIds a := fun ha => (List.nodup_append.1 hn).2.2 id ha id h rfl
    rw [hf, findB_none this]
theorem subC_find {d c : Code} (h : SubC d c) (hn : (blkIds c).Nodup) : (blkIds d).Nodup ∧ ∀ id, id ∈ blkIds d → findB id c = findB id d := by
  induction h with
  | refl c => exact ⟨hn, fun _ _ => rfl⟩
  | @seqL a b c h ih =>
    obtain ⟨h1, h2⟩ := ih hn
    have h1 : (blkIds a ++ blkIds b).Nodup := h1
    exact ⟨(List.nodup_append.1 h1).1, fun id hm => (h2 id (List.mem_append.2 (.inl hm))).trans ((findB_two (f := .seq a b) rfl h1).1 hm)⟩
  | @seqR a b c h ih =>
    obtain ⟨h1, h2⟩ := ih hn
    have h1 : (blkIds a ++ blkIds b).Nodup := h1
    exact ⟨(List.nodup_append.1 h1).2.1, fun id hm => (h2 id (List.mem_append.2 (.inr hm))).trans ((findB_two (f := .seq a b) rfl h1).2 hm)⟩
  | @condL x a b c h ih =>
    obtain ⟨h1, h2⟩ := ih hn
    have h1 : (blkIds a ++ blkIds b).Nodup := h1
    exact ⟨(List.nodup_append.1 h1).1, fun id hm => (h2 id (List.mem_append.2 (.inl hm))).trans ((findB_two (f := .cond x a b) rfl h1).1 hm)⟩
  | @condR x a b c h ih =>
    obtain ⟨h1, h2⟩ := ih hn
    have h1 : (blkIds a ++ blkIds b).Nodup := h1
    exact ⟨(List.nodup_append.1 h1).2.1, fun id hm => (h2 id (List.mem_append.2 (.inr hm))).trans ((findB_two (f := .cond x a b) rfl h1).2 hm)⟩
  | @block id' a c h ih =>
    obtain ⟨h1, h2⟩ := ih hn
    have h1 : (id' :: blkIds a).Nodup := h1
    obtain ⟨g1, g2⟩ := List.nodup_cons.1 h1
    refine ⟨g2, fun id hm => (h2 id (List.mem_cons_of_mem _ hm)).trans ?_⟩
    show bif' (Nat.beq id' id) (some a) (findB id a) = _
    rw [bif'_eq, if_neg (fun e => g1 (by have := Nat.eq_of_beq_eq_true e; subst this; exact hm))]
  | @loop a c h ih =>
    obtain ⟨h1, h2⟩ := ih hn
    exact ⟨h1, fun id hm => h2 id hm⟩
def loopOf (P : Program) (fn id : Nat) : Option (Code × Nat) := match P.funcs[fn]? with
  | some f => (match f.body with
    | some b => bif' (nodupN (blkIds b)) (match findB id b with | some (.loop c) => some (c, f.ntmps) | _ => none) none
    | none => none)
  | none => none
def loopC (P : Program) (fn id : Nat) : Code := match loopOf P fn id with | some (c, _) => c | none => .skip
def loopN (P : Program) (fn id : Nat) : Nat := match loopOf P fn id with | some (_, n) => n | none => 0
def isLoop (P : Program) (fn id : Nat) : Bool := match loopOf P fn id with | some _ => true | none => false
theorem loop_of_sub {P : Program} {fn id : Nat} {c : Code} (hl : isLoop P fn id = true) (h : ∃ f b, P.funcs[fn]? = some f ∧ f.body = some b ∧ SubC (.block id c) b) : c = .loop (loopC P fn id) := by
  obtain ⟨f, b, h1, h2, h3⟩ := h
  unfold isLoop at hl
  unfold loopC
  unfold loopOf at hl ⊢
  simp only [h1, h2] at hl ⊢
  cases hn : nodupN (blkIds b) with
  | false => rw [hn] at hl; cases hl
  | true =>
    rw [hn] at hl
    obtain ⟨_, q⟩ := subC_find h3 (nodupN_ok hn)
    have e : findB id b = some c := by
      rw [q id List.mem_cons_self]
      show bif' (Nat.beq id id) (some c) (findB id c) = some c
      rw [bif'_eq, if_pos (Nat.beq_refl id)]
    rw [e] at hl ⊢
    cases c <;> first | (cases hl; done) | rfl
structure Alt where
  ex : AEx
  tmps : List (Nat × Sa)
  out : List BSh
structure LSpec where
  tmps : List (Nat × Sa)
  blk : List BSh
  inv : Sy → Prop
  mu : Sy → Nat
  alts : List Alt
  post : Sy → Sy → Prop
def sas (l : List (Nat × Sa)) : List Sa := List.rec (motive := fun _ => List Sa) [] (fun x _ ih => x.2 :: ih) l
def getTs (l : List (Nat × Sa)) (env : T AV) (k : List AV → Tr) : Tr := List.rec (motive := fun _ => (List AV → Tr) → Tr) (fun k => k []) (fun x _ ih k => T.getK env x.1 .fail fun a => ih fun l => k (a :: l)) l k
def setTs (γ : Loc) (y : Sy) (l : List (Nat × Sa)) (t : T AV) (k : T AV → Tr) : Tr := List.rec (motive := fun _ => T AV → (T AV → Tr) → Tr) (fun t k => k t) (fun x _ ih t k => T.setK t x.1 (putA γ y x.2) fun t => ih t k) l t k
def setTf (γ : Loc) (y : Sy) (l : List (Nat × Sa)) (t : T AV) : T AV := List.rec (motive := fun _ => T AV → T AV) (fun t => t) (fun x _ ih t => ih (t.set x.1 (putA γ y x.2))) l t
theorem setTs_eq (γ : Loc) (y : Sy) : ∀ (l : List (Nat × Sa)) (t : T AV) (k : T AV → Tr), setTs γ y l t k = k (setTf γ y l t) := by
  intro l
  induction l with
  | nil => intro t k; rfl
  | cons x l ih => intro t k; show T.setK t x.1 (putA γ y x.2) (fun t => setTs γ y l t k) = _; rw [T.setK_eq, ih]; rfl
def sameEx (a b : AEx) : Bool := match a, b with
  | .normal, .normal => true
  | .ret, .ret => true
  | .exit i, .exit j => Nat.beq i j
  | _, _ => false
theorem sameEx_eq {a b : AEx} (h : sameEx a b = true) : a = b := by
  unfold sameEx at h
  split at h
  · rfl
  · rfl
  · have := Nat.eq_of_beq_eq_true h; subst this; rfl
  · cases h
def packAlts (l : List Alt) (i : Nat) (ex : AEx) (env : T AV) : Tr :=
  List.rec (motive := fun _ => Nat → Tr) (fun _ => .fail) (fun a _ ih i => bif' (sameEx a.ex ex) (getTs a.tmps env fun as => .ret (.tup [.int .i64 (.ofNat i), .tup as])) (ih (Nat.succ i))) l i
def packK (S : LSpec) : XK := fun ex env df => match df with
  | [] => (match ex with
    | .normal => getTs S.tmps env fun as => .ret (.tup [.int .i64 0, .tup as])
    | ex => packAlts S.alts 1 ex env)
  | _ => .fail
def pullT (H : T ABlk) (tm : List (Nat × Tm)) (l : List Sa) (blk : List BSh) (as : List AV) : Option PS :=
  obind (pullAs H blk l as { ps0 with tm := tm }) fun s => obind (stay H blk 0 s) fun s => obind (finB H blk blk 0 s) fun s => obind (finLn blk s.ln s) fun s => bif' (homesOk s.loc) (bif' (locOk (List.length blk) s.loc) (some s) none) none
def altAt (l : List Alt) (i : Nat) : Option Alt := List.rec (motive := fun _ => Nat → Option Alt) (fun _ => none) (fun a _ ih i => Nat.rec (motive := fun _ => Option Alt) (some a) (fun i _ => ih i) i) l i
def leafL (S : LSpec) (z : Sy) : Lf := fun a σ _ => match a with
  | .tup [.int .i64 (.ofNat i), .tup as] => (match i with
    | 0 => (match pullT σ.h [] (sas S.tmps) S.blk as with
      | some s => .an s.pr (.at (S.inv (syOf s.tm) ∧ S.mu (syOf s.tm) < S.mu z ∧ ∀ y, S.post (syOf s.tm) y → S.post z y))
      | none => .ff)
    | i + 1 => (match altAt S.alts i with
      | some alt => (match pullT σ.h [(999, .i (.ofNat i))] (sas alt.tmps) alt.out as with
        | some s => .an s.pr (.at (S.post z (syOf s.tm)))
        | none => .ff)
      | none => .ff))
  | _ => .ff
def LSpec.env (S : LSpec) (z : Sy) : T AV := setTf loc0 z S.tmps .leaf
def LSpec.heap (S : LSpec) (z : Sy) : T ABlk := putH loc0 z S.blk 0 .leaf
def LSpec.roundFm (S : LSpec) (P : Program) (M : Tab) (n fn id : Nat) (z : Sy) (h : Hn) : Fm :=
  evF (setTs loc0 z S.tmps .leaf fun env => exec P M n (loopC P fn id) env (loopN P fn id) fn none [] (packK S)) (start (S.heap z) (base + 64)) (leafL S z) h
def altsOk (S : LSpec) : Bool := S.alts.all fun a => sameK S.blk a.out
theorem findB_sub {id : Nat} {t : Code} : ∀ {c d : Code}, findB id c = some d → SubC c t → SubC (.block id d) t := by
  intro c
  induction c with
  | block j a ih =>
    intro d h hs
    replace h : bif' (Nat.beq j id) (some a) (findB id a) = some d := h
    rw [bif'_eq] at h
    split at h
    · rename_i e
      injection h with h
      have := Nat.eq_of_beq_eq_true e
      subst this
      subst h
      exact hs
    · exact ih h (.block hs)
  | seq a b iha ihb =>
    intro d h hs
    have h : Option.rec (motive := fun _ => Option Code) (findB id b) some (findB id a) = some d := h
    cases ha : findB id a with
    | some d' => rw [ha] at h; injection h with h; subst h; exact iha ha (.seqL hs)
    | none => rw [ha] at h; exact ihb h (.seqR hs)
  | cond x a b iha ihb =>
    intro d h hs
    have h : Option.rec (motive := fun _ => Option Code) (findB id b) some (findB id a) = some d := h
    cases ha : findB id a with
    | some d' => rw [ha] at h; injection h with h; subst h; exact iha ha (.condL hs)
    | none => rw [ha] at h; exact ihb h (.condR hs)
  | loop a ih => intro d h hs; exact ih h (.loop hs)
  | _ => intro d h; cases h
theorem loopC_in {P : Program} {fn id : Nat} (hl : isLoop P fn id = true) : InF P fn none (loopC P fn id) := fun _ => by
  unfold isLoop at hl
  unfold loopC
  unfold loopOf at hl ⊢
  split at hl <;> try (cases hl; done)
  rename_i x cn hc
  split at hc <;> try (cases hc; done)
  rename_i f hf
  split at hc <;> try (cases hc; done)
  rename_i b hb
  obtain ⟨hn, hc⟩ := bifS hc
  split at hc <;> try (cases hc; done)
  rename_i c hfind
  simp only [hn]
  exact .inr ⟨f, b, hf, hb, .loop (.block (findB_sub hfind (.refl b)))⟩
def AtT (ρ : Rho) (l : List (Nat × Sa)) (as : List AV) (tmps : Array Value) : Prop := All2 (fun (x : Nat × Sa) a => ∃ v, tmps[x.1]? = some v ∧ VR ρ a v) l as
section
variable {P : Program} {σ : St} {K : Fin} {ρ : Rho}
theorem getTs_run {env : T AV} {k : List AV → Tr} : ∀ {l : List (Nat × Sa)}, run (getTs l env k) σ K = true → ∃ as, run (k as) σ K = true ∧ All2 (fun (x : Nat × Sa) a => env.get x.1 = some a) l as
  | [], h => ⟨[], h, trivial⟩
  | x :: l, h => by
    obtain ⟨a, ha, h⟩ := getT (show run (T.getK env x.1 .fail fun a => getTs l env fun l => k (a :: l)) σ K = true from h)
    obtain ⟨as, h1, h2⟩ := getTs_run (k := fun l => k (a :: l)) h
    exact ⟨a :: as, h1, ha, h2⟩
theorem at_of {nt : Nat} {env : T AV} {tmps : Array Value} (hE : ER ρ nt env tmps) : ∀ {l : List (Nat × Sa)} {as : List AV}, All2 (fun (x : Nat × Sa) a => env.get x.1 = some a) l as → AtT ρ l as tmps
  | [], [], _ => trivial
  | x :: l, a :: as, ⟨h1, h2⟩ => ⟨hE.val _ _ h1, at_of hE h2⟩
  | [], _ :: _, h => h.elim
  | _ :: _, [], h => h.elim
theorem setTf_get {γ : Loc} {y : Sy} : ∀ {l : List (Nat × Sa)} {t : T AV} {b : Nat} {a : AV}, (setTf γ y l t).get b = some a → (∃ x, x ∈ l ∧ x.1 = b ∧ a = putA γ y x.2) ∨ t.get b = some a := by
  intro l
  induction l with
  | nil => intro t b a h; exact .inr h
  | cons x l ih =>
    intro t b a h
    rcases ih (t := t.set x.1 (putA γ y x.2)) h with ⟨z, h1, h2, h3⟩ | h
    · exact .inl ⟨z, List.mem_cons_of_mem _ h1, h2, h3⟩
    · by_cases e : b = x.1
      · subst e
        exact .inl ⟨x, List.mem_cons_self, rfl, T.get_set_some _ _ h⟩
      · rw [T.get_set_ne _ e] at h
        exact .inr h
theorem packAlts_run {env : T AV} {ex : AEx} {A : AV} {σf : St} : ∀ {l : List Alt} {i : Nat}, run (packAlts l i ex env) σ (fun a s => dP (a = A ∧ s = σf)) = true →
    ∃ j alt as, altAt l j = some alt ∧ alt.ex = ex ∧ All2 (fun (x : Nat × Sa) a => env.get x.1 = some a) alt.tmps as ∧ A = .tup [.int .i64 (.ofNat (i + j)), .tup as] ∧ σ = σf := by
  intro l
  induction l with
  | nil => intro i h; exact (nofail h).elim
  | cons a l ih =>
    intro i h
    have h : run (bif' (sameEx a.ex ex) (getTs a.tmps env fun as => .ret (.tup [.int .i64 (.ofNat i), .tup as])) (packAlts l (Nat.succ i) ex env)) σ (fun a s => dP (a = A ∧ s = σf)) = true := h
    rcases bif2 h with ⟨e, h⟩ | ⟨e, h⟩
    · obtain ⟨as, h1, h2⟩ := getTs_run h
      obtain ⟨e1, e2⟩ := dP_iff.1 (show dP (AV.tup [.int .i64 (.ofNat i), .tup as] = A ∧ σ = σf) = true from h1)
      exact ⟨0, a, as, rfl, sameEx_eq e, h2, e1.symm, e2⟩
    · obtain ⟨j, alt, as, h1, h2, h3, h4, h5⟩ := ih h
      exact ⟨j + 1, alt, as, h1, h2, h3, by rw [h4, show Nat.succ i + j = i + (j + 1) by omega], h5⟩
theorem pullT_ok {H : T ABlk} {tm : List (Nat × Tm)} {l : List Sa} {blk : List BSh} {as : List AV} {s : PS} (h : pullT H tm l blk as = some s) (hp : s.pr) :
    All2 (TvA H blk s.L (syOf s.tm)) l as ∧ (∀ j x, blk[j]? = some x → ∃ b g, s.L j = some (b, g) ∧ ∃ q, H.get b = some q ∧ BT ρ H blk s.L (syOf s.tm) x q g) ∧ (∀ j b g, s.L j = some (b, g) → b = base + j ∧ j < blk.length) := by
  obtain ⟨s1, h1, h⟩ := obind_some h
  obtain ⟨s2, h2, h⟩ := obind_some h
  obtain ⟨s3, h3, h⟩ := obind_some h
  obtain ⟨s4, h4, h⟩ := obind_some h
  obtain ⟨h5, h⟩ := bifS h
  obtain ⟨h6, h⟩ := bifS h
  injection h with h
  subst h
  have hln := lnOk_of h4 hp
  obtain ⟨f1, _, _, _, _⟩ := finLn_ok h4
  obtain ⟨p1, p2⟩ := pullAs_ok (blk := blk) h1
  obtain ⟨st, _, _⟩ := stay_ok h2
  obtain ⟨b1, b2⟩ := finB_ok (ρ := ρ) h3
  refine ⟨p2 s4 (st.trans (b1.trans f1)) hp hln, fun j x hx => ?_, fun j b g hL => ?_⟩
  · obtain ⟨b, g, q1, q2⟩ := b2 s4 f1 hp hln j x hx
    exact ⟨b, g, by rw [Nat.zero_add] at q1; exact q1, q2⟩
  · have hm := assoc_mem hL
    exact ⟨homesOk_mem h5 _ hm, locOk_dom h6 _ hm⟩
def LoopAt (P : Program) (fn id : Nat) (S : LSpec) (z y : Sy) : Prop :=
  ∀ (w : World) (ρ : Rho) (a : Act) (Q : Exit → Act → World → Prop), Good w ρ (S.heap z) w → OwnOk ρ → ρ.frz0 = ρ.frz → ER ρ (loopN P fn id) (S.env z) a.tmps → a.defers = [] →
    (∀ (ρ' : Rho) (wx w' : World) (H' : T ABlk) (a' : Act) (i : Nat) (alt : Alt) (as : List AV) (s : PS), FinRel (isC S.blk) ρ w ρ' wx → Good wx ρ' H' w' → altAt S.alts i = some alt → a'.tmps.size = loopN P fn id → a'.defers = [] →
      AtT ρ' alt.tmps as a'.tmps → pullT H' [(999, .i (.ofNat i))] (sas alt.tmps) alt.out as = some s → s.pr → y = syOf s.tm → Q (cvX alt.ex) a' w') → LoopIn P none (loopC P fn id) Q a w
theorem sas_all2 {R : Sa → AV → Prop} : ∀ {l : List (Nat × Sa)} {as : List AV}, All2 R (sas l) as → All2 (fun (x : Nat × Sa) a => R x.2 a) l as
  | [], [], _ => trivial
  | x :: l, a :: as, h => ⟨h.1, sas_all2 h.2⟩
  | [], _ :: _, h => h.elim
  | _ :: _, [], h => h.elim
theorem all2_mem {α β : Type} {R : α → β → Prop} : ∀ {l : List α} {m : List β} {x : α}, All2 R l m → x ∈ l → ∃ b, R x b
  | [], [], x, _, h => by cases h
  | a :: l, b :: m, x, ⟨h1, h2⟩, h => by
    rcases List.mem_cons.1 h with e | h
    · subst e; exact ⟨b, h1⟩
    · exact all2_mem h2 h
  | [], _ :: _, _, h, _ => h.elim
  | _ :: _, [], _, h, _ => h.elim
theorem all2_and {α β : Type} {R S : α → β → Prop} : ∀ {l : List α} {m : List β}, All2 R l m → All2 S l m → All2 (fun a b => R a b ∧ S a b) l m
  | [], [], _, _ => trivial
  | _ :: _, _ :: _, ⟨h1, h2⟩, ⟨h3, h4⟩ => ⟨⟨h1, h3⟩, all2_and h2 h4⟩
  | [], _ :: _, h, _ => h.elim
  | _ :: _, [], h, _ => h.elim
theorem again {w w' : World} {ρ ρ' : Rho} {H' : T ABlk} {S : LSpec} {as : List AV} {s : PS} {a' : Act} {nt : Nat} (ho : OwnOk ρ) (hf0 : ρ.frz0 = ρ.frz) (hG' : Good w ρ' H' w') (hle : ρ.le ρ') (hs : pullT H' [] (sas S.tmps) S.blk as = some s) (hp : s.pr) (hsz : a'.tmps.size = nt) (hat : AtT ρ' S.tmps as a'.tmps) (h64 : S.blk.length ≤ 64) :
    ∃ ρ2 : Rho, Good w' ρ2 (S.heap (syOf s.tm)) w' ∧ OwnOk ρ2 ∧ ρ2.frz0 = ρ2.frz ∧ ER ρ2 nt (S.env (syOf s.tm)) a'.tmps ∧ ∀ ρf wx, FinRel (isC S.blk) ρ2 w' ρf wx → FinRel (isC S.blk) ρ w ρf wx := by
  obtain ⟨t1, t2, t3⟩ := pullT_ok (ρ := ρ') hs hp
  have hinjJ : ∀ j h, homeJ ρ' H' s.L j = some h → ∃ g, ρ'.at_ (base + j) g = some h ∧ j < S.blk.length := fun j h hJ => by
    obtain ⟨b, g, e1, e2⟩ := homeJ_at hJ
    obtain ⟨e3, e4⟩ := t3 _ _ _ e1
    subst e3
    exact ⟨g, e2, e4⟩
  have hm : MvHyp w ρ' H' H' w' w w' s.L loc0 S.blk (syOf s.tm) (ownT w ρ' H' s.L) (frzT ρ' H' w' w s.L) :=
    { good := hG', hb := t2, dom := fun j p h => (t3 j p.1 p.2 h).2, linj := fun j j' b g g' h1 h2 => by
        have := (t3 _ _ _ h1).1
        have := (t3 _ _ _ h2).1
        omega,
      ginj := fun a b _ _ e => by have e : base + a = base + b := e; omega, g64 := fun j hj => by have := base_lt; show base + j + 1 < _; omega,
      g0 := fun _ _ _ _ => rfl, kept := Kept.refl _ _ _, owns := fun j h h1 h2 => .inr ⟨j, h, h1, rfl, h2⟩,
      frF := fun b x hb hF => ⟨hF, fun j g hL => by
          obtain ⟨q1, q2⟩ := t3 _ _ _ hL
          omega, fun g h hh hown => by
          rcases hown with hown | hown
          · exact hown
          · rw [hle.own] at hown
            obtain ⟨j, h0, q1, q2, q3⟩ := ho _ hown
            have := (hG'.inj _ _ _ _ _ _ (hle.at_ _ _ _ q2) hh q1).1
            omega⟩,
      frz := fun b x h _ => h }
  have hat0 : ∀ j, j < S.blk.length → (rhoT ρ' H' w' w s.L loc0 S.blk.length (ownT w ρ' H' s.L) (frzT ρ' H' w' w s.L)).at_ (base + j) 0 = homeJ ρ' H' s.L j := fun j hj => atT_of hm hj
  refine ⟨_, hm.to, fun x hx => ?_, rfl, ⟨hsz, fun t a ha => ?_⟩, fun ρf wx hF => ?_⟩
  · obtain ⟨j, h, q1, q2, q3⟩ := hx
    obtain ⟨g, _, hj⟩ := hinjJ _ _ q1
    exact ⟨j, h, q2, (hat0 j hj).trans q1, Nat.lt_of_lt_of_le hj h64⟩
  · rcases setTf_get ha with ⟨x, h1, h2, h3⟩ | h
    · subst h3
      obtain ⟨b, ⟨v, hv, hr⟩, htv⟩ := all2_mem (all2_and hat (sas_all2 t1)) h1
      exact ⟨v, by rw [← h2]; exact hv, TvA.vr hm htv hr⟩
    · simp [T.get] at h
  · have hsz' := hG'.below.size
    refine ⟨?_, hF.val.trans hle.val, fun b x hx => hF.frz _ _ (frzT_old (hle.frz _ _ hx)), fun b x hx hlt => ?_, fun x hx => ?_, fun j h hc hh => ?_⟩
    · have hk := hG'.below
      rw [hle.own] at hk
      refine hk.trans ⟨hF.kept.os, hF.kept.tape, hF.kept.output, hF.kept.size, fun x hx hno => hF.kept.block x (by omega) fun hpo => ?_⟩
      obtain ⟨_, _, _, _, q⟩ := hpo
      rcases q with q | q
      · omega
      · rw [hle.own] at q; exact hno q
    · have h1 := hF.frzB b x hx (by omega)
      have h1 : frzT ρ' H' w' w s.L b = some x := h1
      unfold frzT at h1
      split at h1
      · rename_i x' hx'
        injection h1 with h1
        subst h1
        have := hG'.frzB b _ hx' hlt
        rw [hle.frz0, hf0] at this
        exact this
      · split at h1
        · rename_i hc; omega
        · cases h1
    · obtain ⟨j, h, q1, q2, q3, q4⟩ := hF.ownx x hx
      refine ⟨j, h, q1, q2, q3, ?_⟩
      rcases q4 with q4 | ⟨q4, q5⟩
      · exact .inl (by omega)
      · obtain ⟨_, _, _, _, q6⟩ := q4
        rcases q6 with q6 | q6
        · exact .inl q6
        · rw [hle.own] at q6
          refine .inr ⟨q6, ?_⟩
          obtain ⟨j', hj', e1, e2, hJ⟩ := atT_inv (show atT ρ' H' s.L loc0 S.blk.length (base + j) 0 = some h from q5)
          have e1 : base + j' = base + j := e1
          have : j' = j := by omega
          subst this
          obtain ⟨g, e3, _⟩ := hinjJ _ _ hJ
          obtain ⟨j2, h2, r1, r2, r3⟩ := ho _ q6
          obtain ⟨u1, u2⟩ := hG'.inj _ _ _ _ _ _ (hle.at_ _ _ _ r2) e3 (by rw [r1, q1])
          have : j2 = j' := by omega
          subst this
          subst u2
          exact r2
    · have h1 := hle.at_ _ _ _ hh
      obtain ⟨ty, l, hx⟩ := isCells_get hc
      have hj : j < S.blk.length := by
        rcases Nat.lt_or_ge j S.blk.length with h' | h'
        · exact h'
        · rw [List.getElem?_eq_none h'] at hx; cases hx
      obtain ⟨b, g, e1, q, e2, e3⟩ := t2 j _ hx
      obtain ⟨eg, c, as, eq, _⟩ := e3
      obtain ⟨eb, _⟩ := t3 _ _ _ e1
      subst eb; subst eg; subst eq
      refine hF.cells j h hc ?_
      rw [hat0 j hj]
      unfold homeJ
      rw [e1]
      simp only [e2, h1]
theorem tup_inj {i j : Int} {as bs : List AV} (h : AV.tup [.int .i64 i, .tup as] = .tup [.int .i64 j, .tup bs]) : i = j ∧ as = bs := by
  injection h with h
  injection h with h1 h2
  injection h1 with _ h1
  injection h2 with h2 _
  injection h2 with h2
  exact ⟨h1, h2⟩
theorem loop_ok {M : Tab} (hM : TabOk P M) {n fn id : Nat} {S : LSpec} (hl : isLoop P fn id = true) (h64 : S.blk.length ≤ 64) (h : ∀ z, S.inv z → ∃ hn, (S.roundFm P M n fn id z hn).den) :
    ∀ (m : Nat) (z : Sy), S.mu z = m → S.inv z → ∃ y, S.post z y ∧ LoopAt P fn id S z y := by
  intro m
  induction m using Nat.strongRecOn with
  | _ m ih =>
  intro z hm hz
  obtain ⟨hn, hd⟩ := h z hz
  obtain ⟨A, σf, e, hn', hleaf⟩ := evF_ok _ _ _ _ hd
  replace e : ∀ K, run (exec P M n (loopC P fn id) (S.env z) (loopN P fn id) fn none [] (packK S)) (start (S.heap z) (base + 64)) K = K A σf := fun K => by
    rw [← e K, setTs_eq]; rfl
  have round : ∀ (w : World) (ρ : Rho) (a : Act) (Q : Exit → Act → World → Prop), Good w ρ (S.heap z) w → ER ρ (loopN P fn id) (S.env z) a.tmps → a.defers = [] →
      (∀ (ρ' : Rho) (w' : World) (a' : Act) (ex : AEx) (as : List AV), ρ.le ρ' → Good w ρ' σf.h w' → a'.tmps.size = loopN P fn id → a'.defers = [] →
        ((ex = .normal ∧ A = .tup [.int .i64 0, .tup as] ∧ AtT ρ' S.tmps as a'.tmps) ∨ (ex ≠ .normal ∧ ∃ i alt, altAt S.alts i = some alt ∧ alt.ex = ex ∧ A = .tup [.int .i64 (.ofNat (i + 1)), .tup as] ∧ AtT ρ' alt.tmps as a'.tmps)) →
        (match cvX ex with | .normal => LoopIn P none (loopC P fn id) Q a' w' | e => Q e a' w')) → LoopIn P none (loopC P fn id) Q a w := by
    intro w ρ a Q hG hE hdf hfin
    refine loopIn_of ((exec_ok P hM w n).1 (loopC P fn id) (S.env z) (loopN P fn id) fn [] (packK S) (start (S.heap z) (base + 64)) (fun a' s' => dP (a' = A ∧ s' = σf)) ρ w a _ none none rfl (start_SI (by decide) (by decide)) hG hE (by rw [hdf]; trivial) (by rw [e]; exact dP_iff.2 ⟨rfl, rfl⟩) (fun ex env' df' σ' ρ' w' a' q1 q2 q3 q4 q5 q6 => ?_) (loopC_in hl))
    cases df' with
    | cons _ _ => exact (nofail q1).elim
    | nil =>
    have hd' : a'.defers = [] := by
      cases hd : a'.defers with
      | nil => rfl
      | cons _ _ => rw [hd] at q6; exact q6.elim
    have alts : run (packAlts S.alts 1 ex env') σ' (fun a' s' => dP (a' = A ∧ s' = σf)) = true → ∃ as, σ' = σf ∧ ∃ i alt, altAt S.alts i = some alt ∧ alt.ex = ex ∧ A = .tup [.int .i64 (.ofNat (i + 1)), .tup as] ∧ AtT ρ' alt.tmps as a'.tmps := fun q => by
      obtain ⟨j, alt, as, r1, r2, r3, r4, r5⟩ := packAlts_run q
      exact ⟨as, r5, j, alt, r1, r2, by rw [r4, Nat.add_comm], at_of q5 r3⟩
    have other : ex ≠ .normal → run (packAlts S.alts 1 ex env') σ' (fun a' s' => dP (a' = A ∧ s' = σf)) = true → (match cvX ex with | .normal => LoopIn P none (loopC P fn id) Q a' w' | e => Q e a' w') := fun hne q => by
      obtain ⟨as, r1, r2⟩ := alts q
      subst r1
      exact hfin ρ' w' a' ex as q4 q3 q5.size hd' (.inr ⟨hne, r2⟩)
    cases ex with
    | normal =>
      obtain ⟨as, r1, r2⟩ := getTs_run (show run (getTs S.tmps env' fun as => .ret (.tup [.int .i64 0, .tup as])) σ' _ = true from q1)
      obtain ⟨e1, e2⟩ := dP_iff.1 (show dP (AV.tup [.int .i64 0, .tup as] = A ∧ σ' = σf) = true from r1)
      subst e2
      exact hfin ρ' w' a' .normal as q4 q3 q5.size hd' (.inl ⟨rfl, e1.symm, at_of q5 r2⟩)
    | exit i => exact other (fun h => by cases h) q1
    | goto l => exact other (fun h => by cases h) q1
    | ret => exact other (fun h => by cases h) q1
  unfold leafL at hleaf
  split at hleaf
  case h_2 => exact hleaf.elim
  rename_i i as
  split at hleaf
  · split at hleaf
    case h_2 => exact hleaf.elim
    rename_i s hs
    have hsp := hleaf.1
    obtain ⟨k1, k2, k3⟩ := hleaf.2 hleaf.1
    obtain ⟨y, y1, y2⟩ := ih (S.mu (syOf s.tm)) (by omega) (syOf s.tm) rfl k1
    refine ⟨y, k3 y y1, fun w ρ a Q hG ho hf0 hE hdf hQ => round w ρ a Q hG hE hdf fun ρ' w' a' ex as' hle hG' hsz hd' hor => ?_⟩
    rcases hor with ⟨r1, r2, r3⟩ | ⟨_, i, alt, _, _, r2, _⟩
    · subst r1
      obtain ⟨_, r2⟩ := tup_inj r2
      subst r2
      obtain ⟨ρ2, g1, g2, g3, g4, g5⟩ := again (a' := a') ho hf0 hG' hle hs hsp hsz r3 h64
      exact y2 w' ρ2 a' Q g1 g2 g3 g4 hd' fun ρf wx wf Hf af j alt asf sf hF => hQ ρf wx wf Hf af j alt asf sf (g5 ρf wx hF)
    · obtain ⟨r2, _⟩ := tup_inj r2
      have r2 : ((0 : Nat) : Int) = ((i + 1 : Nat) : Int) := r2
      omega
  · rename_i j
    split at hleaf
    case h_2 => exact hleaf.elim
    rename_i alt halt
    split at hleaf
    case h_2 => exact hleaf.elim
    rename_i s hs
    have hsp := hleaf.1
    have k1 := hleaf.2 hleaf.1
    refine ⟨syOf s.tm, k1, fun w ρ a Q hG ho hf0 hE hdf hQ => round w ρ a Q hG hE hdf fun ρ' w' a' ex as' hle hG' hsz hd' hor => ?_⟩
    rcases hor with ⟨r1, r2, r3⟩ | ⟨hne, i, alt', r1, r1', r2, r3⟩
    · obtain ⟨r2, _⟩ := tup_inj r2
      have r2 : ((j + 1 : Nat) : Int) = 0 := r2
      omega
    · obtain ⟨r2, r4⟩ := tup_inj r2
      have r2 : ((j + 1 : Nat) : Int) = ((i + 1 : Nat) : Int) := r2
      have r2 : j = i := by omega
      subst r2; subst r4
      rw [halt] at r1; injection r1 with r1; subst r1
      have hq := hQ ρ' w w' σf.h a' j alt as s (FinRel.of_le hle ho hf0) hG' halt hsz hd' r3 hs hsp rfl
      rw [r1'] at hq
      cases ex with
      | normal => exact absurd rfl hne
      | _ => exact hq
end
noncomputable section
structure LTab where
  ptm : List (Nat × Sa)
  S : Sy → LSpec
def altsK (id : Nat) (γ : Loc) (y : Sy) (l : List Alt) (i : Nat) (k : AEx → T AV → Tr) : Tr :=
  List.rec (motive := fun _ => Nat → Tr) (fun _ => .fail) (fun a l ih i =>
    let go : Tr := wrK γ y a.out 0 (setTs γ y a.tmps .leaf fun env => match a.ex with
      | .exit j => bif' (Nat.beq j id) (k .normal env) (k (.exit j) env)
      | ex => k ex env)
    List.rec (motive := fun _ => Tr) go (fun _ _ _ => .ask (y.i 999 = (i : Int)) go (ih (Nat.succ i))) l) l i
def blkT (ptm : List (Nat × Sa)) (LS : Sy → LSpec) (zf : (p z : Sy) → { y : Sy // (LS p).inv z → (LS p).post z y }) (n id : Nat) (nt : Nat) (env : T AV) (k : AEx → T AV → Tr) : Tr :=
  bif' (Nat.beq nt n) (getTs ptm env fun pas => oel (pullAs .leaf [] (sas ptm) pas ps0) .fail fun ps =>
    getTs (LS (syOf ps.tm)).tmps env fun as => prepAs [] (LS (syOf ps.tm)).blk (sas (LS (syOf ps.tm)).tmps) as fun as => oel (pullAs .leaf (LS (syOf ps.tm)).blk (sas (LS (syOf ps.tm)).tmps) as ps0) .fail fun s =>
      blksK (LS (syOf ps.tm)).blk (LS (syOf ps.tm)).blk 0 s fun s => oel (finLn (LS (syOf ps.tm)).blk s.ln s) .fail fun s =>
        bif' (bif' (altsOk (LS (syOf ps.tm))) (locOk (List.length (LS (syOf ps.tm)).blk) s.loc) false) (.req (s.pr ∧ (LS (syOf ps.tm)).inv (syOf s.tm))
          (.sk (fun y => (LS (syOf ps.tm)).inv (syOf s.tm) → (LS (syOf ps.tm)).post (syOf s.tm) y) (zf (syOf ps.tm) (syOf s.tm)) fun y => altsK id (bump (LS (syOf ps.tm)).blk (locF s)) y (LS (syOf ps.tm)).alts 0 k)) .fail) .fail
end
section
variable {P : Program} {w0 : World} {σ : St} {K : Fin} {ρ : Rho}
theorem altsK_ok {id : Nat} {γ : Loc} {y : Sy} {k : AEx → T AV → Tr} {i0 : Nat} (hi : y.i 999 = (i0 : Int)) : ∀ {l : List Alt} {i : Nat} {alt : Alt} {j : Nat}, altAt l j = some alt → i + j = i0 → run (altsK id γ y l i k) σ K = true →
    run (wrK γ y alt.out 0 (setTs γ y alt.tmps .leaf fun env => match alt.ex with
      | .exit j => bif' (Nat.beq j id) (k .normal env) (k (.exit j) env)
      | ex => k ex env)) σ K = true := by
  intro l
  induction l with
  | nil => intro i alt j h; cases h
  | cons a l ih =>
    intro i alt j h e hr
    cases l with
    | nil =>
      cases j with
      | zero => injection h with h; subst h; exact hr
      | succ j => cases h
    | cons b l =>
      rcases ask_ok (show run (.ask (y.i 999 = (i : Int)) (wrK γ y a.out 0 (setTs γ y a.tmps .leaf fun env => match a.ex with
        | .exit j => bif' (Nat.beq j id) (k .normal env) (k (.exit j) env)
        | ex => k ex env)) (altsK id γ y (b :: l) (Nat.succ i) k)) σ K = true from hr) with ⟨hp, hr⟩ | ⟨hp, hr⟩
      · have : j = 0 := by omega
        subst this
        injection h with h; subst h; exact hr
      · cases j with
        | zero => exact absurd (by rw [hi]; congr 1; omega) hp
        | succ j => exact ih h (by omega) hr
theorem altsOk_at {S : LSpec} (h : altsOk S = true) : ∀ {i : Nat} {alt : Alt}, altAt S.alts i = some alt → sameK S.blk alt.out = true := by
  have h : S.alts.all (fun a => sameK S.blk a.out) = true := h
  have key : ∀ {l : List Alt} {i : Nat} {alt : Alt}, altAt l i = some alt → alt ∈ l := by
    intro l
    induction l with
    | nil => intro i alt h; cases h
    | cons a l ih =>
      intro i alt h
      cases i with
      | zero => injection h with h; rw [h]; exact List.mem_cons_self
      | succ i => exact List.mem_cons_of_mem _ (ih h)
  intro i alt ha
  exact (List.all_eq_true.1 h) alt (key ha)
theorem pullT_999 {H : T ABlk} {n : Int} {l : List Sa} {blk : List BSh} {as : List AV} {s : PS} (h : pullT H [(999, .i n)] l blk as = some s) : (syOf s.tm).i 999 = n := by
  obtain ⟨s1, h1, h⟩ := obind_some h
  obtain ⟨s2, h2, h⟩ := obind_some h
  obtain ⟨s3, h3, h⟩ := obind_some h
  obtain ⟨s4, h4, h⟩ := obind_some h
  obtain ⟨h5, h⟩ := bifS h
  obtain ⟨h6, h⟩ := bifS h
  injection h with h
  subst h
  obtain ⟨f1, _⟩ := finLn_ok h4
  obtain ⟨p1, _⟩ := pullAs_ok (blk := blk) h1
  obtain ⟨st, _, _⟩ := stay_ok h2
  obtain ⟨b1, _⟩ := finB_ok (ρ := ⟨fun _ _ => none, fun _ => undef, fun _ => False, fun _ => none, fun _ => none⟩) h3
  exact tmI_of ((p1.trans (st.trans (b1.trans f1))).tm 999 (.i n) rfl)
theorem blk_ok {fn id : Nat} {ptm : List (Nat × Sa)} {LS : Sy → LSpec} {zf : (p z : Sy) → { y : Sy // (LS p).inv z → (LS p).post z y }} (hl : isLoop P fn id = true) (h64 : ∀ p, (LS p).blk.length ≤ 64) (hC : ∀ p z, (LS p).inv z → LoopAt P fn id (LS p) z (zf p z).1) (w0 : World) :
    BlkAt P w0 fn id (blkT ptm LS zf (loopN P fn id) id) := by
  intro c env nt k σ K ρ w a Q hS hG hE hdf h hQ hsub
  have hc := loop_of_sub hl hsub
  subst hc
  obtain ⟨hnt, z0⟩ := bifT h
  have hnt := beqT hnt
  obtain ⟨pas, z1, _⟩ := getTs_run z0
  obtain ⟨ps, hps, z2⟩ := oelT z1
  obtain ⟨p, hp⟩ : ∃ p, p = syOf ps.tm := ⟨_, rfl⟩
  rw [← hp] at z2
  obtain ⟨as, z3, has⟩ := getTs_run z2
  have hvals : ∀ {l : List (Nat × Sa)} {as : List AV}, All2 (fun (x : Nat × Sa) a => env.get x.1 = some a) l as → ∃ vs, LR ρ as vs ∧ All2 (fun (x : Nat × Sa) v => a.tmps[x.1]? = some v) l vs := by
    intro l
    induction l with
    | nil => intro as h; cases as with | nil => exact ⟨[], LR.nil _, trivial⟩ | cons _ _ => exact h.elim
    | cons x l ih =>
      intro as h
      cases as with
      | nil => exact h.elim
      | cons b as =>
        obtain ⟨v, hv, hr⟩ := hE.val _ _ h.1
        obtain ⟨vs, h1, h2⟩ := ih h.2
        exact ⟨v :: vs, LR.cons hr h1, hv, h2⟩
  obtain ⟨vs, hvs0, htv⟩ := hvals has
  obtain ⟨as', σ1, z4, hS1, hG1, hlen, hlr⟩ := prepAs_ok hS hG hvs0 z3
  obtain ⟨s0, hs0, z5⟩ := oelT z4
  obtain ⟨s1, σ2, z6, hS2, hG2, hle1, _, hhas⟩ := blksK_ok hS1 hG1 z5
  obtain ⟨s2, hs2, z7⟩ := oelT z6
  obtain ⟨hchk, z8⟩ := bifT z7
  obtain ⟨⟨hpr, hpre⟩, z9⟩ := req_ok z8
  clear h z0 z1 z2 z3 z4 z5 z6 z7 z8
  obtain ⟨hcA, hcL⟩ := bif'_true hchk
  obtain ⟨p1, p2⟩ := pullAs_ok (blk := (LS p).blk) hs0
  obtain ⟨f1, f2, f3, f4, _⟩ := finLn_ok hs2
  have hln := lnOk_of hs2 hpr
  have hvs : LR ρ as' vs := hlr (by rw [← hlen]; exact pullAs_len hs0)
  have hargs := p2 s2 (hle1.trans f1) hpr hln
  have hL := lent_of hG2 hs2 hpr hhas (h64 p) hcL
  obtain ⟨z, hz⟩ : ∃ z, z = syOf s2.tm := ⟨_, rfl⟩
  rw [← hz] at hpre z9 hargs hL
  have z9 : run (altsK id (bump (LS p).blk (locF s2)) (zf p z).1 (LS p).alts 0 (fun ex env => k ex env [])) σ2 K = true := z9
  have hLb := TvAs.lr hL.mv hargs hvs
  have hER : ER (rhoE w0 ρ σ2.h w s2.L (LS p).blk) nt ((LS p).env z) a.tmps := by
    refine ⟨hE.size, fun t b hb => ?_⟩
    rcases setTf_get hb with ⟨x, h1, h2, h3⟩ | h
    · subst h3
      have key : ∀ {l : List (Nat × Sa)} {vs : List Value}, All2 (fun (x : Nat × Sa) v => a.tmps[x.1]? = some v) l vs → LR (rhoE w0 ρ σ2.h w s2.L (LS p).blk) (putAs loc0 z (sas l)) vs → ∀ x ∈ l, ∃ v, a.tmps[x.1]? = some v ∧ VR (rhoE w0 ρ σ2.h w s2.L (LS p).blk) (putA loc0 z x.2) v := by
        intro l
        induction l with
        | nil => intro vs _ _ x hx; cases hx
        | cons q l ih =>
          intro vs h1 h2 x hx
          cases vs with
          | nil => exact h1.elim
          | cons v vs =>
            obtain ⟨v', vs', e, hv, hl'⟩ := LR.cons_inv (show LR _ (putA loc0 z q.2 :: putAs loc0 z (sas l)) (v :: vs) from h2)
            injection e with e1 e2
            subst e1; subst e2
            rcases List.mem_cons.1 hx with e | hx
            · subst e; exact ⟨v, h1.1, hv⟩
            · exact ih h1.2 hl' x hx
      obtain ⟨v, r1, r2⟩ := key htv hLb x h1
      exact ⟨v, by rw [← h2]; exact r1, r2⟩
    · simp [T.get] at h
  subst hnt
  refine wpIn_block (loop_wp (hC p z hpre w _ a _ hL.mv.to hL.ownOk (frzE _ _ _ _ _ _).symm hER hdf fun ρ' wx w' H' a' i alt asf s hF hG' halt hsz hd' hat hpt hsp hy => ?_))
  have h999 := pullT_999 hpt
  obtain ⟨t1, t2, t3⟩ := pullT_ok (ρ := ρ') hpt hsp
  rw [← hy] at t1 t2 h999
  have z10 := altsK_ok (i0 := i) h999 halt (Nat.zero_add _) z9
  obtain ⟨σ3, z11, hS3, e3, hw64⟩ := wrK_ok hS2 z10
  obtain ⟨ρ2, m1, m2, m3, _⟩ := leave hL (altsOk_at hcA halt) (fun j x b g hx hl => bump_at hx hl) (fun i hi => by have := hw64 i hi; rwa [Nat.zero_add] at this) hG' hF t2 t3
  rw [setTs_eq] at z11
  have hE2 : ER ρ2 (loopN P fn id) (setTf (bump (LS p).blk (locF s2)) (zf p z).1 alt.tmps .leaf) a'.tmps := by
    refine ⟨hsz, fun t b hb => ?_⟩
    rcases setTf_get hb with ⟨x, h1, h2, h3⟩ | h
    · subst h3
      obtain ⟨b, ⟨v, hv, hr⟩, htv⟩ := all2_mem (all2_and hat (sas_all2 t1)) h1
      exact ⟨v, by rw [← h2]; exact hv, m3 _ _ _ htv hr⟩
    · simp [T.get] at h
  have hDR : DR ρ2 [] a'.defers := by rw [hd']; trivial
  have hG3 : Good w0 ρ2 σ3.h w' := by rw [e3]; exact m1
  have fin : ∀ ex, run (k ex (setTf (bump (LS p).blk (locF s2)) (zf p z).1 alt.tmps .leaf) []) σ3 K = true → Q (cvX ex) a' w' := fun ex hr => hQ ex _ [] σ3 ρ2 w' a' hr hS3 hG3 m2 hE2 hDR
  generalize alt.ex = ex at z11
  cases ex with
  | normal => exact fin .normal z11
  | exit j =>
    rcases bif2 z11 with ⟨e, hr⟩ | ⟨e, hr⟩
    · have e := beqT e
      show (if j = id then Q .normal a' w' else Q (.exit j) a' w')
      rw [if_pos e]
      exact fin .normal hr
    · show (if j = id then Q .normal a' w' else Q (.exit j) a' w')
      rw [if_neg (fun e' => by subst e'; simp at e)]
      exact fin (.exit j) hr
  | goto l => exact fin (.goto l) z11
  | ret => exact fin .ret z11
end
end
end Go.Sym
namespace Go.Sym
open Go.RowKit (Below)
set_option linter.unusedVariables false
noncomputable section
def lookC (x : Sh) (a : AV) (k : AV → Tr) : Tr := match x with
  | .v _ _ => (match a with
    | .gsl b g n _ => .rd b fun q => (match q with | .grow ct gen _ => bif' (Nat.beq g gen) (.req (ct.len = n) (k (.cv ct))) .fail | _ => .fail)
    | a => k a)
  | .vb _ => (match a with
    | .gsl b g n _ => .rd b fun q => (match q with | .grow ct gen _ => bif' (Nat.beq g gen) (.req (ct.len = n) (k (.cv ct))) .fail | _ => .fail)
    | a => k a)
  | _ => k a
def lookA (x : Sa) (a : AV) (k : AV → Tr) : Tr := match x with
  | .c x => lookC x a k
  | .ag _ => k a
def lookAs (l : List Sa) (as : List AV) (k : List AV → Tr) : Tr :=
  List.rec (motive := fun _ => List AV → (List AV → Tr) → Tr) (fun as k => k as) (fun x _ ih as k => match as with
    | [] => k []
    | a :: as => lookA x a fun a => ih as fun as => k (a :: as)) l as k
def plainS (x : Sh) : Bool := match x with
  | .i _ _ => true | .b _ => true | .s _ => true | .o => true | .pi _ _ => true | .pb _ => true | .ps _ => true | .np => true
  | _ => false
def plainSs (l : List Sh) : Bool := List.rec (motive := fun _ => Bool) true (fun x _ ih => bif' (plainS x) ih false) l
def plainA (x : Sa) : Bool := match x with | .c x => plainS x | .ag l => plainSs l
def plainAs (l : List Sa) : Bool := List.rec (motive := fun _ => Bool) true (fun x _ ih => bif' (plainA x) ih false) l
def plainR (r : Sr) : Bool := match r with | .one a => plainA a | .tu l => plainAs l
def isNilL {α : Type} (l : List α) : Bool := match l with | [] => true | _ => false
def lookT (S : FSpec) (zf : (z : Sy) → { y : Sy // S.pre z → S.post z y }) (args : List AV) (k : AV → Tr) : Tr :=
  lookAs S.args args fun args => oel (pullAs .leaf [] S.args args ps0) .fail fun s => oel (finLn [] s.ln s) .fail fun s =>
    bif' (bif' (isNilL S.blk) (bif' (isNilL (S.out (syOf s.tm))) (plainR (S.res (syOf s.tm))) false) false) (.req (s.pr ∧ S.pre (syOf s.tm))
      (.sk (fun y => S.pre (syOf s.tm) → S.post (syOf s.tm) y) (zf (syOf s.tm)) fun y => k (putR loc0 y (S.res (syOf s.tm))))) .fail
end
section
variable {P : Program} {w0 : World} {ρ : Rho} {w : World} {σ : St} {K : Fin}
open Classical in
noncomputable def frzL (ρ : Rho) (w : World) (b : Nat) : Option (Array Value × TypeId) := match ρ.frz b with
  | some x => some x
  | none => (match w.heap[b]? with | some (.cells arr ty _) => some (arr, ty) | _ => none)
noncomputable def rhoL (ρ : Rho) (w : World) : Rho := ⟨fun _ _ => none, ρ.val, fun _ => False, frzL ρ w, frzL ρ w⟩
theorem frzL_cells {H : T ABlk} (hG : Good w0 ρ H w) {b : Nat} {arr : Array Value} {ty : TypeId} (hf : frzL ρ w b = some (arr, ty)) : ∃ fr, w.heap[b]? = some (.cells arr ty fr) := by
  unfold frzL at hf
  split at hf
  · rename_i x hx
    injection hf with hf
    subst hf
    exact (hG.frz _ _ _ hx).1
  · split at hf
    · rename_i arr' ty' fr hw
      injection hf with hf
      injection hf with e1 e2
      subst e1; subst e2
      exact ⟨fr, hw⟩
    · cases hf
theorem goodL {H : T ABlk} (hG : Good w0 ρ H w) : Good w (rhoL ρ w) .leaf w :=
  ⟨Kept.refl _ _ _, (fun b x h => by simp [T.get] at h), (fun b g h hh => by cases hh), (fun b g h b' g' h' hh => by cases hh), (fun b g h x hh => by cases hh), fun b arr ty hf => ⟨frzL_cells hG hf, fun b' g h hh => by cases hh⟩, fun b x hf _ => hf⟩
theorem frzL_old {b : Nat} {x : Array Value × TypeId} (h : ρ.frz b = some x) : (rhoL ρ w).frz b = some x := by
  show frzL ρ w b = _
  unfold frzL; rw [h]
def Cn (ρ : Rho) (w : World) (a' : AV) (v : Value) : Prop := VR ρ a' v ∨ ∃ ct, a' = .cv ct ∧ VR (rhoL ρ w) (.cv ct) v
theorem look_gsl {b g n es : Nat} {k : AV → Tr} {v : Value} (hS : SI σ) (hG : Good w0 ρ σ.h w) (hv : VR ρ (.gsl b g n es) v)
    (h : run (.rd b fun q => (match q with | .grow ct gen _ => bif' (Nat.beq g gen) (.req (ct.len = n) (k (.cv ct))) .fail | _ => .fail)) σ K = true) :
    ∃ a' σ', run (k a') σ' K = true ∧ SI σ' ∧ Good w0 ρ σ'.h w ∧ Cn ρ w a' v := by
  obtain ⟨q, σ1, hq, e1, hS1, h⟩ := rd_ok hS h
  have hG1 : Good w0 ρ σ1.h w := by rw [e1]; exact hG
  cases q with
  | grow ct gen ty =>
    obtain ⟨hg, z1⟩ := bifT h
    obtain ⟨hn, z2⟩ := req_ok z1
    have hg := beqT hg
    subst hg
    refine ⟨_, σ1, z2, hS1, hG1, .inr ⟨ct, rfl, ?_⟩⟩
    cases hv with
    | gnil _ _ _ => exact .cvnil _ hn
    | gempty _ _ _ a => exact .cvempty _ a hn
    | gsl _ _ _ _ hm c hn0 hh hs hc hz =>
      subst hn
      rcases hG.blk _ _ hq with h0 | ⟨hm', r1, r2, r3, arr, fr, r4, r5, r6, r7, r8⟩
      · omega
      rw [hh] at r1; injection r1 with r1; subst r1
      refine .cv ct hm.blk 0 c arr ty ?_ hc (by omega) fun i j a v hi ha hv => ?_
      · show frzL ρ w hm.blk = _
        unfold frzL
        cases hf : ρ.frz hm.blk with
        | some x => exact absurd rfl ((hG.frz hm.blk x.1 x.2 hf).2 _ _ _ hh)
        | none => simp only [r4]
      · obtain ⟨u, u1, u2⟩ := r8 i hi j a ha
        rw [Nat.zero_add, u1] at hv
        injection hv with hv
        subst hv
        exact hl_mono (fun b x h => frzL_old h) u2 (row_hl ha)
  | _ => exact (nofail h).elim
theorem lookC_ok {x : Sh} {a : AV} {k : AV → Tr} {v : Value} (hS : SI σ) (hG : Good w0 ρ σ.h w) (hv : VR ρ a v) (h : run (lookC x a k) σ K = true) :
    ∃ a' σ', run (k a') σ' K = true ∧ SI σ' ∧ Good w0 ρ σ'.h w ∧ Cn ρ w a' v := by
  have same : run (k a) σ K = true → ∃ a' σ', run (k a') σ' K = true ∧ SI σ' ∧ Good w0 ρ σ'.h w ∧ Cn ρ w a' v := fun h => ⟨a, σ, h, hS, hG, .inl hv⟩
  unfold lookC at h
  cases x with
  | v m t =>
    simp only at h
    split at h
    · exact look_gsl hS hG hv h
    · exact same h
  | vb t =>
    simp only at h
    split at h
    · exact look_gsl hS hG hv h
    · exact same h
  | _ => exact same h
theorem lookAs_ok : ∀ {l : List Sa} {as : List AV} {k : List AV → Tr} {σ : St} {vs : List Value}, SI σ → Good w0 ρ σ.h w → LR ρ as vs → run (lookAs l as k) σ K = true →
    ∃ as' σ', run (k as') σ' K = true ∧ SI σ' ∧ Good w0 ρ σ'.h w ∧ (l.length = as'.length → All2 (fun a v => Cn ρ w a v) as' vs ∧ as'.length = as.length) := by
  intro l
  induction l with
  | nil => intro as k σ vs hS hG hl h; exact ⟨as, σ, h, hS, hG, fun e => by cases as with | nil => rw [hl.nil_inv]; exact ⟨trivial, rfl⟩ | cons _ _ => simp at e⟩
  | cons x l ih =>
    intro as k σ vs hS hG hl h
    cases as with
    | nil => exact ⟨[], σ, h, hS, hG, fun e => by simp at e⟩
    | cons a as =>
      obtain ⟨v, vs', rfl, hv, hl'⟩ := hl.cons_inv
      have h : run (lookA x a fun a => lookAs l as fun as => k (a :: as)) σ K = true := h
      have : ∃ a' σ', run (lookAs l as fun as => k (a' :: as)) σ' K = true ∧ SI σ' ∧ Good w0 ρ σ'.h w ∧ Cn ρ w a' v := by
        cases x with
        | c x => exact lookC_ok hS hG hv (show run (lookC x a fun a => lookAs l as fun as => k (a :: as)) σ K = true from h)
        | ag l => exact ⟨a, σ, h, hS, hG, .inl hv⟩
      obtain ⟨a', σ1, h1, h2, h3, h5⟩ := this
      obtain ⟨as', σ2, q1, q2, q3, q4⟩ := ih h2 h3 hl' h1
      exact ⟨a' :: as', σ2, q1, q2, q3, fun e => ⟨⟨h5, (q4 (by simpa using e)).1⟩, by simp [(q4 (by simpa using e)).2]⟩⟩
theorem RdC.look {ct : Ct} {a : AV} {v : Value} (h : RdC .leaf ct a) (hv : Cn ρ w a v) : VR (rhoL ρ w) (.cv ct) v := by
  rcases h with ⟨e, h0⟩ | e | ⟨b, g, es, ty, _, _, hF⟩ | ⟨b, g, o, cap, c, gen, lo, hi, fl, fh, ty, as, _, _, hF, _⟩
  · subst e
    rcases hv with hv | ⟨_, e, _⟩
    · cases hv; exact .cvnil _ h0
    · cases e
  · subst e
    rcases hv with hv | ⟨_, e, hv⟩
    · exact hl_mono (fun b x h => frzL_old h) hv rfl
    · injection e with e; subst e; exact hv
  · simp [T.get] at hF
  · simp [T.get] at hF
theorem Tv.look {L : Nat → Option (Nat × Nat)} {z : Sy} {x : Sh} {a : AV} {v : Value} (h : Tv .leaf [] L z x a) (hv : Cn ρ w a v) : VR (rhoL ρ w) (put loc0 z x) v := by
  have num : ∀ {k n}, numS a = some (k, n) → v = .int k n := fun hn => by
    rcases hv with hv | ⟨_, e, _⟩
    · exact numS_inv hv hn
    · subst e; cases hn
  have pr : ∀ {q}, propS a = some q → ∃ b, v = .bool b ∧ (b = true ↔ q) := fun hn => by
    rcases hv with hv | ⟨_, e, _⟩
    · exact propS_inv hv hn
    · subst e; cases hn
  have st : ∀ {l}, strS a = some l → ∃ s, v = .string s ∧ l = bytesOf s := fun hn => by
    rcases hv with hv | ⟨_, e, _⟩
    · exact strS_inv hv hn
    · subst e; cases hn
  cases x with
  | i k t => have h : numS a = some (k, z.i t) := h; rw [num h]; exact .sI _ _
  | b t =>
    have h : propS a = some (z.p t) := h
    obtain ⟨b, e, hb⟩ := pr h
    rw [e]; exact .sB _ b hb
  | s t =>
    have h : strS a = some (z.s t) := h
    obtain ⟨s, e, hs⟩ := st h
    rw [e]
    show VR _ (.sS (z.s t)) _
    rw [hs]; exact .sS s
  | o =>
    rcases hv with hv | ⟨_, e, hv⟩
    · exact .any1 v (oneA_ok hv h)
    · exact .any1 v (oneA_ok hv rfl)
  | v m t => exact RdC.look h hv
  | vb t => exact RdC.look h hv
  | pi k n => have h : numS a = some (k, n) := h; rw [num h]; exact .sI _ _
  | pb q =>
    obtain ⟨q', h1, h2⟩ := h
    obtain ⟨b, e, hb⟩ := pr h1
    rw [e]; exact .sB _ b (hb.trans h2)
  | ps l =>
    have h : strS a = some l := h
    obtain ⟨s, e, hs⟩ := st h
    rw [e]
    show VR _ (.sS l) _
    rw [hs]; exact .sS s
  | pv m l => exact RdC.look h hv
  | pvb l => exact RdC.look h hv
  | np =>
    have h : a = .nilp := h
    subst h
    rcases hv with hv | ⟨_, e, _⟩
    · cases hv; exact .nilp
    · cases e
  | p j => obtain ⟨_, _, _, hc⟩ := h; cases hc
  | g j es t => obtain ⟨_, _, _, _, _, _, hc⟩ := h; simp at hc
  | gb j t => obtain ⟨_, _, _, _, _, hc⟩ := h; simp at hc
theorem all2_look {α : Type} {R : α → AV → Prop} {f : α → AV} {fs : List α → List AV} (hf0 : fs [] = []) (hfs : ∀ x l, fs (x :: l) = f x :: fs l) (hR : ∀ x a v, R x a → Cn ρ w a v → VR (rhoL ρ w) (f x) v) :
    ∀ {l : List α} {as : List AV} {vs : List Value}, All2 R l as → All2 (fun a v => Cn ρ w a v) as vs → LR (rhoL ρ w) (fs l) vs
  | [], [], [], _, _ => by rw [hf0]; exact LR.nil _
  | x :: l, a :: as, v :: vs, ⟨h1, h2⟩, ⟨h3, h4⟩ => by rw [hfs]; exact LR.cons (hR x a v h1 h3) (all2_look hf0 hfs hR h2 h4)
  | [], _ :: _, _, h, _ => h.elim
  | _ :: _, [], _, h, _ => h.elim
  | [], [], _ :: _, _, h => h.elim
  | _ :: _, _ :: _, [], _, h => h.elim
theorem TvA.look {L : Nat → Option (Nat × Nat)} {z : Sy} {x : Sa} {a : AV} {v : Value} (h : TvA .leaf [] L z x a) (hv : Cn ρ w a v) : VR (rhoL ρ w) (putA loc0 z x) v := by
  cases x with
  | c x => exact Tv.look h hv
  | ag l =>
    obtain ⟨as, e, ha⟩ := h
    subst e
    rcases hv with hv | ⟨_, e, _⟩
    · cases hv with
      | agg _ cs h1 h2 =>
        have hl := LR.of_arr h1 h2
        have : All2 (fun a v => Cn ρ w a v) as cs.toList := by
          have key : ∀ {as : List AV} {vs : List Value}, LR ρ as vs → All2 (fun a v => Cn ρ w a v) as vs := by
            intro as
            induction as with
            | nil => intro vs h; rw [h.nil_inv]; trivial
            | cons a as ih => intro vs h; obtain ⟨v, vs', rfl, hv, h'⟩ := h.cons_inv; exact ⟨.inl hv, ih h'⟩
          exact key hl
        obtain ⟨q1, q2⟩ := (all2_look (fs := puts loc0 z) rfl (fun _ _ => rfl) (fun _ _ _ h hv => Tv.look h hv) ha this).arr
        exact .agg _ cs q1 q2
    · cases e
theorem plain_vr {ρ1 ρ2 : Rho} {F : T ABlk} {blk : List BSh} {L : Nat → Option (Nat × Nat)} {y : Sy} {x : Sh} {a : AV} {v : Value} (hp : plainS x = true) (h : Tv F blk L y x a) (hv : VR ρ1 a v) : VR ρ2 (put loc0 y x) v := by
  cases x with
  | i k t => have h : numS a = some (k, y.i t) := h; rw [numS_inv hv h]; exact .sI _ _
  | b t =>
    have h : propS a = some (y.p t) := h
    obtain ⟨b, e, hb⟩ := propS_inv hv h
    rw [e]; exact .sB _ b hb
  | s t =>
    have h : strS a = some (y.s t) := h
    obtain ⟨s, e, hs⟩ := strS_inv hv h
    rw [e]
    show VR _ (.sS (y.s t)) _
    rw [hs]; exact .sS s
  | o => exact .any1 v (oneA_ok hv h)
  | pi k n => have h : numS a = some (k, n) := h; rw [numS_inv hv h]; exact .sI _ _
  | pb q =>
    obtain ⟨q', h1, h2⟩ := h
    obtain ⟨b, e, hb⟩ := propS_inv hv h1
    rw [e]; exact .sB _ b (hb.trans h2)
  | ps l =>
    have h : strS a = some l := h
    obtain ⟨s, e, hs⟩ := strS_inv hv h
    rw [e]
    show VR _ (.sS l) _
    rw [hs]; exact .sS s
  | np => have h : a = .nilp := h; subst h; cases hv; exact .nilp
  | _ => cases hp
theorem plains_lr {ρ1 ρ2 : Rho} {F : T ABlk} {blk : List BSh} {L : Nat → Option (Nat × Nat)} {y : Sy} : ∀ {l : List Sh} {as : List AV} {vs : List Value}, plainSs l = true → All2 (Tv F blk L y) l as → LR ρ1 as vs → LR ρ2 (puts loc0 y l) vs
  | [], [], vs, _, _, h => by rw [h.nil_inv]; exact LR.nil _
  | x :: l, a :: as, vs, hp, ⟨h1, h2⟩, h => by
    obtain ⟨v, vs', rfl, hv, h'⟩ := h.cons_inv
    obtain ⟨p1, p2⟩ := bif'_true (show bif' (plainS x) (plainSs l) false = true from hp)
    exact LR.cons (plain_vr p1 h1 hv) (plains_lr p2 h2 h')
  | [], _ :: _, _, _, h, _ => h.elim
  | _ :: _, [], _, _, h, _ => h.elim
theorem plainA_vr {ρ1 ρ2 : Rho} {F : T ABlk} {blk : List BSh} {L : Nat → Option (Nat × Nat)} {y : Sy} {x : Sa} {a : AV} {v : Value} (hp : plainA x = true) (h : TvA F blk L y x a) (hv : VR ρ1 a v) : VR ρ2 (putA loc0 y x) v := by
  cases x with
  | c x => exact plain_vr hp h hv
  | ag l =>
    obtain ⟨as, e, ha⟩ := h
    subst e
    cases hv with
    | agg _ cs h1 h2 =>
      obtain ⟨q1, q2⟩ := (plains_lr (ρ2 := ρ2) hp ha (LR.of_arr h1 h2)).arr
      exact .agg _ cs q1 q2
theorem plainAs_lr {ρ1 ρ2 : Rho} {F : T ABlk} {blk : List BSh} {L : Nat → Option (Nat × Nat)} {y : Sy} : ∀ {l : List Sa} {as : List AV} {vs : List Value}, plainAs l = true → All2 (TvA F blk L y) l as → LR ρ1 as vs → LR ρ2 (putAs loc0 y l) vs
  | [], [], vs, _, _, h => by rw [h.nil_inv]; exact LR.nil _
  | x :: l, a :: as, vs, hp, ⟨h1, h2⟩, h => by
    obtain ⟨v, vs', rfl, hv, h'⟩ := h.cons_inv
    obtain ⟨p1, p2⟩ := bif'_true (show bif' (plainA x) (plainAs l) false = true from hp)
    exact LR.cons (plainA_vr p1 h1 hv) (plainAs_lr p2 h2 h')
  | [], _ :: _, _, _, h, _ => h.elim
  | _ :: _, [], _, _, h, _ => h.elim
theorem plainR_vr {ρ1 ρ2 : Rho} {F : T ABlk} {blk : List BSh} {L : Nat → Option (Nat × Nat)} {y : Sy} {x : Sr} {a : AV} {v : Value} (hp : plainR x = true) (h : TvR F blk L y x a) (hv : VR ρ1 a v) : VR ρ2 (putR loc0 y x) v := by
  cases x with
  | one x => exact plainA_vr hp h hv
  | tu l =>
    obtain ⟨as, e, ha⟩ := h
    subst e
    cases hv with
    | tup _ cs h1 h2 =>
      obtain ⟨q1, q2⟩ := (plainAs_lr (ρ2 := ρ2) hp ha (LR.of_arr h1 h2)).arr
      exact .tup _ cs q1 q2
theorem look_ok {f : Nat} {S : FSpec} {zf : (z : Sy) → { y : Sy // S.pre z → S.post z y }} (hC : CallOk P f S zf) (w0 : World) (l : List AV) : EnAt P w0 f l (lookT S zf l) := by
  intro vs k σ K ρ w R hS hG hl h hR
  obtain ⟨l', σ1, z1, hS1, hG1, hcn⟩ := lookAs_ok hS hG hl h
  obtain ⟨s0, hs0, z2⟩ := oelT z1
  obtain ⟨s2, hs2, z4⟩ := oelT z2
  obtain ⟨hchk, z5⟩ := bifT z4
  obtain ⟨⟨hpr, hpre⟩, z6⟩ := req_ok z5
  clear h z1 z2 z4 z5
  obtain ⟨hc1, hc2⟩ := bif'_true hchk
  obtain ⟨hc3, hc4⟩ := bif'_true hc2
  obtain ⟨p1, p2⟩ := pullAs_ok (blk := []) hs0
  obtain ⟨f1, _⟩ := finLn_ok hs2
  have hln := lnOk_of hs2 hpr
  have hargs := p2 s2 f1 hpr hln
  have hcv := (hcn (pullAs_len hs0)).1
  obtain ⟨z, hz⟩ : ∃ z, z = syOf s2.tm := ⟨_, rfl⟩
  rw [← hz] at hpre z6 hargs hc3 hc4
  have z6 : run (k (putR loc0 (zf z).1 (S.res z))) σ1 K = true := z6
  have hLb := all2_look (fs := putAs loc0 z) rfl (fun _ _ => rfl) (fun _ _ _ h hv => TvA.look h hv) hargs hcv
  have hbl : S.blk = [] := by cases hb : S.blk with | nil => rfl | cons _ _ => rw [hb] at hc1; cases hc1
  have hheap : S.heap z = .leaf := by unfold FSpec.heap; rw [hbl]; rfl
  obtain ⟨hcf, hcalls⟩ := hC z hpre w (rhoL ρ w) vs (by rw [hheap]; exact goodL hG1) hLb
  refine ⟨hcf, hcalls.mono fun e w' he => ?_⟩
  obtain ⟨v, ρ', H', a, s, rfl, hG', hle', hva, hfin, hspr, hzf⟩ := he
  obtain ⟨t1, _, _⟩ := pullFin_ok (ρ := ρ') hfin hspr
  rw [← hzf] at t1
  have hbelow : Below w.heap.size w w' := hG'.below.below fun x => by rw [hle'.own]; exact fun h => h
  exact hR _ v σ1 ρ w' z6 hS1 (hG1.later hbelow) (Rho.le.refl ρ) (plainR_vr hc4 t1 hva)
end
end Go.Sym
namespace Go.Sym
set_option linter.unusedVariables false
theorem symf_bstr (s : List Nat) : (bstr s).length = s.length := List.length_map ..
theorem symf_ne {a : List Nat} (h : ¬ a = []) : 0 < a.length := List.length_pos_iff.2 h
theorem wrap64_eq (n : Int) : IntKind.wrap .u64 n = n % 18446744073709551616 := rfl
theorem wrap8_eq (n : Int) : IntKind.wrap .u8 n = n % 256 := rfl
noncomputable section
theorem Fm.ana_den {a q : Prop} {r : Sy → Prop} {f : Sy → Fm} (h1 : a ∧ q) (h2 : a ∧ q → ∀ y, r y → (f y).den) : (Fm.an (a ∧ q) (Fm.al (fun y => q → r y) f)).den := ⟨h1, fun h y hy => h2 h y (hy h1.2)⟩
theorem fmA {a q : Prop} {r : Sy → Prop} {f : Sy → Fm} (h1 : a ∧ q) (h2 : a ∧ q → ∀ y, r y → (f y).den) : (Fm.an (a ∧ q) (Fm.al (fun y => q → r y) f)).den := Fm.ana_den h1 h2
theorem fmT {p : Prop} {f g : Fm} (h1 : p → f.den) (h2 : ¬ p → g.den) : (Fm.two p f g).den := ⟨h1, h2⟩
theorem fmN {p : Prop} {f : Fm} (h1 : p) (h2 : p → f.den) : (Fm.an p f).den := ⟨h1, h2⟩
theorem fmL {p : Sy → Prop} {f : Sy → Fm} (h : ∀ y, p y → (f y).den) : (Fm.al p f).den := h
theorem fmE {p : Prop} (h : p) : (Fm.at p).den := h
abbrev Zf (S : FSpec) := (z : Sy) → { y : Sy // S.pre z → S.post z y }
abbrev Lf0 (LS : Sy → LSpec) := (p z : Sy) → { y : Sy // (LS p).inv z → (LS p).post z y }
structure Ent where
  f : Nat
  S : FSpec
  zf : (z : Sy) → { y : Sy // S.pre z → S.post z y }
  look : Bool := false
structure LEnt where
  fn : Nat
  id : Nat
  n : Nat
  ptm : List (Nat × Sa)
  LS : Sy → LSpec
  zf : (p z : Sy) → { y : Sy // (LS p).inv z → (LS p).post z y }
def conL (l : List Ent) (f : Nat) (args : List AV) : Option ((AV → Tr) → Tr) :=
  List.rec (motive := fun _ => Option ((AV → Tr) → Tr)) none (fun e _ ih => bif' (Nat.beq e.f f) (some (bif' e.look (lookT e.S e.zf args) (conT e.S e.zf args))) ih) l
def blkL (l : List LEnt) (fn id : Nat) : Option (Nat → T AV → (AEx → T AV → Tr) → Tr) :=
  List.rec (motive := fun _ => Option (Nat → T AV → (AEx → T AV → Tr) → Tr)) none (fun e _ ih => bif' (bif' (Nat.beq e.fn fn) (Nat.beq e.id id) false) (some (blkT e.ptm e.LS e.zf e.n e.id)) ih) l
def tabOf (m : List Memo) (c : List Ent) (l : List LEnt) : Tab := ⟨m, conL c, blkL l⟩
def EntOk (P : Program) (e : Ent) : Prop := CallOk P e.f e.S e.zf
def LEntOk (P : Program) (e : LEnt) : Prop := isLoop P e.fn e.id = true ∧ e.n = loopN P e.fn e.id ∧ (∀ p, (e.LS p).blk.length ≤ 64) ∧ ∀ p z, (e.LS p).inv z → LoopAt P e.fn e.id (e.LS p) z (e.zf p z).1
end
def Ok (P : Program) (f : Nat) (S : FSpec) : Prop := ∃ zf, CallOk P f S zf
def OkL (P : Program) (fn id : Nat) (LS : Sy → LSpec) : Prop := ∃ zf : Lf0 LS, isLoop P fn id = true ∧ (∀ p, (LS p).blk.length ≤ 64) ∧ ∀ p z, (LS p).inv z → LoopAt P fn id (LS p) z (zf p z).1
theorem tabOf_ok {P : Program} {m : List Memo} {c : List Ent} {l : List LEnt} (hm : ∀ x ∈ m, MemoOk P x) (hc : ∀ e ∈ c, EntOk P e) (hl : ∀ e ∈ l, LEntOk P e) : TabOk P (tabOf m c l) where
  memos := hm
  con := fun w0 f args t h => by
    replace h : conL c f args = some t := h
    clear hl hm
    induction c with
    | nil => cases h
    | cons e c ih =>
      replace h : bif' (Nat.beq e.f f) (some (bif' e.look (lookT e.S e.zf args) (conT e.S e.zf args))) (conL c f args) = some t := h
      rw [bif'_eq] at h
      split at h
      · rename_i hf
        have hf := Nat.eq_of_beq_eq_true hf
        injection h with h
        subst hf; subst h
        cases hlk : e.look with
        | true => exact look_ok (hc e List.mem_cons_self) w0 args
        | false => exact con_ok (hc e List.mem_cons_self) w0 args
      · exact ih (fun e he => hc e (List.mem_cons_of_mem _ he)) h
  blk := fun w0 fn id t h => by
    replace h : blkL l fn id = some t := h
    clear hc hm
    induction l with
    | nil => cases h
    | cons e l ih =>
      replace h : bif' (bif' (Nat.beq e.fn fn) (Nat.beq e.id id) false) (some (blkT e.ptm e.LS e.zf e.n e.id)) (blkL l fn id) = some t := h
      rw [bif'_eq] at h
      split at h
      · rename_i hf
        obtain ⟨h1, h2⟩ := bif'_true hf
        have h1 := Nat.eq_of_beq_eq_true h1
        have h2 := Nat.eq_of_beq_eq_true h2
        injection h with h
        subst h1; subst h2; subst h
        obtain ⟨q1, q2, q3, q4⟩ := hl e List.mem_cons_self
        rw [q2]
        exact blk_ok q1 q3 q4 w0
      · exact ih (fun e he => hl e (List.mem_cons_of_mem _ he)) h
theorem okL_of {P : Program} {M : Tab} (hM : TabOk P M) {n fn id : Nat} {LS : Sy → LSpec} (hl : isLoop P fn id = true) (h64 : ∀ p, (LS p).blk.length ≤ 64) (h : ∀ p z, (LS p).inv z → ∃ hn, ((LS p).roundFm P M n fn id z hn).den) : OkL P fn id LS := by
  have key : ∀ p z, ∃ y : { y : Sy // (LS p).inv z → (LS p).post z y }, (LS p).inv z → LoopAt P fn id (LS p) z y.1 := fun p z => by
    by_cases hz : (LS p).inv z
    · obtain ⟨y, h1, h2⟩ := loop_ok hM hl (h64 p) (h p) _ z rfl hz
      exact ⟨⟨y, fun _ => h1⟩, fun _ => h2⟩
    · exact ⟨⟨⟨fun _ => 0, fun _ => [], fun _ => False, fun _ => []⟩, fun h => absurd h hz⟩, fun h => absurd h hz⟩
  exact ⟨fun p z => Classical.choose (key p z), hl, h64, fun p z hz => Classical.choose_spec (key p z) hz⟩
theorem entOk_of {P : Program} {f : Nat} {S : FSpec} {zf : Zf S} {look : Bool} (h : CallOk P f S zf) : EntOk P ⟨f, S, zf, look⟩ := h
theorem lentOk_of {P : Program} {fn id : Nat} {ptm : List (Nat × Sa)} {LS : Sy → LSpec} {zf : Lf0 LS} (h : isLoop P fn id = true ∧ (∀ p, (LS p).blk.length ≤ 64) ∧ ∀ p z, (LS p).inv z → LoopAt P fn id (LS p) z (zf p z).1) : LEntOk P ⟨fn, id, loopN P fn id, ptm, LS, zf⟩ := ⟨h.1, rfl, h.2.1, h.2.2⟩
theorem mN {P : Program} : ∀ x ∈ ([] : List Memo), MemoOk P x := fun _ h => by cases h
theorem eN {P : Program} : ∀ e ∈ ([] : List Ent), EntOk P e := fun _ h => by cases h
theorem lN {P : Program} : ∀ e ∈ ([] : List LEnt), LEntOk P e := fun _ h => by cases h
theorem eC {P : Program} {f : Nat} {S : FSpec} {zf : Zf S} {look : Bool} {l : List Ent} (h : CallOk P f S zf) (hl : ∀ e ∈ l, EntOk P e) : ∀ e ∈ (⟨f, S, zf, look⟩ : Ent) :: l, EntOk P e := fun e he => by
  rcases List.mem_cons.1 he with rfl | he
  · exact entOk_of h
  · exact hl e he
theorem lC {P : Program} {fn id : Nat} {ptm : List (Nat × Sa)} {LS : Sy → LSpec} {zf : Lf0 LS} {l : List LEnt} (h : isLoop P fn id = true ∧ (∀ p, (LS p).blk.length ≤ 64) ∧ ∀ p z, (LS p).inv z → LoopAt P fn id (LS p) z (zf p z).1) (hl : ∀ e ∈ l, LEntOk P e) : ∀ e ∈ (⟨fn, id, loopN P fn id, ptm, LS, zf⟩ : LEnt) :: l, LEntOk P e := fun e he => by
  rcases List.mem_cons.1 he with rfl | he
  · exact lentOk_of h
  · exact hl e he
end Go.Sym
