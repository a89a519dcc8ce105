/- SYM, part R3: maps; SYM, part R4: copy, min and max, make of a slice, assertions. -/
import Derived.Test.YtldnnonkobikdaaGreatDoorSymR
import Derived.Laws.RangeString
namespace Go.Sym
open Go.RowKit (Below)
set_option linter.unusedVariables false
def MR (ρ : Rho) (es : List ME) (ess : List MapEntry) : Prop :=
  ess.length = es.length ∧ ∀ (i : Nat) (k v : AV) (n : Nat) (e : MapEntry), es[i]? = some (.mk k v n) → ess[i]? = some e → VR ρ k e.key ∧ VR ρ v e.val ∧ e.born = n
theorem MR.nil (ρ : Rho) : MR ρ [] [] := ⟨rfl, by simp⟩
theorem MR.cons {ρ : Rho} {k v : AV} {n : Nat} {e : MapEntry} {es : List ME} {ess : List MapEntry} (h1 : VR ρ k e.key) (h2 : VR ρ v e.val) (h3 : e.born = n) (h : MR ρ es ess) : MR ρ (.mk k v n :: es) (e :: ess) := by
  refine ⟨by simp [h.1], fun i k' v' n' e' hi he => ?_⟩
  cases i with
  | zero => simp at hi he; obtain ⟨q1, q2, q3⟩ := hi; subst q1; subst q2; subst q3; subst he; exact ⟨h1, h2, h3⟩
  | succ i => exact h.2 i k' v' n' e' (by simpa using hi) (by simpa using he)
theorem MR.cons_inv {ρ : Rho} {k v : AV} {n : Nat} {es : List ME} {ess : List MapEntry} (h : MR ρ (.mk k v n :: es) ess) : ∃ e ess', ess = e :: ess' ∧ VR ρ k e.key ∧ VR ρ v e.val ∧ e.born = n ∧ MR ρ es ess' := by
  cases ess with
  | nil => exact absurd h.1 (by simp)
  | cons e ess' =>
    obtain ⟨h1, h2, h3⟩ := h.2 0 k v n e rfl rfl
    exact ⟨e, ess', rfl, h1, h2, h3, by simpa using h.1, fun i k' v' n' e' hi he => h.2 (i + 1) k' v' n' e' (by simpa using hi) (by simpa using he)⟩
theorem MR.nil_inv {ρ : Rho} {ess : List MapEntry} (h : MR ρ [] ess) : ess = [] := by
  cases ess with
  | nil => rfl
  | cons _ _ => exact absurd h.1 (by simp)
theorem MR.mono {ρ ρ' : Rho} (hle : ρ.le ρ') {es : List ME} {ess : List MapEntry} (h : MR ρ es ess) : MR ρ' es ess :=
  ⟨h.1, fun i k v n e hi he => let ⟨a, b, c⟩ := h.2 i k v n e hi he; ⟨a.mono hle, b.mono hle, c⟩⟩
theorem MR.append {ρ : Rho} {es fs : List ME} {ess fss : List MapEntry} (h : MR ρ es ess) (h' : MR ρ fs fss) : MR ρ (es ++ fs) (ess ++ fss) := by
  induction es generalizing ess with
  | nil => rw [h.nil_inv]; exact h'
  | cons x es ih =>
    cases x with
    | mk k v n =>
      obtain ⟨e, ess', rfl, h1, h2, h3, h4⟩ := h.cons_inv
      exact MR.cons h1 h2 h3 (ih h4)
theorem MR.get {ρ : Rho} {es : List ME} {ess : List MapEntry} (h : MR ρ es ess) {i : Nat} {k v : AV} {n : Nat} (hi : es[i]? = some (.mk k v n)) : ∃ e, ess[i]? = some e ∧ VR ρ k e.key ∧ VR ρ v e.val ∧ e.born = n := by
  have hlt : i < ess.length := by
    rcases Nat.lt_or_ge i es.length with h' | h'
    · rw [h.1]; exact h'
    · rw [List.getElem?_eq_none h'] at hi; cases hi
  exact ⟨_, List.getElem?_eq_getElem hlt, h.2 i k v n _ hi (List.getElem?_eq_getElem hlt)⟩
theorem MR.set {ρ : Rho} {es : List ME} {ess : List MapEntry} (h : MR ρ es ess) {i : Nat} {k v : AV} {n : Nat} {e : MapEntry} (h1 : VR ρ k e.key) (h2 : VR ρ v e.val) (h3 : e.born = n) : MR ρ (es.set i (.mk k v n)) (ess.set i e) := by
  refine ⟨by simp [h.1], fun j k' v' n' e' hj he => ?_⟩
  rw [List.getElem?_set] at hj he
  by_cases eij : i = j
  · subst eij
    rw [if_pos rfl] at hj he
    split at hj
    · injection hj with hj; injection hj with q1 q2 q3
      subst q1; subst q2; subst q3
      split at he
      · injection he with he; subst he; exact ⟨h1, h2, h3⟩
      · cases he
    · cases hj
  · rw [if_neg eij] at hj he
    exact h.2 j k' v' n' e' hj he
section
variable {P : Program} {w0 : World} {ρ : Rho} {w : World} {σ : St} {K : Fin} {k : AV → Tr}
theorem BR.mapo_MR {B b : Nat} {es : List ME} {clock : Nat} (h : BR ρ B w b (.mapo es clock)) : ∃ hm, ρ.at_ b 0 = some hm ∧ Own ρ B hm.blk ∧ ∃ es', w.heap[hm.blk]? = some (.map es' clock) ∧ MR ρ es es'.toList := by
  obtain ⟨hm, h1, h2, es', h3, h4, h5⟩ := h
  exact ⟨hm, h1, h2, es', h3, by simpa using h4, fun i k v n e hi he => h5 i k v n e hi (by simpa using he)⟩
theorem BR.of_MR {B b : Nat} {es : List ME} {clock : Nat} {hm : Home} {es' : List MapEntry} (h1 : ρ.at_ b 0 = some hm) (h2 : Own ρ B hm.blk) (h3 : w.heap[hm.blk]? = some (.map es'.toArray clock)) (h : MR ρ es es') : BR ρ B w b (.mapo es clock) :=
  ⟨hm, h1, h2, es'.toArray, h3, by simpa using h.1, fun i k v n e hi he => h.2 i k v n e hi (by simpa using he)⟩
theorem keyD_calm : ∀ (f : Nat) (t : TypeId), keyD P f t = true → calmD P f t = true := by
  intro f
  induction f with
  | zero => intro t h; simp [keyD] at h
  | succ f ih =>
    intro t h
    unfold keyD at h
    unfold calmD
    split at h
    · rename_i e; rw [e]
    · rename_i e; rw [e]
    · rename_i e; rw [e]
    · rename_i fs e
      rw [e]
      simp only [Bool.and_eq_true, List.all_eq_true] at h ⊢
      exact ⟨h.1, fun fd hfd => ih _ (h.2 fd hfd).2⟩
    · rename_i n e' e
      rw [e]
      exact ih _ h
    · cases h
theorem keyA_run (em : Bool) : ∀ (f : Nat) (t : TypeId) (a : AV) (v : Value) (N : Nat), keyA P f t a = true → VR ρ a v → f ≤ N → (Instr.checkKey em N t v).run P w = .ok () w := by
  intro f
  induction f with
  | zero => intro t a v N h; simp [keyA] at h
  | succ f ih =>
    intro t a v N h hv hN
    obtain ⟨N, rfl⟩ : ∃ N', N = N' + 1 := ⟨N - 1, by omega⟩
    unfold keyA at h
    split at h
    · rename_i e; simp [Instr.checkKey, run_underlying e]
    · rename_i e; simp [Instr.checkKey, run_underlying e]
    · rename_i e; simp [Instr.checkKey, run_underlying e]
    · rename_i fs e
      split at h
      · rename_i l
        cases hv with
        | agg _ cs h1 h2 =>
          have hl := LR.of_arr h1 h2
          rw [Instr.checkKey]
          simp only [Sem.run_bind, run_underlying e, Result.andThen_ok]
          rw [← Array.forIn_toList]
          have h := List.all_eq_true.mp h
          generalize fs.toList = L at h
          induction L with
          | nil => simp
          | cons fd L ihl =>
            have hfd := h fd (by simp)
            split at hfd
            · rename_i i d hi hd
              split at hfd
              · rename_i a ha
                obtain ⟨x, p1, r1⟩ := part_run (w := w) hd hi hl ha
                have p2 := ih fd.type a x N hfd r1 (by omega)
                simp only [List.forIn_cons, Sem.run_bind]
                by_cases hn : fd.name = "_"
                · simp only [hn, ne_eq, not_true_eq_false, if_false, Sem.run_pure, Result.andThen_ok]
                  exact ihl fun y hy => h y (by simp [hy])
                · simp only [hn, ne_eq, not_false_eq_true, if_true, Sem.run_bind, p1, p2, Result.andThen_ok, Sem.run_pure]
                  exact ihl fun y hy => h y (by simp [hy])
              · cases hfd
            · cases hfd
      · cases h
    · rename_i n e' e
      split at h
      · rename_i l i d hi hd
        simp only [Bool.and_eq_true, Bool.not_eq_true', List.all_eq_true] at h
        obtain ⟨⟨⟨hs1, hna⟩, hln⟩, hall⟩ := h
        have hs1 := beqT hs1
        have hln := beqT hln
        cases hv with
        | agg _ cs h1 h2 =>
          have hl := LR.of_arr h1 h2
          rw [Instr.checkKey]
          simp only [Sem.run_bind, run_underlying e, Result.andThen_ok]
          simp only [Std.Legacy.Range.forIn_eq_forIn_range', Std.Legacy.Range.size, Nat.sub_zero, Nat.add_one_sub_one, Nat.div_one]
          have each : ∀ j ∈ List.range' 0 n, ∃ x, (part e' cs (j * 1)).run P w = .ok x w ∧ (Instr.checkKey em N e' x).run P w = .ok () w := fun j hj => by
            have hjn : j < l.length := by
              have := List.mem_range'.1 hj
              obtain ⟨i, hi, e⟩ := this
              omega
            obtain ⟨x, hx, hr⟩ := hl.get (List.getElem?_eq_getElem hjn)
            have hx' : cs[j]? = some x := by simpa using hx
            refine ⟨x, ?_, ih e' l[j] x N (hall _ (List.getElem_mem _)) hr (by omega)⟩
            simp only [Nat.mul_one, part, Sem.run_bind, isAgg_run hd, hna, Result.andThen_ok, Bool.false_eq_true, if_false, hx', Sem.run_pure]
          generalize List.range' 0 n = is at each
          induction is with
          | nil => simp
          | cons j is ihl =>
            obtain ⟨x, p1, p2⟩ := each j (by simp)
            simp only [List.forIn_cons, Sem.run_bind, sizeOf_run hi, hs1, Result.andThen_ok, p1, p2, Sem.run_pure]
            exact ihl fun y hy => each y (by simp [hy])
      · cases h
    · cases h
def FR (ρ : Rho) (es : List ME) (ess : List MapEntry) : Option (Nat × AV) → Option (Nat × Value) → Prop
  | none, none => True
  | some (i, a), some (j, v) => i = j ∧ VR ρ a v ∧ ∃ k n, es[i]? = some (.mk k a n)
  | _, _ => False
theorem sameNow_of {d : TypeDesc} {x y : AV} {v u : Value} {r : Bool} {f : Nat} (hd : d = .bool ∨ (∃ j, d = .int j) ∨ d = .string) (hx : VR ρ x v) (hy : VR ρ y u) (h : eqA P (f + 1) d x y = some r) : Instr.sameNow d v u = some r := by
  rcases hd with rfl | ⟨j, rfl⟩ | rfl
  · cases x <;> first | (simp [eqA] at h; done) | skip
    cases y <;> first | (simp [eqA] at h; done) | skip
    cases hx; cases hy; injection h with h; subst h; rfl
  · cases x <;> first | (simp [eqA] at h; done) | skip
    cases y <;> first | (simp [eqA] at h; done) | skip
    cases hx; cases hy
    rename_i k1 a k2 b
    exact (show (if k1 = k2 then some (a == b) else none) = some r from h)
  · cases x <;> first | (simp [eqA] at h; done) | skip
    cases y <;> first | (simp [eqA] at h; done) | skip
    cases hx; cases hy
    injection h with h; subst h
    rw [eqL_bytes, ← beq_toListBytes]
    rfl
theorem FR.cons {es : List ME} {ess : List MapEntry} {x : ME} {e : MapEntry} {r : Option (Nat × AV)} {r' : Option (Nat × Value)} {i : Nat}
    (h : FR ρ es ess (r.map fun p => (p.1 - (i + 1), p.2)) (r'.map fun p => (p.1 - (i + 1), p.2))) (hr : ∀ p, r = some p → i + 1 ≤ p.1) (hr' : ∀ p, r' = some p → i + 1 ≤ p.1) :
    FR ρ (x :: es) (e :: ess) (r.map fun p => (p.1 - i, p.2)) (r'.map fun p => (p.1 - i, p.2)) := by
  cases r with
  | none => cases r' with
    | none => trivial
    | some p' => exact h.elim
  | some p =>
    cases r' with
    | none => exact h.elim
    | some p' =>
      obtain ⟨h1, h2, k, n, h3⟩ := h
      have a := hr p rfl
      have b := hr' p' rfl
      refine ⟨by show p.1 - i = p'.1 - i; omega, h2, k, n, ?_⟩
      show (x :: es)[p.1 - i]? = _
      rw [show p.1 - i = (p.1 - (i + 1)) + 1 by omega]
      simpa using h3
theorem findA_lo {q : AV → AV → Option Bool} {key : AV} : ∀ (es : List ME) (i : Nat) (r : Option (Nat × AV)), findA q key es i = some r → ∀ p, r = some p → i ≤ p.1 := by
  intro es
  induction es with
  | nil => intro i r h p hp; simp only [findA] at h; injection h with h; subst h; cases hp
  | cons x es ih =>
    intro i r h p hp
    cases x with
    | mk k v n =>
      simp only [findA] at h
      split at h
      · injection h with h; subst h; injection hp with hp; subst hp; exact Nat.le_refl _
      · have := ih _ _ h p hp; omega
      · cases h
theorem findNow_run {d : TypeDesc} {f : Nat} (hd : d = .bool ∨ (∃ j, d = .int j) ∨ d = .string) {key : AV} {kv : Value} (hk : VR ρ key kv) : ∀ (es : List ME) (ess : List MapEntry) (i : Nat) (r : Option (Nat × AV)), MR ρ es ess → findA (eqA P (f + 1) d) key es i = some r →
    ∃ r', Instr.findNow d kv ess i = some r' ∧ (∀ p, r' = some p → i ≤ p.1) ∧ FR ρ es ess (r.map fun p => (p.1 - i, p.2)) (r'.map fun p => (p.1 - i, p.2)) := by
  intro es
  induction es with
  | nil => intro ess i r hm h; simp only [findA] at h; injection h with h; subst h; rw [hm.nil_inv]; exact ⟨none, rfl, fun p hp => (by cases hp), trivial⟩
  | cons x es ih =>
    intro ess i r hm h
    cases x with
    | mk k v n =>
      obtain ⟨e, ess', rfl, h1, h2, h3, h4⟩ := hm.cons_inv
      simp only [findA] at h
      split at h
      · rename_i hq
        injection h with h; subst h
        refine ⟨some (i, e.val), by simp [Instr.findNow, sameNow_of hd hk h1 hq], fun p hp => by injection hp with hp; subst hp; exact Nat.le_refl _, ?_⟩
        exact ⟨rfl, h2, k, n, by simp⟩
      · rename_i hq
        obtain ⟨r', q1, q2, q3⟩ := ih ess' (i + 1) r h4 h
        refine ⟨r', by simp [Instr.findNow, sameNow_of hd hk h1 hq, q1], fun p hp => by have := q2 p hp; omega, ?_⟩
        exact FR.cons q3 (fun p hp => findA_lo _ _ _ h p hp) q2
      · cases h
theorem findAsking_run {kt : TypeId} {d : TypeDesc} (hu : P.underlying kt = some d) (hc : isAggD d = true → calmD P 8 kt = true) {key : AV} {kv : Value} (hk : VR ρ key kv) : ∀ (es : List ME) (ess : List MapEntry) (i : Nat) (r : Option (Nat × AV)), MR ρ es ess → findA (eqA P 16 d) key es i = some r →
    ∃ r', (Instr.findAsking kt kv ess i).run P w = .ok r' w ∧ (∀ p, r' = some p → i ≤ p.1) ∧ FR ρ es ess (r.map fun p => (p.1 - i, p.2)) (r'.map fun p => (p.1 - i, p.2)) := by
  intro es
  induction es with
  | nil => intro ess i r hm h; simp only [findA] at h; injection h with h; subst h; rw [hm.nil_inv]; exact ⟨none, rfl, fun p hp => (by cases hp), trivial⟩
  | cons x es ih =>
    intro ess i r hm h
    cases x with
    | mk k v n =>
      obtain ⟨e, ess', rfl, h1, h2, h3, h4⟩ := hm.cons_inv
      simp only [findA] at h
      split at h
      · rename_i hq
        injection h with h; subst h
        have := eqA_run (P := P) (w := w) 16 8 kt d key k kv e.key true Op.maxDepth hu hc hk h1 hq (by decide)
        refine ⟨some (i, e.val), by simp [Instr.findAsking, Op.equal, this], fun p hp => by injection hp with hp; subst hp; exact Nat.le_refl _, ?_⟩
        exact ⟨rfl, h2, k, n, by simp⟩
      · rename_i hq
        have := eqA_run (P := P) (w := w) 16 8 kt d key k kv e.key false Op.maxDepth hu hc hk h1 hq (by decide)
        obtain ⟨r', q1, q2, q3⟩ := ih ess' (i + 1) r h4 h
        refine ⟨r', by simp [Instr.findAsking, Op.equal, this, q1], fun p hp => by have := q2 p hp; omega, ?_⟩
        exact FR.cons q3 (fun p hp => findA_lo _ _ _ h p hp) q2
      · cases h
theorem findK_ok {kt : TypeId} {key : AV} {kv : Value} {es : List ME} {ess : List MapEntry} {f : Option (Nat × AV) → Tr} (hk : VR ρ key kv) (hm : MR ρ es ess) (h : run (findK P kt key es f) σ K = true) :
    ∃ r r', run (f r) σ K = true ∧ FR ρ es ess r r' ∧ (Instr.findKey kt kv ess).run P w = .ok r' w ∧ ∀ em, (Instr.checkKey em 10000 kt kv).run P w = .ok () w := by
  obtain ⟨hkd, h⟩ := bifT h
  obtain ⟨hka, h⟩ := bifT h
  obtain ⟨d, hu, h⟩ := undT h
  obtain ⟨r, hr, h⟩ := oelT h
  have id0 : ∀ {α : Type} (r : Option (Nat × α)), (r.map fun p => (p.1 - 0, p.2)) = r := fun r => by cases r <;> rfl
  have hcheck := fun em => keyA_run (w := w) em 8 kt key kv 10000 hka hk (by decide)
  by_cases hd : d = .bool ∨ (∃ j, d = .int j) ∨ d = .string
  · obtain ⟨r', q1, _, q3⟩ := findNow_run hd hk es ess 0 r hm hr
    rw [id0, id0] at q3
    refine ⟨r, r', h, q3, ?_, hcheck⟩
    simp [Instr.findKey, run_underlying hu, q1]
  · obtain ⟨r', q1, _, q3⟩ := findAsking_run (w := w) hu (fun _ => keyD_calm 8 kt hkd) hk es ess 0 r hm hr
    rw [id0, id0] at q3
    refine ⟨r, r', h, q3, ?_, hcheck⟩
    have hnow : ∀ e es' , Instr.findNow d kv (e :: es') 0 = none := fun e es' => by
      have : Instr.sameNow d kv e.key = none := by
        unfold Instr.sameNow
        split
        · exact absurd (.inr (.inl ⟨_, rfl⟩)) hd
        · exact absurd (.inr (.inr rfl)) hd
        · exact absurd (.inl rfl) hd
        · rfl
      simp [Instr.findNow, this]
    cases ess with
    | nil =>
      have : r' = none := by
        have : Result.ok none w = Result.ok r' w := q1
        injection this with e; exact e.symm
      subst this
      simp [Instr.findKey, run_underlying hu, Instr.findNow]
    | cons e es' => simp [Instr.findKey, run_underlying hu, hnow, q1]
theorem entriesK_ok {x : AV} {v : Value} {f : List ME → Tr} (hS : SI σ) (hG : Good w0 ρ σ.h w) (hx : VR ρ x v) (h : run (entriesK x f) σ K = true) :
    ∃ es ess σ', run (f es) σ' K = true ∧ SI σ' ∧ σ'.h = σ.h ∧ MR ρ es ess ∧
      (v = .map none ∧ ess = [] ∨ ∃ r clock, v = .map (some r) ∧ w.heap[r]? = some (.map ess.toArray clock)) := by
  cases hx with
  | nilm => exact ⟨[], [], σ, h, hS, rfl, MR.nil ρ, .inl ⟨rfl, rfl⟩⟩
  | map b hm hh =>
    obtain ⟨q, σ1, hq, e1, hS1, h⟩ := rd_ok hS h
    cases q with
    | mapo es clock =>
      obtain ⟨hm', hh', hB, es', hheap, hmr⟩ := (hG.blk _ _ hq).mapo_MR
      rw [hh] at hh'; injection hh' with hh'; subst hh'
      exact ⟨es, es'.toList, σ1, h, hS1, e1, hmr, .inr ⟨hm.blk, clock, rfl, by simpa using hheap⟩⟩
    | _ => exact (nofail h).elim
  | _ => exact (nofail h).elim
theorem lookupA_ok {t : TypeId} {x ix : AV} {v u : Value} {ok : Bool} (hS : SI σ) (hG : Good w0 ρ σ.h w) (hx : VR ρ x v) (hy : VR ρ ix u) (h : run (lookupA P t x ix ok k) σ K = true) : Res P w0 ρ w k K (Instr.lookup t v u ok) := by
  obtain ⟨d, hu, h⟩ := undT h
  cases d with
  | map kt e =>
    obtain ⟨es, ess, σ1, h, hS1, e1, hm, hv⟩ := entriesK_ok hS hG hx h
    have hG1 : Good w0 ρ σ1.h w := by rw [e1]; exact hG
    obtain ⟨r, r', h, hfr, hfind, hcheck⟩ := findK_ok (w := w) hy hm h
    have tup : ∀ {a : AV} {c : Value} (b : Bool), VR ρ a c → VR ρ (.tup [a, .bool b]) (.tuple #[c, .bool b]) := fun b hr =>
      .tup _ _ rfl fun i a' v' ha hv => by
        rcases i with _ | _ | i
        · simp at ha hv; subst ha; subst hv; exact hr
        · simp at ha hv; subst ha; subst hv; exact .bool _
        · simp at ha
    have model : ∀ (s : Sem Value) , (Instr.lookup t v u ok).run P w = s.run P w → Res P w0 ρ w k K s → Res P w0 ρ w k K (Instr.lookup t v u ok) := fun s e hr => hr.of_eq e
    have hlk : (Instr.lookup t v u ok).run P w = (do
        let (c, o) ← match r' with
          | some (_, c) => pure (c, true)
          | none => pure (← zeroValue e, false)
        pure (if ok then Value.tuple #[c, .bool o] else c) : Sem Value).run P w := by
      rcases hv with ⟨rfl, rfl⟩ | ⟨b, clock, rfl, hb⟩
      · simp [Instr.lookup, run_underlying hu, hcheck, hfind]
        rfl
      · simp [Instr.lookup, run_underlying hu, hcheck, hfind, run_getObj' hb (by simp)]
        rfl
    refine model _ hlk ?_
    cases r with
    | none =>
      cases r' with
      | some p => exact hfr.elim
      | none =>
        obtain ⟨z, zv, i, _, hz, hzr, h⟩ := zeroT ρ w h
        rcases bif2 h with ⟨hb, h⟩ | ⟨hb, h⟩
        · exact .plain h hS1 hG1 (tup false hzr) (by simp [hz, hb])
        · exact .plain h hS1 hG1 hzr (by simp [hz, hb])
    | some p =>
      cases r' with
      | none => exact hfr.elim
      | some p' =>
        obtain ⟨i, a⟩ := p
        obtain ⟨j, c⟩ := p'
        obtain ⟨_, hr, _⟩ := hfr
        rcases bif2 h with ⟨hb, h⟩ | ⟨hb, h⟩
        · exact .plain h hS1 hG1 (tup true hr) (by simp [hb])
        · exact .plain h hS1 hG1 hr (by simp [hb])
  | _ => exact (nofail h).elim
theorem sameBits_of : ∀ (f : Nat) (x y : AV) (v u : Value) (N : Nat), sameA f x y = true → VR ρ x v → VR ρ y u → f ≤ N → Instr.sameBits N v u = true := by
  intro f
  induction f with
  | zero => intro x y v u N h; simp [sameA] at h
  | succ f ih =>
    intro x y v u N h hx hy hN
    obtain ⟨N, rfl⟩ : ∃ N', N = N' + 1 := ⟨N - 1, by omega⟩
    unfold sameA at h
    split at h
    · cases hx; cases hy; simpa [Instr.sameBits] using h
    · rename_i j a j' b
      cases hx; cases hy
      obtain ⟨h1, h2⟩ := bif'_true h
      simp at h1 h2
      simp [Instr.sameBits, h1, h2]
    · cases hx; cases hy
      rw [eqL_bytes, ← beq_toListBytes] at h
      simpa [Instr.sameBits] using h
    · rename_i a b
      cases hx with
      | agg _ cs h1 h2 =>
        cases hy with
        | agg _ ds k1 k2 =>
          have lx := LR.of_arr h1 h2
          have ly := LR.of_arr k1 k2
          have key : ∀ (a b : List AV) (vs us : List Value), LR ρ a vs → LR ρ b us → sameA.sameAll (sameA f) a b = true → vs.length = us.length ∧ ((vs.zip us).all fun (x, y) => Instr.sameBits N x y) = true := by
            intro a
            induction a with
            | nil =>
              intro b vs us la lb h
              cases b with
              | nil => rw [la.nil_inv, lb.nil_inv]; exact ⟨rfl, rfl⟩
              | cons _ _ => simp [sameA.sameAll] at h
            | cons x a iha =>
              intro b vs us la lb h
              cases b with
              | nil => simp [sameA.sameAll] at h
              | cons y b =>
                obtain ⟨v1, vs', rfl, r1, la'⟩ := la.cons_inv
                obtain ⟨u1, us', rfl, r2, lb'⟩ := lb.cons_inv
                have h : bif' (sameA f x y) (sameA.sameAll (sameA f) a b) false = true := h
                obtain ⟨g1, g2⟩ := bif'_true h
                obtain ⟨q1, q2⟩ := iha b vs' us' la' lb' g2
                refine ⟨by simp [q1], ?_⟩
                rw [List.zip_cons_cons, List.all_cons, Bool.and_eq_true]
                exact ⟨ih x y v1 u1 N g1 r1 r2 (by omega), q2⟩
          obtain ⟨q1, q2⟩ := key a b cs.toList ds.toList lx ly h
          simp only [Instr.sameBits, Bool.and_eq_true]
          exact ⟨by simpa using q1, q2⟩
    · cases h
theorem forceMT {l : List ME} {f : List ME → Tr} : run (forceM l f) σ K = true → run (f l) σ K = true := by
  have : ∀ (l : List ME) (f : List ME → Tr), run (forceM l f) σ K = run (f l) σ K := by
    intro l
    induction l with
    | nil => intro f; rfl
    | cons a l ih => intro f; exact ih fun l => f (a :: l)
  intro h; rw [this] at h; exact h
theorem mapAtK_ok {x : AV} {v : Value} {f : Nat → List ME → Nat → Tr} (hS : SI σ) (hG : Good w0 ρ σ.h w) (hx : VR ρ x v) (h : run (mapAtK x f) σ K = true) :
    ∃ b hm es ess clock σ', run (f b es clock) σ' K = true ∧ SI σ' ∧ σ'.h = σ.h ∧ v = .map (some hm.blk) ∧ ρ.at_ b 0 = some hm ∧ Own ρ w0.heap.size hm.blk ∧ w.heap[hm.blk]? = some (.map ess.toArray clock) ∧ MR ρ es ess := by
  cases hx with
  | map b hm hh =>
    obtain ⟨q, σ1, hq, e1, hS1, h⟩ := rd_ok hS h
    cases q with
    | mapo es clock =>
      obtain ⟨hm', hh', hB, es', hheap, hmr⟩ := (hG.blk _ _ hq).mapo_MR
      rw [hh] at hh'; injection hh' with hh'; subst hh'
      exact ⟨b, hm, es, es'.toList, clock, σ1, h, hS1, e1, rfl, hh, hB, by simpa using hheap, hmr⟩
    | _ => exact (nofail h).elim
  | _ => exact (nofail h).elim
theorem Good.setObjM {H : T ABlk} {b : Nat} {x0 x : ABlk} {h : Home} {o o' : Obj} (hG : Good w0 ρ H w) (hb : H.get b = some x0) (h64 : b + 1 < 2 ^ 64) (hh : ρ.at_ b 0 = some h) (hB : Own ρ w0.heap.size h.blk) (hw : w.heap[h.blk]? = some o)
    (hx : BR ρ w0.heap.size { w with heap := w.heap.setIfInBounds h.blk o' } b x) (hgx : ∀ g, gOk g x := by intro g; trivial) : Good w0 ρ (H.set b x) { w with heap := w.heap.setIfInBounds h.blk o' } := by
  refine hG.turn (hrs := ⟨b, 0, h, hh, rfl⟩) hb h64 h.blk hB ⟨rfl, rfl, rfl, by simp, fun k hk ho => ?_⟩ (by simp) (fun k hk _ => ?_) (fun b' g h' hh' e => (hG.inj _ _ _ _ _ _ hh' hh e).1) hx (fun g _ => hgx g)
  · show (w.heap.setIfInBounds h.blk o')[k]? = _
    rw [Array.getElem?_setIfInBounds, if_neg (fun e => by rcases hB with hB | hB; omega; exact ho (e ▸ hB))]
  · show (w.heap.setIfInBounds h.blk o')[k]? = _
    rw [Array.getElem?_setIfInBounds, if_neg (fun e => hk e.symm)]
theorem map_wr {b : Nat} {hm : Home} {es2 : List ME} {ess2 : List MapEntry} {c2 : Nat} {o : Obj} {t : Tr} (hS : SI σ) (hG : Good w0 ρ σ.h w) (hh : ρ.at_ b 0 = some hm) (hB : Own ρ w0.heap.size hm.blk) (hheap : w.heap[hm.blk]? = some o) (ho : ∀ c t f, o ≠ .cells c t f)
    (hm2 : MR ρ es2 ess2) (h : run (.wr b (.mapo es2 c2) t) σ K = true) : ∃ σ', run t σ' K = true ∧ SI σ' ∧ Good w0 ρ σ'.h { w with heap := w.heap.setIfInBounds hm.blk (.map ess2.toArray c2) } ∧ (setObj hm.blk (.map ess2.toArray c2)).run P w = .ok () { w with heap := w.heap.setIfInBounds hm.blk (.map ess2.toArray c2) } := by
  obtain ⟨x0, σ2, hx0, e2, hS2, h64, h⟩ := wr_ok hS h
  refine ⟨σ2, h, hS2, ?_, ?_⟩
  · rw [e2]
    refine hG.setObjM hx0 h64 hh hB hheap (BR.of_MR hh hB ?_ hm2)
    have : hm.blk < w.heap.size := (hG.dom _ _ _ hh).1
    show (w.heap.setIfInBounds hm.blk _)[hm.blk]? = _
    rw [Array.getElem?_setIfInBounds, if_pos rfl, if_pos this]
  · cases o <;> first | (exact absurd rfl (ho _ _ _)) | (simp [setObj, Sem.run, hheap])
theorem tupP {a b : AV} {c d : Value} (h1 : VR ρ a c) (h2 : VR ρ b d) : VR ρ (.tup [a, b]) (.tuple #[c, d]) :=
  .tup _ _ rfl fun i a' v' ha hv => by
    rcases i with _ | _ | i
    · simp at ha hv; subst ha; subst hv; exact h1
    · simp at ha hv; subst ha; subst hv; exact h2
    · simp at ha
theorem tup3 {a b e : AV} {c d f : Value} (h1 : VR ρ a c) (h2 : VR ρ b d) (h3 : VR ρ e f) : VR ρ (.tup [a, b, e]) (.tuple #[c, d, f]) :=
  .tup _ _ rfl fun i a' v' ha hv => by
    rcases i with _ | _ | _ | i
    · simp at ha hv; subst ha; subst hv; exact h1
    · simp at ha hv; subst ha; subst hv; exact h2
    · simp at ha hv; subst ha; subst hv; exact h3
    · simp at ha
theorem mapUpdateA_ok {t : TypeId} {x ix y : AV} {v u z : Value} {kk : Tr} (hS : SI σ) (hG : Good w0 ρ σ.h w) (hx : VR ρ x v) (hix : VR ρ ix u) (hy : VR ρ y z) (h : run (mapUpdateA P t x ix y kk) σ K = true) : ResU P w0 ρ w kk K (Instr.mapUpdate t v u z) := by
  obtain ⟨d, hu, h⟩ := undT h
  cases d with
  | map kt e =>
    obtain ⟨b, hm, es, ess, clock, σ1, h, hS1, e1, rfl, hh, hB, hheap, hmr⟩ := mapAtK_ok hS hG hx h
    have hG1 : Good w0 ρ σ1.h w := by rw [e1]; exact hG
    obtain ⟨r, r', h, hfr, hfind, hcheck⟩ := findK_ok (w := w) hix hmr h
    cases r with
    | none =>
      cases r' with
      | some p => exact hfr.elim
      | none =>
        have h := fNT (forceMT h)
        have hmr2 : MR ρ (es ++ [.mk ix y clock]) (ess ++ [⟨u, z, clock⟩]) := hmr.append (MR.cons (e := ⟨u, z, clock⟩) hix hy rfl (MR.nil ρ))
        obtain ⟨σ2, h, hS2, hG2, hrun⟩ := map_wr (P := P) hS1 hG1 hh hB hheap (by simp) hmr2 h
        refine ⟨σ2, _, h, hS2, hG2, ?_⟩
        have ea : ess.toArray.push (⟨u, z, clock⟩ : MapEntry) = (ess ++ [(⟨u, z, clock⟩ : MapEntry)]).toArray := by apply Array.ext'; simp
        simp only [Instr.mapUpdate, Sem.run_bind, run_underlying hu, run_getObj' hheap (by simp), Result.andThen_ok, hcheck, List.toList_toArray, hfind, ea]
        exact hrun
    | some p =>
      cases r' with
      | none => exact hfr.elim
      | some p' =>
        obtain ⟨i, av⟩ := p
        obtain ⟨j, cv⟩ := p'
        obtain ⟨eij, _, ok, on, hes⟩ := hfr
        have eij : i = j := eij
        subst eij
        have hes : es[i]? = some (.mk ok av on) := hes
        obtain ⟨e, hess, q1, q2, q3⟩ := hmr.get hes
        have h : run (match es[i]? with
          | some (.mk old _ _) => bif' (sameA 8 old ix) (forceM (setME es i ix y) fun es => .wr b (.mapo es clock) kk) .fail
          | none => .fail) σ1 K = true := h
        rw [hes] at h
        obtain ⟨hsame, h⟩ := bifT h
        have h := forceMT h
        have hset : setME es i ix y = es.set i (.mk ix y on) := by simp only [setME, hes]
        rw [hset] at h
        have hmr2 : MR ρ (es.set i (.mk ix y on)) (ess.set i { e with key := u, val := z }) := hmr.set hix hy q3
        obtain ⟨σ2, h, hS2, hG2, hrun⟩ := map_wr (P := P) hS1 hG1 hh hB hheap (by simp) hmr2 h
        refine ⟨σ2, _, h, hS2, hG2, ?_⟩
        have hsb := sameBits_of 8 ok ix e.key u 10000 hsame q1 hix (by decide)
        have hget : ess.toArray[i]? = some e := by simpa using hess
        have ea : (ess.toArray.modify i fun e => { e with key := u, val := z }) = (ess.set i { e with key := u, val := z }).toArray := by
          apply Array.ext'
          apply List.ext_getElem?
          intro n
          rw [Array.getElem?_toList, Array.getElem?_modify, List.toList_toArray, List.getElem?_set]
          by_cases en : i = n
          · subst en
            obtain ⟨hl1, hl2⟩ := List.getElem?_eq_some_iff.1 hess
            simp [hl1, hl2]
          · simp [en]
        simp only [Instr.mapUpdate, Sem.run_bind, run_underlying hu, run_getObj' hheap (by simp), Result.andThen_ok, hcheck, List.toList_toArray, hfind, Instr.keyThatStays, hget, Option.map_some, Option.getD_some, hsb, if_true, Sem.run_pure, ea]
        exact hrun
  | _ => exact (nofail h).elim
theorem mapEntryA_ok {t : TypeId} {x ix : AV} {v u : Value} (hS : SI σ) (hG : Good w0 ρ σ.h w) (hx : VR ρ x v) (hix : VR ρ ix u) (h : run (mapEntryA P t x ix k) σ K = true) : Res P w0 ρ w k K (Instr.mapEntry t v u) := by
  obtain ⟨d, hu, h⟩ := undT h
  cases d with
  | map kt e =>
    obtain ⟨b, hm, es, ess, clock, σ1, h, hS1, e1, rfl, hh, hB, hheap, hmr⟩ := mapAtK_ok hS hG hx h
    have hG1 : Good w0 ρ σ1.h w := by rw [e1]; exact hG
    obtain ⟨r, r', h, hfr, hfind, hcheck⟩ := findK_ok (w := w) hix hmr h
    cases r with
    | none =>
      cases r' with
      | some p => exact hfr.elim
      | none =>
        obtain ⟨z, zv, i, _, hz, hzr, h⟩ := zeroT ρ w h
        have h := fNT (forceMT h)
        have hmr2 : MR ρ (es ++ [.mk ix z clock]) (ess ++ [⟨u, zv, clock⟩]) := hmr.append (MR.cons (e := ⟨u, zv, clock⟩) hix hzr rfl (MR.nil ρ))
        obtain ⟨σ2, h, hS2, hG2, hrun⟩ := map_wr (P := P) hS1 hG1 hh hB hheap (by simp) hmr2 h
        refine ⟨_, σ2, ρ, _, _, h, hS2, hG2, Rho.le.refl ρ, tupP hzr (.int _ _), ?_⟩
        have ea : ess.toArray.push (⟨u, zv, clock⟩ : MapEntry) = (ess ++ [(⟨u, zv, clock⟩ : MapEntry)]).toArray := by apply Array.ext'; simp
        simp only [Instr.mapEntry, Sem.run_bind, run_underlying hu, run_getObj' hheap (by simp), Result.andThen_ok, hcheck, List.toList_toArray, hfind, hz, ea, hrun, Sem.run_pure, goInt]
        rfl
    | some p =>
      cases r' with
      | none => exact hfr.elim
      | some p' =>
        obtain ⟨i, av⟩ := p
        obtain ⟨j, cv⟩ := p'
        obtain ⟨eij, hac, ok, on, hes⟩ := hfr
        have eij : i = j := eij
        subst eij
        have hes : es[i]? = some (.mk ok av on) := hes
        obtain ⟨e, hess, q1, q2, q3⟩ := hmr.get hes
        subst q3
        have h : run (match es[i]? with
          | some (.mk old _ n) => bif' (sameA 8 old ix) (forceM (setME es i ix av) fun es => .wr b (.mapo es clock) (k (.tup [av, .int .i64 (.ofNat n)]))) .fail
          | none => .fail) σ1 K = true := h
        rw [hes] at h
        obtain ⟨hsame, h⟩ := bifT h
        have h := forceMT h
        have hset : setME es i ix av = es.set i (.mk ix av e.born) := by simp only [setME, hes]
        rw [hset] at h
        have hmr2 : MR ρ (es.set i (.mk ix av e.born)) (ess.set i { e with key := u }) := hmr.set hix q2 rfl
        obtain ⟨σ2, h, hS2, hG2, hrun⟩ := map_wr (P := P) hS1 hG1 hh hB hheap (by simp) hmr2 h
        refine ⟨_, σ2, ρ, _, _, h, hS2, hG2, Rho.le.refl ρ, tupP hac (.int _ _), ?_⟩
        have hsb := sameBits_of 8 ok ix e.key u 10000 hsame q1 hix (by decide)
        have hget : ess.toArray[i]? = some e := by simpa using hess
        have ea : (ess.toArray.modify i fun e => { e with key := u }) = (ess.set i { e with key := u }).toArray := by
          apply Array.ext'
          apply List.ext_getElem?
          intro n
          rw [Array.getElem?_toList, Array.getElem?_modify, List.toList_toArray, List.getElem?_set]
          by_cases en : i = n
          · subst en
            obtain ⟨hl1, hl2⟩ := List.getElem?_eq_some_iff.1 hess
            simp [hl1, hl2]
          · simp [en]
        simp only [Instr.mapEntry, Sem.run_bind, run_underlying hu, run_getObj' hheap (by simp), Result.andThen_ok, hcheck, List.toList_toArray, hfind, Instr.keyThatStays, hget, Option.map_some, Option.getD_some, hsb, if_true, Sem.run_pure, ea, hrun, goInt]
        rfl
  | _ => exact (nofail h).elim
theorem setBorn_ok {n : Nat} {y : AV} {z : Value} (hy : VR ρ y z) : ∀ (es : List ME) (ess : List MapEntry) (es2 : List ME), MR ρ es ess → setBorn n y es = some es2 →
    ∃ i, ess.findIdx? (fun e => ((e.born : Int) == (n : Int))) = some i ∧ MR ρ es2 (ess.modify i fun e => { e with val := z }) := by
  intro es
  induction es with
  | nil => intro ess es2 _ h; simp [setBorn] at h
  | cons x es ih =>
    intro ess es2 hm h
    cases x with
    | mk a b m =>
      obtain ⟨e, ess', rfl, h1, h2, h3, h4⟩ := hm.cons_inv
      simp only [setBorn] at h
      split at h
      · rename_i emn
        injection h with h; subst h
        refine ⟨0, ?_, ?_⟩
        · simp [List.findIdx?_cons, h3, emn]
        · simp only [List.modify_zero_cons]
          exact MR.cons h1 hy h3 h4
      · rename_i emn
        split at h
        · rename_i l hl
          injection h with h; subst h
          obtain ⟨i, q1, q2⟩ := ih ess' l h4 hl
          refine ⟨i + 1, ?_, ?_⟩
          · rw [List.findIdx?_cons, q1]
            have : ((e.born : Int) == (n : Int)) = false := by
              rw [h3]; simp; omega
            rw [this]; rfl
          · rw [List.modify_succ_cons]
            exact MR.cons h1 h2 h3 q2
        · cases h
theorem entryStoreA_ok {t : TypeId} {x ix y : AV} {v u z : Value} {kk : Tr} (hS : SI σ) (hG : Good w0 ρ σ.h w) (hx : VR ρ x v) (hix : VR ρ ix u) (hy : VR ρ y z) (h : run (entryStoreA x ix y kk) σ K = true) : ResU P w0 ρ w kk K (Instr.entryStore t v u z) := by
  obtain ⟨j, m, rfl, h⟩ := asIntT h
  obtain ⟨n, rfl, h⟩ := natT h
  obtain ⟨b, hm, es, ess, clock, σ1, h, hS1, e1, rfl, hh, hB, hheap, hmr⟩ := mapAtK_ok hS hG hx h
  have hG1 : Good w0 ρ σ1.h w := by rw [e1]; exact hG
  obtain ⟨es2, hes2, h⟩ := oelT h
  cases hix
  obtain ⟨i, q1, q2⟩ := setBorn_ok hy es ess es2 hmr hes2
  obtain ⟨σ2, h, hS2, hG2, hrun⟩ := map_wr (P := P) hS1 hG1 hh hB hheap (by simp) q2 h
  refine ⟨σ2, _, h, hS2, hG2, ?_⟩
  have ea : (ess.toArray.modify i fun e => { e with val := z }) = (ess.modify i fun e => { e with val := z }).toArray := by
    apply Array.ext'
    apply List.ext_getElem?
    intro n
    rw [Array.getElem?_toList, Array.getElem?_modify, List.toList_toArray, List.getElem?_modify]
    by_cases en : i = n <;> simp [en]
  have q1' : ess.toArray.findIdx? (fun e => ((e.born : Int) == (n : Int))) = some i := by
    rw [List.findIdx?_toArray]; exact q1
  simp only [Instr.entryStore, Sem.run_bind, run_getObj' hheap (by simp), Result.andThen_ok, asInt, asIntOf, Sem.run_pure, q1', ea]
  exact hrun
theorem eraseAt_eq : ∀ (es : List ME) (i : Nat), eraseAt es i = es.eraseIdx i := by
  intro es
  induction es with
  | nil => intro i; rfl
  | cons x es ih =>
    intro i
    cases i with
    | zero => rfl
    | succ i => show x :: eraseAt es i = _; rw [ih]; rfl
theorem MR.eraseIdx {es : List ME} {ess : List MapEntry} (h : MR ρ es ess) (i : Nat) : MR ρ (es.eraseIdx i) (ess.eraseIdx i) := by
  induction es generalizing ess i with
  | nil => rw [h.nil_inv]; exact MR.nil ρ
  | cons x es ih =>
    cases x with
    | mk k v n =>
      obtain ⟨e, ess', rfl, h1, h2, h3, h4⟩ := h.cons_inv
      cases i with
      | zero => exact h4
      | succ i => exact MR.cons h1 h2 h3 (ih h4 i)
theorem deleteA_ok {tys : Array TypeId} {ty : TypeId} {args : List AV} {vs : List Value} (hS : SI σ) (hG : Good w0 ρ σ.h w) (hl : LR ρ args vs) (h : run (deleteA P tys args k) σ K = true) : Res P w0 ρ w k K (Builtin.delete_ tys ty vs.toArray) := by
  unfold deleteA at h
  split at h
  · rename_i t x key h0
    obtain ⟨v, vs1, rfl, hv, hl1⟩ := hl.cons_inv
    obtain ⟨u, vs2, rfl, hu', hl2⟩ := hl1.cons_inv
    have := hl2.nil_inv
    subst this
    obtain ⟨d, hu, h⟩ := undT h
    split at h
    · rename_i kt e
      obtain ⟨b, hm, es, ess, clock, σ1, h, hS1, e1, rfl, hh, hB, hheap, hmr⟩ := mapAtK_ok hS hG hv h
      have hG1 : Good w0 ρ σ1.h w := by rw [e1]; exact hG
      obtain ⟨r, r', h, hfr, hfind, hcheck⟩ := findK_ok (w := w) hu' hmr h
      cases r with
      | none =>
        cases r' with
        | some p => exact hfr.elim
        | none =>
          obtain ⟨σ2, h, hS2, hG2, hrun⟩ := map_wr (P := P) hS1 hG1 hh hB hheap (by simp) hmr h
          refine ⟨_, σ2, ρ, _, _, h, hS2, hG2, Rho.le.refl ρ, .tup [] #[] rfl (by simp), ?_⟩
          simp [Builtin.delete_, h0, run_underlying hu, run_getObj' hheap (by simp), hcheck, hfind, hrun]
      | some p =>
        cases r' with
        | none => exact hfr.elim
        | some p' =>
          obtain ⟨i, av⟩ := p
          obtain ⟨j, cv⟩ := p'
          obtain ⟨eij, hac, ok, on, hes⟩ := hfr
          have eij : i = j := eij
          subst eij
          have h := forceMT h
          rw [eraseAt_eq] at h
          obtain ⟨σ2, h, hS2, hG2, hrun⟩ := map_wr (P := P) hS1 hG1 hh hB hheap (by simp) (hmr.eraseIdx i) h
          refine ⟨_, σ2, ρ, _, _, h, hS2, hG2, Rho.le.refl ρ, .tup [] #[] rfl (by simp), ?_⟩
          have ea : ess.toArray.eraseIdxIfInBounds i = (ess.eraseIdx i).toArray := by
            rw [List.eraseIdxIfInBounds_toArray]
          simp [Builtin.delete_, h0, run_underlying hu, run_getObj' hheap (by simp), hcheck, hfind, ea, hrun]
    · exact (nofail h).elim
  · exact (nofail h).elim
theorem rangeA_ok {t : TypeId} {x : AV} {v : Value} (hS : SI σ) (hG : Good w0 ρ σ.h w) (hx : VR ρ x v) (h : run (rangeA P t x k) σ K = true) : Res P w0 ρ w k K (Instr.range t v) := by
  obtain ⟨d, hu, h⟩ := undT h
  cases d with
  | string =>
    cases hx with
    | str s =>
      obtain ⟨n, σ', hn, h64, hh', hS', h⟩ := new_ok hS h
      obtain ⟨hle, hG'⟩ := hG.alloc hn h64 (.siter (bytesOf s) 0) (.stringIter s 0) 0 0 (fun ρ' hle hat _ => ⟨_, hat, .new hG.below.size, s, rfl, by simp⟩)
      refine ⟨_, σ', _, _, _, h, hS', by rw [hh']; exact hG', hle, VR.ptr n 0 0 _ (Rho.put_at _ _ _ _) (Nat.zero_le _), ?_⟩
      simp [Instr.range, run_underlying hu]
    | _ => exact (nofail h).elim
  | map kt et =>
    cases hx with
    | nilm =>
      obtain ⟨n, σ', hn, h64, hh', hS', h⟩ := new_ok hS h
      obtain ⟨hle, hG'⟩ := hG.alloc hn h64 (.miter none 0 [] 0) (.mapIter none 0 #[] 0) 0 0 (fun ρ' hle hat _ => ⟨_, hat, .new hG.below.size, none, #[], by simp, rfl, rfl⟩)
      refine ⟨_, σ', _, _, _, h, hS', by rw [hh']; exact hG', hle, VR.ptr n 0 0 _ (Rho.put_at _ _ _ _) (Nat.zero_le _), ?_⟩
      simp [Instr.range, run_underlying hu]
    | map m hm hh =>
      obtain ⟨q, σ1, hq, e1, hS1, h⟩ := rd_ok hS h
      have hG1 : Good w0 ρ σ1.h w := by rw [e1]; exact hG
      cases q with
      | mapo es clock =>
        obtain ⟨hm', hh', hB, es', hheap, hsz, _⟩ := hG.blk _ _ hq
        rw [hh] at hh'; injection hh' with hh'; subst hh'
        obtain ⟨n, σ', hn, h64, hh', hS', h⟩ := new_ok hS1 h
        obtain ⟨hle, hG'⟩ := hG1.alloc hn h64 (.miter (some m) clock [] clock) (.mapIter (some hm.blk) clock #[] clock) 0 0 (fun ρ' hle hat _ => ⟨_, hat, .new hG.below.size, some hm.blk, #[], by simp, rfl, hm, hle.at_ _ _ _ hh, rfl⟩)
        refine ⟨_, σ', _, _, _, h, hS', by rw [hh']; exact hG', hle, VR.ptr n 0 0 _ (Rho.put_at _ _ _ _) (Nat.zero_le _), ?_⟩
        simp [Instr.range, run_underlying hu, run_getObj' hheap (by simp)]
      | _ => exact (nofail h).elim
    | _ => exact (nofail h).elim
  | _ => exact (nofail h).elim
theorem bornIn_eq : ∀ (l : List Nat) (n : Nat), bornIn l n = l.contains n := by
  intro l
  induction l with
  | nil => intro n; rfl
  | cons a l ih =>
    intro n
    show bif' (Nat.beq a n) true (bornIn l n) = _
    rw [bif'_eq, ih, List.contains_cons]
    by_cases e : a = n
    · subst e; simp
    · have h1 : Nat.beq a n = false := by
        cases hb : Nat.beq a n with
        | false => rfl
        | true => exact absurd (Nat.eq_of_beq_eq_true hb) e
      have h2 : (n == a) = false := by simpa using fun h : n = a => e h.symm
      rw [h1, h2]; simp
theorem leftA_ok {seen : List Nat} {since : Nat} : ∀ (es : List ME) (ess : List MapEntry) (left : List ME), MR ρ es ess → leftA seen since es = some left →
    MR ρ left (ess.filter fun e => !seen.contains e.born) ∧ ∀ e ∈ ess, e.born < since := by
  intro es
  induction es with
  | nil => intro ess left hm h; simp only [leftA] at h; injection h with h; subst h; rw [hm.nil_inv]; exact ⟨MR.nil ρ, by simp⟩
  | cons x es ih =>
    intro ess left hm h
    cases x with
    | mk a v n =>
      obtain ⟨e, ess', rfl, h1, h2, h3, h4⟩ := hm.cons_inv
      simp only [leftA] at h
      split at h
      · rename_i hlt
        split at h
        · rename_i l hl
          injection h with h
          obtain ⟨q1, q2⟩ := ih ess' l h4 hl
          refine ⟨?_, fun x hx => ?_⟩
          · rw [List.filter_cons, h3, ← bornIn_eq]
            rw [bif'_eq] at h
            cases hb : bornIn seen n with
            | true => rw [hb, if_pos rfl] at h; subst h; simpa using q1
            | false => rw [hb, if_neg (by simp)] at h; subst h; exact MR.cons h1 h2 h3 q1
          · rcases List.mem_cons.1 hx with e' | hx
            · subst e'; omega
            · exact q2 x hx
        · cases h
      · cases h
theorem nextA_ok {x : AV} {v : Value} {isS : Bool} {ty : TypeId} (hS : SI σ) (hG : Good w0 ρ σ.h w) (hx : VR ρ x v) (h : run (nextA x isS k) σ K = true) : Res P w0 ρ w k K (Instr.next v isS ty) := by
  have ff : ∀ (ρ' : Rho), VR ρ' (.tup [.bool false]) (.tuple #[.bool false]) := fun ρ' => .tup _ _ rfl fun i a v ha hv => by
    cases i with
    | zero => simp at ha hv; subst ha; subst hv; exact .bool _
    | succ i => simp at ha
  cases hx with
  | ptr b g o hm hh ho =>
    cases g with
    | succ g => exact (nofail h).elim
    | zero =>
      cases o with
      | succ o => exact (nofail h).elim
      | zero =>
        obtain ⟨q, σ1, hq, e1, hS1, h⟩ := rd_ok hS h
        have hG1 : Good w0 ρ σ1.h w := by rw [e1]; exact hG
        cases q with
        | siter s pos =>
          cases isS with
          | false => exact (nofail h).elim
          | true =>
            obtain ⟨hm', hh', hB, s', hs', hheap⟩ := hG.blk _ _ hq
            rw [hh] at hh'; injection hh' with hh'; subst hh'
            subst hs'
            have hlen := bytesOf_length s'
            rcases bif2 h with ⟨hlt, h⟩ | ⟨hlt, h⟩
            · have hlt := bleT hlt
              rw [hlen] at hlt
              have hlt : pos < s'.size := hlt
              have hc : (bytesOf s')[pos]? = some (s'[pos]'hlt).toNat := by
                unfold bytesOf
                rw [List.getElem?_map]
                have : s'.data.toList[pos]? = some (s'[pos]'hlt) := by
                  have h1 : pos < s'.data.size := hlt
                  rw [Array.getElem?_toList, Array.getElem?_eq_getElem h1]; rfl
                rw [this]; rfl
              have h : run (match (bytesOf s')[pos]? with
                | some c => bif' (Nat.ble c 127) (fN (Nat.succ pos) fun p => .wr b (.siter (bytesOf s') p) (k (.tup [.bool true, .int .i64 (.ofNat pos), .int .i32 (.ofNat c)]))) .fail
                | none => .fail) σ1 K = true := h
              rw [hc] at h
              obtain ⟨ha, h⟩ := bifT h
              have ha := bleT ha
              have h := fNT h
              obtain ⟨x0, σ2, hx0, e2, hS2, h64, h⟩ := wr_ok hS1 h
              have hblk : hm.blk < w.heap.size := (hG.dom _ _ _ hh).1
              have hG2 := hG1.setObjM (x := .siter (bytesOf s') (pos + 1)) (o' := .stringIter s' (pos + 1)) hx0 h64 hh hB hheap ⟨hm, hh, hB, s', rfl, by
                show (w.heap.setIfInBounds hm.blk _)[hm.blk]? = _
                rw [Array.getElem?_setIfInBounds, if_pos rfl, if_pos hblk]⟩
              have hdec := decode_ascii s' pos hlt (by omega)
              have hset : (setObj hm.blk (.stringIter s' (pos + 1))).run P w = .ok () { w with heap := w.heap.setIfInBounds hm.blk (.stringIter s' (pos + 1)) } := by simp [setObj, Sem.run, hheap]
              refine ⟨_, σ2, ρ, _, _, h, hS2, by rw [e2]; exact hG2, Rho.le.refl ρ, tup3 (.bool _) (.int _ _) (.int _ _), ?_⟩
              simp [Instr.next, run_getObj' hheap (by simp), hlt, hdec, hset, goInt]
            · have hlt := bleF hlt
              rw [hlen] at hlt
              refine .plain h hS1 hG1 (ff _) ?_
              have : ¬ pos < s'.size := by omega
              simp [Instr.next, run_getObj' hheap (by simp), this]
        | miter m since seen stepped =>
          cases isS with
          | true => cases m <;> exact (nofail h).elim
          | false =>
            obtain ⟨hm', hh', hB, m', seen', hheap, hseen, hm2⟩ := hG.blk _ _ hq
            rw [hh] at hh'; injection hh' with hh'; subst hh'
            cases m with
            | none =>
              subst hm2
              exact .plain h hS1 hG1 (ff _) (by simp [Instr.next, run_getObj' hheap (by simp)])
            | some m =>
              obtain ⟨hx, hhx, em⟩ := hm2
              subst em
              obtain ⟨q2, σ2, hq2, e2, hS2, h⟩ := rd_ok hS1 h
              have hG2 : Good w0 ρ σ2.h w := by rw [e2]; exact hG1
              cases q2 with
              | mapo es clock =>
                obtain ⟨hm3, hh3, hB3, es', hheap2, hmr⟩ := (hG1.blk _ _ hq2).mapo_MR
                rw [hhx] at hh3; injection hh3 with hh3; subst hh3
                obtain ⟨hss, h⟩ := bifT h
                have hss := bleT hss
                obtain ⟨left, hleft, h⟩ := oelT h
                obtain ⟨hlr, hyoung⟩ := leftA_ok es es'.toList left hmr hleft
                rw [← hseen] at hlr
                have hF : es'.filter (fun e => !seen'.contains e.born) = (es'.toList.filter fun e => !seen'.toList.contains e.born).toArray := by
                  apply Array.ext'; simp
                generalize hL : (es'.toList.filter fun e => !seen'.toList.contains e.born) = L at hlr hF
                have hLmem : ∀ e ∈ L, e.born < since := fun e he => by rw [← hL] at he; exact hyoung e (List.mem_filter.1 he).1
                have hold : L.toArray.filter (fun e => decide (e.born < since)) = L.toArray := by
                  apply Array.ext'
                  rw [Array.toList_filter]
                  exact List.filter_eq_self.2 fun e he => by simpa using hLmem e he
                have hnew : L.toArray.filter (fun e => decide (e.born ≥ since)) = #[] := by
                  apply Array.ext'
                  rw [Array.toList_filter]
                  exact List.filter_eq_nil_iff.2 fun e he => by have := hLmem e he; simp; omega
                have hun : (!seen'.isEmpty && !es'.isEmpty && es'.all fun e => decide (e.born ≥ stepped)) = false := by
                  cases he : es'.isEmpty with
                  | true => simp
                  | false =>
                    have hne : 0 < es'.size := by
                      rcases Nat.eq_zero_or_pos es'.size with e0 | e0
                      · rw [Array.isEmpty_iff_size_eq_zero.2 e0] at he; cases he
                      · exact e0
                    have : (es'.all fun e => decide (e.born ≥ stepped)) = false := by
                      rw [Array.all_eq_false]
                      refine ⟨0, hne, ?_⟩
                      have := hyoung es'[0] (by simp)
                      simp; omega
                    rw [this]; simp
                have model : (Instr.next (.pointer (some ⟨hm.blk, 0 - hm.shift, none⟩)) false ty).run P w =
                    ((do
                      let i ← choose (.mapNext ((if L.toArray.isEmpty then #[none] else #[]) ++ L.toArray.map some).size)
                      match ((if L.toArray.isEmpty then #[none] else #[]) ++ L.toArray.map some)[i]? with
                      | some (some e) =>
                        setObj hm.blk (.mapIter (some hx.blk) since (seen'.push e.born) clock)
                        pure (.tuple #[.bool true, e.key, e.val])
                      | some none => pure (.tuple #[.bool false])
                      | none => stuck "Next: no such candidate" : Sem Value)).run P w := by
                  simp only [Instr.next, Nat.zero_sub, Sem.run_bind, run_getObj' hheap (by simp), Result.andThen_ok, run_getObj' hheap2 (by simp), hun, Bool.false_eq_true, if_false, hF, hold, hnew, Array.append_empty, Sem.run_pure]
                  rfl
                refine Res.of_eq ?_ model
                cases left with
                | nil =>
                  have : L = [] := hlr.nil_inv
                  subst this
                  by_cases hf : (Question.mapNext 1).forced = true
                  · refine ⟨_, σ2, ρ, .tuple #[.bool false], w, h, hS2, hG2, Rho.le.refl ρ, ff _, ?_⟩
                    simp [hf]
                  · exact absurd (by decide) hf
                | cons l0 lr =>
                  have hLn : L ≠ [] := fun e => by subst e; exact absurd hlr.1 (by simp)
                  have hemp : L.toArray.isEmpty = false := by cases L with | nil => exact absurd rfl hLn | cons _ _ => rfl
                  have h := pick_ok (n := (l0 :: lr).length) h
                  have hlen : (L.toArray.map some).size = (l0 :: lr).length := by rw [Array.size_map]; exact hlr.1
                  have step : ∀ (i : Nat) (w2 : World), w2.heap = w.heap → Good w0 ρ σ2.h w2 → run (oel (l0 :: lr)[i]? .fail fun e => (match e with
                      | .mk key v n => .wr b (.miter (some m) since (seen ++ [n]) clock) (k (.tup [.bool true, key, v])))) σ2 K = true →
                      Res P w0 ρ w2 k K (match (L.toArray.map some)[i]? with
                      | some (some e) => (do
                        setObj hm.blk (.mapIter (some hx.blk) since (seen'.push e.born) clock)
                        pure (.tuple #[.bool true, e.key, e.val]))
                      | some none => pure (.tuple #[.bool false])
                      | none => stuck "Next: no such candidate" : Sem Value) := by
                    intro i w2 hw2 hGw h
                    obtain ⟨x, hxi, h⟩ := oelT h
                    cases x with
                    | mk key v n =>
                      obtain ⟨e, he, r1, r2, r3⟩ := hlr.get hxi
                      have he' : (L.toArray.map some)[i]? = some (some e) := by simp [he]
                      rw [he']
                      obtain ⟨x0, σ3, hx0, e3, hS3, h64, h⟩ := wr_ok hS2 h
                      have hheap' : w2.heap[hm.blk]? = some (.mapIter (some hx.blk) since seen' stepped) := by rw [hw2]; exact hheap
                      have hblk : hm.blk < w2.heap.size := by rw [hw2]; exact (hG.dom _ _ _ hh).1
                      have hG3 := hGw.setObjM (x := .miter (some m) since (seen ++ [n]) clock) (o' := .mapIter (some hx.blk) since (seen'.push e.born) clock) hx0 h64 hh hB hheap' ⟨hm, hh, hB, some hx.blk, seen'.push e.born, by
                          show (w2.heap.setIfInBounds hm.blk _)[hm.blk]? = _
                          rw [Array.getElem?_setIfInBounds, if_pos rfl, if_pos hblk], by rw [Array.toList_push, hseen, r3], hx, hhx, rfl⟩
                      have hset : (setObj hm.blk (.mapIter (some hx.blk) since (seen'.push e.born) clock)).run P w2 = .ok () { w2 with heap := w2.heap.setIfInBounds hm.blk (.mapIter (some hx.blk) since (seen'.push e.born) clock) } := by simp [setObj, Sem.run, hheap']
                      refine ⟨_, σ3, ρ, _, _, h, hS3, by rw [e3]; exact hG3, Rho.le.refl ρ, tup3 (.bool _) r1 r2, ?_⟩
                      simp [hset]
                  simp only [hemp, Bool.false_eq_true, if_false, Array.empty_append]
                  rw [hlen]
                  cases hf : (Question.mapNext (l0 :: lr).length).forced with
                  | true =>
                    have hle1 : (l0 :: lr).length ≤ 1 := by simpa [Question.forced] using hf
                    refine (step 0 w rfl hG2 (h 0 (.inl rfl) fun _ => rfl)).of_eq ?_
                    simp only [Sem.run_bind, run_choose, hf, if_true, Result.andThen_ok]
                  | false =>
                    have hle1 : ¬ (l0 :: lr).length ≤ 1 := of_decide_eq_false hf
                    have hi : (Question.mapNext (l0 :: lr).length).cut (w.tape w.drawn (.mapNext (l0 :: lr).length)) < (l0 :: lr).length := Nat.mod_lt _ (by omega)
                    obtain ⟨av, σ', ρ', v', w', q1, q2, q3, q4, q5, q6⟩ := step _ { w with drawn := w.drawn + 1 } rfl (hG2.drawn _) (h _ (.inr hi) fun hc => absurd hc hle1)
                    refine ⟨av, σ', ρ', v', w', q1, q2, q3, q4, q5, ?_⟩
                    simp only [Sem.run_bind, run_choose, hf, Bool.false_eq_true, if_false, Result.andThen_ok]
                    exact q6
              | _ => exact (nofail h).elim
        | _ => exact (nofail h).elim
  | _ => exact (nofail h).elim
theorem findBorn_ok {n : Nat} : ∀ (es : List ME) (ess : List MapEntry) (p : AV × AV), MR ρ es ess → findBorn n es = some p → ∃ e, ess.find? (fun e => e.born == n) = some e ∧ VR ρ p.1 e.key ∧ VR ρ p.2 e.val := by
  intro es
  induction es with
  | nil => intro ess p _ h; simp [findBorn] at h
  | cons x es ih =>
    intro ess p hm h
    cases x with
    | mk a v m =>
      obtain ⟨e, ess', rfl, h1, h2, h3, h4⟩ := hm.cons_inv
      simp only [findBorn] at h
      split at h
      · rename_i emn
        injection h with h; subst h
        exact ⟨e, by simp [h3, emn], h1, h2⟩
      · rename_i emn
        obtain ⟨e', q1, q2, q3⟩ := ih ess' p h4 h
        refine ⟨e', ?_, q2, q3⟩
        rw [List.find?_cons]
        have : (e.born == n) = false := by rw [h3]; simpa using emn
        rw [this]; exact q1
theorem lastN_eq : ∀ (l : List Nat), lastN l = l.getLast? := by
  intro l
  induction l with
  | nil => rfl
  | cons a l ih =>
    cases l with
    | nil => rfl
    | cons b l => show lastN (b :: l) = _; rw [ih]; simp [List.getLast?_cons_cons]
theorem entryA_ok {x : AV} {v : Value} (hS : SI σ) (hG : Good w0 ρ σ.h w) (hx : VR ρ x v) (h : run (entryA x k) σ K = true) : Res P w0 ρ w k K (Instr.entry v) := by
  cases hx with
  | ptr b g o hm hh ho =>
    cases g with
    | succ g => exact (nofail h).elim
    | zero =>
      cases o with
      | succ o => exact (nofail h).elim
      | zero =>
        obtain ⟨q, σ1, hq, e1, hS1, h⟩ := rd_ok hS h
        have hG1 : Good w0 ρ σ1.h w := by rw [e1]; exact hG
        cases q with
        | miter m since seen stepped =>
          obtain ⟨hm', hh', hB, m', seen', hheap, hseen, hm2⟩ := hG.blk _ _ hq
          rw [hh] at hh'; injection hh' with hh'; subst hh'
          cases m with
          | none => exact (nofail h).elim
          | some m =>
            obtain ⟨hx, hhx, em⟩ := hm2
            subst em
            obtain ⟨n, hn, h⟩ := oelT h
            obtain ⟨q2, σ2, hq2, e2, hS2, h⟩ := rd_ok hS1 h
            have hG2 : Good w0 ρ σ2.h w := by rw [e2]; exact hG1
            cases q2 with
            | mapo es clock =>
              obtain ⟨hm3, hh3, hB3, es', hheap2, hmr⟩ := (hG1.blk _ _ hq2).mapo_MR
              rw [hhx] at hh3; injection hh3 with hh3; subst hh3
              obtain ⟨hc, h1⟩ := bifT h
              obtain ⟨p, hp, h2⟩ := oelT h1
              have hc := beqT hc
              subst hc
              obtain ⟨e, q1, q2, q3⟩ := findBorn_ok es es'.toList p hmr hp
              have hback : seen'.back? = some n := by
                rw [← hseen, lastN_eq] at hn
                rw [← hn]; simp
              have hfind : es'.find? (fun e => e.born == n) = some e := by rw [← Array.find?_toList]; exact q1
              refine .plain h2 hS2 hG2 (tupP q2 q3) ?_
              simp [Instr.entry, Nat.zero_sub, run_getObj' hheap (by simp), run_getObj' hheap2 (by simp), hback, hfind]
            | _ => exact (nofail h).elim
        | _ => exact (nofail h).elim
  | _ => exact (nofail h).elim
end
end Go.Sym
namespace Go.Sym
open Go.RowKit (Below)
set_option linter.unusedVariables false
theorem ltI_eq (a b : Int) : ltI a b = decide (a < b) := by
  unfold ltI
  split
  · rename_i x y
    cases h : Nat.ble (Nat.succ x) y with
    | true =>
      have := Nat.ble_eq.mp h
      simp; omega
    | false =>
      have := bleF h
      simp; omega
  · rfl
section
variable {P : Program} {w0 : World} {ρ : Rho} {w : World} {σ : St} {K : Fin} {k : AV → Tr}
theorem minMaxGo_ok {mx : Bool} : ∀ (l : List AV) (x : AV) (vs : List Value) (v : Value), LR ρ l vs → VR ρ x v → run (minMaxGo mx l x k) σ K = true →
    ∃ r u, run (k r) σ K = true ∧ VR ρ r u ∧ (vs.foldlM (if mx then Builtin.max2 else Builtin.min2) v).run P w = .ok u w := by
  intro l
  induction l with
  | nil => intro x vs v hl hx h; rw [hl.nil_inv]; exact ⟨x, v, h, hx, by simp⟩
  | cons y l ih =>
    intro x vs v hl hx h
    obtain ⟨u, vs', rfl, hu, hl'⟩ := hl.cons_inv
    cases x with
    | int j a =>
      cases y with
      | int j' b =>
        cases hx; cases hu
        have h : run (bif' (decide (j = j')) (bif' (bif' mx (ltI a b) (ltI b a)) (minMaxGo mx l (.int j b) k) (minMaxGo mx l (.int j a) k)) .fail) σ K = true := h
        obtain ⟨_, h⟩ := bifT h
        have step : ∀ c : Int, run (minMaxGo mx l (.int j c) k) σ K = true → ((if mx then Builtin.max2 else Builtin.min2) (.int j a) (.int j' b)).run P w = .ok (.int j c) w →
            ∃ r u, run (k r) σ K = true ∧ VR ρ r u ∧ ((Value.int j' b :: vs').foldlM (if mx then Builtin.max2 else Builtin.min2) (.int j a)).run P w = .ok u w := fun c h e => by
          obtain ⟨r, u, q1, q2, q3⟩ := ih (.int j c) vs' (.int j c) hl' (.int j c) h
          exact ⟨r, u, q1, q2, by rw [List.foldlM_cons, Sem.run_bind, e]; exact q3⟩
        rcases bif2 h with ⟨e, h⟩ | ⟨e, h⟩
        · refine step b h ?_
          rw [bif'_eq] at e
          cases mx with
          | true => simp [ltI_eq] at e; simp [Builtin.max2, e]
          | false => simp [ltI_eq] at e; simp [Builtin.min2, e]
        · refine step a h ?_
          rw [bif'_eq] at e
          cases mx with
          | true => simp [ltI_eq] at e; simp [Builtin.max2]; omega
          | false => simp [ltI_eq] at e; simp [Builtin.min2]; omega
      | _ => exact (nofail h).elim
    | _ => exact (nofail h).elim
theorem max_ok {tys : Array TypeId} {ty : TypeId} {args : List AV} {vs : List Value} (hS : SI σ) (hG : Good w0 ρ σ.h w) (hl : LR ρ args vs) (h : run (minMaxA true args k) σ K = true) : Res P w0 ρ w k K (Builtin.max_ tys ty vs.toArray) := by
  cases args with
  | nil => exact (nofail h).elim
  | cons x rest =>
    obtain ⟨v, vs', rfl, hv, hl'⟩ := hl.cons_inv
    obtain ⟨r, u, q1, q2, q3⟩ := minMaxGo_ok (P := P) (w := w) rest x vs' v hl' hv h
    exact .plain q1 hS hG q2 (by simpa [Builtin.max_] using q3)
theorem min_ok {tys : Array TypeId} {ty : TypeId} {args : List AV} {vs : List Value} (hS : SI σ) (hG : Good w0 ρ σ.h w) (hl : LR ρ args vs) (h : run (minMaxA false args k) σ K = true) : Res P w0 ρ w k K (Builtin.min_ tys ty vs.toArray) := by
  cases args with
  | nil => exact (nofail h).elim
  | cons x rest =>
    obtain ⟨v, vs', rfl, hv, hl'⟩ := hl.cons_inv
    obtain ⟨r, u, q1, q2, q3⟩ := minMaxGo_ok (P := P) (w := w) rest x vs' v hl' hv h
    exact .plain q1 hS hG q2 (by simpa [Builtin.min_] using q3)
theorem copyA_ok {tys : Array TypeId} {ty : TypeId} {args : List AV} {vs : List Value} (hS : SI σ) (hG : Good w0 ρ σ.h w) (hl : LR ρ args vs) (h : run (copyA P tys args k) σ K = true) : Res P w0 ρ w k K (Builtin.copy_ tys ty vs.toArray) := by
  unfold copyA at h
  split at h
  · rename_i t d x h0
    obtain ⟨v, vs1, rfl, hv, hl1⟩ := hl.cons_inv
    obtain ⟨u, vs2, rfl, hu, hl2⟩ := hl1.cons_inv
    have := hl2.nil_inv
    subst this
    obtain ⟨dd, hd, h⟩ := undT h
    cases dd with
    | slice e =>
      cases hv with
      | nils =>
        obtain ⟨i, hi, h⟩ := sizeT h
        obtain ⟨hs1, h⟩ := bifT h
        have hs1 := bleT hs1
        obtain ⟨n, h, hlen⟩ := lenA_ok (P := P) hu h
        obtain ⟨l, cs, σ', e1, hS', h, hL, hcl, hfirst⟩ := firstK_ok (P := P) (w := w) hS hG hu (hlen _) (Nat.zero_le _) hs1 h
        have hcs : cs = [] := List.length_eq_zero_iff.1 (by simpa using hcl)
        subst hcs
        refine .plain h hS' (by rw [e1]; exact hG) (.int _ _) ?_
        have hm : Nat.min n 0 = 0 := Nat.min_zero n
        simp [Builtin.copy_, h0, run_underlying hd, hlen, hm, sizeOf_run hi, hfirst w rfl, goInt]
      | slc b g o len cap es a c hsl =>
        obtain ⟨i, hi, h⟩ := sizeT h
        obtain ⟨hs1, h⟩ := bifT h
        have hs1 := bleT hs1
        obtain ⟨n, h, hlen⟩ := lenA_ok (P := P) hu h
        have h := fNT h
        rw [minN_eq] at h
        obtain ⟨l, cs, σ', e1, hS', h, hL, hcl, hfirst⟩ := firstK_ok (P := P) (w := w) hS hG hu (hlen _) (Nat.min_le_left _ _) hs1 h
        have hG' : Good w0 ρ σ'.h w := by rw [e1]; exact hG
        rcases bif2 h with ⟨hm, h⟩ | ⟨hm, h⟩
        · have hm := beqT hm
          have hcs : cs = [] := List.length_eq_zero_iff.1 (by rw [hcl, hm]; simp)
          subst hcs
          refine .plain h hS' hG' (.int _ _) ?_
          have hm' : Nat.min n len = 0 := hm
          have hf := hfirst w rfl
          rw [hm] at hf
          rw [hm]
          simp [Builtin.copy_, h0, run_underlying hd, hlen, hm', sizeOf_run hi, hf, goInt, storeCells]
        · have hpos : 0 < len := by
            rcases Nat.eq_zero_or_pos len with e0 | e0
            · subst e0; simp at hm
            · exact e0
          obtain ⟨hm2, hh, ho, ea⟩ := slHome hsl hpos
          subst ea
          obtain ⟨σ2, w2, q1, q2, q3, q4⟩ := storeRow_ok (P := P) hS' hG' hh ho hL h
          refine ⟨_, σ2, ρ, _, w2, q1, q2, q3, Rho.le.refl ρ, .int _ _, ?_⟩
          have hf := hfirst w rfl
          have hmm : Nat.min n len = min n len := rfl
          simp [Builtin.copy_, h0, run_underlying hd, hlen, hmm, sizeOf_run hi, hf, goInt, q4]
      | _ => exact (nofail h).elim
    | _ => exact (nofail h).elim
  · exact (nofail h).elim
theorem makeSliceA_ok {t : TypeId} {x y : AV} {v u : Value} (hS : SI σ) (hG : Good w0 ρ σ.h w) (hx : VR ρ x v) (hy : VR ρ y u) (h : run (makeSliceA P t x y k) σ K = true) : Res P w0 ρ w k K (Instr.makeSlice t v u) := by
  obtain ⟨j1, n1, e1, h1⟩ := asIntT h
  obtain ⟨j2, n2, e2, h2⟩ := asIntT h1
  obtain ⟨l, e3, h3⟩ := natT h2
  obtain ⟨c, e4, h4⟩ := natT h3
  clear h h1 h2 h3
  subst e1; subst e2; subst e3; subst e4
  have h := h4
  clear h4
  cases hx; cases hy
  obtain ⟨d, hu, h⟩ := undT h
  cases d with
  | slice e =>
    obtain ⟨hlc, h⟩ := bifT h
    obtain ⟨hc, h⟩ := bifT h
    have hlc := bleT hlc
    have hc := bleT hc
    obtain ⟨i, hi, h⟩ := infoT h
    obtain ⟨hby, h⟩ := bifT h
    have hby := bleT hby
    obtain ⟨hs1, h⟩ := bifT (fNT h)
    have hs1 := bleT hs1
    obtain ⟨z, zv, i', hi', hz, hzr, h⟩ := zeroT ρ w h
    obtain ⟨zl, hzl, h⟩ := cellsT hzr h
    obtain ⟨hb2, h⟩ := bifT h
    have hb2 := beqT hb2
    have h := forceAT h
    have hrep := repeat_LR hzl (by omega) c
    rw [hb2] at hrep
    obtain ⟨q1, q2⟩ := LR.to_arr hrep
    obtain ⟨b, σ', h5, hS', hle, hG'⟩ := newRow_ok _ e hS hG q1 q2 h
    refine ⟨_, σ', _, _, _, h5, hS', hG', hle, VR.slc b 0 0 l (some c) i.size _ c ⟨hlc, rfl, _, Rho.put_at _ _ _ _, Nat.zero_le _, rfl⟩, ?_⟩
    have hbc : i.bytes * c ≤ 1000 * 1000000 := Nat.mul_le_mul hby hc
    have w1 : IntKind.wrap .i64 (l : Int) = l := by simp [IntKind.wrap, IntKind.bits, IntKind.signed, Int.bmod_def]; omega
    have w2 : IntKind.wrap .i64 (c : Int) = c := by simp [IntKind.wrap, IntKind.bits, IntKind.signed, Int.bmod_def]; omega
    have hbig : ¬ ((i.bytes : Int) * (c : Int) > 2 ^ 48) := by
      rw [← Int.natCast_mul]; omega
    have t1 : ((decide ((c : Int) < 0) || decide ((i.bytes : Int) * (c : Int) > 2 ^ 48)) || decide ((l : Int) < 0) || decide ((l : Int) > (c : Int))) = false := by
      simp only [hbig, decide_false, Bool.or_false, Bool.or_eq_false_iff, decide_eq_false_iff_not]
      omega
    simp only [Instr.makeSlice, Sem.run_bind, run_underlying hu, Result.andThen_ok, asInt, asIntOf, Sem.run_pure, typeInfo, run_program, hi, w1, w2, sizeOf_run hi]
    rw [if_neg (by rw [t1]; simp)]
    by_cases e0 : c * i.size = 0
    · have : c = 0 := by
        rcases Nat.mul_eq_zero.mp e0 with h' | h'
        · exact h'
        · omega
      subst this
      have e0' : ∀ f g : Nat → Value, (Array.range 0).map f = (Array.range 0).map g := fun f g => by simp
      simp [newRow, sizeOf_run hi]
      congr 2
      exact e0' _ _
    · simp [e0, hz, newRow, sizeOf_run hi]
  | _ => exact (nofail h).elim
theorem typeAssertA_ok {x : AV} {v : Value} {xt t : TypeId} {ok : Bool} (hS : SI σ) (hG : Good w0 ρ σ.h w) (hx : VR ρ x v) (h : run (typeAssertA P x t ok k) σ K = true) : Res P w0 ρ w k K (Instr.typeAssert v xt t ok) := by
  obtain ⟨d, hu, h⟩ := undT h
  have hd : (∃ ms, d = .interface ms) ∨ ∀ ms, d ≠ .interface ms := by
    cases d <;> first | exact .inl ⟨_, rfl⟩ | exact .inr fun _ e => by cases e
  rcases hd with ⟨ms, rfl⟩ | hd
  · exact (nofail h).elim
  cases hx with
  | iface u y vv hv =>
    have h5 : run (bif' (Nat.beq u t) (bif' ok (k (.tup [y, .bool true])) (k y)) (bif' ok (zeroK P t fun z => k (.tup [z, .bool false])) .fail)) σ K = true := by
      cases d <;> first | exact absurd rfl (hd _) | exact h
    clear h
    rcases bif2 h5 with ⟨he, h6⟩ | ⟨he, h⟩
    · have he' := beqT he
      clear he h5
      subst he'
      rcases bif2 h6 with ⟨hok, h7⟩ | ⟨hok, h7⟩
      · subst hok
        refine .plain h7 hS hG (tupP hv (.bool true)) ?_
        cases d <;> first | exact absurd rfl (hd _) | simp [Instr.typeAssert, run_underlying hu]
      · subst hok
        refine .plain h7 hS hG hv ?_
        cases d <;> first | exact absurd rfl (hd _) | simp [Instr.typeAssert, run_underlying hu]
    · have he : ¬ u = t := fun e => by subst e; simp at he
      obtain ⟨hok, h⟩ := bifT h
      subst hok
      obtain ⟨z, zv, i, _, hz, hzr, h⟩ := zeroT ρ w h
      refine .plain h hS hG (tupP hzr (.bool false)) ?_
      cases d <;> first | exact absurd rfl (hd _) | simp [Instr.typeAssert, run_underlying hu, he, hz]
  | nili =>
    have h : run (bif' ok (zeroK P t fun z => k (.tup [z, .bool false])) .fail) σ K = true := by
      cases d <;> first | exact absurd rfl (hd _) | exact h
    obtain ⟨hok, h⟩ := bifT h
    subst hok
    obtain ⟨z, zv, i, _, hz, hzr, h⟩ := zeroT ρ w h
    refine .plain h hS hG (tupP hzr (.bool false)) ?_
    cases d <;> first | exact absurd rfl (hd _) | simp [Instr.typeAssert, run_underlying hu, hz]
  | _ => exact (nofail (by cases d <;> exact h)).elim
end
end Go.Sym
