/-
  SIM, part R4: copy, min and max, make of a slice, assertions.
-/
import Derived.Test.YtlcomegfkcgjjaaGreatDoorSimR3
namespace Go.Sim
open Go.RowKit (Below)
set_option linter.unusedVariables false

theorem ltI_eq (a b : Int) : ltI a b = decide (a < b) := by
  unfold ltI
  split
  · rename_i x y
    cases h : Nat.ble (Nat.succ x) y with
    | true =>
      have := Nat.ble_eq.mp h
      simp; omega
    | false =>
      have := bleF h
      simp; omega
  · rfl
section
variable {P : Program} {w0 : World} {ρ : Rho} {w : World} {σ : St} {K : Fin} {k : AV → Tr}

theorem minMaxGo_ok {mx : Bool} : ∀ (l : List AV) (x : AV) (vs : List Value) (v : Value), LR ρ l vs → VR ρ x v → run (minMaxGo mx l x k) σ K = true →
    ∃ r u, run (k r) σ K = true ∧ VR ρ r u ∧ (vs.foldlM (if mx then Builtin.max2 else Builtin.min2) v).run P w = .ok u w := by
  intro l
  induction l with
  | nil => intro x vs v hl hx h; rw [hl.nil_inv]; exact ⟨x, v, h, hx, by simp⟩
  | cons y l ih =>
    intro x vs v hl hx h
    obtain ⟨u, vs', rfl, hu, hl'⟩ := hl.cons_inv
    cases x with
    | int j a =>
      cases y with
      | int j' b =>
        cases hx; cases hu
        have h : run (bif' (decide (j = j')) (bif' (bif' mx (ltI a b) (ltI b a)) (minMaxGo mx l (.int j b) k) (minMaxGo mx l (.int j a) k)) .fail) σ K = true := h
        obtain ⟨_, h⟩ := bifT h
        have step : ∀ c : Int, run (minMaxGo mx l (.int j c) k) σ K = true → ((if mx then Builtin.max2 else Builtin.min2) (.int j a) (.int j' b)).run P w = .ok (.int j c) w →
            ∃ r u, run (k r) σ K = true ∧ VR ρ r u ∧ ((Value.int j' b :: vs').foldlM (if mx then Builtin.max2 else Builtin.min2) (.int j a)).run P w = .ok u w := fun c h e => by
          obtain ⟨r, u, q1, q2, q3⟩ := ih (.int j c) vs' (.int j c) hl' (.int j c) h
          exact ⟨r, u, q1, q2, by rw [List.foldlM_cons, Sem.run_bind, e]; exact q3⟩
        rcases bif2 h with ⟨e, h⟩ | ⟨e, h⟩
        · refine step b h ?_
          rw [bif'_eq] at e
          cases mx with
          | true => simp [ltI_eq] at e; simp [Builtin.max2, e]
          | false => simp [ltI_eq] at e; simp [Builtin.min2, e]
        · refine step a h ?_
          rw [bif'_eq] at e
          cases mx with
          | true => simp [ltI_eq] at e; simp [Builtin.max2]; omega
          | false => simp [ltI_eq] at e; simp [Builtin.min2]; omega
      | _ => exact (nofail h).elim
    | _ => exact (nofail h).elim
theorem max_ok {tys : Array TypeId} {ty : TypeId} {args : List AV} {vs : List Value} (hS : SI σ) (hG : Good w0 ρ σ.h w) (hl : LR ρ args vs) (h : run (minMaxA true args k) σ K = true) : Res P w0 ρ w k K (Builtin.max_ tys ty vs.toArray) := by
  cases args with
  | nil => exact (nofail h).elim
  | cons x rest =>
    obtain ⟨v, vs', rfl, hv, hl'⟩ := hl.cons_inv
    obtain ⟨r, u, q1, q2, q3⟩ := minMaxGo_ok (P := P) (w := w) rest x vs' v hl' hv h
    exact .plain q1 hS hG q2 (by simpa [Builtin.max_] using q3)
theorem min_ok {tys : Array TypeId} {ty : TypeId} {args : List AV} {vs : List Value} (hS : SI σ) (hG : Good w0 ρ σ.h w) (hl : LR ρ args vs) (h : run (minMaxA false args k) σ K = true) : Res P w0 ρ w k K (Builtin.min_ tys ty vs.toArray) := by
  cases args with
  | nil => exact (nofail h).elim
  | cons x rest =>
    obtain ⟨v, vs', rfl, hv, hl'⟩ := hl.cons_inv
    obtain ⟨r, u, q1, q2, q3⟩ := minMaxGo_ok (P := P) (w := w) rest x vs' v hl' hv h
    exact .plain q1 hS hG q2 (by simpa [Builtin.min_] using q3)

theorem copyA_ok {tys : Array TypeId} {ty : TypeId} {args : List AV} {vs : List Value} (hS : SI σ) (hG : Good w0 ρ σ.h w) (hl : LR ρ args vs) (h : run (copyA P tys args k) σ K = true) : Res P w0 ρ w k K (Builtin.copy_ tys ty vs.toArray) := by
  unfold copyA at h
  split at h
  · rename_i t d x h0
    obtain ⟨v, vs1, rfl, hv, hl1⟩ := hl.cons_inv
    obtain ⟨u, vs2, rfl, hu, hl2⟩ := hl1.cons_inv
    have := hl2.nil_inv
    subst this
    obtain ⟨dd, hd, h⟩ := undT h
    cases dd with
    | slice e =>
      cases hv with
      | nils =>
        obtain ⟨i, hi, h⟩ := sizeT h
        obtain ⟨hs1, h⟩ := bifT h
        have hs1 := bleT hs1
        obtain ⟨n, h, hlen⟩ := lenA_ok (P := P) hu h
        obtain ⟨l, cs, σ', e1, hS', h, hL, hcl, hfirst⟩ := firstK_ok (P := P) (w := w) hS hG hu (hlen _) (Nat.zero_le _) hs1 h
        have hcs : cs = [] := List.length_eq_zero_iff.1 (by simpa using hcl)
        subst hcs
        refine .plain h hS' (by rw [e1]; exact hG) (.int _ _) ?_
        have hm : Nat.min n 0 = 0 := Nat.min_zero n
        simp [Builtin.copy_, h0, run_underlying hd, hlen, hm, sizeOf_run hi, hfirst w rfl, goInt]
      | slc b g o len cap es a c hsl =>
        obtain ⟨i, hi, h⟩ := sizeT h
        obtain ⟨hs1, h⟩ := bifT h
        have hs1 := bleT hs1
        obtain ⟨n, h, hlen⟩ := lenA_ok (P := P) hu h
        have h := fNT h
        rw [minN_eq] at h
        obtain ⟨l, cs, σ', e1, hS', h, hL, hcl, hfirst⟩ := firstK_ok (P := P) (w := w) hS hG hu (hlen _) (Nat.min_le_left _ _) hs1 h
        have hG' : Good w0 ρ σ'.h w := by rw [e1]; exact hG
        rcases bif2 h with ⟨hm, h⟩ | ⟨hm, h⟩
        · have hm := beqT hm
          have hcs : cs = [] := List.length_eq_zero_iff.1 (by rw [hcl, hm]; simp)
          subst hcs
          refine .plain h hS' hG' (.int _ _) ?_
          have hm' : Nat.min n len = 0 := hm
          have hf := hfirst w rfl
          rw [hm] at hf
          rw [hm]
          simp [Builtin.copy_, h0, run_underlying hd, hlen, hm', sizeOf_run hi, hf, goInt, storeCells]
        · have hpos : 0 < len := by
            rcases Nat.eq_zero_or_pos len with e0 | e0
            · subst e0; simp at hm
            · exact e0
          obtain ⟨hm2, hh, ho, ea⟩ := slHome hsl hpos
          subst ea
          obtain ⟨σ2, w2, q1, q2, q3, q4⟩ := storeRow_ok (P := P) hS' hG' hh ho hL h
          refine ⟨_, σ2, ρ, _, w2, q1, q2, q3, Rho.le.refl ρ, .int _ _, ?_⟩
          have hf := hfirst w rfl
          have hmm : Nat.min n len = min n len := rfl
          simp [Builtin.copy_, h0, run_underlying hd, hlen, hmm, sizeOf_run hi, hf, goInt, q4]
      | _ => exact (nofail h).elim
    | _ => exact (nofail h).elim
  · exact (nofail h).elim

theorem makeSliceA_ok {t : TypeId} {x y : AV} {v u : Value} (hS : SI σ) (hG : Good w0 ρ σ.h w) (hx : VR ρ x v) (hy : VR ρ y u) (h : run (makeSliceA P t x y k) σ K = true) : Res P w0 ρ w k K (Instr.makeSlice t v u) := by
  obtain ⟨j1, n1, e1, h1⟩ := asIntT h
  obtain ⟨j2, n2, e2, h2⟩ := asIntT h1
  obtain ⟨l, e3, h3⟩ := natT h2
  obtain ⟨c, e4, h4⟩ := natT h3
  clear h h1 h2 h3
  subst e1; subst e2; subst e3; subst e4
  have h := h4
  clear h4
  cases hx; cases hy
  obtain ⟨d, hu, h⟩ := undT h
  cases d with
  | slice e =>
    obtain ⟨hlc, h⟩ := bifT h
    obtain ⟨hc, h⟩ := bifT h
    have hlc := bleT hlc
    have hc := bleT hc
    obtain ⟨i, hi, h⟩ := infoT h
    obtain ⟨hby, h⟩ := bifT h
    have hby := bleT hby
    obtain ⟨hs1, h⟩ := bifT (fNT h)
    have hs1 := bleT hs1
    obtain ⟨z, zv, i', hi', hz, hzr, h⟩ := zeroT ρ w h
    obtain ⟨zl, hzl, h⟩ := cellsT hzr h
    obtain ⟨hb2, h⟩ := bifT h
    have hb2 := beqT hb2
    have h := forceAT h
    have hrep := repeat_LR hzl (by omega) c
    rw [hb2] at hrep
    obtain ⟨q1, q2⟩ := LR.to_arr hrep
    obtain ⟨b, σ', h5, hS', hle, hG'⟩ := newRow_ok _ e hS hG q1 q2 h
    refine ⟨_, σ', _, _, _, h5, hS', hG', hle, VR.slc b 0 0 l (some c) i.size _ c ⟨hlc, rfl, _, Rho.put_at _ _ _ _, Nat.zero_le _, rfl⟩, ?_⟩
    have hbc : i.bytes * c ≤ 1000 * 1000000 := Nat.mul_le_mul hby hc
    have w1 : IntKind.wrap .i64 (l : Int) = l := by simp [IntKind.wrap, IntKind.bits, IntKind.signed, Int.bmod_def]; omega
    have w2 : IntKind.wrap .i64 (c : Int) = c := by simp [IntKind.wrap, IntKind.bits, IntKind.signed, Int.bmod_def]; omega
    have hbig : ¬ ((i.bytes : Int) * (c : Int) > 2 ^ 48) := by
      rw [← Int.natCast_mul]; omega
    have t1 : ((decide ((c : Int) < 0) || decide ((i.bytes : Int) * (c : Int) > 2 ^ 48)) || decide ((l : Int) < 0) || decide ((l : Int) > (c : Int))) = false := by
      simp only [hbig, decide_false, Bool.or_false, Bool.or_eq_false_iff, decide_eq_false_iff_not]
      omega
    simp only [Instr.makeSlice, Sem.run_bind, run_underlying hu, Result.andThen_ok, asInt, asIntOf, Sem.run_pure, typeInfo, run_program, hi, w1, w2, sizeOf_run hi]
    rw [if_neg (by rw [t1]; simp)]
    by_cases e0 : c * i.size = 0
    · have : c = 0 := by
        rcases Nat.mul_eq_zero.mp e0 with h' | h'
        · exact h'
        · omega
      subst this
      have e0' : ∀ f g : Nat → Value, (Array.range 0).map f = (Array.range 0).map g := fun f g => by simp
      simp [newRow, sizeOf_run hi]
      congr 2
      exact e0' _ _
    · simp [e0, hz, newRow, sizeOf_run hi]
  | _ => exact (nofail h).elim

theorem typeAssertA_ok {x : AV} {v : Value} {xt t : TypeId} {ok : Bool} (hS : SI σ) (hG : Good w0 ρ σ.h w) (hx : VR ρ x v) (h : run (typeAssertA P x t ok k) σ K = true) : Res P w0 ρ w k K (Instr.typeAssert v xt t ok) := by
  obtain ⟨d, hu, h⟩ := undT h
  have hd : (∃ ms, d = .interface ms) ∨ ∀ ms, d ≠ .interface ms := by
    cases d <;> first | exact .inl ⟨_, rfl⟩ | exact .inr fun _ e => by cases e
  rcases hd with ⟨ms, rfl⟩ | hd
  · exact (nofail h).elim
  cases hx with
  | iface u y vv hv =>
    have h5 : run (bif' (Nat.beq u t) (bif' ok (k (.tup [y, .bool true])) (k y)) (bif' ok (zeroK P t fun z => k (.tup [z, .bool false])) .fail)) σ K = true := by
      cases d <;> first | exact absurd rfl (hd _) | exact h
    clear h
    rcases bif2 h5 with ⟨he, h6⟩ | ⟨he, h⟩
    · have he' := beqT he
      clear he h5
      subst he'
      rcases bif2 h6 with ⟨hok, h7⟩ | ⟨hok, h7⟩
      · subst hok
        refine .plain h7 hS hG (tupP hv (.bool true)) ?_
        cases d <;> first | exact absurd rfl (hd _) | simp [Instr.typeAssert, run_underlying hu]
      · subst hok
        refine .plain h7 hS hG hv ?_
        cases d <;> first | exact absurd rfl (hd _) | simp [Instr.typeAssert, run_underlying hu]
    · have he : ¬ u = t := fun e => by subst e; simp at he
      obtain ⟨hok, h⟩ := bifT h
      subst hok
      obtain ⟨z, zv, i, _, hz, hzr, h⟩ := zeroT ρ w h
      refine .plain h hS hG (tupP hzr (.bool false)) ?_
      cases d <;> first | exact absurd rfl (hd _) | simp [Instr.typeAssert, run_underlying hu, he, hz]
  | nili =>
    have h : run (bif' ok (zeroK P t fun z => k (.tup [z, .bool false])) .fail) σ K = true := by
      cases d <;> first | exact absurd rfl (hd _) | exact h
    obtain ⟨hok, h⟩ := bifT h
    subst hok
    obtain ⟨z, zv, i, _, hz, hzr, h⟩ := zeroT ρ w h
    refine .plain h hS hG (tupP hzr (.bool false)) ?_
    cases d <;> first | exact absurd rfl (hd _) | simp [Instr.typeAssert, run_underlying hu, hz]
  | _ => exact (nofail (by cases d <;> exact h)).elim
end
end Go.Sim
