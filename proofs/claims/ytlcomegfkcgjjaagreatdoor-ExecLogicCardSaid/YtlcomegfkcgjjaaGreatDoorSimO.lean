/-
  SIM, part O: places, parts, slices, conversions.
-/
import Derived.Test.YtlcomegfkcgjjaaGreatDoorSimN
import Derived.Laws.IdiomStrings
namespace Go.Sim
open Go.RowKit (Below)
set_option linter.unusedVariables false

theorem add_addr {h : Home} {o n : Nat} (ho : h.shift ≤ o) : (⟨h.blk, o - h.shift, none⟩ : Addr).add n = ⟨h.blk, o + n - h.shift, none⟩ := by
  unfold Addr.add
  split
  · rename_i e; subst e; simp
  · simp; omega
theorem VR.ptr_add {ρ : Rho} {b g o n : Nat} {h : Home} (hh : ρ.at_ b g = some h) (ho : h.shift ≤ o) : VR ρ (.ptr b g (o + n)) (.pointer (some ((⟨h.blk, o - h.shift, none⟩ : Addr).add n))) := by
  rw [add_addr ho]; exact .ptr b g (o + n) h hh (by omega)
theorem slHome {ρ : Rho} {b g o len : Nat} {cap : Option Nat} {es : Nat} {a : Addr} {c : Nat} (h : SlOk ρ b g o len cap es a c) (hl : 0 < len) : ∃ h, ρ.at_ b g = some h ∧ h.shift ≤ o ∧ a = ⟨h.blk, o - h.shift, none⟩ := by
  obtain ⟨h1, h2⟩ := h
  cases cap with
  | some k => obtain ⟨_, x, hx, r1, r2⟩ := h2; exact ⟨x, hx, r1, r2⟩
  | none =>
    rcases h2 with ⟨e, _⟩ | ⟨x, hx, r1, r2, _⟩
    · omega
    · exact ⟨x, hx, r1, r2⟩

section
variable {P : Program} {w0 : World} {ρ : Rho} {w : World} {σ : St} {K : Fin} {k : AV → Tr}

theorem partA_ok {t : TypeId} {l : List AV} {cs : Array Value} {off : Nat} (hS : SI σ) (hG : Good w0 ρ σ.h w) (hl : LR ρ l cs.toList) (h : run (partA P t l off k) σ K = true) : Res P w0 ρ w k K (part t cs off) := by
  obtain ⟨d, hu, h⟩ := undT h
  obtain ⟨i, hi⟩ := info_of_underlying hu
  rcases bif2 h with ⟨hd, h⟩ | ⟨hd, h⟩
  · obtain ⟨j, hj, h⟩ := sizeT h
    rw [hi] at hj; injection hj with hj; subst hj
    obtain ⟨v, h1, h2⟩ := part_run (w := w) hu hi hl (off := off) (a := .agg ((l.drop off).take i.size)) (by rw [if_pos hd])
    exact .plain (forceAT h) hS hG h2 h1
  · obtain ⟨a, ha, h⟩ := oelT h
    obtain ⟨v, h1, h2⟩ := part_run (w := w) hu hi hl (off := off) (a := a) (by rw [if_neg (by rw [hd]; simp)]; exact ha)
    exact .plain h hS hG h2 h1
theorem field_ok {t : TypeId} {x : AV} {v : Value} {i : Nat} (hS : SI σ) (hG : Good w0 ρ σ.h w) (hx : VR ρ x v) (h : run (fieldA P t x i k) σ K = true) : Res P w0 ρ w k K (Instr.field t v i) := by
  obtain ⟨d, hu, h⟩ := undT h
  cases d with
  | struct fs =>
    obtain ⟨f, hf, h⟩ := oelT h
    obtain ⟨l, e, h⟩ := asAggT h
    subst e
    cases hx with
    | agg _ cs h1 h2 =>
      refine (partA_ok hS hG (LR.of_arr h1 h2) h).of_eq ?_
      simp only [Instr.field, Sem.run_bind, run_underlying hu, Result.andThen_ok, hf]
      simp [asAgg]
  | _ => exact (nofail h).elim
theorem fieldAddr_ok {t : TypeId} {x : AV} {v : Value} {i : Nat} (hS : SI σ) (hG : Good w0 ρ σ.h w) (hx : VR ρ x v) (h : run (fieldAddrA P t x i k) σ K = true) : Res P w0 ρ w k K (Instr.fieldAt t v i) := by
  obtain ⟨d, hu, h⟩ := undT h
  cases d with
  | struct fs =>
    cases hx with
    | ptr b g o h0 hh ho =>
      obtain ⟨f, hf, h⟩ := oelT h
      obtain ⟨j, hj, h⟩ := sizeT h
      obtain ⟨hz, h⟩ := bifF h
      have hz : ¬ j.size = 0 := fun e => by rw [e] at hz; cases hz
      refine .plain (fNT h) hS hG (VR.ptr_add hh ho) ?_
      simp only [Instr.fieldAt, Sem.run_bind, run_underlying hu, Result.andThen_ok, hf, Instr.sureAddr, Sem.run_pure, fieldPlace, sizeOf_run hj, if_neg hz]
    | _ => exact (nofail h).elim
  | _ => exact (nofail h).elim
theorem indexAddr_ok {t : TypeId} {x ix : AV} {v u : Value} (hS : SI σ) (hG : Good w0 ρ σ.h w) (hx : VR ρ x v) (hy : VR ρ ix u) (h : run (indexAddrA P t x ix k) σ K = true) : Res P w0 ρ w k K (Instr.indexAt t v u) := by
  obtain ⟨kk, n, e, h⟩ := asIntT h
  subst e
  cases hy
  obtain ⟨i, e, h⟩ := natT h
  subst e
  obtain ⟨d, hu, h⟩ := undT h
  cases d with
  | array len e =>
    cases hx with
    | ptr b g o h0 hh ho =>
      obtain ⟨hb, h⟩ := bifT h
      have hb := bleT hb
      obtain ⟨j, hj, h⟩ := sizeT h
      refine .plain (fNT h) hS hG (VR.ptr_add hh ho) ?_
      have hlt : (0 : Int) ≤ (i : Int) ∧ (i : Int) < (len : Int) := by omega
      simp only [Instr.indexAt, Sem.run_bind, asIntOf, Sem.run_pure, Result.andThen_ok, run_underlying hu, Instr.sureAddr, if_pos hlt, sizeOf_run hj, Int.toNat_natCast]
    | _ => exact (nofail h).elim
  | slice e =>
    cases hx with
    | slc b g o len cap es a c hsl =>
      obtain ⟨hb, h⟩ := bifT h
      have hb := bleT hb
      obtain ⟨j, hj, h⟩ := sizeT h
      obtain ⟨h0, hh, ho, ea⟩ := slHome hsl (by omega)
      subst ea
      refine .plain (fNT h) hS hG (VR.ptr_add hh ho) ?_
      have hlt : (0 : Int) ≤ (i : Int) ∧ (i : Int) < (len : Int) := by omega
      simp only [Instr.indexAt, Sem.run_bind, asIntOf, Sem.run_pure, Result.andThen_ok, run_underlying hu, if_pos hlt, sizeOf_run hj, Int.toNat_natCast]
    | _ => exact (nofail h).elim
  | _ => exact (nofail h).elim
theorem bytesOf_get (s : ByteArray) (i : Nat) : (bytesOf s)[i]? = (s[i]?).map UInt8.toNat := by
  unfold bytesOf
  rw [List.getElem?_map]
  congr 1
  by_cases h : i < s.size
  · rw [getElem?_pos s i h]
    have h' : i < s.data.toList.length := by simpa using h
    rw [List.getElem?_eq_getElem h']
    rfl
  · rw [getElem?_neg s i h, List.getElem?_eq_none (by simpa using h)]
theorem index_ok {t : TypeId} {x ix : AV} {v u : Value} (hS : SI σ) (hG : Good w0 ρ σ.h w) (hx : VR ρ x v) (hy : VR ρ ix u) (h : run (indexA P t x ix k) σ K = true) : Res P w0 ρ w k K (Instr.index t v u) := by
  obtain ⟨kk, n, e, h⟩ := asIntT h
  subst e
  cases hy
  obtain ⟨i, e, h⟩ := natT h
  subst e
  obtain ⟨d, hu, h⟩ := undT h
  cases d with
  | array len e =>
    cases hx with
    | agg l cs h1 h2 =>
      obtain ⟨hb, h⟩ := bifT h
      have hb := bleT hb
      obtain ⟨j, hj, h⟩ := sizeT h
      have hlt : (0 : Int) ≤ (i : Int) ∧ (i : Int) < (len : Int) := by omega
      refine (partA_ok hS hG (LR.of_arr h1 h2) h).of_eq ?_
      simp only [Instr.index, Sem.run_bind, asIntOf, Sem.run_pure, Result.andThen_ok, run_underlying hu, if_pos hlt, sizeOf_run hj, Int.toNat_natCast]
    | _ => exact (nofail h).elim
  | string =>
    cases hx with
    | str s =>
      obtain ⟨c, hc, h⟩ := oelT h
      rw [bytesOf_get] at hc
      cases hs : s[i]? with
      | none => rw [hs] at hc; cases hc
      | some cc =>
        rw [hs] at hc
        injection hc with hc
        subst hc
        refine .plain (fNT h) hS hG (.int _ _) ?_
        have h0 : (0 : Int) ≤ (i : Int) := by omega
        simp only [Instr.index, Sem.run_bind, asIntOf, Sem.run_pure, Result.andThen_ok, run_underlying hu, if_pos h0, Int.toNat_natCast, hs]
        rfl
    | _ => exact (nofail h).elim
  | _ => exact (nofail h).elim
theorem extract_ok {x : AV} {v : Value} {i : Nat} (hS : SI σ) (hG : Good w0 ρ σ.h w) (hx : VR ρ x v) (h : run (extractA x i k) σ K = true) : Res P w0 ρ w k K (Instr.extract v i) := by
  cases hx with
  | tup l cs h1 h2 =>
    obtain ⟨a, ha, h⟩ := oelT h
    obtain ⟨u, hu, hr⟩ := (LR.of_arr h1 h2).get ha
    have hu : cs[i]? = some u := by simpa using hu
    exact .plain h hS hG hr (by simp [Instr.extract, hu])
  | _ => exact (nofail h).elim
theorem mkIface_ok {t : TypeId} {x : AV} {v : Value} (hS : SI σ) (hG : Good w0 ρ σ.h w) (hx : VR ρ x v) (h : run (mkIfaceA P t x k) σ K = true) : Res P w0 ρ w k K (Instr.makeInterface t v) := by
  obtain ⟨d, hu, h⟩ := undT h
  cases d with
  | interface m => exact (nofail h).elim
  | _ => exact .plain h hS hG (.iface t x v hx) (by simp [Instr.makeInterface, run_underlying hu])

/-! ### Slices of slices -/
theorem boundT {ov : Option AV} {vv : Option Value} {d top : Nat} {k : Nat → Tr} (ho : OR ρ ov vv) (h : run (boundK ov d top k) σ K = true) :
    ∃ n, run (k n) σ K = true ∧ ((ov = none ∧ vv = none ∧ n = d) ∨ ∃ kk, ov.isSome = true ∧ vv = some (.int kk (n : Int)) ∧ n ≤ top) := by
  cases ov with
  | none =>
    cases vv with
    | none => exact ⟨d, h, .inl ⟨rfl, rfl, rfl⟩⟩
    | some v => exact ho.elim
  | some a =>
    cases vv with
    | none => exact ho.elim
    | some v =>
      obtain ⟨kk, n, e, h⟩ := asIntT h
      subst e
      cases ho
      obtain ⟨i, e, h⟩ := natT h
      subst e
      obtain ⟨hb, h⟩ := bifT h
      exact ⟨i, h, .inr ⟨kk, rfl, rfl, bleT hb⟩⟩
theorem sliceBound_run {kk : IntKind} {n y : Nat} {code : BoundsCode} (h : n ≤ y) : (Instr.sliceBound (.int kk (n : Int)) y code).run P w = .ok n w := by
  simp [Instr.sliceBound, asIntOf, h]
theorem boundsT' {isS : Bool} {len cap c : Nat} {lo hi mx : Option AV} {lo' hi' mx' : Option Value} {k : Nat → Nat → Nat → Tr} (hlc : len ≤ cap) (hcc : cap ≤ c) (hmx : mx = none → c = cap) (h1 : OR ρ lo lo') (h2 : OR ρ hi hi') (h3 : OR ρ mx mx') (h : run (boundsK len cap lo hi mx k) σ K = true) :
    ∃ l hh m, run (k l hh m) σ K = true ∧ (Instr.sliceBounds isS len c lo' hi' mx').run P w = .ok (l, hh, m) w ∧ l ≤ hh ∧ hh ≤ m ∧ m ≤ cap := by
  obtain ⟨m, h, hm⟩ := boundT h3 h
  have hrun : ∃ hh l, run (k l hh m) σ K = true ∧ ((hi = none ∧ hi' = none ∧ hh = len ∧ mx = none) ∨ ∃ kk, hi' = some (.int kk (hh : Int)) ∧ hh ≤ m) ∧ ((lo = none ∧ lo' = none ∧ l = 0) ∨ ∃ kk, lo.isSome = true ∧ lo' = some (.int kk (l : Int)) ∧ l ≤ hh) := by
    cases hi with
    | none =>
      cases mx with
      | some _ => exact (nofail h).elim
      | none =>
        obtain ⟨hh, h, hhi⟩ := boundT (d := len) (top := m) (k := fun h => boundK lo 0 h fun l => k l h m) h2 h
        obtain ⟨l, h, hl⟩ := boundT (k := fun l => k l hh m) h1 h
        refine ⟨hh, l, h, ?_, hl⟩
        rcases hhi with ⟨a, b, c⟩ | ⟨kk, a, b, c⟩
        · exact .inl ⟨rfl, b, c, rfl⟩
        · simp at a
    | some x =>
      obtain ⟨hh, h, hhi⟩ := boundT (d := len) (top := m) (k := fun h => boundK lo 0 h fun l => k l h m) h2 (by cases mx <;> exact h)
      obtain ⟨l, h, hl⟩ := boundT (k := fun l => k l hh m) h1 h
      refine ⟨hh, l, h, ?_, hl⟩
      rcases hhi with ⟨a, b, c⟩ | ⟨kk, a, b, c⟩
      · cases a
      · exact .inr ⟨kk, b, c⟩
  obtain ⟨hh, l, hk, hhi, hlo⟩ := hrun
  have hmc : m ≤ cap := by rcases hm with ⟨_, _, e⟩ | ⟨_, _, _, e⟩ <;> omega
  have hhm : hh ≤ m := by
    rcases hhi with ⟨_, _, e, emx⟩ | ⟨_, _, e⟩
    · rcases hm with ⟨_, _, em⟩ | ⟨_, em, _, _⟩
      · omega
      · rw [emx] at em; simp at em
    · exact e
  have hll : l ≤ hh := by rcases hlo with ⟨_, _, e⟩ | ⟨_, _, _, e⟩ <;> omega
  refine ⟨l, hh, m, hk, ?_, hll, hhm, hmc⟩
  rcases hm with ⟨em1, em2, em3⟩ | ⟨km, em1, em2, em3⟩
  · subst em2
    rcases hhi with ⟨_, eh, eh2, _⟩ | ⟨kh, eh, eh2⟩
    · subst eh; subst eh2; rw [← hmx em1] at em3; subst em3
      rcases hlo with ⟨_, el, el2⟩ | ⟨kl, _, el, el2⟩
      · subst el; subst el2; simp [Instr.sliceBounds]
      · subst el; simp [Instr.sliceBounds, sliceBound_run el2]
    · subst eh; rw [← hmx em1] at em3; subst em3
      rcases hlo with ⟨_, el, el2⟩ | ⟨kl, _, el, el2⟩
      · subst el; subst el2; simp [Instr.sliceBounds, sliceBound_run eh2]
      · subst el; simp [Instr.sliceBounds, sliceBound_run el2, sliceBound_run eh2]
  · subst em2
    rcases hhi with ⟨_, eh, eh2, e⟩ | ⟨kh, eh, eh2⟩
    · rw [e] at em1; simp at em1
    · subst eh
      rcases hlo with ⟨_, el, el2⟩ | ⟨kl, _, el, el2⟩
      · subst el; subst el2; simp [Instr.sliceBounds, sliceBound_run eh2, sliceBound_run (Nat.le_trans em3 hcc)]
      · subst el; simp [Instr.sliceBounds, sliceBound_run el2, sliceBound_run eh2, sliceBound_run (Nat.le_trans em3 hcc)]
theorem boundsT {isS : Bool} {len cap : Nat} {lo hi mx : Option AV} {lo' hi' mx' : Option Value} {k : Nat → Nat → Nat → Tr} (hlc : len ≤ cap) (h1 : OR ρ lo lo') (h2 : OR ρ hi hi') (h3 : OR ρ mx mx') (h : run (boundsK len cap lo hi mx k) σ K = true) :
    ∃ l hh m, run (k l hh m) σ K = true ∧ (Instr.sliceBounds isS len cap lo' hi' mx').run P w = .ok (l, hh, m) w ∧ l ≤ hh ∧ hh ≤ m ∧ m ≤ cap :=
  boundsT' hlc (Nat.le_refl _) (fun _ => rfl) h1 h2 h3 h
end
end Go.Sim
