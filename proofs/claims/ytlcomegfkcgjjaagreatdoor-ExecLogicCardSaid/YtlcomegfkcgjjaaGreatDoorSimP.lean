/-
  SIM, part P: slices of slices.
-/
import Derived.Test.YtlcomegfkcgjjaaGreatDoorSimO
namespace Go.Sim
open Go.RowKit (Below)
set_option linter.unusedVariables false

section
variable {P : Program} {w0 : World} {ρ : Rho} {w : World} {σ : St} {K : Fin} {k : AV → Tr}

theorem add_or {h : Home} {o n : Nat} {m l : Nat} (ho : h.shift ≤ o) : (if m = l then (⟨h.blk, o - h.shift, none⟩ : Addr) else (⟨h.blk, o - h.shift, none⟩ : Addr).add n) = (if m = l then ⟨h.blk, o - h.shift, none⟩ else ⟨h.blk, o + n - h.shift, none⟩) := by
  rw [add_addr ho]
theorem slcKn_ok {b g o s l h m : Nat} {hm : Home} (hh : ρ.at_ b g = some hm) (ho : hm.shift ≤ o) (hhm : h ≤ m) (hr : run (slcKn b g o s l h m k) σ K = true) :
    ∃ r, run (k r) σ K = true ∧ VR ρ r (.slice (some (if m = l then ⟨hm.blk, o - hm.shift, none⟩ else (⟨hm.blk, o - hm.shift, none⟩ : Addr).add (l * s))) (h - l) (m - l)) := by
  unfold slcKn at hr
  have hr := fNT hr
  have hr := fNT hr
  rcases bif2 hr with ⟨e, hr⟩ | ⟨e, hr⟩
  · have e := beqT e
    refine ⟨_, hr, ?_⟩
    rw [if_pos e]
    exact .slc _ _ _ _ _ _ _ _ ⟨by omega, rfl, hm, hh, ho, rfl⟩
  · have e : ¬ m = l := fun e' => by subst e'; simp at e
    have hr := fNT hr
    refine ⟨_, hr, ?_⟩
    rw [if_neg e, add_addr ho]
    exact .slc _ _ _ _ _ _ _ _ ⟨by omega, rfl, hm, hh, by omega, rfl⟩
theorem slcUn_ok {b g o s l h len c : Nat} {a : Addr} (hs : SlOk ρ b g o len none s a c) (hl : l ≤ h) (hh : h ≤ len) (hr : run (slcUn b g o s l h k) σ K = true) :
    ∃ r, run (k r) σ K = true ∧ VR ρ r (.slice (some (if c = l then a else a.add (l * s))) (h - l) (c - l)) := by
  obtain ⟨hlen, hs⟩ := hs
  unfold slcUn at hr
  have hr := fNT hr
  rcases bif2 hr with ⟨e, hr⟩ | ⟨e, hr⟩
  · have e := beqT e
    subst e
    refine ⟨_, hr, ?_⟩
    have ea : (if c = 0 then a else a.add (0 * s)) = a := by
      split
      · rfl
      · unfold Addr.add; simp
    rw [ea]
    refine .slc _ _ _ _ _ _ _ _ ⟨by omega, ?_⟩
    rcases hs with ⟨h1, h2⟩ | ⟨hm, h1, h2, h3, h4⟩
    · exact .inl ⟨by omega, by omega⟩
    · exact .inr ⟨hm, h1, h2, h3, by simpa using h4⟩
  · have e : ¬ l = 0 := fun e' => by subst e'; simp at e
    have hr := fNT hr
    refine ⟨_, hr, ?_⟩
    refine .slc _ _ _ _ _ _ _ _ ⟨by omega, ?_⟩
    by_cases hc : c = l
    · exact .inl ⟨by omega, by omega⟩
    · rcases hs with ⟨h1, h2⟩ | ⟨hm, h1, h2, h3, h4⟩
      · omega
      · refine .inr ⟨hm, h1, by omega, ?_, ?_⟩
        · rw [if_neg hc, h3, add_addr h2]
        · have : c * s = l * s + (c - l) * s := by rw [← Nat.add_mul]; congr 1; omega
          omega
theorem some_if {α : Type} {p : Prop} [Decidable p] {a b : α} : (if p then some a else some b) = some (if p then a else b) := by split <;> rfl

theorem slice_str {t : TypeId} {s : ByteArray} {lo hi mx : Option AV} {lo' hi' mx' : Option Value} (hS : SI σ) (hG : Good w0 ρ σ.h w) (h1 : OR ρ lo lo') (h2 : OR ρ hi hi') (h3 : OR ρ mx mx')
    (hu : P.underlying t = some .string) (h : run (sliceS (bytesOf s) lo hi mx k) σ K = true) : Res P w0 ρ w k K (Instr.sliceAt t (.string s) lo' hi' mx') := by
  cases mx with
  | some _ => exact (nofail h).elim
  | none =>
    cases mx' with
    | some _ => exact h3.elim
    | none =>
      have hn : (bytesOf s).length = s.size := by unfold bytesOf; rw [List.length_map]; rfl
      unfold sliceS at h
      have h := fNT h
      obtain ⟨l, hh, m, h, hb, hl, hm, hc⟩ := boundsT (P := P) (w := w) (isS := false) (Nat.le_refl _) h1 h2 h3 h
      have h := forceT h
      refine .plain h hS hG (v := .string (s.extract l hh)) ?_ ?_
      · have e : ((bytesOf s).take hh).drop l = bytesOf (s.extract l hh) := by
          unfold bytesOf
          rw [← List.map_take, ← List.map_drop, ByteArray.data_extract, Array.toList_extract, List.extract_eq_take_drop, List.drop_take]
        rw [e]; exact .str _
      · rw [hn] at hb
        simp only [Instr.sliceAt, Instr.slice, Sem.run_bind, run_underlying hu, Result.andThen_ok, Option.isSome_none, Bool.false_eq_true, if_false, Sem.run_pure]
        simp [hb, Result.andThen_ok]
theorem sliceA_ok {t : TypeId} {x : AV} {v : Value} {lo hi mx : Option AV} {lo' hi' mx' : Option Value} (hS : SI σ) (hG : Good w0 ρ σ.h w) (hx : VR ρ x v) (h1 : OR ρ lo lo') (h2 : OR ρ hi hi') (h3 : OR ρ mx mx')
    (h : run (sliceA P t x lo hi mx k) σ K = true) : Res P w0 ρ w k K (Instr.sliceAt t v lo' hi' mx') := by
  obtain ⟨d, hu, h⟩ := undT h
  cases d with
  | array n e =>
    cases hx with
    | ptr b g o hm hh ho =>
      obtain ⟨l, hi, m, h, hb, hl, hhm, hc⟩ := boundsT (P := P) (w := w) (isS := false) (Nat.le_refl _) h1 h2 h3 h
      obtain ⟨j, hj, h⟩ := sizeT h
      obtain ⟨r, h, hr⟩ := slcKn_ok hh ho hhm h
      refine .plain h hS hG hr ?_
      simp only [Instr.sliceAt, Sem.run_bind, run_underlying hu, Result.andThen_ok, Instr.sureAddr, Sem.run_pure, hb, sizeOf_run hj]
    | _ => exact (nofail h).elim
  | string =>
    cases hx with
    | str s => exact slice_str hS hG h1 h2 h3 hu h
    | _ => exact (nofail h).elim
  | slice e =>
    cases hx with
    | nils =>
      obtain ⟨j, hj, h⟩ := sizeT h
      obtain ⟨l, hi, m, h, hb, hl, hhm, hc⟩ := boundsT (P := P) (w := w) (isS := true) (Nat.le_refl _) h1 h2 h3 h
      have : m = 0 := by omega
      subst this
      have : hi = 0 := by omega
      subst this
      have : l = 0 := by omega
      subst this
      refine .plain h hS hG .nils ?_
      simp only [Instr.sliceAt, Instr.slice, Sem.run_bind, run_underlying hu, Result.andThen_ok, Sem.run_pure, hb, sizeOf_run hj, if_true, Nat.sub_self]
    | slc b g o len cap es a c hsl =>
      cases cap with
      | some c' =>
        obtain ⟨j, hj, h⟩ := sizeT h
        obtain ⟨hes, h⟩ := bifT h
        have hes := beqT hes
        obtain ⟨hlen, ec, hm, hh, ho, ea⟩ := hsl
        subst ec; subst ea
        obtain ⟨l, hi, m, h, hb, hl, hhm, hc⟩ := boundsT (P := P) (w := w) (isS := true) hlen h1 h2 h3 h
        obtain ⟨r, h, hr⟩ := slcKn_ok hh ho hhm h
        refine .plain h hS hG hr ?_
        subst hes
        simp only [Instr.sliceAt, Instr.slice, Sem.run_bind, run_underlying hu, Result.andThen_ok, Sem.run_pure, hb, sizeOf_run hj, Option.map_some, some_if]
      | none =>
        obtain ⟨j, hj, h⟩ := sizeT h
        obtain ⟨hes, h⟩ := bifT h
        have hes := beqT hes
        subst hes
        cases mx with
        | none =>
          cases mx' with
          | some _ => exact h3.elim
          | none =>
            unfold sliceUn at h
            obtain ⟨hh, h, hhi⟩ := boundT (d := len) (top := len) h2 h
            obtain ⟨l, h, hlo⟩ := boundT (d := 0) (top := hh) h1 h
            have hle : hh ≤ len := by rcases hhi with ⟨_, _, e⟩ | ⟨_, _, _, e⟩ <;> omega
            have hll : l ≤ hh := by rcases hlo with ⟨_, _, e⟩ | ⟨_, _, _, e⟩ <;> omega
            obtain ⟨r, h, hr⟩ := slcUn_ok hsl hll hle h
            refine .plain h hS hG hr ?_
            have hb : (Instr.sliceBounds true len c lo' hi' none).run P w = .ok (l, hh, c) w := by
              have hcl := hsl.1
              rcases hhi with ⟨_, eh, eh2⟩ | ⟨kh, _, eh, eh2⟩
              · subst eh; subst eh2
                rcases hlo with ⟨_, el, el2⟩ | ⟨kl, _, el, el2⟩
                · subst el; subst el2; simp [Instr.sliceBounds]
                · subst el; simp [Instr.sliceBounds, sliceBound_run el2]
              · subst eh
                rcases hlo with ⟨_, el, el2⟩ | ⟨kl, _, el, el2⟩
                · subst el; subst el2; simp [Instr.sliceBounds, sliceBound_run (Nat.le_trans eh2 hcl)]
                · subst el; simp [Instr.sliceBounds, sliceBound_run el2, sliceBound_run (Nat.le_trans eh2 hcl)]
            simp only [Instr.sliceAt, Instr.slice, Sem.run_bind, run_underlying hu, Result.andThen_ok, Sem.run_pure, hb, sizeOf_run hj, Option.map_some, some_if]
        | some y =>
          obtain ⟨hz, h⟩ := bifF h
          have hz : len ≠ 0 := by intro e; subst e; simp at hz
          obtain ⟨hlc, hs⟩ := hsl
          obtain ⟨l, hi, m, h, hb, hl, hhm, hc⟩ := boundsT' (P := P) (w := w) (isS := true) (Nat.le_refl _) hlc (fun e => by cases e) h1 h2 h3 h
          rcases hs with ⟨h1', h2'⟩ | ⟨hm, hh, ho, ea, hfit⟩
          · omega
          · subst ea
            obtain ⟨r, h, hr⟩ := slcKn_ok hh ho hhm h
            refine .plain h hS hG hr ?_
            simp only [Instr.sliceAt, Instr.slice, Sem.run_bind, run_underlying hu, Result.andThen_ok, Sem.run_pure, hb, sizeOf_run hj, Option.map_some, some_if]
    | _ => exact (nofail h).elim
  | _ => exact (nofail h).elim
end
end Go.Sim
