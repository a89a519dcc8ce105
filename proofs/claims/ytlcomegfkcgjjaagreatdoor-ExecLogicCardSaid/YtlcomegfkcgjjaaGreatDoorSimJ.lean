/-
  SIM, part J: equality, strings, the two-sided and one-sided operators.
-/
import Derived.Test.YtlcomegfkcgjjaaGreatDoorSimI
import Derived.DeepKeys
namespace Go.Sim
set_option linter.unusedVariables false

theorem LR.drop {ρ : Rho} {l : List AV} {vs : List Value} (h : LR ρ l vs) (n : Nat) : LR ρ (l.drop n) (vs.drop n) :=
  ⟨by simp [h.1], fun i a v ha hv => h.2 (n + i) a v (by simpa using ha) (by simpa using hv)⟩
theorem LR.take {ρ : Rho} {l : List AV} {vs : List Value} (h : LR ρ l vs) (n : Nat) : LR ρ (l.take n) (vs.take n) := by
  refine ⟨by simp [h.1], fun i a v ha hv => ?_⟩
  rw [List.getElem?_take] at ha hv
  split at ha
  · rename_i hi; rw [if_pos hi] at hv; exact h.2 i a v ha hv
  · cases ha

section
variable {P : Program} {w0 : World} {ρ : Rho} {w : World} {σ : St} {K : Fin} {k : AV → Tr}

theorem undT {t : TypeId} {k : TypeDesc → Tr} (h : run (undK P t k) σ K = true) : ∃ d, P.underlying t = some d ∧ run (k d) σ K = true := oelT h
theorem infoT {t : TypeId} {k : TypeInfo → Tr} (h : run (infoK P t k) σ K = true) : ∃ i, P.info? t = some i ∧ run (k i) σ K = true := oelT h
theorem sizeT {t : TypeId} {k : Nat → Tr} (h : run (sizeK P t k) σ K = true) : ∃ i, P.info? t = some i ∧ run (k i.size) σ K = true := by
  obtain ⟨i, h1, h2⟩ := oelT (k := fun i : TypeInfo => fN i.size k) h
  exact ⟨i, h1, fNT h2⟩
theorem isAgg_run {t : TypeId} {d : TypeDesc} (h : P.underlying t = some d) : (isAgg t).run P w = .ok (isAggD d) w := by
  simp only [isAgg, Sem.run_bind, run_underlying h, Result.andThen_ok]
  cases d <;> rfl
theorem sizeOf_run {t : TypeId} {i : TypeInfo} (h : P.info? t = some i) : (sizeOf t).run P w = .ok i.size w := by
  simp [sizeOf, typeInfo, Sem.run_bind, run_program, h]
theorem part_run {t : TypeId} {d : TypeDesc} {i : TypeInfo} (hu : P.underlying t = some d) (hi : P.info? t = some i) {l : List AV} {cs : Array Value} {off : Nat} {a : AV} (hl : LR ρ l cs.toList)
    (ha : (if isAggD d then some (AV.agg ((l.drop off).take i.size)) else l[off]?) = some a) : ∃ v, (part t cs off).run P w = .ok v w ∧ VR ρ a v := by
  cases hd : isAggD d with
  | true =>
    rw [hd, if_pos rfl] at ha
    injection ha with ha; subst ha
    refine ⟨.agg (cs.extract off (off + i.size)), ?_, ?_⟩
    · simp only [part, Sem.run_bind, isAgg_run hu, hd, Result.andThen_ok, if_true, sizeOf_run hi, Sem.run_pure]
    · have : (cs.extract off (off + i.size)).toList = (cs.toList.drop off).take i.size := by
        rw [Array.toList_extract]; simp [List.extract]
      obtain ⟨h1, h2⟩ := LR.arr (ρ := ρ) (l := (l.drop off).take i.size) (cs := cs.extract off (off + i.size)) (by rw [this]; exact (hl.drop off).take i.size)
      exact .agg _ _ h1 h2
  | false =>
    rw [hd, if_neg (by simp)] at ha
    obtain ⟨v, hv, hr⟩ := hl.get ha
    refine ⟨v, ?_, hr⟩
    have hv' : cs[off]? = some v := by simpa using hv
    simp only [part, Sem.run_bind, isAgg_run hu, hd, Result.andThen_ok, Bool.false_eq_true, if_false, hv', Sem.run_pure]

set_option maxHeartbeats 2000000 in
theorem eqA_run : ∀ (f : Nat) (g : Nat) (t : TypeId) (d : TypeDesc) (x y : AV) (v u : Value) (r : Bool) (D : Nat), P.underlying t = some d → (isAggD d = true → calmD P g t = true) →
    VR ρ x v → VR ρ y u → eqA P f d x y = some r → f ≤ D → (Op.equalIn D t v u).run P w = .ok r w := by
  intro f
  induction f with
  | zero => intro g t d x y v u r D _ _ _ _ h; simp [eqA] at h
  | succ f ih =>
    intro g t d x y v u r D hu hc hx hy h hD
    obtain ⟨D, rfl⟩ : ∃ D', D = D' + 1 := ⟨D - 1, by omega⟩
    unfold eqA at h
    split at h
    · cases hx; cases hy; injection h with h; subst h; simp [Op.equalIn, run_underlying hu]
    · cases hx; cases hy
      split at h
      · rename_i e; subst e; injection h with h; subst h; simp [Op.equalIn, run_underlying hu]
      · cases h
    · cases hx; cases hy; injection h with h; subst h
      rw [eqL_bytes, ← beq_toListBytes]; simp [Op.equalIn, run_underlying hu]
    all_goals first
      | (cases hx <;> cases hy <;> (injection h with h; subst h; simp [Op.equalIn, run_underlying hu]; done))
      | skip
    · -- addresses
      rename_i e b g' o b' g2 o'
      split at h
      · rename_i hbg
        obtain ⟨e1, e2⟩ := hbg
        subst e1; subst e2
        split at h
        · rename_i i hi
          split at h
          · cases h
          · rename_i hsz
            injection h with h; subst h
            cases hx with
            | ptr _ _ _ hm hh ho =>
              cases hy with
              | ptr _ _ _ hm2 hh2 ho2 =>
                rw [hh] at hh2; injection hh2 with hh2; subst hh2
                have e3 : ((⟨hm.blk, o - hm.shift, none⟩ : Addr) == ⟨hm.blk, o' - hm.shift, none⟩) = (o == o') := by
                  by_cases e4 : o = o'
                  · subst e4; simp
                  · have h1 : (o == o') = false := by simpa using e4
                    rw [h1]
                    cases hb : ((⟨hm.blk, o - hm.shift, none⟩ : Addr) == ⟨hm.blk, o' - hm.shift, none⟩) with
                    | false => rfl
                    | true =>
                      have := eq_of_beq hb
                      injection this with _ h2 _
                      omega
                simp [Op.equalIn, run_underlying hu, sizeOf_run hi, hsz, sameAddr, e3]
        · cases h
      · cases h
    · -- interfaces
      rename_i ms t1 a t2 b
      cases hx with
      | iface _ _ va hva =>
        cases hy with
        | iface _ _ vb hvb =>
          split at h
          · rename_i e
            subst e
            split at h
            · rename_i i d' hi hd'
              split at h
              · rename_i hc'
                simp only [Bool.and_eq_true, Bool.not_eq_true'] at hc'
                have := ih g t1 d' a b va vb r D hd' (fun hq => by rw [hc'.2] at hq; cases hq) hva hvb h (by omega)
                simp [Op.equalIn, run_underlying hu, typeInfo, run_program, hi, hc'.1, this]
              · cases h
            · cases h
          · rename_i e
            injection h with h; subst h
            simp [Op.equalIn, run_underlying hu, e]
    · -- arrays
      rename_i len e xs ys
      split at h
      · rename_i i d' hi he
        split at h
        · rename_i hc'
          simp only [Bool.and_eq_true, beq_iff_eq, Bool.not_eq_true', decide_eq_true_eq] at hc'
          obtain ⟨⟨⟨hs1, hna⟩, hlx⟩, hly⟩ := hc'
          cases hx with
          | agg _ cs h1 h2 =>
            cases hy with
            | agg _ ds k1 k2 =>
              rw [run_equalIn_array w D cs ds hu hi]
              have hsz : P.cellsOf e = 1 := by simp [Program.cellsOf, hi, hs1]
              rw [hsz]
              have lx := LR.of_arr h1 h2
              have ly := LR.of_arr k1 k2
              have key : ∀ (n i0 : Nat) (xs' ys' : List AV) (r : Bool), LR ρ xs' (cs.toList.drop i0) → LR ρ ys' (ds.toList.drop i0) → xs'.length = n → ys'.length = n → eqA.eqArr (eqA P f d') xs' ys' = some r →
                  (Op.eqItems D e 1 cs ds (List.range' i0 n)).run P w = .ok r w := by
                intro n
                induction n with
                | zero =>
                  intro i0 xs' ys' r lx ly l1 l2 h
                  rw [List.length_eq_zero_iff] at l1 l2; subst l1; subst l2
                  simp only [eqA.eqArr] at h; injection h with h; subst h
                  simp [Op.eqItems]
                | succ n ihn =>
                  intro i0 xs' ys' r lx ly l1 l2 h
                  cases xs' with
                  | nil => simp at l1
                  | cons a xs' =>
                    cases ys' with
                    | nil => simp at l2
                    | cons b ys' =>
                      obtain ⟨v1, vs1, e1, r1, lx'⟩ := lx.cons_inv
                      obtain ⟨u1, us1, e2, r2, ly'⟩ := ly.cons_inv
                      have hv1 : cs[i0]? = some v1 := by
                        have := congrArg (·[0]?) e1; simpa using this
                      have hu1 : ds[i0]? = some u1 := by
                        have := congrArg (·[0]?) e2; simpa using this
                      have lx2 : LR ρ xs' (cs.toList.drop (i0 + 1)) := by
                        have : cs.toList.drop (i0 + 1) = vs1 := by rw [← List.drop_drop, Nat.add_comm] at *; have := congrArg (List.drop 1) e1; simpa [List.drop_drop, Nat.add_comm] using this
                        rw [this]; exact lx'
                      have ly2 : LR ρ ys' (ds.toList.drop (i0 + 1)) := by
                        have : ds.toList.drop (i0 + 1) = us1 := by have := congrArg (List.drop 1) e2; simpa [List.drop_drop, Nat.add_comm] using this
                        rw [this]; exact ly'
                      have p1 : (part e cs (i0 * 1)).run P w = .ok v1 w := by
                        simp only [Nat.mul_one, part, Sem.run_bind, isAgg_run he, hna, Result.andThen_ok, Bool.false_eq_true, if_false, hv1, Sem.run_pure]
                      have p2 : (part e ds (i0 * 1)).run P w = .ok u1 w := by
                        simp only [Nat.mul_one, part, Sem.run_bind, isAgg_run he, hna, Result.andThen_ok, Bool.false_eq_true, if_false, hu1, Sem.run_pure]
                      simp only [eqA.eqArr] at h
                      simp only [List.range'_succ, Op.eqItems, Sem.run_bind, p1, p2, Result.andThen_ok]
                      split at h
                      · rename_i hq
                        rw [ih g e d' a b v1 u1 true D he (by rw [hna]; intro c; cases c) r1 r2 hq (by omega)]
                        simp only [Result.andThen_ok, Bool.not_true, Bool.false_eq_true, if_false]
                        exact ihn (i0 + 1) xs' ys' r lx2 ly2 (by simpa using l1) (by simpa using l2) h
                      · rename_i hq
                        cases r with
                        | true => exact absurd h hq
                        | false =>
                          rw [ih g e d' a b v1 u1 false D he (by rw [hna]; intro c; cases c) r1 r2 h (by omega)]
                          simp
              rw [List.range_eq_range']
              exact key len 0 xs ys r (by simpa using lx) (by simpa using ly) hlx hly h
        · cases h
      · cases h
    · -- structs
      rename_i fs xs ys
      cases hx with
      | agg _ cs h1 h2 =>
        cases hy with
        | agg _ ds k1 k2 =>
          have hcalm := hc rfl
          obtain ⟨g, rfl⟩ : ∃ g', g = g' + 1 := by
            cases g with
            | zero => simp [calmD] at hcalm
            | succ g => exact ⟨g, rfl⟩
          simp only [calmD, hu, Bool.and_eq_true, Bool.not_eq_true', List.all_eq_true] at hcalm
          have hfs : P.fieldsOf t = fs := by simp [Program.fieldsOf, hu]
          rw [run_equalIn_struct w D t cs ds (by rw [hfs]; exact hu) hcalm.1, hfs]
          have lx := LR.of_arr h1 h2
          have ly := LR.of_arr k1 k2
          have key : ∀ (l : List Field) (r : Bool), (∀ fd ∈ l, calmD P g fd.type = true) → eqA.eqFs P (eqA P f) l xs ys = some r → (Op.eqFields D cs ds l).run P w = .ok r w := by
            intro l
            induction l with
            | nil => intro r _ h; simp only [eqA.eqFs] at h; injection h with h; subst h; simp [Op.eqFields]
            | cons fd l ihl =>
              intro r hl h
              simp only [eqA.eqFs] at h
              simp only [Op.eqFields]
              by_cases hn : fd.name = "_"
              · rw [if_pos hn] at h
                rw [if_neg (by simp [hn])]
                exact ihl r (fun x hx => hl x (by simp [hx])) h
              · rw [if_neg hn] at h
                rw [if_pos hn]
                split at h
                · rename_i i d' hi he
                  split at h
                  · rename_i a b ha hb
                    obtain ⟨v1, p1, r1⟩ := part_run (w := w) he hi lx ha
                    obtain ⟨u1, p2, r2⟩ := part_run (w := w) he hi ly hb
                    simp only [Sem.run_bind, p1, p2, Result.andThen_ok]
                    split at h
                    · rename_i hq
                      rw [ih g fd.type d' a b v1 u1 true D he (fun _ => hl fd (by simp)) r1 r2 hq (by omega)]
                      simp only [Result.andThen_ok, Bool.not_true, Bool.false_eq_true, if_false]
                      exact ihl r (fun x hx => hl x (by simp [hx])) h
                    · rename_i hq
                      cases r with
                      | true => exact absurd h hq
                      | false =>
                        rw [ih g fd.type d' a b v1 u1 false D he (fun _ => hl fd (by simp)) r1 r2 h (by omega)]
                        simp
                  · cases h
                · cases h
          exact key fs.toList r (fun fd hfd => hcalm.2 fd hfd) h
    · cases h
end
end Go.Sim
