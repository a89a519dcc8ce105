/-
  SIM, part K: the operators.
-/
import Derived.Test.YtlcomegfkcgjjaaGreatDoorSimJ
namespace Go.Sim
set_option linter.unusedVariables false

section
variable {P : Program} {w0 : World} {ρ : Rho} {w : World} {σ : St} {K : Fin} {k : AV → Tr}

def plainPair : Value → Value → Bool
  | .int _ _, .int _ _ | .float _ _, .float _ _ | .complex _ _ _, .complex _ _ _ | .string _, .string _ => false
  | _, _ => true
theorem binOp_eql {t : TypeId} {v u : Value} (h : plainPair v u = true) : binOp .eql t v u = (do pure (.bool (← Op.equal t v u))) := by
  cases v <;> cases u <;> first | rfl | cases h
theorem binOp_neq {t : TypeId} {v u : Value} (h : plainPair v u = true) : binOp .neq t v u = (do pure (.bool (!(← Op.equal t v u)))) := by
  cases v <;> cases u <;> first | rfl | cases h
/-- What sort of value it is. -/
def sortA : AV → Nat
  | .int _ _ => 1 | .str _ => 2 | .opq _ => 3 | .anyB => 3 | .anyI _ => 3 | .osl _ => 3 | .opc _ => 3 | .agg _ => 4 | .nili => 5 | _ => 0
theorem plainPair_of {x y : AV} {v u : Value} (hx : VR ρ x v) (hy : VR ρ y u) (h1 : sortA x ≠ 3) (h2 : sortA y ≠ 3) (hi : ¬ (sortA x = 1 ∧ sortA y = 1)) (hs : ¬ (sortA x = 2 ∧ sortA y = 2)) : plainPair v u = true := by
  cases hx <;> simp [sortA] at h1 <;> cases hy <;> simp [sortA] at h2 hi hs <;> rfl
def plainG : Value → Value → Bool
  | .nilIface, .nilIface | .agg _, .agg _ => false
  | _, _ => true
theorem eqGuard_of {op : BinOp} {t : TypeId} {ox oy : Operand} {v u : Value} (h : plainG v u = true) : (eqGuard op t ox oy v u).run P w = .ok () w := by
  cases op <;> first | rfl | (cases v <;> cases u <;> first | rfl | cases h)
theorem eqGuard_plain {op : BinOp} {t : TypeId} {ox oy : Operand} {x y : AV} {v u : Value} (hx : VR ρ x v) (hy : VR ρ y u) (h1 : sortA x ≠ 3) (h2 : sortA y ≠ 3) (hn : ¬ (sortA x = 5 ∧ sortA y = 5) ∨ isLit ox = true ∨ isLit oy = true) (ha : ¬ (sortA x = 4 ∧ sortA y = 4)) :
    (eqGuard op t ox oy v u).run P w = .ok () w := by
  rcases hn with hn | hn
  · refine eqGuard_of ?_
    cases hx <;> simp [sortA] at h1 <;> cases hy <;> simp [sortA] at h2 hn ha <;> rfl
  · by_cases h5 : sortA x = 5 ∧ sortA y = 5
    · have e1 : x = .nili := by cases x <;> first | rfl | (simp [sortA] at h5)
      have e2 : y = .nili := by cases y <;> first | rfl | (simp [sortA] at h5)
      subst e1; subst e2
      cases hx; cases hy
      rcases hn with hn | hn
      · cases ox <;> first | (cases hn; done) | skip
        cases op <;> first | rfl | (simp [eqGuard]; done)
      · cases oy <;> first | (cases hn; done) | skip
        cases op <;> first | rfl | (simp [eqGuard]; done)
    · refine eqGuard_of ?_
      cases hx <;> simp [sortA] at h1 <;> cases hy <;> simp [sortA] at h2 h5 ha <;> rfl
theorem eqGuard_agg {op : BinOp} {t : TypeId} {ox oy : Operand} {xs ys : Array Value} (h : P.eqGuardType P.depth t = false) : (eqGuard op t ox oy (.agg xs) (.agg ys)).run P w = .ok () w :=
  run_eqGuard_agg w op t ox oy xs ys h

theorem ltL_bytes : ∀ (x y : List UInt8), ltL (x.map UInt8.toNat) (y.map UInt8.toNat) = Op.bytesLess x y := by
  intro x
  induction x with
  | nil => intro y; cases y <;> simp [ltL, Op.bytesLess]
  | cons a x ih =>
    intro y
    cases y with
    | nil => simp [ltL, Op.bytesLess]
    | cons b y =>
      simp only [List.map_cons, ltL, Op.bytesLess, bif'_eq, ih]
      rw [Bool.eq_iff_iff]
      by_cases h1 : a.toNat < b.toNat
      · have : a < b := UInt8.lt_iff_toNat_lt.mpr h1
        simp [Nat.ble_eq, this]
        left; omega
      · have h1' : ¬ a < b := fun h => h1 (UInt8.lt_iff_toNat_lt.mp h)
        by_cases h2 : a = b
        · subst h2
          simp
          intro h; omega
        · have : a.toNat ≠ b.toNat := fun h => h2 (UInt8.toNat_inj.mp h)
          have hb : Nat.beq a.toNat b.toNat = false := by
            cases hb : Nat.beq a.toNat b.toNat with
            | false => rfl
            | true => exact absurd (beqT hb) this
          have hc : Nat.ble (Nat.succ a.toNat) b.toNat = false := by
            cases hb : Nat.ble (Nat.succ a.toNat) b.toNat with
            | false => rfl
            | true => exact absurd (bleT hb) (by omega)
          simp [hb, hc, h1', h2]
theorem bytesOf_append (s t : ByteArray) : bytesOf (s ++ t) = bytesOf s ++ bytesOf t := by
  simp [bytesOf, ByteArray.data_append]
theorem bytesOf_length (s : ByteArray) : (bytesOf s).length = s.size := by simp [bytesOf]

theorem strBin_ok {op : BinOp} {s t : ByteArray} (hS : SI σ) (hG : Good w0 ρ σ.h w) (h : run (strBinA op (bytesOf s) (bytesOf t) k) σ K = true) :
    Res P w0 ρ w k K (Op.stringOp op s t) := by
  have hlt : ltL (bytesOf s) (bytesOf t) = Op.bytesLess s.toList t.toList := by
    rw [ByteArray.toList_eq, ByteArray.toList_eq]; exact ltL_bytes _ _
  have heq := eqL_bytes s t
  cases op
  case add =>
    have h : run (forceL (bytesOf s ++ bytesOf t) fun l => bif' (Nat.ble (List.length l) 1000000000) (k (.str l)) .fail) σ K = true := h
    obtain ⟨h1, h2⟩ := bifT (forceT h)
    have h1 := bleT h1
    rw [List.length_append, bytesOf_length, bytesOf_length] at h1
    rw [← bytesOf_append] at h2
    refine .plain h2 hS hG (.str _) ?_
    have : ¬ (((s.size + t.size : Nat) : Int) > IntKind.i64.max) := by
      have : IntKind.i64.max = 9223372036854775807 := by decide
      omega
    simp only [Op.stringOp]
    rw [if_neg this]; rfl
  case eql =>
    refine .plain (boolT h) hS hG (.bool _) ?_
    rw [heq]; rfl
  case neq =>
    refine .plain (boolT h) hS hG (.bool _) ?_
    rw [bif'_eq, heq]
    simp only [Op.stringOp, Sem.run_pure]
    congr 2
    cases (s.toList == t.toList) <;> rfl
  case lss =>
    refine .plain (boolT h) hS hG (.bool _) ?_
    rw [hlt]; rfl
  case leq =>
    refine .plain (boolT h) hS hG (.bool _) ?_
    rw [bif'_eq, hlt, heq]
    simp only [Op.stringOp, Sem.run_pure]
    congr 2
    cases Op.bytesLess s.toList t.toList <;> rfl
  case gtr =>
    refine .plain (boolT h) hS hG (.bool _) ?_
    rw [bif'_eq, bif'_eq, hlt, heq]
    simp only [Op.stringOp, Sem.run_pure]
    congr 2
    cases Op.bytesLess s.toList t.toList <;> cases (s.toList == t.toList) <;> rfl
  case geq =>
    refine .plain (boolT h) hS hG (.bool _) ?_
    rw [bif'_eq, hlt]
    simp only [Op.stringOp, Sem.run_pure]
    congr 2
    cases Op.bytesLess s.toList t.toList <;> rfl
  all_goals exact (nofail h).elim

theorem intBin_match {op : BinOp} {j : IntKind} {a b : Int} (hop : op ≠ .shl ∧ op ≠ .shr) {t : TypeId} :
    binOp op t (.int j a) (.int j b) = intRes op j a b := by
  cases op <;> first | exact absurd rfl hop.1 | exact absurd rfl hop.2 | (simp only [binOp]; rw [if_neg (by simp)]; rfl)

theorem sortA_4 {x : AV} (h : sortA x = 4) : ∃ l, x = .agg l := by cases x <;> first | exact ⟨_, rfl⟩ | (simp [sortA] at h)
theorem sortA_1 {x : AV} (h : sortA x = 1) : ∃ j n, x = .int j n := by cases x <;> first | exact ⟨_, _, rfl⟩ | (simp [sortA] at h)
theorem sortA_2 {x : AV} (h : sortA x = 2) : ∃ l, x = .str l := by cases x <;> first | exact ⟨_, rfl⟩ | (simp [sortA] at h)
theorem plainEq_sorts {lit : Bool} {x y : AV} (h : plainEq lit x y = true) : sortA x ≠ 3 ∧ sortA y ≠ 3 ∧ (¬ (sortA x = 5 ∧ sortA y = 5) ∨ lit = true) := by
  cases x <;> cases y <;> first | (cases h; done) | (refine ⟨?_, ?_, .inl ?_⟩ <;> simp [sortA] <;> done) | exact ⟨by simp [sortA], by simp [sortA], .inr h⟩
theorem eqA_agg {f : Nat} {d : TypeDesc} {x y : AV} {r : Bool} (hd : isAggD d = true) (h : eqA P f d x y = some r) : ∃ a b, x = .agg a ∧ y = .agg b := by
  cases f with
  | zero => simp [eqA] at h
  | succ f => unfold eqA at h; split at h <;> first | (cases hd; done) | exact ⟨_, _, rfl, rfl⟩ | (cases h; done)
theorem rel_ok {op : BinOp} {t : TypeId} {ox oy : Operand} {j j' : IntKind} {n m : Int} (hS : SI σ) (hG : Good w0 ρ σ.h w) (h : run (bif' (decide (j = j')) (bif' (relOp op) (k .anyB) .fail) .fail) σ K = true) :
    Res P w0 ρ w k K (do eqGuard op t ox oy (.int j n) (.int j' m); binOp op t (.int j n) (.int j' m)) := by
  obtain ⟨hj, h2⟩ := bifT h
  obtain ⟨hrel, h3⟩ := bifT h2
  have hj2 := of_decide_eq_true hj
  clear h h2 hj
  subst hj2
  have hop : op ≠ .shl ∧ op ≠ .shr := by cases op <;> first | (simp [relOp] at hrel; done) | exact ⟨by simp, by simp⟩
  obtain ⟨b, hb⟩ : ∃ b : Bool, (intRes op j n m).run P w = .ok (.bool b) w := by
    cases op <;> first | (simp [relOp] at hrel; done) | exact ⟨_, rfl⟩
  refine (Res.plain h3 hS hG (.anyB b) hb).of_eq ?_
  rw [Sem.run_bind, eqGuard_of rfl, intBin_match hop]; rfl
set_option maxHeartbeats 1000000 in
theorem binOp_ok {op : BinOp} {t : TypeId} {ox oy : Operand} {x y : AV} {v u : Value} (hS : SI σ) (hG : Good w0 ρ σ.h w) (hx : VR ρ x v) (hy : VR ρ y u) (h : run (binOpA P (bif' (isLit ox) true (isLit oy)) op t x y k) σ K = true) :
    Res P w0 ρ w k K (do eqGuard op t ox oy v u; binOp op t v u) := by
  have lift : ∀ (s : Sem Value), (eqGuard op t ox oy v u).run P w = .ok () w → binOp op t v u = s → Res P w0 ρ w k K s → Res P w0 ρ w k K (do eqGuard op t ox oy v u; binOp op t v u) := fun s h1 h2 h3 =>
    h3.of_eq (by rw [Sem.run_bind, h1, h2]; rfl)
  have eqR : ∀ (d : TypeDesc) (r : Bool), P.underlying t = some d → (isAggD d = true → calmD P 16 t = true) → eqA P 16 d x y = some r → (Op.equal t v u).run P w = .ok r w := fun d r hu hc he =>
    eqA_run 16 16 t d x y v u r 10000 hu hc hx hy he (by omega)
  unfold binOpA at h
  split at h
  · rename_i j a yk b
    cases hx; cases hy
    exact lift (Op.shift _ j a yk b) (eqGuard_of rfl) rfl (shift_ok (jj := yk) hS hG h)
  · rename_i j a yk b
    cases hx; cases hy
    exact lift (Op.shift _ j a yk b) (eqGuard_of rfl) rfl (shift_ok (jj := yk) hS hG h)
  · rename_i n1 n2
    cases hx; cases hy
    obtain ⟨hj, h2⟩ := bifT h
    have hj2 := of_decide_eq_true hj
    clear h hj
    subst hj2
    have hop : op ≠ .shl ∧ op ≠ .shr := ⟨fun e => n1 e, fun e => n2 e⟩
    exact lift _ (eqGuard_of rfl) (intBin_match hop) (intBin_ok hS hG hop h2)
  · cases hx; cases hy
    exact lift _ (eqGuard_of rfl) (by cases op <;> rfl) (strBin_ok hS hG h)
  · obtain ⟨hc, h⟩ := bifT h
    obtain ⟨d, hu, h⟩ := undT h
    obtain ⟨r, hr, h⟩ := oelT h
    rw [bif'_eq] at hc
    have hg : P.eqGuardType P.depth t = false := by
      cases hq : P.eqGuardType P.depth t with
      | false => rfl
      | true => rw [hq] at hc; cases hc
    rw [hg] at hc
    have e := eqR d r hu (fun _ => hc) hr
    cases hx; cases hy
    exact lift _ (eqGuard_agg hg) (binOp_eql rfl) (.plain (boolT h) hS hG (.bool r) (by rw [Sem.run_bind, e]; rfl))
  · obtain ⟨hc, h⟩ := bifT h
    obtain ⟨d, hu, h⟩ := undT h
    obtain ⟨r, hr, h⟩ := oelT h
    rw [bif'_eq] at hc
    have hg : P.eqGuardType P.depth t = false := by
      cases hq : P.eqGuardType P.depth t with
      | false => rfl
      | true => rw [hq] at hc; cases hc
    rw [hg] at hc
    have e := eqR d r hu (fun _ => hc) hr
    cases hx; cases hy
    refine lift _ (eqGuard_agg hg) (binOp_neq rfl) (.plain (boolT h) hS hG (.bool _) (by rw [Sem.run_bind, e]; rw [bif'_eq]; cases r <;> rfl))
  · rename_i n1 n2 n3
    obtain ⟨hp, h⟩ := bifT h
    obtain ⟨d, hu, h⟩ := undT h
    obtain ⟨r, hr, h⟩ := oelT h
    obtain ⟨h1, h2, h3⟩ := plainEq_sorts hp
    have h4 : ¬ (sortA x = 4 ∧ sortA y = 4) := fun ⟨e1, e2⟩ => by
      obtain ⟨a, e1⟩ := sortA_4 e1; obtain ⟨b, e2⟩ := sortA_4 e2; exact n3 _ _ e1 e2
    have h5 : ¬ (sortA x = 1 ∧ sortA y = 1) := fun ⟨e1, e2⟩ => by
      obtain ⟨_, a, e1⟩ := sortA_1 e1; obtain ⟨_, b, e2⟩ := sortA_1 e2; exact n1 _ _ _ _ e1 e2
    have h6 : ¬ (sortA x = 2 ∧ sortA y = 2) := fun ⟨e1, e2⟩ => by
      obtain ⟨a, e1⟩ := sortA_2 e1; obtain ⟨b, e2⟩ := sortA_2 e2; exact n2 _ _ e1 e2
    have hna : isAggD d = true → calmD P 16 t = true := fun hd => by
      obtain ⟨a, b, e1, e2⟩ := eqA_agg hd hr
      exact (n3 _ _ e1 e2).elim
    exact lift _ (eqGuard_plain hx hy h1 h2 (h3.imp id fun hl => by rw [bif'_eq] at hl; split at hl <;> first | exact .inl ‹_› | exact .inr hl) h4) (binOp_eql (plainPair_of hx hy h1 h2 h5 h6)) (.plain (boolT h) hS hG (.bool r) (by rw [Sem.run_bind, eqR d r hu hna hr]; rfl))
  · rename_i n1 n2 n3
    obtain ⟨hp, h⟩ := bifT h
    obtain ⟨d, hu, h⟩ := undT h
    obtain ⟨r, hr, h⟩ := oelT h
    obtain ⟨h1, h2, h3⟩ := plainEq_sorts hp
    have h4 : ¬ (sortA x = 4 ∧ sortA y = 4) := fun ⟨e1, e2⟩ => by
      obtain ⟨a, e1⟩ := sortA_4 e1; obtain ⟨b, e2⟩ := sortA_4 e2; exact n3 _ _ e1 e2
    have h5 : ¬ (sortA x = 1 ∧ sortA y = 1) := fun ⟨e1, e2⟩ => by
      obtain ⟨_, a, e1⟩ := sortA_1 e1; obtain ⟨_, b, e2⟩ := sortA_1 e2; exact n1 _ _ _ _ e1 e2
    have h6 : ¬ (sortA x = 2 ∧ sortA y = 2) := fun ⟨e1, e2⟩ => by
      obtain ⟨a, e1⟩ := sortA_2 e1; obtain ⟨b, e2⟩ := sortA_2 e2; exact n2 _ _ e1 e2
    have hna : isAggD d = true → calmD P 16 t = true := fun hd => by
      obtain ⟨a, b, e1, e2⟩ := eqA_agg hd hr
      exact (n3 _ _ e1 e2).elim
    exact lift _ (eqGuard_plain hx hy h1 h2 (h3.imp id fun hl => by rw [bif'_eq] at hl; split at hl <;> first | exact .inl ‹_› | exact .inr hl) h4) (binOp_neq (plainPair_of hx hy h1 h2 h5 h6)) (.plain (boolT h) hS hG (.bool _) (by rw [Sem.run_bind, eqR d r hu hna hr]; rw [bif'_eq]; cases r <;> rfl))
  · rename_i n
    obtain ⟨hn, h⟩ := bifT h
    have hn := of_decide_eq_true hn
    subst hn
    cases hx with
    | anyI _ a =>
      cases hy
      have hp := pick_ok (n := 4) h
      have hlt : Nat.land (toU (modulus .i64) a) (toU (modulus .i64) 3) < 4 := by
        show (toU (modulus .i64) a) &&& 3 < 2 ^ 2
        exact Nat.and_lt_two_pow _ (by decide)
      have hw : IntKind.wrap .i64 (Int.ofNat (Nat.land (toU (modulus .i64) a) (toU (modulus .i64) 3))) = Int.ofNat (Nat.land (toU (modulus .i64) a) (toU (modulus .i64) 3)) := by
        generalize Nat.land (toU (modulus .i64) a) (toU (modulus .i64) 3) = m at hlt
        have : m = 0 ∨ m = 1 ∨ m = 2 ∨ m = 3 := by omega
        rcases this with rfl | rfl | rfl | rfl <;> rfl
      exact lift (intRes .and .i64 a 3) (eqGuard_of rfl) (intBin_match (op := .and) ⟨by simp, by simp⟩) (.plain (hp _ (.inr hlt) (fun h => absurd h (by omega))) hS hG (.int _ _) (by
        show (Op.intBits .and .i64 a 3).run P w = _
        rw [(intBits_run P w .i64 a 3).1, hw]))
  · cases hx; cases hy
    exact rel_ok hS hG h
  · exact (nofail h).elim

theorem unOp_ok {op : UnOp} {x : AV} {v : Value} (hS : SI σ) (hG : Good w0 ρ σ.h w) (hx : VR ρ x v) (h : run (unOpA op x k) σ K = true) : Res P w0 ρ w k K (Op.unary op v) := by
  unfold unOpA at h
  split at h
  · cases hx; exact .plain (wrapT h) hS hG (.int _ _) rfl
  · rename_i j n
    cases hx
    exact .plain (wrapT h) hS hG (.int _ _) (intBits_run P w j (if j.signed then -1 else j.max) n).2.2.1
  · cases hx
    refine .plain (boolT h) hS hG (.bool _) ?_
    rename_i b
    rw [bif'_eq]; cases b <;> rfl
  · exact (nofail h).elim
end
end Go.Sim
