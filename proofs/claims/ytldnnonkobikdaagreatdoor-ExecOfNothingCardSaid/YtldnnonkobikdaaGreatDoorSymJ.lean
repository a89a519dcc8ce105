/- SYM, part J: equality, strings, the two-sided and one-sided operators; SYM, part K: the operators. -/
import Derived.Test.YtldnnonkobikdaaGreatDoorSymG
import Derived.DeepKeys
namespace Go.Sym
set_option linter.unusedVariables false
theorem LR.drop {ρ : Rho} {l : List AV} {vs : List Value} (h : LR ρ l vs) (n : Nat) : LR ρ (l.drop n) (vs.drop n) :=
  ⟨by simp [h.1], fun i a v ha hv => h.2 (n + i) a v (by simpa using ha) (by simpa using hv)⟩
theorem LR.take {ρ : Rho} {l : List AV} {vs : List Value} (h : LR ρ l vs) (n : Nat) : LR ρ (l.take n) (vs.take n) := by
  refine ⟨by simp [h.1], fun i a v ha hv => ?_⟩
  rw [List.getElem?_take] at ha hv
  split at ha
  · rename_i hi; rw [if_pos hi] at hv; exact h.2 i a v ha hv
  · cases ha
section
variable {P : Program} {w0 : World} {ρ : Rho} {w : World} {σ : St} {K : Fin} {k : AV → Tr}
theorem undT {t : TypeId} {k : TypeDesc → Tr} (h : run (undK P t k) σ K = true) : ∃ d, P.underlying t = some d ∧ run (k d) σ K = true := oelT h
theorem infoT {t : TypeId} {k : TypeInfo → Tr} (h : run (infoK P t k) σ K = true) : ∃ i, P.info? t = some i ∧ run (k i) σ K = true := oelT h
theorem sizeT {t : TypeId} {k : Nat → Tr} (h : run (sizeK P t k) σ K = true) : ∃ i, P.info? t = some i ∧ run (k i.size) σ K = true := by
  obtain ⟨i, h1, h2⟩ := oelT (k := fun i : TypeInfo => fN i.size k) h
  exact ⟨i, h1, fNT h2⟩
theorem isAgg_run {t : TypeId} {d : TypeDesc} (h : P.underlying t = some d) : (isAgg t).run P w = .ok (isAggD d) w := by
  simp only [isAgg, Sem.run_bind, run_underlying h, Result.andThen_ok]
  cases d <;> rfl
theorem sizeOf_run {t : TypeId} {i : TypeInfo} (h : P.info? t = some i) : (sizeOf t).run P w = .ok i.size w := by
  simp [sizeOf, typeInfo, Sem.run_bind, run_program, h]
theorem part_run {t : TypeId} {d : TypeDesc} {i : TypeInfo} (hu : P.underlying t = some d) (hi : P.info? t = some i) {l : List AV} {cs : Array Value} {off : Nat} {a : AV} (hl : LR ρ l cs.toList)
    (ha : (if isAggD d then some (AV.agg ((l.drop off).take i.size)) else l[off]?) = some a) : ∃ v, (part t cs off).run P w = .ok v w ∧ VR ρ a v := by
  cases hd : isAggD d with
  | true =>
    rw [hd, if_pos rfl] at ha
    injection ha with ha; subst ha
    refine ⟨.agg (cs.extract off (off + i.size)), ?_, ?_⟩
    · simp only [part, Sem.run_bind, isAgg_run hu, hd, Result.andThen_ok, if_true, sizeOf_run hi, Sem.run_pure]
    · have : (cs.extract off (off + i.size)).toList = (cs.toList.drop off).take i.size := by
        rw [Array.toList_extract]; simp [List.extract]
      obtain ⟨h1, h2⟩ := LR.arr (ρ := ρ) (l := (l.drop off).take i.size) (cs := cs.extract off (off + i.size)) (by rw [this]; exact (hl.drop off).take i.size)
      exact .agg _ _ h1 h2
  | false =>
    rw [hd, if_neg (by simp)] at ha
    obtain ⟨v, hv, hr⟩ := hl.get ha
    refine ⟨v, ?_, hr⟩
    have hv' : cs[off]? = some v := by simpa using hv
    simp only [part, Sem.run_bind, isAgg_run hu, hd, Result.andThen_ok, Bool.false_eq_true, if_false, hv', Sem.run_pure]
set_option maxHeartbeats 2000000 in
theorem eqA_run : ∀ (f : Nat) (g : Nat) (t : TypeId) (d : TypeDesc) (x y : AV) (v u : Value) (r : Bool) (D : Nat), P.underlying t = some d → (isAggD d = true → calmD P g t = true) →
    VR ρ x v → VR ρ y u → eqA P f d x y = some r → f ≤ D → (Op.equalIn D t v u).run P w = .ok r w := by
  intro f
  induction f with
  | zero => intro g t d x y v u r D _ _ _ _ h; simp [eqA] at h
  | succ f ih =>
    intro g t d x y v u r D hu hc hx hy h hD
    obtain ⟨D, rfl⟩ : ∃ D', D = D' + 1 := ⟨D - 1, by omega⟩
    unfold eqA at h
    split at h
    · cases hx; cases hy; injection h with h; subst h; simp [Op.equalIn, run_underlying hu]
    · cases hx; cases hy
      split at h
      · rename_i e; subst e; injection h with h; subst h; simp [Op.equalIn, run_underlying hu]
      · cases h
    · cases hx; cases hy; injection h with h; subst h
      rw [eqL_bytes, ← beq_toListBytes]; simp [Op.equalIn, run_underlying hu]
    all_goals first
      | (cases hx <;> cases hy <;> (injection h with h; subst h; simp [Op.equalIn, run_underlying hu]; done))
      | skip
    · -- addresses
      rename_i e b g' o b' g2 o'
      split at h
      · rename_i hbg
        obtain ⟨e1, e2⟩ := hbg
        subst e1; subst e2
        split at h
        · rename_i i hi
          split at h
          · cases h
          · rename_i hsz
            injection h with h; subst h
            cases hx with
            | ptr _ _ _ hm hh ho =>
              cases hy with
              | ptr _ _ _ hm2 hh2 ho2 =>
                rw [hh] at hh2; injection hh2 with hh2; subst hh2
                have e3 : ((⟨hm.blk, o - hm.shift, none⟩ : Addr) == ⟨hm.blk, o' - hm.shift, none⟩) = (o == o') := by
                  by_cases e4 : o = o'
                  · subst e4; simp
                  · have h1 : (o == o') = false := by simpa using e4
                    rw [h1]
                    cases hb : ((⟨hm.blk, o - hm.shift, none⟩ : Addr) == ⟨hm.blk, o' - hm.shift, none⟩) with
                    | false => rfl
                    | true =>
                      have := eq_of_beq hb
                      injection this with _ h2 _
                      omega
                simp [Op.equalIn, run_underlying hu, sizeOf_run hi, hsz, sameAddr, e3]
        · cases h
      · cases h
    · -- interfaces
      rename_i ms t1 a t2 b
      cases hx with
      | iface _ _ va hva =>
        cases hy with
        | iface _ _ vb hvb =>
          split at h
          · rename_i e
            subst e
            split at h
            · rename_i i d' hi hd'
              split at h
              · rename_i hc'
                simp only [Bool.and_eq_true, Bool.not_eq_true'] at hc'
                have := ih g t1 d' a b va vb r D hd' (fun hq => by rw [hc'.2] at hq; cases hq) hva hvb h (by omega)
                simp [Op.equalIn, run_underlying hu, typeInfo, run_program, hi, hc'.1, this]
              · cases h
            · cases h
          · rename_i e
            injection h with h; subst h
            simp [Op.equalIn, run_underlying hu, e]
    · -- arrays
      rename_i len e xs ys
      split at h
      · rename_i i d' hi he
        split at h
        · rename_i hc'
          simp only [Bool.and_eq_true, beq_iff_eq, Bool.not_eq_true', decide_eq_true_eq] at hc'
          obtain ⟨⟨⟨hs1, hna⟩, hlx⟩, hly⟩ := hc'
          cases hx with
          | agg _ cs h1 h2 =>
            cases hy with
            | agg _ ds k1 k2 =>
              rw [run_equalIn_array w D cs ds hu hi]
              have hsz : P.cellsOf e = 1 := by simp [Program.cellsOf, hi, hs1]
              rw [hsz]
              have lx := LR.of_arr h1 h2
              have ly := LR.of_arr k1 k2
              have key : ∀ (n i0 : Nat) (xs' ys' : List AV) (r : Bool), LR ρ xs' (cs.toList.drop i0) → LR ρ ys' (ds.toList.drop i0) → xs'.length = n → ys'.length = n → eqA.eqArr (eqA P f d') xs' ys' = some r →
                  (Op.eqItems D e 1 cs ds (List.range' i0 n)).run P w = .ok r w := by
                intro n
                induction n with
                | zero =>
                  intro i0 xs' ys' r lx ly l1 l2 h
                  rw [List.length_eq_zero_iff] at l1 l2; subst l1; subst l2
                  simp only [eqA.eqArr] at h; injection h with h; subst h
                  simp [Op.eqItems]
                | succ n ihn =>
                  intro i0 xs' ys' r lx ly l1 l2 h
                  cases xs' with
                  | nil => simp at l1
                  | cons a xs' =>
                    cases ys' with
                    | nil => simp at l2
                    | cons b ys' =>
                      obtain ⟨v1, vs1, e1, r1, lx'⟩ := lx.cons_inv
                      obtain ⟨u1, us1, e2, r2, ly'⟩ := ly.cons_inv
                      have hv1 : cs[i0]? = some v1 := by
                        have := congrArg (·[0]?) e1; simpa using this
                      have hu1 : ds[i0]? = some u1 := by
                        have := congrArg (·[0]?) e2; simpa using this
                      have lx2 : LR ρ xs' (cs.toList.drop (i0 + 1)) := by
                        have : cs.toList.drop (i0 + 1) = vs1 := by rw [← List.drop_drop, Nat.add_comm] at *; have := congrArg (List.drop 1) e1; simpa [List.drop_drop, Nat.add_comm] using this
                        rw [this]; exact lx'
                      have ly2 : LR ρ ys' (ds.toList.drop (i0 + 1)) := by
                        have : ds.toList.drop (i0 + 1) = us1 := by have := congrArg (List.drop 1) e2; simpa [List.drop_drop, Nat.add_comm] using this
                        rw [this]; exact ly'
                      have p1 : (part e cs (i0 * 1)).run P w = .ok v1 w := by
                        simp only [Nat.mul_one, part, Sem.run_bind, isAgg_run he, hna, Result.andThen_ok, Bool.false_eq_true, if_false, hv1, Sem.run_pure]
                      have p2 : (part e ds (i0 * 1)).run P w = .ok u1 w := by
                        simp only [Nat.mul_one, part, Sem.run_bind, isAgg_run he, hna, Result.andThen_ok, Bool.false_eq_true, if_false, hu1, Sem.run_pure]
                      simp only [eqA.eqArr] at h
                      simp only [List.range'_succ, Op.eqItems, Sem.run_bind, p1, p2, Result.andThen_ok]
                      split at h
                      · rename_i hq
                        rw [ih g e d' a b v1 u1 true D he (by rw [hna]; intro c; cases c) r1 r2 hq (by omega)]
                        simp only [Result.andThen_ok, Bool.not_true, Bool.false_eq_true, if_false]
                        exact ihn (i0 + 1) xs' ys' r lx2 ly2 (by simpa using l1) (by simpa using l2) h
                      · rename_i hq
                        cases r with
                        | true => exact absurd h hq
                        | false =>
                          rw [ih g e d' a b v1 u1 false D he (by rw [hna]; intro c; cases c) r1 r2 h (by omega)]
                          simp
              rw [List.range_eq_range']
              exact key len 0 xs ys r (by simpa using lx) (by simpa using ly) hlx hly h
        · cases h
      · cases h
    · -- structs
      rename_i fs xs ys
      cases hx with
      | agg _ cs h1 h2 =>
        cases hy with
        | agg _ ds k1 k2 =>
          have hcalm := hc rfl
          obtain ⟨g, rfl⟩ : ∃ g', g = g' + 1 := by
            cases g with
            | zero => simp [calmD] at hcalm
            | succ g => exact ⟨g, rfl⟩
          simp only [calmD, hu, Bool.and_eq_true, Bool.not_eq_true', List.all_eq_true] at hcalm
          have hfs : P.fieldsOf t = fs := by simp [Program.fieldsOf, hu]
          rw [run_equalIn_struct w D t cs ds (by rw [hfs]; exact hu) hcalm.1, hfs]
          have lx := LR.of_arr h1 h2
          have ly := LR.of_arr k1 k2
          have key : ∀ (l : List Field) (r : Bool), (∀ fd ∈ l, calmD P g fd.type = true) → eqA.eqFs P (eqA P f) l xs ys = some r → (Op.eqFields D cs ds l).run P w = .ok r w := by
            intro l
            induction l with
            | nil => intro r _ h; simp only [eqA.eqFs] at h; injection h with h; subst h; simp [Op.eqFields]
            | cons fd l ihl =>
              intro r hl h
              simp only [eqA.eqFs] at h
              simp only [Op.eqFields]
              by_cases hn : fd.name = "_"
              · rw [if_pos hn] at h
                rw [if_neg (by simp [hn])]
                exact ihl r (fun x hx => hl x (by simp [hx])) h
              · rw [if_neg hn] at h
                rw [if_pos hn]
                split at h
                · rename_i i d' hi he
                  split at h
                  · rename_i a b ha hb
                    obtain ⟨v1, p1, r1⟩ := part_run (w := w) he hi lx ha
                    obtain ⟨u1, p2, r2⟩ := part_run (w := w) he hi ly hb
                    simp only [Sem.run_bind, p1, p2, Result.andThen_ok]
                    split at h
                    · rename_i hq
                      rw [ih g fd.type d' a b v1 u1 true D he (fun _ => hl fd (by simp)) r1 r2 hq (by omega)]
                      simp only [Result.andThen_ok, Bool.not_true, Bool.false_eq_true, if_false]
                      exact ihl r (fun x hx => hl x (by simp [hx])) h
                    · rename_i hq
                      cases r with
                      | true => exact absurd h hq
                      | false =>
                        rw [ih g fd.type d' a b v1 u1 false D he (fun _ => hl fd (by simp)) r1 r2 h (by omega)]
                        simp
                  · cases h
                · cases h
          exact key fs.toList r (fun fd hfd => hcalm.2 fd hfd) h
    · cases h
end
end Go.Sym
namespace Go.Sym
set_option linter.unusedVariables false
section
variable {P : Program} {w0 : World} {ρ : Rho} {w : World} {σ : St} {K : Fin} {k : AV → Tr}
def plainPair : Value → Value → Bool
  | .int _ _, .int _ _ | .float _ _, .float _ _ | .complex _ _ _, .complex _ _ _ | .string _, .string _ => false
  | _, _ => true
theorem binOp_eql {t : TypeId} {v u : Value} (h : plainPair v u = true) : binOp .eql t v u = (do pure (.bool (← Op.equal t v u))) := by
  cases v <;> cases u <;> first | rfl | cases h
theorem binOp_neq {t : TypeId} {v u : Value} (h : plainPair v u = true) : binOp .neq t v u = (do pure (.bool (!(← Op.equal t v u)))) := by
  cases v <;> cases u <;> first | rfl | cases h
def sortA : AV → Nat
  | .int _ _ => 1 | .str _ => 2 | .opq _ => 3 | .anyB => 3 | .anyI _ => 3 | .osl _ => 3 | .opc _ => 3 | .sI _ _ => 3 | .sB _ => 3 | .sS _ => 3 | .any1 => 3 | .cptr _ => 3 | .cv _ => 3 | .gsl .. => 3 | .gptr .. => 3 | .agg _ => 4 | .nili => 5 | _ => 0
theorem plainPair_of {x y : AV} {v u : Value} (hx : VR ρ x v) (hy : VR ρ y u) (h1 : sortA x ≠ 3) (h2 : sortA y ≠ 3) (hi : ¬ (sortA x = 1 ∧ sortA y = 1)) (hs : ¬ (sortA x = 2 ∧ sortA y = 2)) : plainPair v u = true := by
  cases hx <;> simp [sortA] at h1 <;> cases hy <;> simp [sortA] at h2 hi hs <;> rfl
def plainG : Value → Value → Bool
  | .nilIface, .nilIface | .agg _, .agg _ => false
  | _, _ => true
theorem eqGuard_of {op : BinOp} {t : TypeId} {ox oy : Operand} {v u : Value} (h : plainG v u = true) : (eqGuard op t ox oy v u).run P w = .ok () w := by
  cases op <;> first | rfl | (cases v <;> cases u <;> first | rfl | cases h)
theorem eqGuard_plain {op : BinOp} {t : TypeId} {ox oy : Operand} {x y : AV} {v u : Value} (hx : VR ρ x v) (hy : VR ρ y u) (h1 : sortA x ≠ 3) (h2 : sortA y ≠ 3) (hn : ¬ (sortA x = 5 ∧ sortA y = 5) ∨ isLit ox = true ∨ isLit oy = true) (ha : ¬ (sortA x = 4 ∧ sortA y = 4)) :
    (eqGuard op t ox oy v u).run P w = .ok () w := by
  rcases hn with hn | hn
  · refine eqGuard_of ?_
    cases hx <;> simp [sortA] at h1 <;> cases hy <;> simp [sortA] at h2 hn ha <;> rfl
  · by_cases h5 : sortA x = 5 ∧ sortA y = 5
    · have e1 : x = .nili := by cases x <;> first | rfl | (simp [sortA] at h5)
      have e2 : y = .nili := by cases y <;> first | rfl | (simp [sortA] at h5)
      subst e1; subst e2
      cases hx; cases hy
      rcases hn with hn | hn
      · cases ox <;> first | (cases hn; done) | skip
        cases op <;> first | rfl | (simp [eqGuard]; done)
      · cases oy <;> first | (cases hn; done) | skip
        cases op <;> first | rfl | (simp [eqGuard]; done)
    · refine eqGuard_of ?_
      cases hx <;> simp [sortA] at h1 <;> cases hy <;> simp [sortA] at h2 h5 ha <;> rfl
theorem eqGuard_agg {op : BinOp} {t : TypeId} {ox oy : Operand} {xs ys : Array Value} (h : P.eqGuardType P.depth t = false) : (eqGuard op t ox oy (.agg xs) (.agg ys)).run P w = .ok () w :=
  run_eqGuard_agg w op t ox oy xs ys h
theorem ltL_bytes : ∀ (x y : List UInt8), ltL (x.map UInt8.toNat) (y.map UInt8.toNat) = Op.bytesLess x y := by
  intro x
  induction x with
  | nil => intro y; cases y <;> simp [ltL, Op.bytesLess]
  | cons a x ih =>
    intro y
    cases y with
    | nil => simp [ltL, Op.bytesLess]
    | cons b y =>
      simp only [List.map_cons, ltL, Op.bytesLess, bif'_eq, ih]
      rw [Bool.eq_iff_iff]
      by_cases h1 : a.toNat < b.toNat
      · have : a < b := UInt8.lt_iff_toNat_lt.mpr h1
        simp [Nat.ble_eq, this]
        left; omega
      · have h1' : ¬ a < b := fun h => h1 (UInt8.lt_iff_toNat_lt.mp h)
        by_cases h2 : a = b
        · subst h2
          simp
          intro h; omega
        · have : a.toNat ≠ b.toNat := fun h => h2 (UInt8.toNat_inj.mp h)
          have hb : Nat.beq a.toNat b.toNat = false := by
            cases hb : Nat.beq a.toNat b.toNat with
            | false => rfl
            | true => exact absurd (beqT hb) this
          have hc : Nat.ble (Nat.succ a.toNat) b.toNat = false := by
            cases hb : Nat.ble (Nat.succ a.toNat) b.toNat with
            | false => rfl
            | true => exact absurd (bleT hb) (by omega)
          simp [hb, hc, h1', h2]
theorem bytesOf_append (s t : ByteArray) : bytesOf (s ++ t) = bytesOf s ++ bytesOf t := by
  simp [bytesOf, ByteArray.data_append]
theorem bytesOf_length (s : ByteArray) : (bytesOf s).length = s.size := by simp [bytesOf]
theorem strBin_ok {op : BinOp} {s t : ByteArray} (hS : SI σ) (hG : Good w0 ρ σ.h w) (h : run (strBinA op (bytesOf s) (bytesOf t) k) σ K = true) :
    Res P w0 ρ w k K (Op.stringOp op s t) := by
  have hlt : ltL (bytesOf s) (bytesOf t) = Op.bytesLess s.toList t.toList := by
    rw [ByteArray.toList_eq, ByteArray.toList_eq]; exact ltL_bytes _ _
  have heq := eqL_bytes s t
  cases op
  case add =>
    have h : run (forceL (bytesOf s ++ bytesOf t) fun l => bif' (Nat.ble (List.length l) 1000000000) (k (.str l)) .fail) σ K = true := h
    obtain ⟨h1, h2⟩ := bifT (forceT h)
    have h1 := bleT h1
    rw [List.length_append, bytesOf_length, bytesOf_length] at h1
    rw [← bytesOf_append] at h2
    refine .plain h2 hS hG (.str _) ?_
    have : ¬ (((s.size + t.size : Nat) : Int) > IntKind.i64.max) := by
      have : IntKind.i64.max = 9223372036854775807 := by decide
      omega
    simp only [Op.stringOp]
    rw [if_neg this]; rfl
  case eql =>
    refine .plain (boolT h) hS hG (.bool _) ?_
    rw [heq]; rfl
  case neq =>
    refine .plain (boolT h) hS hG (.bool _) ?_
    rw [bif'_eq, heq]
    simp only [Op.stringOp, Sem.run_pure]
    congr 2
    cases (s.toList == t.toList) <;> rfl
  case lss =>
    refine .plain (boolT h) hS hG (.bool _) ?_
    rw [hlt]; rfl
  case leq =>
    refine .plain (boolT h) hS hG (.bool _) ?_
    rw [bif'_eq, hlt, heq]
    simp only [Op.stringOp, Sem.run_pure]
    congr 2
    cases Op.bytesLess s.toList t.toList <;> rfl
  case gtr =>
    refine .plain (boolT h) hS hG (.bool _) ?_
    rw [bif'_eq, bif'_eq, hlt, heq]
    simp only [Op.stringOp, Sem.run_pure]
    congr 2
    cases Op.bytesLess s.toList t.toList <;> cases (s.toList == t.toList) <;> rfl
  case geq =>
    refine .plain (boolT h) hS hG (.bool _) ?_
    rw [bif'_eq, hlt]
    simp only [Op.stringOp, Sem.run_pure]
    congr 2
    cases Op.bytesLess s.toList t.toList <;> rfl
  all_goals exact (nofail h).elim
theorem intBin_match {op : BinOp} {j : IntKind} {a b : Int} (hop : op ≠ .shl ∧ op ≠ .shr) {t : TypeId} :
    binOp op t (.int j a) (.int j b) = intRes op j a b := by
  cases op <;> first | exact absurd rfl hop.1 | exact absurd rfl hop.2 | (simp only [binOp]; rw [if_neg (by simp)]; rfl)
theorem sortA_4 {x : AV} (h : sortA x = 4) : ∃ l, x = .agg l := by cases x <;> first | exact ⟨_, rfl⟩ | (simp [sortA] at h)
theorem sortA_1 {x : AV} (h : sortA x = 1) : ∃ j n, x = .int j n := by cases x <;> first | exact ⟨_, _, rfl⟩ | (simp [sortA] at h)
theorem sortA_2 {x : AV} (h : sortA x = 2) : ∃ l, x = .str l := by cases x <;> first | exact ⟨_, rfl⟩ | (simp [sortA] at h)
theorem plainEq_sorts {lit : Bool} {x y : AV} (h : plainEq lit x y = true) : sortA x ≠ 3 ∧ sortA y ≠ 3 ∧ (¬ (sortA x = 5 ∧ sortA y = 5) ∨ lit = true) := by
  cases x <;> cases y <;> first | (cases h; done) | (refine ⟨?_, ?_, .inl ?_⟩ <;> simp [sortA] <;> done) | exact ⟨by simp [sortA], by simp [sortA], .inr h⟩
theorem eqA_agg {f : Nat} {d : TypeDesc} {x y : AV} {r : Bool} (hd : isAggD d = true) (h : eqA P f d x y = some r) : ∃ a b, x = .agg a ∧ y = .agg b := by
  cases f with
  | zero => simp [eqA] at h
  | succ f => unfold eqA at h; split at h <;> first | (cases hd; done) | exact ⟨_, _, rfl, rfl⟩ | (cases h; done)
theorem rel_ok {op : BinOp} {t : TypeId} {ox oy : Operand} {j j' : IntKind} {n m : Int} (hS : SI σ) (hG : Good w0 ρ σ.h w) (h : run (bif' (decide (j = j')) (bif' (relOp op) (k .anyB) .fail) .fail) σ K = true) :
    Res P w0 ρ w k K (do eqGuard op t ox oy (.int j n) (.int j' m); binOp op t (.int j n) (.int j' m)) := by
  obtain ⟨hj, h2⟩ := bifT h
  obtain ⟨hrel, h3⟩ := bifT h2
  have hj2 := of_decide_eq_true hj
  clear h h2 hj
  subst hj2
  have hop : op ≠ .shl ∧ op ≠ .shr := by cases op <;> first | (simp [relOp] at hrel; done) | exact ⟨by simp, by simp⟩
  obtain ⟨b, hb⟩ : ∃ b : Bool, (intRes op j n m).run P w = .ok (.bool b) w := by
    cases op <;> first | (simp [relOp] at hrel; done) | exact ⟨_, rfl⟩
  refine (Res.plain h3 hS hG (.anyB b) hb).of_eq ?_
  rw [Sem.run_bind, eqGuard_of rfl, intBin_match hop]; rfl
theorem numS_inv {x : AV} {v : Value} {j : IntKind} {n : Int} (hx : VR ρ x v) (h : numS x = some (j, n)) : v = .int j n := by
  cases hx <;> simp [numS] at h
  · obtain ⟨e1, e2⟩ := h; subst e1; subst e2; rfl
  · obtain ⟨e1, e2⟩ := h; subst e1; subst e2; rfl
theorem strS_inv {x : AV} {v : Value} {l : List Nat} (hx : VR ρ x v) (h : strS x = some l) : ∃ s, v = .string s ∧ l = bytesOf s := by
  cases hx <;> simp [strS] at h
  · exact ⟨_, rfl, h.symm⟩
  · exact ⟨_, rfl, h.symm⟩
theorem propS_inv {x : AV} {v : Value} {p : Prop} (hx : VR ρ x v) (h : propS x = some p) : ∃ b, v = .bool b ∧ (b = true ↔ p) := by
  cases hx <;> simp [propS] at h
  · exact ⟨_, rfl, by rw [← h]⟩
  · rename_i hb; exact ⟨_, rfl, by rw [← h]; exact hb⟩
theorem symInt_ok {op : BinOp} {j : IntKind} {x y : Int} (hS : SI σ) (hG : Good w0 ρ σ.h w) (hop : op ≠ .shl ∧ op ≠ .shr) (h : run (symInt op j x y k) σ K = true) :
    Res P w0 ρ w k K (intRes op j x y) := by
  obtain ⟨b1, b2, b3, b4⟩ := intBits_run P w j x y
  have cmp : ∀ (b : Bool) (p : Prop), (b = true ↔ p) → (intRes op j x y).run P w = .ok (.bool b) w → run (k (.sB p)) σ K = true → Res P w0 ρ w k K (intRes op j x y) := fun b p hb h1 h2 => .plain h2 hS hG (.sB p b hb) h1
  cases op
  case add => exact .plain (wrapST (f := fun n => k (.sI j n)) h) hS hG (.sI _ _) rfl
  case sub => exact .plain (wrapST (f := fun n => k (.sI j n)) h) hS hG (.sI _ _) rfl
  case mul => exact .plain (wrapST (f := fun n => k (.sI j n)) h) hS hG (.sI _ _) rfl
  case quo =>
    obtain ⟨h1, h2⟩ := req_ok h
    have e : (Op.intDiv .quo j x y).run P w = .ok (.int j (j.wrap (x.tdiv y))) w := by simp only [Op.intDiv, if_neg h1]; rfl
    rcases ask_ok h2 with ⟨hp, h⟩ | ⟨_, h⟩
    · refine .plain (wrapST (f := fun n => k (.sI j n)) h) hS hG (.sI _ _) ?_
      show (Op.intDiv .quo j x y).run P w = _
      rw [e, Int.tdiv_eq_ediv_of_nonneg hp.1]
    · exact .plain (wrapST (f := fun n => k (.sI j n)) h) hS hG (.sI _ _) e
  case rem =>
    obtain ⟨h1, h2⟩ := req_ok h
    have e : (Op.intDiv .rem j x y).run P w = .ok (.int j (x.tmod y)) w := by simp only [Op.intDiv, if_neg h1]; rfl
    rcases ask_ok h2 with ⟨hp, h⟩ | ⟨_, h⟩
    · refine .plain h hS hG (.sI _ _) ?_
      show (Op.intDiv .rem j x y).run P w = _
      rw [e, Int.tmod_eq_emod_of_nonneg hp.1]
    · exact .plain h hS hG (.sI _ _) e
  case and => exact .plain h hS hG (.sI _ _) b1
  case or => exact .plain h hS hG (.sI _ _) b2
  case xor => exact .plain h hS hG (.sI _ _) b3
  case andNot => exact .plain h hS hG (.sI _ _) b4
  case shl => exact absurd rfl hop.1
  case shr => exact absurd rfl hop.2
  case eql => exact cmp (x == y) _ (by simp) rfl h
  case neq => exact cmp (x != y) _ (by simp) rfl h
  case lss => exact cmp (decide (x < y)) _ (by simp) rfl h
  case leq => exact cmp (decide (x ≤ y)) _ (by simp) rfl h
  case gtr => exact cmp (decide (x > y)) _ (by simp) rfl h
  case geq => exact cmp (decide (x ≥ y)) _ (by simp) rfl h
theorem symShift_ok {op : BinOp} {j jj : IntKind} {x y : Int} (hS : SI σ) (hG : Good w0 ρ σ.h w) (h : run (symShift op j x y k) σ K = true) :
    Res P w0 ρ w k K (Op.shift op j x jj y) := by
  obtain ⟨n, rfl, h2⟩ := natT h
  clear h
  have h := fNT h2
  clear h2
  have e : min ((n : Int).toNat) j.bits = minN n (bitsOf j) := by rw [minN_eq, bitsOf_eq]; rfl
  cases op
  case shl =>
    refine .plain (wrapST (f := fun n => k (.sI j n)) h) hS hG (.sI _ _) ?_
    simp only [Op.shift, if_neg (show ¬ (n : Int) < 0 by omega), e, Sem.run_pure]
    congr 3
  case shr =>
    refine .plain h hS hG (.sI _ _) ?_
    simp only [Op.shift, if_neg (show ¬ (n : Int) < 0 by omega), e, Sem.run_pure]
    congr 2
    show x.fdiv ((2 : Int) ^ minN n (bitsOf j)) = x / ((2 ^ minN n (bitsOf j) : Nat) : Int)
    rw [Int.natCast_pow]
    exact Int.fdiv_eq_ediv_of_nonneg x (by apply Int.pow_nonneg; decide)
  all_goals exact (nofail h).elim
theorem bless_gt : ∀ (x y : List UInt8), (!(Op.bytesLess x y || x == y)) = Op.bytesLess y x := by
  intro x
  induction x with
  | nil => intro y; cases y <;> simp [Op.bytesLess]
  | cons a x ih =>
    intro y
    cases y with
    | nil => simp [Op.bytesLess]
    | cons b y =>
      have := ih y
      rw [Bool.eq_iff_iff] at this ⊢
      simp only [Op.bytesLess, Bool.not_eq_true', Bool.or_eq_false_iff, decide_eq_false_iff_not, Bool.and_eq_false_iff, Bool.or_eq_true, decide_eq_true_eq, Bool.and_eq_true, beq_iff_eq, List.cons_beq_cons, beq_eq_false_iff_ne] at this ⊢
      rcases Nat.lt_trichotomy a.toNat b.toNat with h | h | h
      · have h1 : a < b := UInt8.lt_iff_toNat_lt.mpr h
        have h2 : ¬ b < a := fun q => by have := UInt8.lt_iff_toNat_lt.mp q; omega
        have h3 : b ≠ a := fun q => by subst q; omega
        simp [h1, h2, h3]
      · have h1 : a = b := UInt8.toNat_inj.mp h
        subst h1
        simpa using this
      · have h1 : b < a := UInt8.lt_iff_toNat_lt.mpr h
        have h2 : ¬ a < b := fun q => by have := UInt8.lt_iff_toNat_lt.mp q; omega
        have h3 : a ≠ b := fun q => by subst q; omega
        simp [h1, h2, h3]
theorem symStr_ok {op : BinOp} {s t : ByteArray} (hS : SI σ) (hG : Good w0 ρ σ.h w) (h : run (symStr op (bytesOf s) (bytesOf t) k) σ K = true) :
    Res P w0 ρ w k K (Op.stringOp op s t) := by
  have hlt : ltL (bytesOf s) (bytesOf t) = Op.bytesLess s.toList t.toList := by
    rw [ByteArray.toList_eq, ByteArray.toList_eq]; exact ltL_bytes _ _
  have hgt : ltL (bytesOf t) (bytesOf s) = Op.bytesLess t.toList s.toList := by
    rw [ByteArray.toList_eq, ByteArray.toList_eq]; exact ltL_bytes _ _
  have heq := eqL_bytes s t
  have heq2 : (s.toList == t.toList) = true ↔ bytesOf s = bytesOf t := by rw [← heq, eqL_iff]
  cases op
  case add =>
    obtain ⟨h1, h2⟩ := req_ok h
    rw [List.length_append, bytesOf_length, bytesOf_length] at h1
    rw [← bytesOf_append] at h2
    refine .plain h2 hS hG (.sS _) ?_
    have : ¬ (((s.size + t.size : Nat) : Int) > IntKind.i64.max) := by
      have : IntKind.i64.max = 9223372036854775807 := by decide
      omega
    simp only [Op.stringOp]
    rw [if_neg this]; rfl
  case eql => exact .plain h hS hG (.sB _ (s.toList == t.toList) heq2) rfl
  case neq => exact .plain h hS hG (.sB _ (!(s.toList == t.toList)) (by rw [Bool.not_eq_true', ← Bool.not_eq_true, heq2])) rfl
  case lss => exact .plain h hS hG (.sB _ (Op.bytesLess s.toList t.toList) (by rw [hlt])) rfl
  case gtr => exact .plain h hS hG (.sB _ (Op.bytesLess t.toList s.toList) (by rw [hgt])) (by simp only [Op.stringOp, Sem.run_pure]; rw [bless_gt])
  case leq => exact .plain h hS hG (.sB _ (!Op.bytesLess t.toList s.toList) (by rw [hgt]; simp)) (by simp only [Op.stringOp, Sem.run_pure]; rw [← bless_gt s.toList t.toList, Bool.not_not])
  case geq => exact .plain h hS hG (.sB _ (!Op.bytesLess s.toList t.toList) (by rw [hlt]; simp)) rfl
  all_goals exact (nofail h).elim
theorem symBin_ok {op : BinOp} {t : TypeId} {ox oy : Operand} {x y : AV} {v u : Value} (hS : SI σ) (hG : Good w0 ρ σ.h w) (hx : VR ρ x v) (hy : VR ρ y u) (h : run (symBinA op x y k) σ K = true) :
    Res P w0 ρ w k K (do eqGuard op t ox oy v u; binOp op t v u) := by
  have lift : ∀ (s : Sem Value), (eqGuard op t ox oy v u).run P w = .ok () w → binOp op t v u = s → Res P w0 ρ w k K s → Res P w0 ρ w k K (do eqGuard op t ox oy v u; binOp op t v u) := fun s h1 h2 h3 =>
    h3.of_eq (by rw [Sem.run_bind, h1, h2]; rfl)
  unfold symBinA at h
  split at h
  · rename_i j n j' m ea eb
    have e1 := numS_inv hx ea
    have e2 := numS_inv hy eb
    subst e1; subst e2
    rcases bif2 h with ⟨hs, h⟩ | ⟨hs, h⟩
    · refine lift (Op.shift op j n j' m) (eqGuard_of rfl) (by cases op <;> first | rfl | (cases hs; done)) (symShift_ok (jj := j') hS hG h)
    · obtain ⟨hj, h9⟩ := bifT h
      have hj : j = j' := of_decide_eq_true hj
      subst hj
      have hop : op ≠ .shl ∧ op ≠ .shr := by cases op <;> first | (cases hs; done) | exact ⟨by simp, by simp⟩
      exact lift _ (eqGuard_of rfl) (intBin_match hop) (symInt_ok hS hG hop h9)
  · split at h
    · rename_i a b ea eb
      obtain ⟨s, e1, e1'⟩ := strS_inv hx ea
      obtain ⟨s', e2, e2'⟩ := strS_inv hy eb
      subst e1; subst e2; subst e1'; subst e2'
      exact lift _ (eqGuard_of rfl) (by cases op <;> rfl) (symStr_ok hS hG h)
    · exact (nofail h).elim
set_option maxHeartbeats 1000000 in
theorem binOp0_ok {op : BinOp} {t : TypeId} {ox oy : Operand} {x y : AV} {v u : Value} (hS : SI σ) (hG : Good w0 ρ σ.h w) (hx : VR ρ x v) (hy : VR ρ y u) (h : run (binOpA0 P (bif' (isLit ox) true (isLit oy)) op t x y k) σ K = true) :
    Res P w0 ρ w k K (do eqGuard op t ox oy v u; binOp op t v u) := by
  have lift : ∀ (s : Sem Value), (eqGuard op t ox oy v u).run P w = .ok () w → binOp op t v u = s → Res P w0 ρ w k K s → Res P w0 ρ w k K (do eqGuard op t ox oy v u; binOp op t v u) := fun s h1 h2 h3 =>
    h3.of_eq (by rw [Sem.run_bind, h1, h2]; rfl)
  have eqR : ∀ (d : TypeDesc) (r : Bool), P.underlying t = some d → (isAggD d = true → calmD P 16 t = true) → eqA P 16 d x y = some r → (Op.equal t v u).run P w = .ok r w := fun d r hu hc he =>
    eqA_run 16 16 t d x y v u r 10000 hu hc hx hy he (by omega)
  unfold binOpA0 at h
  split at h
  · rename_i j a yk b
    cases hx; cases hy
    exact lift (Op.shift _ j a yk b) (eqGuard_of rfl) rfl (shift_ok (jj := yk) hS hG h)
  · rename_i j a yk b
    cases hx; cases hy
    exact lift (Op.shift _ j a yk b) (eqGuard_of rfl) rfl (shift_ok (jj := yk) hS hG h)
  · rename_i n1 n2
    cases hx; cases hy
    obtain ⟨hj, h2⟩ := bifT h
    have hj2 := of_decide_eq_true hj
    clear h hj
    subst hj2
    have hop : op ≠ .shl ∧ op ≠ .shr := ⟨fun e => n1 e, fun e => n2 e⟩
    exact lift _ (eqGuard_of rfl) (intBin_match hop) (intBin_ok hS hG hop h2)
  · cases hx; cases hy
    exact lift _ (eqGuard_of rfl) (by cases op <;> rfl) (strBin_ok hS hG h)
  · obtain ⟨hc, h⟩ := bifT h
    obtain ⟨d, hu, h⟩ := undT h
    obtain ⟨r, hr, h⟩ := oelT h
    rw [bif'_eq] at hc
    have hg : P.eqGuardType P.depth t = false := by
      cases hq : P.eqGuardType P.depth t with
      | false => rfl
      | true => rw [hq] at hc; cases hc
    rw [hg] at hc
    have e := eqR d r hu (fun _ => hc) hr
    cases hx; cases hy
    exact lift _ (eqGuard_agg hg) (binOp_eql rfl) (.plain (boolT h) hS hG (.bool r) (by rw [Sem.run_bind, e]; rfl))
  · obtain ⟨hc, h⟩ := bifT h
    obtain ⟨d, hu, h⟩ := undT h
    obtain ⟨r, hr, h⟩ := oelT h
    rw [bif'_eq] at hc
    have hg : P.eqGuardType P.depth t = false := by
      cases hq : P.eqGuardType P.depth t with
      | false => rfl
      | true => rw [hq] at hc; cases hc
    rw [hg] at hc
    have e := eqR d r hu (fun _ => hc) hr
    cases hx; cases hy
    refine lift _ (eqGuard_agg hg) (binOp_neq rfl) (.plain (boolT h) hS hG (.bool _) (by rw [Sem.run_bind, e]; rw [bif'_eq]; cases r <;> rfl))
  · rename_i n1 n2 n3
    obtain ⟨hp, h⟩ := bifT h
    obtain ⟨d, hu, h⟩ := undT h
    obtain ⟨r, hr, h⟩ := oelT h
    obtain ⟨h1, h2, h3⟩ := plainEq_sorts hp
    have h4 : ¬ (sortA x = 4 ∧ sortA y = 4) := fun ⟨e1, e2⟩ => by
      obtain ⟨a, e1⟩ := sortA_4 e1; obtain ⟨b, e2⟩ := sortA_4 e2; exact n3 _ _ e1 e2
    have h5 : ¬ (sortA x = 1 ∧ sortA y = 1) := fun ⟨e1, e2⟩ => by
      obtain ⟨_, a, e1⟩ := sortA_1 e1; obtain ⟨_, b, e2⟩ := sortA_1 e2; exact n1 _ _ _ _ e1 e2
    have h6 : ¬ (sortA x = 2 ∧ sortA y = 2) := fun ⟨e1, e2⟩ => by
      obtain ⟨a, e1⟩ := sortA_2 e1; obtain ⟨b, e2⟩ := sortA_2 e2; exact n2 _ _ e1 e2
    have hna : isAggD d = true → calmD P 16 t = true := fun hd => by
      obtain ⟨a, b, e1, e2⟩ := eqA_agg hd hr
      exact (n3 _ _ e1 e2).elim
    exact lift _ (eqGuard_plain hx hy h1 h2 (h3.imp id fun hl => by rw [bif'_eq] at hl; split at hl <;> first | exact .inl ‹_› | exact .inr hl) h4) (binOp_eql (plainPair_of hx hy h1 h2 h5 h6)) (.plain (boolT h) hS hG (.bool r) (by rw [Sem.run_bind, eqR d r hu hna hr]; rfl))
  · rename_i n1 n2 n3
    obtain ⟨hp, h⟩ := bifT h
    obtain ⟨d, hu, h⟩ := undT h
    obtain ⟨r, hr, h⟩ := oelT h
    obtain ⟨h1, h2, h3⟩ := plainEq_sorts hp
    have h4 : ¬ (sortA x = 4 ∧ sortA y = 4) := fun ⟨e1, e2⟩ => by
      obtain ⟨a, e1⟩ := sortA_4 e1; obtain ⟨b, e2⟩ := sortA_4 e2; exact n3 _ _ e1 e2
    have h5 : ¬ (sortA x = 1 ∧ sortA y = 1) := fun ⟨e1, e2⟩ => by
      obtain ⟨_, a, e1⟩ := sortA_1 e1; obtain ⟨_, b, e2⟩ := sortA_1 e2; exact n1 _ _ _ _ e1 e2
    have h6 : ¬ (sortA x = 2 ∧ sortA y = 2) := fun ⟨e1, e2⟩ => by
      obtain ⟨a, e1⟩ := sortA_2 e1; obtain ⟨b, e2⟩ := sortA_2 e2; exact n2 _ _ e1 e2
    have hna : isAggD d = true → calmD P 16 t = true := fun hd => by
      obtain ⟨a, b, e1, e2⟩ := eqA_agg hd hr
      exact (n3 _ _ e1 e2).elim
    exact lift _ (eqGuard_plain hx hy h1 h2 (h3.imp id fun hl => by rw [bif'_eq] at hl; split at hl <;> first | exact .inl ‹_› | exact .inr hl) h4) (binOp_neq (plainPair_of hx hy h1 h2 h5 h6)) (.plain (boolT h) hS hG (.bool _) (by rw [Sem.run_bind, eqR d r hu hna hr]; rw [bif'_eq]; cases r <;> rfl))
  · rename_i n
    obtain ⟨hn, h⟩ := bifT h
    have hn := of_decide_eq_true hn
    subst hn
    cases hx with
    | anyI _ a =>
      cases hy
      have hp := pick_ok (n := 4) h
      have hlt : Nat.land (toU (modulus .i64) a) (toU (modulus .i64) 3) < 4 := by
        show (toU (modulus .i64) a) &&& 3 < 2 ^ 2
        exact Nat.and_lt_two_pow _ (by decide)
      have hw : IntKind.wrap .i64 (Int.ofNat (Nat.land (toU (modulus .i64) a) (toU (modulus .i64) 3))) = Int.ofNat (Nat.land (toU (modulus .i64) a) (toU (modulus .i64) 3)) := by
        generalize Nat.land (toU (modulus .i64) a) (toU (modulus .i64) 3) = m at hlt
        have : m = 0 ∨ m = 1 ∨ m = 2 ∨ m = 3 := by omega
        rcases this with rfl | rfl | rfl | rfl <;> rfl
      exact lift (intRes .and .i64 a 3) (eqGuard_of rfl) (intBin_match (op := .and) ⟨by simp, by simp⟩) (.plain (hp _ (.inr hlt) (fun h => absurd h (by omega))) hS hG (.int _ _) (by
        show (Op.intBits .and .i64 a 3).run P w = _
        rw [(intBits_run P w .i64 a 3).1, hw]))
  · cases hx; cases hy
    exact rel_ok hS hG h
  · exact (nofail h).elim
theorem unOp0_ok {op : UnOp} {x : AV} {v : Value} (hS : SI σ) (hG : Good w0 ρ σ.h w) (hx : VR ρ x v) (h : run (unOpA0 op x k) σ K = true) : Res P w0 ρ w k K (Op.unary op v) := by
  unfold unOpA0 at h
  split at h
  · cases hx; exact .plain (wrapT h) hS hG (.int _ _) rfl
  · rename_i j n
    cases hx
    exact .plain (wrapT h) hS hG (.int _ _) (intBits_run P w j (if j.signed then -1 else j.max) n).2.2.1
  · cases hx
    refine .plain (boolT h) hS hG (.bool _) ?_
    rename_i b
    rw [bif'_eq]; cases b <;> rfl
  · exact (nofail h).elim
theorem concB_ok {x : AV} {v : Value} {kk : AV → Tr} (hx : VR ρ x v) (h : run (concB x kk) σ K = true) : ∃ x', VR ρ x' v ∧ run (kk x') σ K = true := by
  unfold concB at h
  split at h
  · rename_i p
    cases hx
    rename_i b hb
    rcases ask_ok h with ⟨hp, h⟩ | ⟨hp, h⟩
    · have : b = true := hb.2 hp
      subst this
      exact ⟨_, .bool _, h⟩
    · have : b = false := by
        cases b with
        | false => rfl
        | true => exact absurd (hb.1 rfl) hp
      subst this
      exact ⟨_, .bool _, h⟩
  · exact ⟨_, hx, h⟩
theorem binOp_ok {op : BinOp} {t : TypeId} {ox oy : Operand} {x y : AV} {v u : Value} (hS : SI σ) (hG : Good w0 ρ σ.h w) (hx : VR ρ x v) (hy : VR ρ y u) (h : run (binOpA P (bif' (isLit ox) true (isLit oy)) op t x y k) σ K = true) :
    Res P w0 ρ w k K (do eqGuard op t ox oy v u; binOp op t v u) := by
  rcases bif2 h with ⟨_, h⟩ | ⟨_, h⟩
  · rcases bif2 h with ⟨_, h⟩ | ⟨_, h⟩
    · obtain ⟨x', hx', h⟩ := concB_ok hx h
      obtain ⟨y', hy', h⟩ := concB_ok hy h
      exact binOp0_ok hS hG hx' hy' h
    · exact symBin_ok hS hG hx hy h
  · exact binOp0_ok hS hG hx hy h
theorem symUn_ok {op : UnOp} {x : AV} {v : Value} (hS : SI σ) (hG : Good w0 ρ σ.h w) (hx : VR ρ x v) (h : run (symUnA op x k) σ K = true) : Res P w0 ρ w k K (Op.unary op v) := by
  unfold symUnA at h
  split at h
  · rename_i j n
    cases hx; exact .plain (wrapST (f := fun n => k (.sI j n)) h) hS hG (.sI _ _) rfl
  · rename_i j n
    cases hx
    exact .plain h hS hG (.sI _ _) (intBits_run P w j (if j.signed then -1 else j.max) n).2.2.1
  · cases hx
    rename_i p b hb
    exact .plain h hS hG (.sB _ (!b) (by rw [← hb]; simp)) rfl
  · exact (nofail h).elim
theorem unOp_ok {op : UnOp} {x : AV} {v : Value} (hS : SI σ) (hG : Good w0 ρ σ.h w) (hx : VR ρ x v) (h : run (unOpA op x k) σ K = true) : Res P w0 ρ w k K (Op.unary op v) := by
  rcases bif2 h with ⟨_, h⟩ | ⟨_, h⟩
  · exact symUn_ok hS hG hx h
  · exact unOp0_ok hS hG hx h
end
end Go.Sym
