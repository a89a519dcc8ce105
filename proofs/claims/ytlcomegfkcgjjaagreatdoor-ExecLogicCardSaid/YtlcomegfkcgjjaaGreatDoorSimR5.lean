/-
  SIM, part R5: a slice's first address; a string over bytes that lie there; the function without a text.
-/
import Derived.Test.YtlcomegfkcgjjaaGreatDoorSimR4
namespace Go.Sim
open Go.RowKit (Below)
set_option linter.unusedVariables false

section
variable {P : Program} {w0 : World} {ρ : Rho} {w : World} {σ : St} {K : Fin} {k : AV → Tr}

theorem sliceData_ok {tys : Array TypeId} {ty : TypeId} {args : List AV} {vs : List Value} (hS : SI σ) (hG : Good w0 ρ σ.h w) (hl : LR ρ args vs) (h : run (sliceDataA args k) σ K = true) : Res P w0 ρ w k K (Builtin.unsafeSliceData_ tys ty vs.toArray) := by
  cases args with
  | nil => exact (nofail h).elim
  | cons x args =>
    cases args with
    | cons _ _ => cases x <;> exact (nofail h).elim
    | nil =>
      obtain ⟨v, vs', rfl, hv, hl'⟩ := hl.cons_inv
      have := hl'.nil_inv
      subst this
      cases hv with
      | nils => exact .plain h hS hG .nilp rfl
      | slc b g o len cap es a c hsl =>
        obtain ⟨hc, h⟩ := bifT h
        have hpos : c ≠ 0 ∧ ∃ hm, ρ.at_ b g = some hm ∧ hm.shift ≤ o ∧ a = ⟨hm.blk, o - hm.shift, none⟩ := by
          obtain ⟨h1, h2⟩ := hsl
          cases cap with
          | some kk =>
            have := bleT hc
            obtain ⟨e, hm, q1, q2, q3⟩ := h2
            exact ⟨by omega, hm, q1, q2, q3⟩
          | none =>
            have := bleT hc
            rcases h2 with ⟨e, _⟩ | ⟨hm, q1, q2, q3, _⟩
            · omega
            · exact ⟨by omega, hm, q1, q2, q3⟩
        obtain ⟨hcz, hm, q1, q2, q3⟩ := hpos
        subst q3
        refine .plain h hS hG (.ptr _ _ _ hm q1 q2) ?_
        have e : Builtin.unsafeSliceData_ tys ty #[.slice (some ⟨hm.blk, o - hm.shift, none⟩) len c] = (if c ≠ 0 then pure (.pointer (some ⟨hm.blk, o - hm.shift, none⟩)) else do
            if (← viewAt hm.blk).isSome then pure (.pointer (some ⟨hm.blk, o - hm.shift, none⟩))
            else pure (.pointer (some ⟨← newObj (.view ⟨hm.blk, o - hm.shift, none⟩ (← elemOf ty)), 0, none⟩))) := rfl
        show (Builtin.unsafeSliceData_ tys ty #[.slice (some ⟨hm.blk, o - hm.shift, none⟩) len c]).run P w = _
        rw [e, if_pos hcz]; rfl
      | _ => exact (nofail h).elim

theorem loadBytes_run {a : Addr} : ∀ (bs : List Nat) (o : Nat) (acc : ByteArray) (blk : Nat) (arr : Array Value) (ty : TypeId) (fr : Nat × Nat), w.heap[blk]? = some (.cells arr ty fr) → (∀ (i m : Nat), bs[i]? = some m → arr[o + i]? = some (Value.int .u8 (m : Nat))) → (∀ m ∈ bs, m < 256) →
    ∃ s : ByteArray, (loadBytes ⟨blk, o, none⟩ acc bs.length).run P w = .ok s w ∧ bytesOf s = bytesOf acc ++ bs := by
  intro bs
  induction bs with
  | nil => intro o acc blk arr ty fr _ _ _; exact ⟨acc, rfl, by simp⟩
  | cons m bs ih =>
    intro o acc blk arr ty fr hw hb hm
    have h0 := hb 0 m rfl
    have hcell : w.cell? ⟨blk, o, none⟩ = some (.int .u8 (m : Nat)) := by
      simp only [World.cell?, hw]
      simpa using h0
    have hld : (load ⟨blk, o, none⟩).run P w = .ok (.int .u8 (m : Nat)) w := by
      rw [run_load P w ⟨blk, o, none⟩ .plain, hcell]
    have hadd : (⟨blk, o, none⟩ : Addr).add 1 = ⟨blk, o + 1, none⟩ := by unfold Addr.add; simp
    obtain ⟨s, q1, q2⟩ := ih (o + 1) (acc.push (m : Int).toNat.toUInt8) blk arr ty fr hw (fun i n hi => by
      have := hb (i + 1) n (by simpa using hi)
      rwa [show o + (i + 1) = o + 1 + i by omega] at this) (fun x hx => hm x (by simp [hx]))
    refine ⟨s, ?_, ?_⟩
    · show (loadBytes ⟨blk, o, none⟩ acc (bs.length + 1)).run P w = _
      simp only [loadBytes, Sem.run_bind, hld, Result.andThen_ok, hadd]
      exact q1
    · rw [q2]
      have hlt := hm m (by simp)
      have : bytesOf (acc.push (m : Int).toNat.toUInt8) = bytesOf acc ++ [m] := by
        unfold bytesOf
        rw [ByteArray.data_push]
        simp
        omega
      rw [this]; simp
theorem u8L_lt : ∀ {l : List AV} {bs : List Nat}, u8L l = some bs → ∀ m ∈ bs, m < 256 := by
  intro l
  induction l with
  | nil => intro bs h; injection h with h; subst h; simp
  | cons a l ih =>
    intro bs h
    unfold u8L at h
    split at h
    · rename_i e; cases e
    · rename_i n r' e
      injection e with e1 e2
      subst e1; subst e2
      split at h
      · rename_i hn
        split at h
        · rename_i l' hl2
          injection h with h
          subst h
          intro m hm
          rcases List.mem_cons.1 hm with e | hm
          · subst e; exact hn
          · exact ih hl2 m hm
        · cases h
      · cases h
    · cases h
theorem u8L_cells {c : T Cell} {g o0 : Nat} {hm : Home} {arr : Array Value} {l : List AV} {bs : List Nat} (h : u8L l = some bs) (hget : ∀ (j : Nat) (a : AV), l[j]? = some a → ∃ tag, c.get (o0 + j) = some (.mk tag a) ∧ tag ≤ g)
    (hcell : ∀ o tag a, c.get o = some (.mk tag a) → tag ≤ g → hm.shift ≤ o ∧ ∃ v, arr[o - hm.shift]? = some v ∧ VR ρ a v) (hs : hm.shift = 0) : bs.length = l.length ∧ ∀ (i m : Nat), bs[i]? = some m → arr[o0 + i]? = some (Value.int .u8 (m : Nat)) := by
  have key : ∀ (l : List AV) (bs : List Nat), u8L l = some bs → bs.length = l.length ∧ ∀ (i m : Nat), bs[i]? = some m → l[i]? = some (AV.int .u8 (m : Nat)) := by
    intro l
    induction l with
    | nil => intro bs h; injection h with h; subst h; exact ⟨rfl, fun i m hi => by simp at hi⟩
    | cons a l ih =>
      intro bs h
      unfold u8L at h
      split at h
      · rename_i e; cases e
      · rename_i n r' e
        injection e with e1 e2
        subst e1; subst e2
        split at h
        · split at h
          · rename_i l' hl2
            injection h with h
            subst h
            obtain ⟨q1, q2⟩ := ih _ hl2
            refine ⟨by simp [q1], fun i m hi => ?_⟩
            cases i with
            | zero => simp at hi; subst hi; rfl
            | succ i => simpa using q2 i m (by simpa using hi)
          · cases h
        · cases h
      · cases h
  obtain ⟨h1, h2⟩ := key l bs h
  refine ⟨h1, fun i m hi => ?_⟩
  obtain ⟨tag, t1, t2⟩ := hget i _ (h2 i m hi)
  obtain ⟨_, v, r1, r2⟩ := hcell _ tag _ t1 t2
  rw [hs, show o0 + i - 0 = o0 + i by omega] at r1
  cases r2
  exact r1

theorem ustr_some (tys : Array TypeId) (ty : TypeId) (a : Addr) (j : IntKind) (n : Int) : Builtin.unsafeString_ tys ty #[.pointer (some a), .int j n] = (do
      let some pt := tys[0]? | stuck "unsafe.String: no argument types"
      if n < 0 then runtimePanic (.error "unsafe.String: len out of range")
      if n > IntKind.i64.max then unsupported (.unsafePointer "String: a length above the largest int")
      if n = 0 then pure (.string .empty)
      else if ← variablesAt a (← elemOf pt) n.toNat then do
        let s ← loadBytes a .empty n.toNat
        freeze a n.toNat
        pure (.string s)
      else unsupported (.unsafePointer "String: not so many bytes at ptr")) := rfl
theorem ustr_none (tys : Array TypeId) (ty : TypeId) (j : IntKind) (n : Int) : Builtin.unsafeString_ tys ty #[.pointer none, .int j n] = (do
      let some pt := tys[0]? | stuck "unsafe.String: no argument types"
      if n < 0 then runtimePanic (.error "unsafe.String: len out of range")
      if n > IntKind.i64.max then unsupported (.unsafePointer "String: a length above the largest int")
      if n = 0 then pure (.string .empty)
      else runtimePanic (.error "unsafe.String: ptr is nil and len is not zero")) := rfl
theorem ustr_ok {tys : Array TypeId} {ty : TypeId} {args : List AV} {vs : List Value} (hS : SI σ) (hG : Good w0 ρ σ.h w) (hl : LR ρ args vs) (h : run (ustrA P tys args k) σ K = true) : Res P w0 ρ w k K (Builtin.unsafeString_ tys ty vs.toArray) := by
  unfold ustrA at h
  split at h
  · rename_i pt x j n0 h0
    obtain ⟨v, vs1, rfl, hv, hl1⟩ := hl.cons_inv
    obtain ⟨u, vs2, rfl, hu', hl2⟩ := hl1.cons_inv
    have := hl2.nil_inv
    subst this
    obtain ⟨n, rfl, h⟩ := natT h
    cases hu'
    obtain ⟨d, hu, h⟩ := undT h
    cases d with
    | pointer e =>
      cases hv with
      | nilp =>
        obtain ⟨hn, h⟩ := bifT h
        have hn := beqT hn
        subst hn
        refine .plain h hS hG (v := .string .empty) (.str .empty) ?_
        show (Builtin.unsafeString_ tys ty #[.pointer none, .int j ((0 : Nat) : Int)]).run P w = _
        rw [ustr_none]
        simp [h0, IntKind.max, IntKind.signed, IntKind.bits]
      | ptr b g o hm hh ho =>
        rcases bif2 h with ⟨hn, h⟩ | ⟨hn, h⟩
        · have hn := beqT hn
          subst hn
          refine .plain h hS hG (v := .string .empty) (.str .empty) ?_
          show (Builtin.unsafeString_ tys ty #[.pointer (some ⟨hm.blk, o - hm.shift, none⟩), .int j ((0 : Nat) : Int)]).run P w = _
          rw [ustr_some]
          simp [h0, IntKind.max, IntKind.signed, IntKind.bits]
        · have hn : n ≠ 0 := fun e => by subst e; simp at hn
          obtain ⟨hlid, h⟩ := bifT h
          have hlid := bleT hlid
          obtain ⟨de, he, h⟩ := undT h
          split at h
          · obtain ⟨σ1, h, hS1, e1, hs0, hv, ty0, m0, hsh⟩ := lies_ok hS hG hh h
            have hG1 : Good w0 ρ σ1.h w := by rw [e1]; exact hG
            obtain ⟨q, σ2, hq, e2, hS2, h⟩ := rd_ok hS1 h
            have hG2 : Good w0 ρ σ2.h w := by rw [e2]; exact hG1
            cases q with
            | cells c gen lo hi fl fh ro ty1 =>
              obtain ⟨hro, z1⟩ := bifF h
              obtain ⟨hff, z2⟩ := bifT z1
              obtain ⟨l, z3, hlen, hget⟩ := ldsT z2
              obtain ⟨bs, hbs, z4⟩ := oelT z3
              have hff := bleT hff
              subst hro
              have hB := hG1.blk _ _ hq
              have hgg : g ≤ gen := hG1.gens _ _ _ _ hh hq
              obtain ⟨hm2, q1, _, _, arr, fr, q3, q4, q5, q6⟩ := hB.2 g hgg
              rw [hh] at q1; injection q1 with q1; subst q1
              obtain ⟨hbl, hcells⟩ := u8L_cells hbs hget (fun o tag a ho ht => q6 o tag a ho ht) hs0
              rw [hlen] at hbl
              obtain ⟨s, hload, hsb⟩ := loadBytes_run (P := P) (w := w) (a := ⟨0, 0, none⟩) bs o .empty hm.blk arr ty1 fr q3 hcells (u8L_lt hbs)
              rw [hbl] at hload
              have hsb : bytesOf s = bs := by rw [hsb]; rfl
              have model : (Builtin.unsafeString_ tys ty #[.pointer (some ⟨hm.blk, o - hm.shift, none⟩), .int j (n : Int)]).run P w = .ok (.string s) (w.freeze ⟨hm.blk, o, none⟩ n) := by
                rw [ptr_addr hs0]
                have h1 : ¬ ((n : Int) < 0) := by omega
                have h2 : ¬ (9223372036854775807 < (n : Int)) := by omega
                have h5 : (elemOf pt).run P w = .ok e w := by simp [elemOf, run_underlying hu]
                rw [ustr_some]
                simp [h0, h1, h2, hn, h5, hv, hload]
              have fin : ∀ (fl' fh' : Nat), Good w0 ρ (σ2.h.set b (.cells c gen lo hi fl' fh' false ty1)) (w.freeze ⟨hm.blk, o, none⟩ n) → run (.wr b (.cells c gen lo hi fl' fh' false ty1) (k (.str bs))) σ2 K = true →
                  Res P w0 ρ w k K (Builtin.unsafeString_ tys ty (Value.pointer (some ⟨hm.blk, o - hm.shift, none⟩) :: [Value.int j (n : Int)]).toArray) := fun fl' fh' hGn hr => by
                obtain ⟨x0, σ3, hx0, e3, hS3, _, hr⟩ := wr_ok hS2 hr
                refine ⟨_, σ3, ρ, .string s, _, hr, hS3, by rw [e3]; exact hGn, Rho.le.refl ρ, by rw [← hsb]; exact .str s, model⟩
              have hq2 : σ2.h.get b = some (.cells c gen lo hi fl fh false ty1) := by rw [e2]; exact hq
              have h64 : b + 1 < 2 ^ 64 := by
                rcases bif2 z4 with ⟨_, z5⟩ | ⟨_, z5⟩
                · exact (wr_ok hS2 (fNT z5)).choose_spec.choose_spec.2.2.2.1
                · rw [fN_eq, fN_eq] at z5
                  exact (wr_ok hS2 z5).choose_spec.choose_spec.2.2.2.1
              rcases bif2 z4 with ⟨hfe, z5⟩ | ⟨hfe, z5⟩
              · have hfe := beqT hfe
                refine fin _ _ (hG2.freezeAt hq2 h64 hh hgg hn (fun x hm3 _ _ hx2 => ?_) (fun f1 f2 hf hqq x hx1 hx2 => ?_)) (fNT z5)
                · have := hx2 (.inr hff); omega
                · split at hx2
                  · omega
                  · rename_i hne
                    have := hqq f1 (.inr hff) (Nat.le_refl _) (by omega)
                    omega
              · have hfe : fl < fh := by
                  rcases Nat.lt_or_ge fl fh with h' | h'
                  · exact h'
                  · have : fl = fh := by omega
                    subst this; simp at hfe
                rw [fN_eq, fN_eq, bif'_eq, bif'_eq] at z5
                have e1 : (if Nat.ble fl o = true then fl else o) = min fl o := by
                  simp only [Nat.ble_eq, Nat.min_def]
                have e2 : (if Nat.ble fh (o + n) = true then o + n else fh) = max fh (o + n) := by
                  simp only [Nat.ble_eq, Nat.max_def]
                rw [e1, e2] at z5
                refine fin _ _ (hG2.freezeAt hq2 h64 hh hgg hn (fun x hm3 _ _ hx2 => ?_) (fun f1 f2 hf hqq x hx1 hx2 => ?_)) z5
                · have := hx2 (.inr hff); omega
                · split at hx2
                  · omega
                  · rename_i hne
                    have l1 := hqq f1 (.inr hff) (Nat.le_refl _) (by omega)
                    have l2 := hqq (f2 - 1) (.inr hff) (by omega) (by omega)
                    omega
            | _ => exact (nofail h).elim
          · exact (nofail h).elim
      | _ => exact (nofail h).elim
    | _ => exact (nofail h).elim
  · exact (nofail h).elim

/-! ### The function without a text -/
theorem ext_call {i : Nat} {fn : Func} {row : Array Value → Sem Value} (hf : P.funcs[i]? = some fn) (hb : fn.body = none) (hn : ¬ fn.name = "runtime.NumGoroutine") (h1 : Extern.findNext fn = none) (h2 : Extern.find fn = some row) (args : Array Value) :
    (callFunc i args).run P w = (do pure (Next.value (← row args))).run P w := by
  simp [callFunc, hf, hn, hb, h1, h2]
theorem three_run (name : String) (j1 j2 j3 : IntKind) (x y c : Int) (hc : ¬ c.toNat > 1) : (Extern.MathBitsCarry.three name [.int j1 x, .int j2 y, .int j3 c].toArray).run P w = .ok (x.toNat, y.toNat, c.toNat) w := by
  have e : Extern.MathBitsCarry.three name [.int j1 x, .int j2 y, .int j3 c].toArray = (do
      let c' := (← asInt (.int j3 c)).toNat
      if c' > 1 then unsupported (.noEntry ("extern/math/bits." ++ name ++ ": a carry that is neither 0 nor 1"))
      pure ((← asInt (.int j1 x)).toNat, (← asInt (.int j2 y)).toNat, c')) := rfl
  have hi : ∀ (j : IntKind) (n : Int), (asInt (.int j n)).run P w = .ok n w := fun _ _ => rfl
  rw [e]
  simp only [hi, Sem.run_bind, Sem.run_pure, Result.andThen_ok, hc, if_false]
theorem add64_run {args : List AV} {vs : List Value} (hl : LR ρ args vs) (h : run (add64A args k) σ K = true) :
    ∃ av v, run (k av) σ K = true ∧ VR ρ av v ∧ ((do
      let (x, y, c) ← Extern.MathBitsCarry.three "Add64" vs.toArray
      pure (Extern.MathBitsCarry.pair ((x + y + c) % Extern.MathBitsCarry.m64) ((x + y + c) / Extern.MathBitsCarry.m64)) : Sem Value)).run P w = .ok v w := by
  unfold add64A at h
  split at h
  · rename_i j1 x j2 y j3 c
    obtain ⟨v1, vs1, rfl, hv1, hl1⟩ := hl.cons_inv
    obtain ⟨v2, vs2, rfl, hv2, hl2⟩ := hl1.cons_inv
    obtain ⟨v3, vs3, rfl, hv3, hl3⟩ := hl2.cons_inv
    have := hl3.nil_inv
    subst this
    cases hv1; cases hv2; cases hv3
    obtain ⟨hc, h⟩ := bifT h
    have hc := bleT hc
    have hc' : ¬ c.toNat > 1 := by omega
    simp only [fN_eq] at h
    refine ⟨_, .tuple #[.int .u64 (Int.ofNat (((x.toNat.add y.toNat).add c.toNat).mod 18446744073709551616)), .int .u64 (Int.ofNat (((x.toNat.add y.toNat).add c.toNat).div 18446744073709551616))], h, ?_, ?_⟩
    · exact .tup _ _ rfl (LR.arr (LR.cons (.int _ _) (LR.cons (.int _ _) (LR.nil _)))).2
    · rw [Sem.run_bind, three_run _ _ _ _ _ _ _ hc']
      rfl
  · exact (nofail h).elim
theorem sub64_run {args : List AV} {vs : List Value} (hl : LR ρ args vs) (h : run (sub64A args k) σ K = true) :
    ∃ av v, run (k av) σ K = true ∧ VR ρ av v ∧ ((do
      let (x, y, b) ← Extern.MathBitsCarry.three "Sub64" vs.toArray
      pure (Extern.MathBitsCarry.pair ((x + Extern.MathBitsCarry.m64 - y - b) % Extern.MathBitsCarry.m64) (if x < y + b then 1 else 0)) : Sem Value)).run P w = .ok v w := by
  unfold sub64A at h
  split at h
  · rename_i j1 x j2 y j3 c
    obtain ⟨v1, vs1, rfl, hv1, hl1⟩ := hl.cons_inv
    obtain ⟨v2, vs2, rfl, hv2, hl2⟩ := hl1.cons_inv
    obtain ⟨v3, vs3, rfl, hv3, hl3⟩ := hl2.cons_inv
    have := hl3.nil_inv
    subst this
    cases hv1; cases hv2; cases hv3
    obtain ⟨hc, h⟩ := bifT h
    have hc := bleT hc
    have hc' : ¬ c.toNat > 1 := by omega
    simp only [fN_eq] at h
    refine ⟨_, .tuple #[.int .u64 (Int.ofNat ((((x.toNat.add 18446744073709551616).sub y.toNat).sub c.toNat).mod 18446744073709551616)), .int .u64 (Int.ofNat (bif' (x.toNat.succ.ble (y.toNat.add c.toNat)) 1 0))], h, ?_, ?_⟩
    · exact .tup _ _ rfl (LR.arr (LR.cons (.int _ _) (LR.cons (.int _ _) (LR.nil _)))).2
    · rw [Sem.run_bind, three_run _ _ _ _ _ _ _ hc']
      simp only [Result.andThen_ok]
      have e : (if x.toNat < y.toNat + c.toNat then 1 else 0 : Nat) = bif' (Nat.ble (Nat.succ x.toNat) (Nat.add y.toNat c.toNat)) 1 0 := by
        rw [bif'_eq]
        by_cases hlt : x.toNat < y.toNat + c.toNat
        · rw [if_pos hlt, if_pos (show Nat.ble (Nat.succ x.toNat) (Nat.add y.toNat c.toNat) = true from Nat.ble_eq.mpr hlt)]
        · rw [if_neg hlt, if_neg (fun hh : Nat.ble (Nat.succ x.toNat) (Nat.add y.toNat c.toNat) = true => hlt (Nat.ble_eq.mp hh))]
      rw [e]
      rfl
  · exact (nofail h).elim
theorem ext_run {i : Nat} {args : List AV} {vs : List Value} (h : isExt P i = true) (hl : LR ρ args vs) (hr : run (extA P i args k) σ K = true) : ∃ av v, run (k av) σ K = true ∧ VR ρ av v ∧ (callFunc i vs.toArray).run P w = .ok (.value v) w := by
  unfold isExt at h
  unfold extA at hr
  split at h
  · rename_i fn hf
    rw [hf] at hr
    split at h
    · rename_i hb
      have ho := of_decide_eq_true h
      rcases bif2 hr with ⟨hne, hr⟩ | ⟨_, hr⟩
      · have hname := of_decide_eq_true hne
        have h1 : Extern.findNext fn = none := by
          unfold Extern.findNext
          rw [hname, ho]
          kernel_rfl
        have h2 : Extern.find fn = some Extern.AbiNoEscape.same := by
          unfold Extern.find
          rw [hname]
          kernel_rfl
        split at hr
        · rename_i x
          obtain ⟨xv, vs', rfl, hxv, hnil⟩ := hl.cons_inv
          have := hnil.nil_inv
          subst this
          refine ⟨_, _, hr, hxv, ?_⟩
          rw [ext_call hf hb (by rw [hname]; decide) h1 h2]
          rfl
        · exact (nofail hr).elim
      · rcases bif2 hr with ⟨hne, hr⟩ | ⟨_, hr⟩
        · have hname := of_decide_eq_true hne
          have h1 : Extern.findNext fn = none := by
            unfold Extern.findNext
            rw [hname, ho]
            kernel_rfl
          have h2 : Extern.find fn = some (fun args => do
              let (x, y, c) ← Extern.MathBitsCarry.three "Add64" args
              pure (Extern.MathBitsCarry.pair ((x + y + c) % Extern.MathBitsCarry.m64) ((x + y + c) / Extern.MathBitsCarry.m64))) := by
            unfold Extern.find
            rw [hname]
            kernel_rfl
          obtain ⟨av, v, q1, q2, q3⟩ := add64_run (P := P) (w := w) hl hr
          refine ⟨av, v, q1, q2, ?_⟩
          rw [ext_call hf hb (by rw [hname]; decide) h1 h2, Sem.run_bind, q3]
          rfl
        · obtain ⟨hne, hr⟩ := bifT hr
          have hname := of_decide_eq_true hne
          have h1 : Extern.findNext fn = none := by
            unfold Extern.findNext
            rw [hname, ho]
            kernel_rfl
          have h2 : Extern.find fn = some (fun args => do
              let (x, y, b) ← Extern.MathBitsCarry.three "Sub64" args
              pure (Extern.MathBitsCarry.pair ((x + Extern.MathBitsCarry.m64 - y - b) % Extern.MathBitsCarry.m64) (if x < y + b then 1 else 0))) := by
            unfold Extern.find
            rw [hname]
            kernel_rfl
          obtain ⟨av, v, q1, q2, q3⟩ := sub64_run (P := P) (w := w) hl hr
          refine ⟨av, v, q1, q2, ?_⟩
          rw [ext_call hf hb (by rw [hname]; decide) h1 h2, Sem.run_bind, q3]
          rfl
    · cases h
  · cases h
end
end Go.Sim
