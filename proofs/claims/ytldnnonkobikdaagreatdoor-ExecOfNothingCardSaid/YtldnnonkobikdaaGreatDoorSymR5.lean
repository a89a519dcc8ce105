/- SYM, part R5: a slice's first address; a string over bytes that lie there; the function without a text; SYM, part S: an operation; SYM, part T: temporaries, guards, a region's operations, results, leaving. -/
import Derived.Test.YtldnnonkobikdaaGreatDoorSymR3
import Derived.CallsIn
import Derived.RangeFuncLeaves
import Derived.TacticsIn
namespace Go.Sym
open Go.RowKit (Below)
set_option linter.unusedVariables false
section
variable {P : Program} {w0 : World} {ρ : Rho} {w : World} {σ : St} {K : Fin} {k : AV → Tr}
theorem sliceData_ok {tys : Array TypeId} {ty : TypeId} {args : List AV} {vs : List Value} (hS : SI σ) (hG : Good w0 ρ σ.h w) (hl : LR ρ args vs) (h : run (sliceDataA args k) σ K = true) : Res P w0 ρ w k K (Builtin.unsafeSliceData_ tys ty vs.toArray) := by
  cases args with
  | nil => exact (nofail h).elim
  | cons x args =>
    cases args with
    | cons _ _ => cases x <;> exact (nofail h).elim
    | nil =>
      obtain ⟨v, vs', rfl, hv, hl'⟩ := hl.cons_inv
      have := hl'.nil_inv
      subst this
      cases hv with
      | nils => exact .plain h hS hG .nilp rfl
      | slc b g o len cap es a c hsl =>
        obtain ⟨hc, h⟩ := bifT h
        have hpos : c ≠ 0 ∧ ∃ hm, ρ.at_ b g = some hm ∧ hm.shift ≤ o ∧ a = ⟨hm.blk, o - hm.shift, none⟩ := by
          obtain ⟨h1, h2⟩ := hsl
          cases cap with
          | some kk =>
            have := bleT hc
            obtain ⟨e, hm, q1, q2, q3⟩ := h2
            exact ⟨by omega, hm, q1, q2, q3⟩
          | none =>
            have := bleT hc
            rcases h2 with ⟨e, _⟩ | ⟨hm, q1, q2, q3, _⟩
            · omega
            · exact ⟨by omega, hm, q1, q2, q3⟩
        obtain ⟨hcz, hm, q1, q2, q3⟩ := hpos
        subst q3
        refine .plain h hS hG (.ptr _ _ _ hm q1 q2) ?_
        have e : Builtin.unsafeSliceData_ tys ty #[.slice (some ⟨hm.blk, o - hm.shift, none⟩) len c] = (if c ≠ 0 then pure (.pointer (some ⟨hm.blk, o - hm.shift, none⟩)) else do
            if (← viewAt hm.blk).isSome then pure (.pointer (some ⟨hm.blk, o - hm.shift, none⟩))
            else pure (.pointer (some ⟨← newObj (.view ⟨hm.blk, o - hm.shift, none⟩ (← elemOf ty)), 0, none⟩))) := rfl
        show (Builtin.unsafeSliceData_ tys ty #[.slice (some ⟨hm.blk, o - hm.shift, none⟩) len c]).run P w = _
        rw [e, if_pos hcz]; rfl
      | _ => exact (nofail h).elim
theorem loadBytes_run {a : Addr} : ∀ (bs : List Nat) (o : Nat) (acc : ByteArray) (blk : Nat) (arr : Array Value) (ty : TypeId) (fr : Nat × Nat), w.heap[blk]? = some (.cells arr ty fr) → (∀ (i m : Nat), bs[i]? = some m → arr[o + i]? = some (Value.int .u8 (m : Nat))) → (∀ m ∈ bs, m < 256) →
    ∃ s : ByteArray, (loadBytes ⟨blk, o, none⟩ acc bs.length).run P w = .ok s w ∧ bytesOf s = bytesOf acc ++ bs := by
  intro bs
  induction bs with
  | nil => intro o acc blk arr ty fr _ _ _; exact ⟨acc, rfl, by simp⟩
  | cons m bs ih =>
    intro o acc blk arr ty fr hw hb hm
    have h0 := hb 0 m rfl
    have hcell : w.cell? ⟨blk, o, none⟩ = some (.int .u8 (m : Nat)) := by
      simp only [World.cell?, hw]
      simpa using h0
    have hld : (load ⟨blk, o, none⟩).run P w = .ok (.int .u8 (m : Nat)) w := by
      rw [run_load P w ⟨blk, o, none⟩ .plain, hcell]
    have hadd : (⟨blk, o, none⟩ : Addr).add 1 = ⟨blk, o + 1, none⟩ := by unfold Addr.add; simp
    obtain ⟨s, q1, q2⟩ := ih (o + 1) (acc.push (m : Int).toNat.toUInt8) blk arr ty fr hw (fun i n hi => by
      have := hb (i + 1) n (by simpa using hi)
      rwa [show o + (i + 1) = o + 1 + i by omega] at this) (fun x hx => hm x (by simp [hx]))
    refine ⟨s, ?_, ?_⟩
    · show (loadBytes ⟨blk, o, none⟩ acc (bs.length + 1)).run P w = _
      simp only [loadBytes, Sem.run_bind, hld, Result.andThen_ok, hadd]
      exact q1
    · rw [q2]
      have hlt := hm m (by simp)
      have : bytesOf (acc.push (m : Int).toNat.toUInt8) = bytesOf acc ++ [m] := by
        unfold bytesOf
        rw [ByteArray.data_push]
        simp
        omega
      rw [this]; simp
theorem u8L_lt : ∀ {l : List AV} {bs : List Nat}, u8L l = some bs → ∀ m ∈ bs, m < 256 := by
  intro l
  induction l with
  | nil => intro bs h; injection h with h; subst h; simp
  | cons a l ih =>
    intro bs h
    unfold u8L at h
    split at h
    · rename_i e; cases e
    · rename_i n r' e
      injection e with e1 e2
      subst e1; subst e2
      split at h
      · rename_i hn
        split at h
        · rename_i l' hl2
          injection h with h
          subst h
          intro m hm
          rcases List.mem_cons.1 hm with e | hm
          · subst e; exact hn
          · exact ih hl2 m hm
        · cases h
      · cases h
    · cases h
theorem u8L_cells {c : T Cell} {g o0 : Nat} {hm : Home} {arr : Array Value} {l : List AV} {bs : List Nat} (h : u8L l = some bs) (hget : ∀ (j : Nat) (a : AV), l[j]? = some a → ∃ tag, c.get (o0 + j) = some (.mk tag a) ∧ tag ≤ g)
    (hcell : ∀ o tag a, c.get o = some (.mk tag a) → tag ≤ g → hm.shift ≤ o ∧ ∃ v, arr[o - hm.shift]? = some v ∧ VR ρ a v) (hs : hm.shift = 0) : bs.length = l.length ∧ ∀ (i m : Nat), bs[i]? = some m → arr[o0 + i]? = some (Value.int .u8 (m : Nat)) := by
  have key : ∀ (l : List AV) (bs : List Nat), u8L l = some bs → bs.length = l.length ∧ ∀ (i m : Nat), bs[i]? = some m → l[i]? = some (AV.int .u8 (m : Nat)) := by
    intro l
    induction l with
    | nil => intro bs h; injection h with h; subst h; exact ⟨rfl, fun i m hi => by simp at hi⟩
    | cons a l ih =>
      intro bs h
      unfold u8L at h
      split at h
      · rename_i e; cases e
      · rename_i n r' e
        injection e with e1 e2
        subst e1; subst e2
        split at h
        · split at h
          · rename_i l' hl2
            injection h with h
            subst h
            obtain ⟨q1, q2⟩ := ih _ hl2
            refine ⟨by simp [q1], fun i m hi => ?_⟩
            cases i with
            | zero => simp at hi; subst hi; rfl
            | succ i => simpa using q2 i m (by simpa using hi)
          · cases h
        · cases h
      · cases h
  obtain ⟨h1, h2⟩ := key l bs h
  refine ⟨h1, fun i m hi => ?_⟩
  obtain ⟨tag, t1, t2⟩ := hget i _ (h2 i m hi)
  obtain ⟨_, v, r1, r2⟩ := hcell _ tag _ t1 t2
  rw [hs, show o0 + i - 0 = o0 + i by omega] at r1
  cases r2
  exact r1
theorem ustr_some (tys : Array TypeId) (ty : TypeId) (a : Addr) (j : IntKind) (n : Int) : Builtin.unsafeString_ tys ty #[.pointer (some a), .int j n] = (do
      let some pt := tys[0]? | stuck "unsafe.String: no argument types"
      if n < 0 then runtimePanic (.error "unsafe.String: len out of range")
      if n > IntKind.i64.max then unsupported (.unsafePointer "String: a length above the largest int")
      if n = 0 then pure (.string .empty)
      else if ← variablesAt a (← elemOf pt) n.toNat then do
        let s ← loadBytes a .empty n.toNat
        freeze a n.toNat
        pure (.string s)
      else unsupported (.unsafePointer "String: not so many bytes at ptr")) := rfl
theorem ustr_none (tys : Array TypeId) (ty : TypeId) (j : IntKind) (n : Int) : Builtin.unsafeString_ tys ty #[.pointer none, .int j n] = (do
      let some pt := tys[0]? | stuck "unsafe.String: no argument types"
      if n < 0 then runtimePanic (.error "unsafe.String: len out of range")
      if n > IntKind.i64.max then unsupported (.unsafePointer "String: a length above the largest int")
      if n = 0 then pure (.string .empty)
      else runtimePanic (.error "unsafe.String: ptr is nil and len is not zero")) := rfl
theorem ustr_ok {tys : Array TypeId} {ty : TypeId} {args : List AV} {vs : List Value} (hS : SI σ) (hG : Good w0 ρ σ.h w) (hl : LR ρ args vs) (h : run (ustrA P tys args k) σ K = true) : Res P w0 ρ w k K (Builtin.unsafeString_ tys ty vs.toArray) := by
  unfold ustrA at h
  split at h
  · rename_i pt x j n0 h0
    obtain ⟨v, vs1, rfl, hv, hl1⟩ := hl.cons_inv
    obtain ⟨u, vs2, rfl, hu', hl2⟩ := hl1.cons_inv
    have := hl2.nil_inv
    subst this
    obtain ⟨n, rfl, h⟩ := natT h
    cases hu'
    obtain ⟨d, hu, h⟩ := undT h
    cases d with
    | pointer e =>
      cases hv with
      | nilp =>
        obtain ⟨hn, h⟩ := bifT h
        have hn := beqT hn
        subst hn
        refine .plain h hS hG (v := .string .empty) (.str .empty) ?_
        show (Builtin.unsafeString_ tys ty #[.pointer none, .int j ((0 : Nat) : Int)]).run P w = _
        rw [ustr_none]
        simp [h0, IntKind.max, IntKind.signed, IntKind.bits]
      | ptr b g o hm hh ho =>
        rcases bif2 h with ⟨hn, h⟩ | ⟨hn, h⟩
        · have hn := beqT hn
          subst hn
          refine .plain h hS hG (v := .string .empty) (.str .empty) ?_
          show (Builtin.unsafeString_ tys ty #[.pointer (some ⟨hm.blk, o - hm.shift, none⟩), .int j ((0 : Nat) : Int)]).run P w = _
          rw [ustr_some]
          simp [h0, IntKind.max, IntKind.signed, IntKind.bits]
        · have hn : n ≠ 0 := fun e => by subst e; simp at hn
          obtain ⟨hlid, h⟩ := bifT h
          have hlid := bleT hlid
          obtain ⟨de, he, h⟩ := undT h
          split at h
          · obtain ⟨σ1, h, hS1, e1, hs0, hv, ty0, m0, hsh⟩ := lies_ok hS hG hh h
            have hG1 : Good w0 ρ σ1.h w := by rw [e1]; exact hG
            obtain ⟨q, σ2, hq, e2, hS2, h⟩ := rd_ok hS1 h
            have hG2 : Good w0 ρ σ2.h w := by rw [e2]; exact hG1
            cases q with
            | cells c gen lo hi fl fh ro ty1 =>
              obtain ⟨hro, z1⟩ := bifF h
              obtain ⟨hff, z2⟩ := bifT z1
              obtain ⟨l, z3, hlen, hget⟩ := ldsT z2
              obtain ⟨bs, hbs, z4⟩ := oelT z3
              have hff := bleT hff
              subst hro
              have hB := hG1.blk _ _ hq
              have hgg : g ≤ gen := hG1.gens _ _ _ _ hh hq
              obtain ⟨hm2, q1, _, _, arr, fr, q3, q4, q5, q6⟩ := hB.2 g hgg
              rw [hh] at q1; injection q1 with q1; subst q1
              obtain ⟨hbl, hcells⟩ := u8L_cells hbs hget (fun o tag a ho ht => q6 o tag a ho ht) hs0
              rw [hlen] at hbl
              obtain ⟨s, hload, hsb⟩ := loadBytes_run (P := P) (w := w) (a := ⟨0, 0, none⟩) bs o .empty hm.blk arr ty1 fr q3 hcells (u8L_lt hbs)
              rw [hbl] at hload
              have hsb : bytesOf s = bs := by rw [hsb]; rfl
              have model : (Builtin.unsafeString_ tys ty #[.pointer (some ⟨hm.blk, o - hm.shift, none⟩), .int j (n : Int)]).run P w = .ok (.string s) (w.freeze ⟨hm.blk, o, none⟩ n) := by
                rw [ptr_addr hs0]
                have h1 : ¬ ((n : Int) < 0) := by omega
                have h2 : ¬ (9223372036854775807 < (n : Int)) := by omega
                have h5 : (elemOf pt).run P w = .ok e w := by simp [elemOf, run_underlying hu]
                rw [ustr_some]
                simp [h0, h1, h2, hn, h5, hv, hload]
              have fin : ∀ (fl' fh' : Nat), Good w0 ρ (σ2.h.set b (.cells c gen lo hi fl' fh' false ty1)) (w.freeze ⟨hm.blk, o, none⟩ n) → run (.wr b (.cells c gen lo hi fl' fh' false ty1) (k (.str bs))) σ2 K = true →
                  Res P w0 ρ w k K (Builtin.unsafeString_ tys ty (Value.pointer (some ⟨hm.blk, o - hm.shift, none⟩) :: [Value.int j (n : Int)]).toArray) := fun fl' fh' hGn hr => by
                obtain ⟨x0, σ3, hx0, e3, hS3, _, hr⟩ := wr_ok hS2 hr
                refine ⟨_, σ3, ρ, .string s, _, hr, hS3, by rw [e3]; exact hGn, Rho.le.refl ρ, by rw [← hsb]; exact .str s, model⟩
              have hq2 : σ2.h.get b = some (.cells c gen lo hi fl fh false ty1) := by rw [e2]; exact hq
              have h64 : b + 1 < 2 ^ 64 := by
                rcases bif2 z4 with ⟨_, z5⟩ | ⟨_, z5⟩
                · exact (wr_ok hS2 (fNT z5)).choose_spec.choose_spec.2.2.2.1
                · rw [fN_eq, fN_eq] at z5
                  exact (wr_ok hS2 z5).choose_spec.choose_spec.2.2.2.1
              rcases bif2 z4 with ⟨hfe, z5⟩ | ⟨hfe, z5⟩
              · have hfe := beqT hfe
                refine fin _ _ (hG2.freezeAt hq2 h64 hh hgg hn (fun x hm3 _ _ hx2 => ?_) (fun f1 f2 hf hqq x hx1 hx2 => ?_)) (fNT z5)
                · have := hx2 (.inr hff); omega
                · split at hx2
                  · omega
                  · rename_i hne
                    have := hqq f1 (.inr hff) (Nat.le_refl _) (by omega)
                    omega
              · have hfe : fl < fh := by
                  rcases Nat.lt_or_ge fl fh with h' | h'
                  · exact h'
                  · have : fl = fh := by omega
                    subst this; simp at hfe
                rw [fN_eq, fN_eq, bif'_eq, bif'_eq] at z5
                have e1 : (if Nat.ble fl o = true then fl else o) = min fl o := by
                  simp only [Nat.ble_eq, Nat.min_def]
                have e2 : (if Nat.ble fh (o + n) = true then o + n else fh) = max fh (o + n) := by
                  simp only [Nat.ble_eq, Nat.max_def]
                rw [e1, e2] at z5
                refine fin _ _ (hG2.freezeAt hq2 h64 hh hgg hn (fun x hm3 _ _ hx2 => ?_) (fun f1 f2 hf hqq x hx1 hx2 => ?_)) z5
                · have := hx2 (.inr hff); omega
                · split at hx2
                  · omega
                  · rename_i hne
                    have l1 := hqq f1 (.inr hff) (Nat.le_refl _) (by omega)
                    have l2 := hqq (f2 - 1) (.inr hff) (by omega) (by omega)
                    omega
            | _ => exact (nofail h).elim
          · exact (nofail h).elim
      | _ => exact (nofail h).elim
    | _ => exact (nofail h).elim
  · exact (nofail h).elim
theorem ext_call {i : Nat} {fn : Func} {row : Array Value → Sem Value} (hf : P.funcs[i]? = some fn) (hb : fn.body = none) (hn : ¬ fn.name = "runtime.NumGoroutine") (h1 : Extern.findNext fn = none) (h2 : Extern.find fn = some row) (args : Array Value) :
    (callFunc i args).run P w = (do pure (Next.value (← row args))).run P w := by
  simp [callFunc, hf, hn, hb, h1, h2]
theorem three_run (name : String) (j1 j2 j3 : IntKind) (x y c : Int) (hc : ¬ c.toNat > 1) : (Extern.MathBitsCarry.three name [.int j1 x, .int j2 y, .int j3 c].toArray).run P w = .ok (x.toNat, y.toNat, c.toNat) w := by
  have e : Extern.MathBitsCarry.three name [.int j1 x, .int j2 y, .int j3 c].toArray = (do
      let c' := (← asInt (.int j3 c)).toNat
      if c' > 1 then unsupported (.noEntry ("extern/math/bits." ++ name ++ ": a carry that is neither 0 nor 1"))
      pure ((← asInt (.int j1 x)).toNat, (← asInt (.int j2 y)).toNat, c')) := rfl
  have hi : ∀ (j : IntKind) (n : Int), (asInt (.int j n)).run P w = .ok n w := fun _ _ => rfl
  rw [e]
  simp only [hi, Sem.run_bind, Sem.run_pure, Result.andThen_ok, hc, if_false]
theorem add64S_run {a b c : AV} {vs : List Value} (hl : LR ρ [a, b, c] vs) (h : run (add64S a b c k) σ K = true) :
    ∃ av v, run (k av) σ K = true ∧ VR ρ av v ∧ ((do
      let (x, y, c) ← Extern.MathBitsCarry.three "Add64" vs.toArray
      pure (Extern.MathBitsCarry.pair ((x + y + c) % Extern.MathBitsCarry.m64) ((x + y + c) / Extern.MathBitsCarry.m64)) : Sem Value)).run P w = .ok v w := by
  unfold add64S at h
  split at h
  · rename_i j1 x j2 y j3 z e1 e2 e3
    obtain ⟨v1, vs1, rfl, hv1, hl1⟩ := hl.cons_inv
    obtain ⟨v2, vs2, rfl, hv2, hl2⟩ := hl1.cons_inv
    obtain ⟨v3, vs3, rfl, hv3, hl3⟩ := hl2.cons_inv
    have := hl3.nil_inv
    subst this
    have e1 := numS_inv hv1 e1
    have e2 := numS_inv hv2 e2
    have e3 := numS_inv hv3 e3
    subst e1; subst e2; subst e3
    obtain ⟨⟨h1, h2, h3, h4⟩, h⟩ := req_ok h
    have hc' : ¬ z.toNat > 1 := by omega
    refine ⟨_, .tuple #[.int .u64 ((x + y + z) % 18446744073709551616), .int .u64 ((x + y + z) / 18446744073709551616)], h, ?_, ?_⟩
    · exact .tup _ _ rfl (LR.arr (LR.cons (.sI _ _) (LR.cons (.sI _ _) (LR.nil _)))).2
    · rw [Sem.run_bind, three_run _ _ _ _ _ _ _ hc']
      have e : ((x.toNat + y.toNat + z.toNat : Nat) : Int) = x + y + z := by omega
      have q1 : Int.ofNat ((x.toNat + y.toNat + z.toNat) % Extern.MathBitsCarry.m64) = (x + y + z) % 18446744073709551616 := by
        rw [← e]; show _ = ((_ : Nat) : Int) % ((18446744073709551616 : Nat) : Int); rw [← Int.natCast_emod]; rfl
      have q2 : Int.ofNat ((x.toNat + y.toNat + z.toNat) / Extern.MathBitsCarry.m64) = (x + y + z) / 18446744073709551616 := by
        rw [← e]; show _ = ((_ : Nat) : Int) / ((18446744073709551616 : Nat) : Int); rw [← Int.natCast_ediv]; rfl
      show ((pure (Extern.MathBitsCarry.pair _ _) : Sem Value)).run P w = _
      rw [Sem.run_pure]
      show Result.ok (Value.tuple #[.int .u64 (Int.ofNat _), .int .u64 (Int.ofNat _)]) w = _
      rw [q1, q2]
  · exact (nofail h).elim
theorem sub64S_run {a b c : AV} {vs : List Value} (hl : LR ρ [a, b, c] vs) (h : run (sub64S a b c k) σ K = true) :
    ∃ av v, run (k av) σ K = true ∧ VR ρ av v ∧ ((do
      let (x, y, b) ← Extern.MathBitsCarry.three "Sub64" vs.toArray
      pure (Extern.MathBitsCarry.pair ((x + Extern.MathBitsCarry.m64 - y - b) % Extern.MathBitsCarry.m64) (if x < y + b then 1 else 0)) : Sem Value)).run P w = .ok v w := by
  unfold sub64S at h
  split at h
  · rename_i j1 x j2 y j3 z e1 e2 e3
    obtain ⟨v1, vs1, rfl, hv1, hl1⟩ := hl.cons_inv
    obtain ⟨v2, vs2, rfl, hv2, hl2⟩ := hl1.cons_inv
    obtain ⟨v3, vs3, rfl, hv3, hl3⟩ := hl2.cons_inv
    have := hl3.nil_inv
    subst this
    have e1 := numS_inv hv1 e1
    have e2 := numS_inv hv2 e2
    have e3 := numS_inv hv3 e3
    subst e1; subst e2; subst e3
    obtain ⟨⟨h1, h2, h2', h3, h4⟩, h⟩ := req_ok h
    have hc' : ¬ z.toNat > 1 := by omega
    have hm : Extern.MathBitsCarry.m64 = 18446744073709551616 := rfl
    have e : ((x.toNat + Extern.MathBitsCarry.m64 - y.toNat - z.toNat : Nat) : Int) = x + 18446744073709551616 - y - z := by rw [hm]; omega
    have q1 : Int.ofNat ((x.toNat + Extern.MathBitsCarry.m64 - y.toNat - z.toNat) % Extern.MathBitsCarry.m64) = (x + 18446744073709551616 - y - z) % 18446744073709551616 := by
      rw [← e]; show _ = ((_ : Nat) : Int) % ((18446744073709551616 : Nat) : Int); rw [← Int.natCast_emod]; rfl
    rcases ask_ok h with ⟨hp, h⟩ | ⟨hp, h⟩
    · refine ⟨_, .tuple #[.int .u64 ((x + 18446744073709551616 - y - z) % 18446744073709551616), .int .u64 1], h, ?_, ?_⟩
      · exact .tup _ _ rfl (LR.arr (LR.cons (.sI _ _) (LR.cons (.sI _ _) (LR.nil _)))).2
      · rw [Sem.run_bind, three_run _ _ _ _ _ _ _ hc']
        show ((pure (Extern.MathBitsCarry.pair _ (if x.toNat < y.toNat + z.toNat then 1 else 0)) : Sem Value)).run P w = _
        rw [Sem.run_pure, if_pos (by omega)]
        show Result.ok (Value.tuple #[.int .u64 (Int.ofNat _), .int .u64 1]) w = _
        rw [q1]
    · refine ⟨_, .tuple #[.int .u64 ((x + 18446744073709551616 - y - z) % 18446744073709551616), .int .u64 0], h, ?_, ?_⟩
      · exact .tup _ _ rfl (LR.arr (LR.cons (.sI _ _) (LR.cons (.sI _ _) (LR.nil _)))).2
      · rw [Sem.run_bind, three_run _ _ _ _ _ _ _ hc']
        show ((pure (Extern.MathBitsCarry.pair _ (if x.toNat < y.toNat + z.toNat then 1 else 0)) : Sem Value)).run P w = _
        rw [Sem.run_pure, if_neg (by omega)]
        show Result.ok (Value.tuple #[.int .u64 (Int.ofNat _), .int .u64 0]) w = _
        rw [q1]
  · exact (nofail h).elim
theorem add64_run {args : List AV} {vs : List Value} (hl : LR ρ args vs) (h : run (add64A args k) σ K = true) :
    ∃ av v, run (k av) σ K = true ∧ VR ρ av v ∧ ((do
      let (x, y, c) ← Extern.MathBitsCarry.three "Add64" vs.toArray
      pure (Extern.MathBitsCarry.pair ((x + y + c) % Extern.MathBitsCarry.m64) ((x + y + c) / Extern.MathBitsCarry.m64)) : Sem Value)).run P w = .ok v w := by
  unfold add64A at h
  split at h
  · rename_i j1 x j2 y j3 c
    obtain ⟨v1, vs1, rfl, hv1, hl1⟩ := hl.cons_inv
    obtain ⟨v2, vs2, rfl, hv2, hl2⟩ := hl1.cons_inv
    obtain ⟨v3, vs3, rfl, hv3, hl3⟩ := hl2.cons_inv
    have := hl3.nil_inv
    subst this
    cases hv1; cases hv2; cases hv3
    obtain ⟨hc, h⟩ := bifT h
    have hc := bleT hc
    have hc' : ¬ c.toNat > 1 := by omega
    simp only [fN_eq] at h
    refine ⟨_, .tuple #[.int .u64 (Int.ofNat (((x.toNat.add y.toNat).add c.toNat).mod 18446744073709551616)), .int .u64 (Int.ofNat (((x.toNat.add y.toNat).add c.toNat).div 18446744073709551616))], h, ?_, ?_⟩
    · exact .tup _ _ rfl (LR.arr (LR.cons (.int _ _) (LR.cons (.int _ _) (LR.nil _)))).2
    · rw [Sem.run_bind, three_run _ _ _ _ _ _ _ hc']
      rfl
  · exact add64S_run hl h
  · exact (nofail h).elim
theorem sub64_run {args : List AV} {vs : List Value} (hl : LR ρ args vs) (h : run (sub64A args k) σ K = true) :
    ∃ av v, run (k av) σ K = true ∧ VR ρ av v ∧ ((do
      let (x, y, b) ← Extern.MathBitsCarry.three "Sub64" vs.toArray
      pure (Extern.MathBitsCarry.pair ((x + Extern.MathBitsCarry.m64 - y - b) % Extern.MathBitsCarry.m64) (if x < y + b then 1 else 0)) : Sem Value)).run P w = .ok v w := by
  unfold sub64A at h
  split at h
  · rename_i j1 x j2 y j3 c
    obtain ⟨v1, vs1, rfl, hv1, hl1⟩ := hl.cons_inv
    obtain ⟨v2, vs2, rfl, hv2, hl2⟩ := hl1.cons_inv
    obtain ⟨v3, vs3, rfl, hv3, hl3⟩ := hl2.cons_inv
    have := hl3.nil_inv
    subst this
    cases hv1; cases hv2; cases hv3
    obtain ⟨hc, h⟩ := bifT h
    have hc := bleT hc
    have hc' : ¬ c.toNat > 1 := by omega
    simp only [fN_eq] at h
    refine ⟨_, .tuple #[.int .u64 (Int.ofNat ((((x.toNat.add 18446744073709551616).sub y.toNat).sub c.toNat).mod 18446744073709551616)), .int .u64 (Int.ofNat (bif' (x.toNat.succ.ble (y.toNat.add c.toNat)) 1 0))], h, ?_, ?_⟩
    · exact .tup _ _ rfl (LR.arr (LR.cons (.int _ _) (LR.cons (.int _ _) (LR.nil _)))).2
    · rw [Sem.run_bind, three_run _ _ _ _ _ _ _ hc']
      simp only [Result.andThen_ok]
      have e : (if x.toNat < y.toNat + c.toNat then 1 else 0 : Nat) = bif' (Nat.ble (Nat.succ x.toNat) (Nat.add y.toNat c.toNat)) 1 0 := by
        rw [bif'_eq]
        by_cases hlt : x.toNat < y.toNat + c.toNat
        · rw [if_pos hlt, if_pos (show Nat.ble (Nat.succ x.toNat) (Nat.add y.toNat c.toNat) = true from Nat.ble_eq.mpr hlt)]
        · rw [if_neg hlt, if_neg (fun hh : Nat.ble (Nat.succ x.toNat) (Nat.add y.toNat c.toNat) = true => hlt (Nat.ble_eq.mp hh))]
      rw [e]
      rfl
  · exact sub64S_run hl h
  · exact (nofail h).elim
theorem ext_run {i : Nat} {args : List AV} {vs : List Value} (h : isExt P i = true) (hl : LR ρ args vs) (hr : run (extA P i args k) σ K = true) : ∃ av v, run (k av) σ K = true ∧ VR ρ av v ∧ (callFunc i vs.toArray).run P w = .ok (.value v) w := by
  unfold isExt at h
  unfold extA at hr
  split at h
  · rename_i fn hf
    rw [hf] at hr
    split at h
    · rename_i hb
      have ho := of_decide_eq_true h
      rcases bif2 hr with ⟨hne, hr⟩ | ⟨_, hr⟩
      · have hname := of_decide_eq_true hne
        have h1 : Extern.findNext fn = none := by
          unfold Extern.findNext
          rw [hname, ho]
          kernel_rfl
        have h2 : Extern.find fn = some Extern.AbiNoEscape.same := by
          unfold Extern.find
          rw [hname]
          kernel_rfl
        split at hr
        · rename_i x
          obtain ⟨xv, vs', rfl, hxv, hnil⟩ := hl.cons_inv
          have := hnil.nil_inv
          subst this
          refine ⟨_, _, hr, hxv, ?_⟩
          rw [ext_call hf hb (by rw [hname]; decide) h1 h2]
          rfl
        · exact (nofail hr).elim
      · rcases bif2 hr with ⟨hne, hr⟩ | ⟨_, hr⟩
        · have hname := of_decide_eq_true hne
          have h1 : Extern.findNext fn = none := by
            unfold Extern.findNext
            rw [hname, ho]
            kernel_rfl
          have h2 : Extern.find fn = some (fun args => do
              let (x, y, c) ← Extern.MathBitsCarry.three "Add64" args
              pure (Extern.MathBitsCarry.pair ((x + y + c) % Extern.MathBitsCarry.m64) ((x + y + c) / Extern.MathBitsCarry.m64))) := by
            unfold Extern.find
            rw [hname]
            kernel_rfl
          obtain ⟨av, v, q1, q2, q3⟩ := add64_run (P := P) (w := w) hl hr
          refine ⟨av, v, q1, q2, ?_⟩
          rw [ext_call hf hb (by rw [hname]; decide) h1 h2, Sem.run_bind, q3]
          rfl
        · obtain ⟨hne, hr⟩ := bifT hr
          have hname := of_decide_eq_true hne
          have h1 : Extern.findNext fn = none := by
            unfold Extern.findNext
            rw [hname, ho]
            kernel_rfl
          have h2 : Extern.find fn = some (fun args => do
              let (x, y, b) ← Extern.MathBitsCarry.three "Sub64" args
              pure (Extern.MathBitsCarry.pair ((x + Extern.MathBitsCarry.m64 - y - b) % Extern.MathBitsCarry.m64) (if x < y + b then 1 else 0))) := by
            unfold Extern.find
            rw [hname]
            kernel_rfl
          obtain ⟨av, v, q1, q2, q3⟩ := sub64_run (P := P) (w := w) hl hr
          refine ⟨av, v, q1, q2, ?_⟩
          rw [ext_call hf hb (by rw [hname]; decide) h1 h2, Sem.run_bind, q3]
          rfl
    · cases h
  · cases h
end
end Go.Sym
namespace Go.Sym
open Go.RowKit (Below)
set_option linter.unusedVariables false
def fR (rd : Option Nat) : Fence := { Fence.wide with round := rd }
def RnOk (P : Program) (w0 : World) (rn : Enter) : Prop :=
  ∀ (l : Nat) (as : List AV) (vs : List Value) (k : AV → Tr) (σ : St) (K : Fin) (ρ : Rho) (w : World) (R : Ending → World → Prop), SI σ → Good w0 ρ σ.h w → LR ρ as vs → run (rn l as k) σ K = true →
    (∀ av v σ' ρ' w', run (k av) σ' K = true → SI σ' → Good w0 ρ' σ'.h w' → ρ.le ρ' → VR ρ' av v → R (.returned v) w') →
    ∃ h, ρ.at_ l 0 = some h ∧ ∃ f tmps as bd, (Instr.yield h.blk vs.toArray).run P w = .ok (.round h.blk f tmps as bd) w ∧ RoundIn Fence.wide 0 P h.blk f tmps as bd w R
def EnOk (P : Program) (w0 : World) (en : Enter) : Prop :=
  ∀ (f : Nat) (l : List AV) (vs : List Value) (k : AV → Tr) (σ : St) (K : Fin) (ρ : Rho) (w : World) (R : Ending → World → Prop), SI σ → Good w0 ρ σ.h w → LR ρ l vs → run (en f l k) σ K = true →
    (∀ av v σ' ρ' w', run (k av) σ' K = true → SI σ' → Good w0 ρ' σ'.h w' → ρ.le ρ' → VR ρ' av v → R (.returned v) w') →
    (∀ args : Array Value, (callFunc f args).run P w = .ok (.enter f args) w) ∧ CallsIn Fence.wide 0 P f vs.toArray w R
section
variable {P : Program} {w0 : World} {ρ : Rho} {w : World} {σ : St} {K : Fin} {k : AV → Tr} {nt : Nat} {env : T AV} {a : Act} {o : Oper} {next : Act → World → Prop} {Q : Exit → Act → World → Prop} {rd : Option Nat}
def Nxt (w0 : World) (ρ : Rho) (K : Fin) (k : AV → Tr) (o : Oper) (a : Act) (next : Act → World → Prop) : Prop :=
  ∀ av v σ' ρ' w', run (k av) σ' K = true → SI σ' → Good w0 ρ' σ'.h w' → ρ.le ρ' → VR ρ' av v → next (a.put o.dst v) w'
theorem val_wp {s : Sem Value} (he : execOp a.eval o = (do pure (.value (← s)))) (hn : Nxt w0 ρ K k o a next) (hr : Res P w0 ρ w k K s) (hd : ∀ c, o.op ≠ .defer c := by assumption) : o.wpIn (fR rd) 0 P a w next Q := by
  obtain ⟨av, σ', ρ', v, w', h1, h2, h3, h4, h5, h6⟩ := hr
  refine ⟨fun _ _ => trivial, ?_⟩
  show o.uponIn (fR rd) 0 P a next Q ((o.semAt rd a.eval).run P w)
  rw [Oper.semAt_eq _ _ _ hd, he]
  simp only [Sem.run_bind, h6, Result.andThen_ok, Sem.run_pure, Oper.uponIn_value]
  exact hn av v σ' ρ' w' h1 h2 h3 h4 h5
theorem pure_wp {av : AV} {v : Value} (he : (execOp a.eval o).run P w = .ok (.value v) w) (hn : Nxt w0 ρ K k o a next) (hr : run (k av) σ K = true) (hS : SI σ) (hG : Good w0 ρ σ.h w) (hv : VR ρ av v) (hd : ∀ c, o.op ≠ .defer c := by assumption) : o.wpIn (fR rd) 0 P a w next Q := by
  refine ⟨fun _ _ => trivial, ?_⟩
  show o.uponIn (fR rd) 0 P a next Q ((o.semAt rd a.eval).run P w)
  rw [Oper.semAt_eq _ _ _ hd, he]
  exact hn av v σ ρ w hr hS hG (Rho.le.refl ρ) hv
theorem unit_wp {s : Sem Unit} (he : execOp a.eval o = (do s; pure .skip)) (hn : Nxt w0 ρ K k o a next) (hr : ResU P w0 ρ w (skipK k) K s) (hd : ∀ c, o.op ≠ .defer c := by assumption) : o.wpIn (fR rd) 0 P a w next Q := by
  obtain ⟨σ', w', h1, h2, h3, h4⟩ := hr
  refine ⟨fun _ _ => trivial, ?_⟩
  show o.uponIn (fR rd) 0 P a next Q ((o.semAt rd a.eval).run P w)
  rw [Oper.semAt_eq _ _ _ hd, he]
  simp only [Sem.run_bind, h4, Result.andThen_ok, Sem.run_pure, Oper.uponIn_skip]
  exact hn _ _ σ' ρ w' h1 h2 h3 (Rho.le.refl ρ) (.tup [] #[] rfl (by simp))
theorem opA_ok {en rn : Enter} (hen : EnOk P w0 en) (hrn : RnOk P w0 rn) (hS : SI σ) (hG : Good w0 ρ σ.h w) (hE : ER ρ nt env a.tmps) (h : run (opA P en rn env o.op k) σ K = true) (hn : Nxt w0 ρ K k o a next) : o.wpIn (fR rd) 0 P a w next Q := by
  have ev : ∀ {σ : St} {x : Operand} {f : AV → Tr}, SI σ → Good w0 ρ σ.h w → run (evK env x f) σ K = true → ∃ av σ', SI σ' ∧ Good w0 ρ σ'.h w ∧ run (f av) σ' K = true ∧ VR ρ av (a.eval x) := by
    intro σ x f hS hG h
    obtain ⟨av, σ', e, h1, h2, h3⟩ := ev_ok hS hG hE h
    exact ⟨av, σ', h1, by rw [e]; exact hG, h2, h3⟩
  have hd : ∀ c, o.op ≠ .defer c := fun c hc => by rw [hc] at h; exact nofail h
  cases ho : o.op with
  | move x =>
    rw [ho] at h
    obtain ⟨av, σ1, hS1, hG1, h, hv⟩ := ev hS hG h
    exact pure_wp (by simp only [execOp, ho]; rfl) hn h hS1 hG1 hv
  | assign x =>
    rw [ho] at h
    obtain ⟨av, σ1, hS1, hG1, h, hv⟩ := ev hS hG h
    exact pure_wp (by simp only [execOp, ho]; rfl) hn h hS1 hG1 hv
  | pick c x y =>
    rw [ho] at h
    obtain ⟨av, σ1, hS1, hG1, h, hv⟩ := ev hS hG h
    obtain ⟨b, hc, h⟩ := asBoolT hv h
    rcases bif2 h with ⟨e, h⟩ | ⟨e, h⟩
    · subst e
      obtain ⟨av, σ2, hS2, hG2, h, hv⟩ := ev hS1 hG1 h
      exact pure_wp (v := a.eval x) (by simp only [execOp, ho, hc]; rfl) hn h hS2 hG2 hv
    · subst e
      obtain ⟨av, σ2, hS2, hG2, h, hv⟩ := ev hS1 hG1 h
      exact pure_wp (v := a.eval y) (by simp only [execOp, ho, hc]; rfl) hn h hS2 hG2 hv
  | alloc t =>
    rw [ho] at h
    exact val_wp (by simp only [execOp, ho]) hn (alloc_ok hS hG h)
  | box t x =>
    rw [ho] at h
    obtain ⟨av, σ1, hS1, hG1, h, hv⟩ := ev hS hG h
    exact val_wp (by simp only [execOp, ho]) hn (box_ok (t := t) hS1 hG1 hv h)
  | build t ps =>
    rw [ho] at h
    obtain ⟨av, σ1, e, hS1, h, h1, h2⟩ := evParts_ok hS hG hE h
    have hG1 : Good w0 ρ σ1.h w := by rw [e]; exact hG
    exact val_wp (s := Instr.build t (ps.map fun x => (x.1, a.eval x.2))) (by simp only [execOp, ho]) hn (build_ok hS1 hG1 (by rw [h1]; simp [Function.comp_def]) (by simpa [Function.comp_def] using h2) h)
  | buildSlice t n ps =>
    rw [ho] at h
    obtain ⟨av, σ1, e, hS1, h, h1, h2⟩ := evParts_ok hS hG hE h
    have hG1 : Good w0 ρ σ1.h w := by rw [e]; exact hG
    exact val_wp (s := Instr.buildSlice t n (ps.map fun x => (x.1, a.eval x.2))) (by simp only [execOp, ho]) hn (buildSlice_ok hS1 hG1 (by rw [h1]; simp [Function.comp_def]) (by simpa [Function.comp_def] using h2) h)
  | load t x =>
    rw [ho] at h
    obtain ⟨av, σ1, hS1, hG1, h, hv⟩ := ev hS hG h
    exact val_wp (by simp only [execOp, ho]) hn (load_ok hS1 hG1 hv h)
  | store t x y =>
    rw [ho] at h
    obtain ⟨av, σ1, hS1, hG1, h, hv⟩ := ev hS hG h
    obtain ⟨au, σ2, hS2, hG2, h, hu⟩ := ev hS1 hG1 h
    exact unit_wp (by simp only [execOp, ho]) hn (store_ok hS2 hG2 hv hu h)
  | nilCheck x =>
    rw [ho] at h
    obtain ⟨av, σ1, hS1, hG1, h, hv⟩ := ev hS hG h
    obtain ⟨h, hc⟩ := nilCheckA_ok hv h
    refine pure_wp (v := a.eval x) ?_ hn h hS1 hG1 hv
    rcases hc with ⟨p, e⟩ | ⟨f, l, m, e⟩ | ⟨f, l, m, e⟩ <;> (simp only [execOp, ho, e]; rfl)
  | binOp op t x y z =>
    rw [ho] at h
    obtain ⟨av, σ1, hS1, hG1, h, hv⟩ := ev hS hG h
    obtain ⟨au, σ2, hS2, hG2, h, hu⟩ := ev hS1 hG1 h
    exact val_wp (by simp only [execOp, ho]) hn (binOp_ok (ox := x) (oy := y) hS2 hG2 hv hu h)
  | unOp op t x =>
    rw [ho] at h
    obtain ⟨av, σ1, hS1, hG1, h, hv⟩ := ev hS hG h
    exact val_wp (by simp only [execOp, ho]) hn (unOp_ok hS1 hG1 hv h)
  | convert s d x =>
    rw [ho] at h
    obtain ⟨av, σ1, hS1, hG1, h, hv⟩ := ev hS hG h
    exact val_wp (by simp only [execOp, ho]) hn (convA_ok hS1 hG1 hv h)
  | makeInterface t x =>
    rw [ho] at h
    obtain ⟨av, σ1, hS1, hG1, h, hv⟩ := ev hS hG h
    exact val_wp (by simp only [execOp, ho]) hn (mkIface_ok hS1 hG1 hv h)
  | makeFunc fn first cap =>
    rw [ho] at h
    obtain ⟨hf, h⟩ := bifT h
    obtain ⟨l1, σ1, e, hS1, h, hl1⟩ := evs_ok hS hG hE h
    have hG1 : Good w0 ρ σ1.h w := by rw [e]; exact hG
    obtain ⟨l2, σ2, e2, hS2, h, hl2⟩ := evs_ok hS1 hG1 hE h
    have hG2 : Good w0 ρ σ2.h w := by rw [e2]; exact hG1
    have q1 : LR ρ l1 (first.map a.eval).toList := by simpa using hl1
    have q2 : LR ρ l2 (cap.map a.eval).toList := by simpa using hl2
    exact pure_wp (v := .func fn (first.map a.eval) (cap.map a.eval)) (by simp only [execOp, ho]; rfl) hn h hS2 hG2 (.func fn l1 l2 _ _ q1.arr.1 q2.arr.1 q1.arr.2 q2.arr.2 hf)
  | makeMap t r =>
    rw [ho] at h
    cases r with
    | none => exact val_wp (s := Instr.makeMap t none) (by simp only [execOp, ho]; rfl) hn (makeMap_ok (fun v hv => by cases hv) hS hG h)
    | some x =>
      obtain ⟨d, hu, h⟩ := undT h
      cases d with
      | map kt e =>
        obtain ⟨av, σ1, hS1, hG1, h, hv⟩ := ev hS hG h
        obtain ⟨j, n, rfl, h⟩ := asIntT h
        generalize hc : a.eval x = cv at hv
        cases hv
        exact val_wp (s := Instr.makeMap t (some (a.eval x))) (by simp only [execOp, ho]; rfl) hn (makeMap_ok (fun v hv => by injection hv with hv; exact ⟨⟨kt, e, hu⟩, j, n, by rw [← hv, hc]⟩) hS1 hG1 h)
      | _ => exact (nofail h).elim
  | makeSlice t x y =>
    rw [ho] at h
    obtain ⟨av, σ1, hS1, hG1, h, hv⟩ := ev hS hG h
    obtain ⟨au, σ2, hS2, hG2, h, hu⟩ := ev hS1 hG1 h
    exact val_wp (by simp only [execOp, ho]) hn (makeSliceA_ok hS2 hG2 hv hu h)
  | typeAssert x xt t ok =>
    rw [ho] at h
    obtain ⟨av, σ1, hS1, hG1, h, hv⟩ := ev hS hG h
    exact val_wp (by simp only [execOp, ho]) hn (typeAssertA_ok (xt := xt) hS1 hG1 hv h)
  | slice t x lo hi mx =>
    rw [ho] at h
    obtain ⟨av, σ1, hS1, hG1, h, hv⟩ := ev hS hG h
    obtain ⟨o1, σ2, e2, hS2, h, h1⟩ := evo_ok hS1 hG1 hE h
    have hG2 : Good w0 ρ σ2.h w := by rw [e2]; exact hG1
    obtain ⟨o2, σ3, e3, hS3, h, h2⟩ := evo_ok hS2 hG2 hE h
    have hG3 : Good w0 ρ σ3.h w := by rw [e3]; exact hG2
    obtain ⟨o3, σ4, e4, hS4, h, h3⟩ := evo_ok hS3 hG3 hE h
    have hG4 : Good w0 ρ σ4.h w := by rw [e4]; exact hG3
    exact val_wp (by simp only [execOp, ho]) hn (sliceA_ok hS4 hG4 hv h1 h2 h3 h)
  | fieldAddr t x f =>
    rw [ho] at h
    obtain ⟨av, σ1, hS1, hG1, h, hv⟩ := ev hS hG h
    exact val_wp (by simp only [execOp, ho]) hn (fieldAddr_ok hS1 hG1 hv h)
  | field t x f =>
    rw [ho] at h
    obtain ⟨av, σ1, hS1, hG1, h, hv⟩ := ev hS hG h
    exact val_wp (by simp only [execOp, ho]) hn (field_ok hS1 hG1 hv h)
  | indexAddr t x i =>
    rw [ho] at h
    obtain ⟨av, σ1, hS1, hG1, h, hv⟩ := ev hS hG h
    obtain ⟨au, σ2, hS2, hG2, h, hu⟩ := ev hS1 hG1 h
    exact val_wp (by simp only [execOp, ho]) hn (indexAddr_ok hS2 hG2 hv hu h)
  | index t x i =>
    rw [ho] at h
    obtain ⟨av, σ1, hS1, hG1, h, hv⟩ := ev hS hG h
    obtain ⟨au, σ2, hS2, hG2, h, hu⟩ := ev hS1 hG1 h
    exact val_wp (by simp only [execOp, ho]) hn (index_ok hS2 hG2 hv hu h)
  | range t x =>
    rw [ho] at h
    obtain ⟨av, σ1, hS1, hG1, h, hv⟩ := ev hS hG h
    exact val_wp (by simp only [execOp, ho]) hn (rangeA_ok hS1 hG1 hv h)
  | next it s =>
    rw [ho] at h
    obtain ⟨av, σ1, hS1, hG1, h, hv⟩ := ev hS hG h
    exact val_wp (by simp only [execOp, ho]) hn (nextA_ok (ty := o.type) hS1 hG1 hv h)
  | lookup t x i ok =>
    rw [ho] at h
    obtain ⟨av, σ1, hS1, hG1, h, hv⟩ := ev hS hG h
    obtain ⟨au, σ2, hS2, hG2, h, hu⟩ := ev hS1 hG1 h
    exact val_wp (by simp only [execOp, ho]) hn (lookupA_ok hS2 hG2 hv hu h)
  | mapUpdate t m i v =>
    rw [ho] at h
    obtain ⟨av, σ1, hS1, hG1, h, hv⟩ := ev hS hG h
    obtain ⟨au, σ2, hS2, hG2, h, hu⟩ := ev hS1 hG1 h
    obtain ⟨aw, σ3, hS3, hG3, h, hw⟩ := ev hS2 hG2 h
    exact unit_wp (by simp only [execOp, ho]) hn (mapUpdateA_ok hS3 hG3 hv hu hw h)
  | insert t m i v =>
    rw [ho] at h
    obtain ⟨av, σ1, hS1, hG1, h, hv⟩ := ev hS hG h
    obtain ⟨au, σ2, hS2, hG2, h, hu⟩ := ev hS1 hG1 h
    obtain ⟨aw, σ3, hS3, hG3, h, hw⟩ := ev hS2 hG2 h
    exact unit_wp (by simp only [execOp, ho]) hn (mapUpdateA_ok hS3 hG3 hv hu hw h)
  | mapEntry t m i =>
    rw [ho] at h
    obtain ⟨av, σ1, hS1, hG1, h, hv⟩ := ev hS hG h
    obtain ⟨au, σ2, hS2, hG2, h, hu⟩ := ev hS1 hG1 h
    exact val_wp (by simp only [execOp, ho]) hn (mapEntryA_ok hS2 hG2 hv hu h)
  | entryStore t m i v =>
    rw [ho] at h
    obtain ⟨av, σ1, hS1, hG1, h, hv⟩ := ev hS hG h
    obtain ⟨au, σ2, hS2, hG2, h, hu⟩ := ev hS1 hG1 h
    obtain ⟨aw, σ3, hS3, hG3, h, hw⟩ := ev hS2 hG2 h
    exact unit_wp (by simp only [execOp, ho]) hn (entryStoreA_ok (t := t) hS3 hG3 hv hu hw h)
  | entry it =>
    rw [ho] at h
    obtain ⟨av, σ1, hS1, hG1, h, hv⟩ := ev hS hG h
    exact val_wp (by simp only [execOp, ho]) hn (entryA_ok hS1 hG1 hv h)
  | extract t i =>
    rw [ho] at h
    obtain ⟨av, σ1, hS1, hG1, h, hv⟩ := ev hS hG h
    exact val_wp (by simp only [execOp, ho]) hn (extract_ok hS1 hG1 hv h)
  | call c =>
    rw [ho] at h
    have hargs : c.args.map a.eval = (c.args.toList.map a.eval).toArray := by apply Array.ext'; simp
    have h : run (match c.callee with
      | .builtin b => evsK env c.args.toList fun l => builtinA P b c.argTypes l k
      | .value f => evK env f fun f => evsK env c.args.toList fun l => callA P en rn f l k
      | .invoke _ _ => .fail) σ K = true := h
    cases hc : c.callee with
    | builtin b =>
      rw [hc] at h
      obtain ⟨l, σ1, e, hS1, h, hl⟩ := evs_ok hS hG hE h
      have hG1 : Good w0 ρ σ1.h w := by rw [e]; exact hG
      cases b with
      | append => exact val_wp (s := Builtin.append_ c.argTypes o.type (c.args.toList.map a.eval).toArray) (by simp only [execOp, ho, resolve, hc, hargs, invoke, builtin]; rfl) hn (appendA_ok hS1 hG1 hl h)
      | unsafeString => exact val_wp (s := Builtin.unsafeString_ c.argTypes o.type (c.args.toList.map a.eval).toArray) (by simp only [execOp, ho, resolve, hc, hargs, invoke, builtin]; rfl) hn (ustr_ok hS1 hG1 hl h)
      | unsafeSliceData => exact val_wp (s := Builtin.unsafeSliceData_ c.argTypes o.type (c.args.toList.map a.eval).toArray) (by simp only [execOp, ho, resolve, hc, hargs, invoke, builtin]; rfl) hn (sliceData_ok hS1 hG1 hl h)
      | len => exact val_wp (s := Builtin.len_ c.argTypes o.type (c.args.toList.map a.eval).toArray) (by simp only [execOp, ho, resolve, hc, hargs, invoke, builtin]; rfl) hn (lenOfA_ok hS1 hG1 hl h)
      | copy => exact val_wp (s := Builtin.copy_ c.argTypes o.type (c.args.toList.map a.eval).toArray) (by simp only [execOp, ho, resolve, hc, hargs, invoke, builtin]; rfl) hn (copyA_ok hS1 hG1 hl h)
      | max => exact val_wp (s := Builtin.max_ c.argTypes o.type (c.args.toList.map a.eval).toArray) (by simp only [execOp, ho, resolve, hc, hargs, invoke, builtin]; rfl) hn (max_ok hS1 hG1 hl h)
      | min => exact val_wp (s := Builtin.min_ c.argTypes o.type (c.args.toList.map a.eval).toArray) (by simp only [execOp, ho, resolve, hc, hargs, invoke, builtin]; rfl) hn (min_ok hS1 hG1 hl h)
      | delete => exact val_wp (s := Builtin.delete_ c.argTypes o.type (c.args.toList.map a.eval).toArray) (by simp only [execOp, ho, resolve, hc, hargs, invoke, builtin]; rfl) hn (deleteA_ok hS1 hG1 hl h)
      | _ => exact (nofail h).elim
    | value f =>
      rw [hc] at h
      obtain ⟨av, σ1, hS1, hG1, h, hv⟩ := ev hS hG h
      obtain ⟨l, σ2, e, hS2, h, hl⟩ := evs_ok hS1 hG1 hE h
      have hG2 : Good w0 ρ σ2.h w := by rw [e]; exact hG1
      generalize hfv : a.eval f = fv at hv
      cases hv with
      | func fn l1 m1 first captured h1 h2 r1 r2 hf =>
        cases fn with
        | func i =>
          have q1 : LR ρ l1 first.toList := LR.of_arr h1 r1
          have q2 : LR ρ m1 captured.toList := LR.of_arr h2 r2
          have ea : (first ++ (c.args.toList.map a.eval).toArray ++ captured) = (first.toList ++ c.args.toList.map a.eval ++ captured.toList).toArray := by apply Array.ext'; simp
          have he0 : (execOp a.eval o).run P w = (callFunc i (first ++ (c.args.toList.map a.eval).toArray ++ captured)).run P w := by
            simp only [execOp, ho, resolve, hc, hfv, Deferred.ofValue, hargs, Sem.run_bind, Sem.run_pure, Result.andThen_ok, invoke]
          have h : run (bif' (isExt P i) (extA P i (l1 ++ l ++ m1) k) (en i (l1 ++ l ++ m1) k)) σ2 K = true := h
          rcases bif2 h with ⟨hne, h⟩ | ⟨_, h⟩
          · obtain ⟨av, v, q3, q4, q5⟩ := ext_run (w := w) hne ((q1.append hl).append q2) h
            refine pure_wp ?_ hn q3 hS2 hG2 q4
            rw [he0, ea]
            exact q5
          obtain ⟨hcf, hci⟩ := hen i (l1 ++ l ++ m1) _ k σ2 K ρ w (fun e w' => match e with
            | .returned v => next (a.put o.dst v) w'
            | .panicked chain => Q (.panic chain) a w'
            | .outgrown => LetsOut Q) hS2 hG2 ((q1.append hl).append q2) h (fun av v σ' ρ' w' g1 g2 g3 g4 g5 => hn av v σ' ρ' w' g1 g2 g3 g4 g5)
          refine ⟨fun _ _ => trivial, ?_⟩
          show o.uponIn (fR rd) 0 P a next Q ((o.semAt rd a.eval).run P w)
          have he : (execOp a.eval o).run P w = .ok (.enter i (first ++ (c.args.toList.map a.eval).toArray ++ captured)) w := by
            rw [he0]; exact hcf _
          rw [Oper.semAt_eq _ _ _ hd, he, Oper.uponIn_enter]
          refine ⟨fun h => absurd h (by simp [fR, Fence.wide]), ?_⟩
          rw [ea]
          exact hci.mono fun e w' hr => by cases e <;> exact hr
        | yield _ => exact absurd (show false = true from hf) (by decide)
        | _ => exact (nofail h).elim
      | yld b hb hh =>
        have h : run (rn b l k) σ2 K = true := h
        obtain ⟨hb', hh', f, tmps, as, bd, q1, q2⟩ := hrn b l _ k σ2 K ρ w (fun e w' => match e with
            | .returned v => next (a.put o.dst v) w'
            | .panicked chain => Q (.panic chain) a w'
            | .outgrown => LetsOut Q) hS2 hG2 hl h (fun av v σ' ρ' w' g1 g2 g3 g4 g5 => hn av v σ' ρ' w' g1 g2 g3 g4 g5)
        rw [hh] at hh'; injection hh' with hh'; subst hh'
        refine ⟨fun _ _ => trivial, ?_⟩
        show o.uponIn (fR rd) 0 P a next Q ((o.semAt rd a.eval).run P w)
        have he : (execOp a.eval o).run P w = .ok (.round hb.blk f tmps as bd) w := by
          have : (execOp a.eval o).run P w = (Instr.yield hb.blk (#[] ++ (c.args.toList.map a.eval).toArray)).run P w := by
            simp only [execOp, ho, resolve, hc, hfv, Deferred.ofValue, hargs, Sem.run_bind, Sem.run_pure, Result.andThen_ok, invoke]
          rw [this, Array.empty_append]; exact q1
        rw [Oper.semAt_eq _ _ _ hd, he, Oper.uponIn_round]
        refine ⟨fun h => absurd h (by simp [fR, Fence.wide]), ?_⟩
        exact RoundIn.mono (show RoundIn (fR rd) (0 - 1) P hb.blk f tmps as bd w _ from q2) fun e w' hr => by cases e <;> exact hr
      | _ => exact (nofail h).elim
    | invoke r m => rw [hc] at h; exact (nofail h).elim
  | _ => rw [ho] at h; exact (nofail h).elim
end
end Go.Sym
namespace Go.Sym
open Go.RowKit (Below)
set_option linter.unusedVariables false
section
variable {P : Program} {w0 : World} {ρ : Rho} {w : World} {σ : St} {K : Fin} {nt : Nat} {env : T AV} {a : Act}
theorem putT {dst : Option Nat} {av : AV} {v : Value} {k : T AV → Tr} (hv : VR ρ av v) (hE : ER ρ nt env a.tmps) (h : run (putK nt dst av env k) σ K = true) :
    ∃ env', run (k env') σ K = true ∧ ER ρ nt env' (a.put dst v).tmps ∧ (a.put dst v).defers = a.defers := by
  cases dst with
  | none => exact ⟨env, h, hE, rfl⟩
  | some d =>
    obtain ⟨hd, h⟩ := bifT h
    have hd := bleT hd
    rw [T.setK_eq] at h
    refine ⟨_, h, ⟨?_, fun t b hb => ?_⟩, rfl⟩
    · show (a.tmps.setIfInBounds d v).size = nt
      rw [Array.size_setIfInBounds]; exact hE.size
    · show ∃ u, (a.tmps.setIfInBounds d v)[t]? = some u ∧ VR ρ b u
      by_cases e : t = d
      · subst e
        have := T.get_set_some _ _ hb
        subst this
        refine ⟨v, ?_, hv⟩
        rw [Array.getElem?_setIfInBounds, if_pos rfl, if_pos (by rw [hE.size]; omega)]
      · rw [T.get_set_ne _ e] at hb
        obtain ⟨u, hu, hr⟩ := hE.val t b hb
        exact ⟨u, by rw [Array.getElem?_setIfInBounds, if_neg (fun e' => e e'.symm)]; exact hu, hr⟩
theorem wanted0T {ops : Array Oper} {o : Oper} {yes no : Tr} (hE : ER ρ nt env a.tmps) (h : run (wanted0K ops env o yes no) σ K = true) :
    (Region.wanted o (yielded ops a.tmps) = true ∧ run yes σ K = true) ∨ (Region.wanted o (yielded ops a.tmps) = false ∧ run no σ K = true) := by
  unfold wanted0K at h
  unfold Region.wanted
  split at h
  · rename_i hg
    rw [hg]; exact .inl ⟨rfl, h⟩
  · rename_i j want hg
    rw [hg]
    split at h
    · rename_i oj hj
      split at h
      · rename_i d hd
        obtain ⟨v, hv, h⟩ := getT h
        obtain ⟨u, hu, hr⟩ := hE.val _ _ hv
        have hy : ∀ b, u = .bool b → yielded ops a.tmps j = some b := fun b e => by
          subst e; simp [yielded, hj, hd, hu]
        have hn : (∀ b, u ≠ .bool b) → yielded ops a.tmps j = none := fun hn => by
          simp only [yielded, hj, hd, hu, Option.bind_some]
          cases u <;> first | rfl | exact absurd rfl (hn _)
        cases hr with
        | bool b =>
          rcases bif2 h with ⟨e, h⟩ | ⟨e, h⟩
          · refine .inl ⟨?_, h⟩
            have : b = want := by simpa using e
            subst this
            simp [hy b rfl]
          · refine .inr ⟨?_, h⟩
            have : ¬ b = want := by simpa using e
            simp [hy b rfl, this]
        | tup l cs h1 h2 => exact .inr ⟨by simp [hn (fun b e => by cases e)], h⟩
        | sB p b hb =>
          cases want with
          | true =>
            rcases ask_ok h with ⟨hp, h⟩ | ⟨hp, h⟩
            · exact .inl ⟨by simp [hy b rfl, hb.2 hp], h⟩
            · exact .inr ⟨by simp [hy b rfl]; cases b with | true => exact absurd (hb.1 rfl) hp | false => rfl, h⟩
          | false =>
            rcases ask_ok h with ⟨hp, h⟩ | ⟨hp, h⟩
            · exact .inr ⟨by simp [hy b rfl, hb.2 hp], h⟩
            · exact .inl ⟨by simp [hy b rfl]; cases b with | true => exact absurd (hb.1 rfl) hp | false => rfl, h⟩
        | _ => exact (nofail h).elim
      · exact (nofail h).elim
    · exact (nofail h).elim
theorem ER.known {p : Prop} {b : Bool} {d : Nat} (hE : ER ρ nt env a.tmps) (hd : env.get d = some (.sB p)) (hu : a.tmps[d]? = some (.bool b)) : ER ρ nt (env.set d (.bool b)) a.tmps := by
  refine ⟨hE.size, fun t x hx => ?_⟩
  by_cases e : t = d
  · subst e
    have := T.get_set_some _ _ hx
    subst this
    exact ⟨_, hu, .bool b⟩
  · rw [T.get_set_ne _ e] at hx
    exact hE.val t x hx
theorem wantedT {ops : Array Oper} {o : Oper} {yes no : T AV → Tr} (hE : ER ρ nt env a.tmps) (h : run (wantedK ops env o yes no) σ K = true) :
    ∃ env', ER ρ nt env' a.tmps ∧ ((Region.wanted o (yielded ops a.tmps) = true ∧ run (yes env') σ K = true) ∨ (Region.wanted o (yielded ops a.tmps) = false ∧ run (no env') σ K = true)) := by
  unfold wantedK at h
  unfold Region.wanted
  split at h
  · rename_i hg
    rw [hg]; exact ⟨env, hE, .inl ⟨rfl, h⟩⟩
  · rename_i j want hg
    rw [hg]
    split at h
    · rename_i oj hj
      split at h
      · rename_i d hd
        obtain ⟨v, hv, h⟩ := getT h
        obtain ⟨u, hu, hr⟩ := hE.val _ _ hv
        have hy : ∀ b, u = .bool b → yielded ops a.tmps j = some b := fun b e => by
          subst e; simp [yielded, hj, hd, hu]
        have hn : (∀ b, u ≠ .bool b) → yielded ops a.tmps j = none := fun hn => by
          simp only [yielded, hj, hd, hu, Option.bind_some]
          cases u <;> first | rfl | exact absurd rfl (hn _)
        cases hr with
        | bool b =>
          refine ⟨env, hE, ?_⟩
          rcases bif2 h with ⟨e, h⟩ | ⟨e, h⟩
          · refine .inl ⟨?_, h⟩
            have : b = want := by simpa using e
            subst this
            simp [hy b rfl]
          · refine .inr ⟨?_, h⟩
            have : ¬ b = want := by simpa using e
            simp [hy b rfl, this]
        | tup l cs h1 h2 => exact ⟨env, hE, .inr ⟨by simp [hn (fun b e => by cases e)], h⟩⟩
        | sB p b hb =>
          rcases ask_ok h with ⟨hp, h⟩ | ⟨hp, h⟩
          · have hbt : b = true := hb.2 hp
            subst hbt
            rw [T.setK_eq] at h
            refine ⟨_, hE.known hv hu, ?_⟩
            cases want with
            | true => exact .inl ⟨by simp [hy true rfl], h⟩
            | false => exact .inr ⟨by simp [hy true rfl], h⟩
          · have hbf : b = false := by cases b with | true => exact absurd (hb.1 rfl) hp | false => rfl
            subst hbf
            rw [T.setK_eq] at h
            refine ⟨_, hE.known hv hu, ?_⟩
            cases want with
            | true => exact .inr ⟨by simp [hy false rfl], h⟩
            | false => exact .inl ⟨by simp [hy false rfl], h⟩
        | _ => exact (nofail h).elim
      · exact (nofail h).elim
    · exact (nofail h).elim
theorem opsK_ok {rd : Option Nat} {ops : Array Oper} {en rn : Enter} (hen : EnOk P w0 en) (hrn : RnOk P w0 rn) {k : T AV → Tr} {Q : Exit → Act → World → Prop} (ρ0 : Rho) (ds : List Deferred)
    (hk : ∀ env' σ' ρ' a' w', run (k env') σ' K = true → SI σ' → Good w0 ρ' σ'.h w' → ρ0.le ρ' → ER ρ' nt env' a'.tmps → a'.defers = ds → Q .normal a' w') :
    ∀ (l : List Oper) (env : T AV) (σ : St) (ρ : Rho) (a : Act) (w : World), run (opsK P en rn nt ops l env k) σ K = true → SI σ → Good w0 ρ σ.h w → ρ0.le ρ → ER ρ nt env a.tmps → a.defers = ds → wpListIn (fR rd) 0 P ops Q l a w := by
  intro l
  induction l with
  | nil => intro env σ ρ a w h hS hG hle hE hd; exact hk _ _ _ _ _ h hS hG hle hE hd
  | cons o l ih =>
    intro env σ ρ a w h hS hG hle hE hd
    have h : run (wantedK ops env o (fun env => opA P en rn env o.op fun v => putK nt o.dst v env fun env => opsK P en rn nt ops l env k) (fun env => putK nt o.dst (.tup []) env fun env => opsK P en rn nt ops l env k)) σ K = true := h
    obtain ⟨env0, hE0, h⟩ := wantedT hE h
    clear hE
    have hE := hE0
    rcases h with ⟨hw, h⟩ | ⟨hw, h⟩
    · simp only [wpListIn, hw, if_true]
      refine opA_ok hen hrn hS hG hE h fun av v σ' ρ' w' h1 h2 h3 h4 h5 => ?_
      obtain ⟨env', h6, h7, h8⟩ := putT h5 (hE.mono h4) h1
      exact ih env' σ' ρ' _ w' h6 h2 h3 (hle.trans h4) h7 (h8.trans hd)
    · simp only [wpListIn, hw, Bool.false_eq_true, if_false]
      obtain ⟨env', h6, h7, h8⟩ := putT (v := undef) (.tup [] #[] rfl (by simp)) hE h
      exact ⟨fun _ _ => trivial, ih env' σ ρ _ w h6 hS hG hle h7 (h8.trans hd)⟩
def DR (ρ : Rho) : List Nat → List Deferred → Prop
  | [], [] => True
  | b :: df, d :: ds => (∃ h, ρ.at_ b 0 = some h ∧ d.target = .collected h.blk) ∧ DR ρ df ds
  | _, _ => False
theorem DR.mono {ρ ρ' : Rho} (hle : ρ.le ρ') : ∀ {df : List Nat} {ds : List Deferred}, DR ρ df ds → DR ρ' df ds
  | [], [], _ => trivial
  | _ :: _, _ :: _, ⟨⟨h, h1, h2⟩, h3⟩ => ⟨⟨h, hle.at_ _ _ _ h1, h2⟩, DR.mono hle h3⟩
  | [], _ :: _, h => h.elim
  | _ :: _, [], h => h.elim
theorem run_setObj' {r : Nat} {o o' : Obj} (h : w.heap[r]? = some o) (ho : ∀ c t f, o ≠ .cells c t f) : (setObj r o').run P w = .ok () { w with heap := w.heap.setIfInBounds r o' } := by
  cases o <;> first | (exact absurd rfl (ho _ _ _)) | (simp [setObj, Sem.run, h])
theorem Good.setObj {H : T ABlk} {b : Nat} {x0 x : ABlk} {h : Home} {o o' : Obj} (hG : Good w0 ρ H w) (hb : H.get b = some x0) (h64 : b + 1 < 2 ^ 64) (hh : ρ.at_ b 0 = some h) (hB : Own ρ w0.heap.size h.blk) (hw : w.heap[h.blk]? = some o)
    (hx : BR ρ w0.heap.size { w with heap := w.heap.setIfInBounds h.blk o' } b x) (hgx : ∀ g, gOk g x := by intro g; trivial) : Good w0 ρ (H.set b x) { w with heap := w.heap.setIfInBounds h.blk o' } := by
  refine hG.turn (hrs := ⟨b, 0, h, hh, rfl⟩) hb h64 h.blk hB ⟨rfl, rfl, rfl, by simp, fun k hk ho => ?_⟩ (by simp) (fun k hk _ => ?_) (fun b' g h' hh' e => (hG.inj _ _ _ _ _ _ hh' hh e).1) hx (fun g _ => hgx g)
  · show (w.heap.setIfInBounds h.blk o')[k]? = _
    rw [Array.getElem?_setIfInBounds, if_neg (fun e => by rcases hB with hB | hB; omega; exact ho (e ▸ hB))]
  · show (w.heap.setIfInBounds h.blk o')[k]? = _
    rw [Array.getElem?_setIfInBounds, if_neg (fun e => hk e.symm)]
theorem set_get {r : Nat} {o o' : Obj} (h : w.heap[r]? = some o) : (w.heap.setIfInBounds r o')[r]? = some o' := by
  have : r < w.heap.size := by
    rcases Nat.lt_or_ge r w.heap.size with h' | h'
    · exact h'
    · rw [Array.getElem?_eq_none h'] at h; cases h
  rw [Array.getElem?_setIfInBounds, if_pos rfl, if_pos this]
theorem leaveT {fn : Func} {tmps : Array Value} {R : Ending → World → Prop} {k : Tr} (hk : ∀ σ' w', run k σ' K = true → SI σ' → Good w0 ρ σ'.h w' → LeavesInM Fence.wide 0 P fn tmps R [] .returning w') :
    ∀ (df : List Nat) (ds : List Deferred) (σ : St) (w : World), run (leaveK df k) σ K = true → SI σ → Good w0 ρ σ.h w → DR ρ df ds → LeavesInM Fence.wide 0 P fn tmps R ds .returning w := by
  intro df
  induction df with
  | nil =>
    intro ds σ w h hS hG hd
    cases ds with
    | nil => exact hk _ _ h hS hG
    | cons _ _ => exact hd.elim
  | cons b df ih =>
    intro ds σ w h hS hG hd
    cases ds with
    | nil => exact hd.elim
    | cons d ds =>
      obtain ⟨⟨hm, hh, ht⟩, hd⟩ := hd
      have h : run (.rd b fun q => (match q with | .dfr true => .wr b (.dfr false) (leaveK df k) | _ => .fail)) σ K = true := h
      obtain ⟨q, σ1, hq, e1, hS1, h⟩ := rd_ok hS h
      cases q with
      | dfr live =>
        cases live with
        | false => exact (nofail h).elim
        | true =>
          obtain ⟨hm', hh', hB, hheap⟩ := hG.blk _ _ hq
          rw [hh] at hh'; injection hh' with hh'; subst hh'
          have hheap : w.heap[hm.blk]? = some (.deferred (some [])) := hheap
          obtain ⟨x0, σ2, hx0, e2, hS2, h64, h⟩ := wr_ok hS1 h
          have hG1 : Good w0 ρ σ1.h w := by rw [e1]; exact hG
          have hG2 := hG1.setObj (x := .dfr false) (o' := .deferred none) hx0 h64 hh hB hheap ⟨hm, hh, hB, set_get hheap⟩
          refine ⟨by simp, .inl ⟨hm.blk, _, ht, ?_, ih ds σ2 _ h hS2 (by rw [e2]; exact hG2) hd⟩⟩
          simp only [Instr.takeDeferred, Sem.run_bind, run_getObj' hheap (by simp), Result.andThen_ok, run_setObj' hheap (by simp), Sem.run_pure]
      | _ => exact (nofail h).elim
def resF (tmps : Array Value) : ResultVar → Sem Value
  | .tmp t => pure (tmps.getD t undef)
  | .cell a t => do loadVar t (← asAddr (tmps.getD a undef))
theorem results_eq (fn : Func) (tmps : Array Value) : results fn tmps = (do
    let vs ← fn.results.mapM (resF tmps)
    pure (if h : vs.size = 1 then vs[0] else .tuple vs)) := by
  unfold results
  congr 1
theorem getD_of {tmps : Array Value} {t : Nat} {v : Value} (h : tmps[t]? = some v) : tmps.getD t undef = v := by
  rw [Array.getD_eq_getD_getElem?, h]; rfl
theorem resT {tmps : Array Value} (hE : ER ρ nt env tmps) : ∀ (l : List ResultVar) (σ : St) (k : List AV → Tr), run (resK P env l k) σ K = true → SI σ → Good w0 ρ σ.h w →
    ∃ avs vs σ', run (k avs) σ' K = true ∧ SI σ' ∧ Good w0 ρ σ'.h w ∧ LR ρ avs vs ∧ (l.mapM (resF tmps)).run P w = .ok vs w := by
  intro l
  induction l with
  | nil => intro σ k h hS hG; exact ⟨[], [], σ, h, hS, hG, LR.nil ρ, by simp⟩
  | cons r l ih =>
    intro σ k h hS hG
    cases r with
    | tmp t =>
      have h : run (T.getK env t .fail fun v => resK P env l fun l => k (v :: l)) σ K = true := h
      obtain ⟨av, hv, h⟩ := getT h
      obtain ⟨v, hu, hr⟩ := hE.val _ _ hv
      obtain ⟨avs, vs, σ', h1, h2, h3, h5, h6⟩ := ih σ _ h hS hG
      refine ⟨av :: avs, v :: vs, σ', h1, h2, h3, LR.cons hr h5, ?_⟩
      simp [List.mapM_cons, resF, getD_of hu, h6]
    | cell c t =>
      have h : run (T.getK env c .fail fun p => loadK P t p fun v => resK P env l fun l => k (v :: l)) σ K = true := h
      obtain ⟨ap, hap, h⟩ := getT h
      obtain ⟨p, hp, hr⟩ := hE.val _ _ hap
      obtain ⟨av, σ1, v, hb, hS1, hG1, hv, hrun⟩ := load_okP (P := P) hS hG hr h
      obtain ⟨avs, vs, σ', h1, h2, h3, h5, h6⟩ := ih σ1 _ hb hS1 hG1
      refine ⟨av :: avs, v :: vs, σ', h1, h2, h3, LR.cons hv h5, ?_⟩
      have hload : (do loadVar t (← asAddr p) : Sem Value).run P w = .ok v w := by
        cases hr with
        | ptr b g o hm hh ho =>
          simp only [Instr.loadAt, Instr.sureAddr, Sem.run_bind, Sem.run_pure, Result.andThen_ok] at hrun
          simp only [asAddr, Sem.run_bind, Sem.run_pure, Result.andThen_ok]
          exact hrun
        | gptr b2 g2 i2 o2 es2 hm2 hh2 hs2 =>
          simp only [Instr.loadAt, Instr.sureAddr, Sem.run_bind, Sem.run_pure, Result.andThen_ok] at hrun
          simp only [asAddr, Sem.run_bind, Sem.run_pure, Result.andThen_ok]
          exact hrun
        | cptr l2 blk off arr ty2 hf hb r2 =>
          simp only [Instr.loadAt, Instr.sureAddr, Sem.run_bind, Sem.run_pure, Result.andThen_ok] at hrun
          simp only [asAddr, Sem.run_bind, Sem.run_pure, Result.andThen_ok]
          exact hrun
        | _ => exact (nofail h).elim
      have : (resF tmps (.cell c t)).run P w = .ok v w := by
        simp only [resF, getD_of hp]; exact hload
      simp [List.mapM_cons, this, h6]
def retV : List Value → Value
  | [v] => v
  | l => .tuple l.toArray
theorem results_run {fn : Func} {tmps : Array Value} {vs : List Value} {w' : World} (h : (fn.results.toList.mapM (resF tmps)).run P w = .ok vs w') : (results fn tmps).run P w = .ok (retV vs) w' := by
  rw [results_eq, Sem.run_bind, Array.mapM_eq_mapM_toList, Sem.run_map, h]
  cases vs with
  | nil => simp [retV]
  | cons v vs =>
    cases vs with
    | nil => simp [retV]
    | cons u vs => simp [retV]
end
end Go.Sym
