/-
  SIM, part Q: conversions.
-/
import Derived.Test.YtlcomegfkcgjjaaGreatDoorSimP
import Derived.Laws.BytesArg
namespace Go.Sim
open Go.RowKit (Below)
set_option linter.unusedVariables false

theorem byteCells_LR (ρ : Rho) (s : ByteArray) : LR ρ (byteCells (bytesOf s)) (s.data.toList.map fun b => Value.int .u8 b.toNat) := by
  refine ⟨by simp [byteCells, bytesOf], fun i a v ha hv => ?_⟩
  unfold byteCells bytesOf at ha
  rw [List.map_map, List.getElem?_map] at ha
  rw [List.getElem?_map] at hv
  cases hs : s.data.toList[i]? with
  | none => rw [hs] at ha; cases ha
  | some b =>
    rw [hs] at ha hv
    injection ha with ha
    injection hv with hv
    subst ha; subst hv
    exact .int .u8 (b.toNat : Int)
theorem bytesRow_size {s : ByteArray} {c : Nat} (h : s.size ≤ c) : (bytesRow s c).size = c := by
  unfold bytesRow
  have : s.data.size = s.size := rfl
  simp; omega
theorem bytesRow_get {s : ByteArray} {c i : Nat} {v : Value} (h : (s.data.toList.map fun b => Value.int .u8 b.toNat)[i]? = some v) : (bytesRow s c)[i]? = some v := by
  unfold bytesRow
  have hi : i < s.data.size := by
    rcases Nat.lt_or_ge i s.data.size with h' | h'
    · exact h'
    · rw [List.getElem?_eq_none (by simpa using h')] at h; cases h
  rw [Array.getElem?_append_left (by simpa using hi)]
  simpa using h
theorem u8LT {ρ : Rho} : ∀ {l : List AV} {vs : List Value} {r : List Nat}, u8L l = some r → LR ρ l vs → ∃ bs : List UInt8, r = bs.map UInt8.toNat ∧ vs = bs.map fun b => Value.int .u8 (b.toNat : Int) := by
  intro l
  induction l with
  | nil => intro vs r h hl; injection h with h; subst h; exact ⟨[], rfl, hl.nil_inv⟩
  | cons a l ih =>
    intro vs r h hl
    obtain ⟨v, vs', rfl, hv, hl'⟩ := hl.cons_inv
    unfold u8L at h
    split at h
    · rename_i e; cases e
    · rename_i n r' e
      injection e with e1 e2
      subst e1; subst e2
      split at h
      · rename_i hn
        split at h
        · rename_i l' hl2
          injection h with h
          subst h
          obtain ⟨bs, e1, e2⟩ := ih hl2 hl'
          cases hv
          have hnn : (UInt8.ofNat n).toNat = n := by simp; omega
          refine ⟨UInt8.ofNat n :: bs, by rw [List.map_cons, hnn, e1], ?_⟩
          rw [List.map_cons, hnn, e2]; rfl
        · cases h
      · cases h
    · cases h

section
variable {P : Program} {w0 : World} {ρ : Rho} {w : World} {σ : St} {K : Fin} {k : AV → Tr}

theorem conv_bytes {src dst e : TypeId} {s : ByteArray} (hS : SI σ) (hG : Good w0 ρ σ.h w) (hs : P.underlying src = some .string) (hd : P.underlying dst = some (.slice e)) (he : P.underlying e = some (.int .u8))
    (h : run (fN (List.length (bytesOf s)) fun n => bif' (Nat.ble n 1000000) (newRowM 1 e (byteCells (bytesOf s)) fun b => k (.slc b 0 0 n none 1)) .fail) σ K = true) :
    Res P w0 ρ w k K (convert src dst (.string s)) := by
  obtain ⟨_, h⟩ := bifT (fNT h)
  have hn : (bytesOf s).length = s.size := by unfold bytesOf; rw [List.length_map]; rfl
  have hge := grownCap_ge w s.size 0 e
  have hsz := bytesRow_size hge
  have hL := byteCells_LR ρ s
  obtain ⟨b, σ', h2, hS', hle, hG'⟩ := newRowF_ok 1 (w := w.drew) (bytesRow s (grownCap w s.size 0 e)) e ((bytesRow s (grownCap w s.size 0 e)).size, (bytesRow s (grownCap w s.size 0 e)).size + 1)
    ⟨by simp, fun x h1 h2 _ => by omega⟩ hS (hG.drawn _) (by simp [byteCells, hn, hsz]; exact hge) (fun i a ha => by
      obtain ⟨v, hv, hr⟩ := hL.get ha
      exact ⟨v, bytesRow_get hv, hr⟩) h
  refine ⟨_, σ', _, _, _, h2, hS', hG', hle, ?_, run_bytes_of_string w src dst e s hs hd he⟩
  rw [hn]
  refine .slc _ _ _ _ _ _ _ _ ⟨hge, .inr ⟨_, Rho.put_at _ _ _ _, Nat.zero_le _, rfl, ?_⟩⟩
  show 0 - 0 + grownCap w s.size 0 e * 1 ≤ (bytesRow s _).size
  omega
theorem conv_back {src dst e : TypeId} {x : AV} {v : Value} (hS : SI σ) (hG : Good w0 ρ σ.h w) (hs : P.underlying src = some (.slice e)) (hd : P.underlying dst = some .string) (he : P.underlying e = some (.int .u8)) (hx : VR ρ x v)
    {b g o len es : Nat} {cap : Option Nat} (ex : x = .slc b g o len cap es)
    (h : run (bif' (Nat.beq len 0) (k (.str [])) (loadRowK b g o len fun l => oel (u8L l) .fail fun l => k (.str l))) σ K = true) :
    Res P w0 ρ w k K (convert src dst v) := by
  subst ex
  cases hx with
  | slc b g o len cap es a c hsl =>
    rcases bif2 h with ⟨hb, h⟩ | ⟨hb, h⟩
    · have hb := beqT hb
      subst hb
      refine .plain h hS hG (v := .string ⟨#[]⟩) ?_ ?_
      · exact .str ⟨#[]⟩
      · exact run_convert_bytes_back w src dst e a c [] hs he hd (fun j hj => by cases hj)
    · have hb : 0 < len := by
        rcases Nat.eq_zero_or_pos len with e | e
        · subst e; simp at hb
        · exact e
      obtain ⟨hm, hh, ho, ea⟩ := slHome hsl hb
      subst ea
      obtain ⟨l, cs, σ', e1, hS', h, hL, hlen, hcell, _⟩ := loadRow_ok (P := P) hS hG hh ho h
      obtain ⟨r, hr, h⟩ := oelT h
      obtain ⟨bs, e2, e3⟩ := u8LT hr hL
      subst e2
      have hbl : bs.length = len := by rw [← hlen, e3, List.length_map]
      refine .plain h hS' (by rw [e1]; exact hG) (v := .string ⟨bs.toArray⟩) ?_ ?_
      · have := VR.str (ρ := ρ) ⟨bs.toArray⟩
        simpa [bytesOf] using this
      · have := run_convert_bytes_back (P := P) w src dst e ⟨hm.blk, o - hm.shift, none⟩ c bs hs he hd (fun j hj => by
          have h1 := hcell j (.int .u8 (bs[j].toNat : Int)) (by rw [e3]; simp [hj])
          unfold Addr.add
          split
          · rename_i e; subst e; simpa using h1
          · exact h1)
        rw [hbl] at this
        exact this
theorem heap_freeze (w : World) (a : Addr) (n : Nat) (hn : n ≠ 0) (i : Nat) : (w.freeze a n).heap[i]? = if a.block = i then (w.heap[i]?).map (fun
      | .cells c elem (lo, hi) => .cells c elem (if lo == hi then (a.off, a.off + n) else (min lo a.off, max hi (a.off + n)))
      | o => o) else w.heap[i]? := by
  simp only [World.freeze, if_neg hn, Array.getElem?_modify]
  split <;> rfl
/-- Cells of a block of ours are frozen, or the mark behind its last cell is set. -/
theorem Good.freezeAt {H : T ABlk} (hG : Good w0 ρ H w) {b g gen lo hi fl fh fl' fh' ty off n : Nat} {c : T Cell} {h : Home} (hb : H.get b = some (.cells c gen lo hi fl fh false ty)) (h64 : b + 1 < 2 ^ 64)
    (hh : ρ.at_ b g = some h) (hg : g ≤ gen) (hn : n ≠ 0)
    (hold : ∀ (x : Nat) (hm : Home), (x < hm.size ∨ fl' ≤ fh') → (∀ q, (q < hm.size ∨ fl ≤ fh) → True) → ((x < hm.size ∨ fl ≤ fh) → fl ≤ x + hm.shift ∧ x + hm.shift < fh) → fl' ≤ x + hm.shift ∧ x + hm.shift < fh')
    (hnew : ∀ f1 f2 : Nat, f1 ≤ f2 → (∀ x, (x < h.size ∨ fl ≤ fh) → f1 ≤ x → x < f2 → fl ≤ x + h.shift ∧ x + h.shift < fh) → ∀ x, (x < h.size ∨ fl' ≤ fh') → (if f1 = f2 then off ≤ x ∧ x < off + n else min f1 off ≤ x ∧ x < max f2 (off + n)) → fl' ≤ x + h.shift ∧ x + h.shift < fh') :
    Good w0 ρ (H.set b (.cells c gen lo hi fl' fh' false ty)) (w.freeze ⟨h.blk, off, none⟩ n) := by
  have hB := hG.blk _ _ hb
  obtain ⟨hm, q1, q2, _, arr, fr, q3, q4, q5, q6⟩ := hB.2 g hg
  rw [hh] at q1; injection q1 with q1; subst q1
  have q2 := q2 rfl
  have hsz : (w.freeze ⟨h.blk, off, none⟩ n).heap.size = w.heap.size := by simp [World.freeze, hn]
  refine hG.turn hb h64 h.blk q2 ⟨by simp [World.freeze, hn], by simp [World.freeze, hn], by simp [World.freeze, hn], by rw [hsz]; exact Nat.le_refl _, fun k hk => ?_⟩ (by rw [hsz]; exact Nat.le_refl _) (fun k hk _ => ?_) (fun b' g' h' hh' e' => (hG.inj _ _ _ _ _ _ hh' hh e').1) ⟨hB.1, fun g' hg' => ?_⟩
  · rw [heap_freeze _ _ _ hn, if_neg (by simp only; omega)]
  · rw [heap_freeze _ _ _ hn, if_neg (fun e => hk e.symm)]
  · obtain ⟨hm', s1, s2, s2', arr', fr', s3, s4, s5, s6⟩ := hB.2 g' hg'
    obtain ⟨q5a, q5b⟩ := s5 rfl
    by_cases eb : hm'.blk = h.blk
    · obtain ⟨_, ehm⟩ := hG.inj _ _ _ _ _ _ s1 hh eb
      subst ehm
      obtain ⟨f1, f2⟩ := fr'
      refine ⟨_, s1, s2, s2', arr', _, by rw [heap_freeze _ _ _ hn, if_pos rfl, s3]; rfl, s4, fun _ => ⟨?_, fun x hx h1 h2 => ?_⟩, s6⟩
      · simp only at q5a
        split <;> simp <;> omega
      · refine hnew f1 f2 q5a q5b x hx ?_
        by_cases e : f1 = f2
        · rw [if_pos e]
          rw [if_pos (by simpa using e)] at h1 h2
          exact ⟨h1, h2⟩
        · rw [if_neg e]
          rw [if_neg (by simpa using e)] at h1 h2
          exact ⟨h1, h2⟩
    · refine ⟨hm', s1, s2, s2', arr', fr', by rw [heap_freeze _ _ _ hn, if_neg (fun e => eb e.symm)]; exact s3, s4, fun _ => ⟨q5a, fun x hx h1 h2 => ?_⟩, s6⟩
      exact hold x hm' hx (fun _ _ => trivial) fun hq => q5b x hq h1 h2
theorem conv_mark {src dst e e' : TypeId} {b g o len es : Nat} {cap : Option Nat} {v : Value} (hS : SI σ) (hG : Good w0 ρ σ.h w) (hs : P.underlying src = some (.slice e')) (hd : P.underlying dst = some (.slice e))
    (he : P.underlying e = some (.int .u8)) (hx : VR ρ (.slc b g o len cap es) v) (hsd : src = dst) (hlen : 1 ≤ len)
    (h : run (.rd b fun q => (match q with
      | .cells c gen lo hi fl fh ro ty => bif' ro .fail (bif' (Nat.beq fh 0) (bif' (Nat.ble g gen) (.wr b (.cells c gen lo hi 1 0 false ty) (k (.slc b g o len cap es))) .fail) .fail)
      | _ => .fail)) σ K = true) : Res P w0 ρ w k K (convert src dst v) := by
  obtain ⟨q, σ', h1, h2, h3, h⟩ := rd_ok hS h
  cases q with
  | cells c gen lo hi fl fh ro ty =>
    obtain ⟨ero, h5⟩ := bifF h
    obtain ⟨efh, h6⟩ := bifT h5
    obtain ⟨hgg, h7⟩ := bifT h6
    clear h h5 h6
    obtain ⟨x0, σ2, hx0, e2, hS2, h64, h8⟩ := wr_ok h3 h7
    have efh := beqT efh
    have hgg := bleT hgg
    subst ero; subst efh
    cases hx with
    | slc b g o len cap es a c' hsl =>
      obtain ⟨hm, hh, ho, ea⟩ := slHome hsl hlen
      have hB := hG.blk _ _ h1
      obtain ⟨hm2, q1, _, _, arr, fr, q3, q4, q5, q6⟩ := hB.2 g hgg
      rw [hh] at q1; injection q1 with q1; subst q1
      have hG' := hG.freezeAt (fl' := 1) (fh' := 0) (off := arr.size) (n := 1) h1 h64 hh hgg (by decide) (fun x hm3 hx1 _ hx2 => by
          have := hx2 (.inl (by omega))
          omega) (fun f1 f2 hf hq x hx1 hx2 => by
          have hxs : x < hm.size := by omega
          split at hx2
          · omega
          · rename_i hne
            have h3 : f1 ≤ x := by simp only [Nat.min_def] at hx2; split at hx2 <;> omega
            have := hq f1 (.inl (by omega)) (Nat.le_refl _) (by omega)
            omega)
      refine ⟨_, σ2, ρ, .slice (some a) len c', _, h8, hS2, by rw [e2, h2]; exact hG', Rho.le.refl ρ, .slc _ _ _ _ _ _ _ _ hsl, ?_⟩
      have hb : (src == dst) = true := by simpa using hsd
      have hblk : a.block = hm.blk := by rw [ea]
      have hsh : w.shape? hm.blk = some (ty, arr.size) := by simp [World.shape?, q3]
      simp [convert, run_underlying hs, run_underlying hd, run_underlying he, hb, markStringish, hblk, hsh]
  | _ => exact (nofail h).elim
/-! ### Addresses as such -/
theorem rowAt_mono {fits : TypeId → Bool} : ∀ (d : Nat) (e : TypeId) (c c' off n : Nat), c ≤ c' → rowAt P fits d e c off n = true → rowAt P fits d e c' off n = true := by
  intro d
  cases d with
  | zero => intro e c c' off n _ h; simp [rowAt] at h
  | succ d =>
    intro e c c' off n hcc h
    simp only [rowAt] at h ⊢
    split at h
    · cases h
    · rename_i hs
      rw [if_neg hs]
      rw [Bool.or_eq_true] at h ⊢
      rcases h with h | h
      · left
        simp only [Bool.and_eq_true, decide_eq_true_eq] at h ⊢
        exact ⟨⟨h.1.1, by omega⟩, h.2⟩
      · right
        rw [Bool.and_eq_true] at h ⊢
        exact ⟨by have := of_decide_eq_true h.1; exact decide_eq_true (by omega), h.2⟩
theorem liesAt_mono : ∀ (d : Nat) (e : TypeId) (c c' off : Nat) (u : TypeId) (n : Nat), c ≤ c' → liesAt P d e c off u n = true → liesAt P d e c' off u n = true := by
  intro d
  induction d with
  | zero => intro e c c' off u n _ h; simp [liesAt] at h
  | succ d ih =>
    intro e c c' off u n hcc h
    simp only [liesAt] at h ⊢
    rw [Bool.or_eq_true] at h ⊢
    rcases h with h | h
    · exact .inl (rowAt_mono _ _ _ _ _ _ hcc h)
    · right
      split at h
      · exact ih _ _ _ _ _ _ hcc h
      · cases h
/-- What lies there, as the model asks it. -/
theorem lies_ok {b g o n : Nat} {u : TypeId} {t : Tr} {h0 : Home} (hS : SI σ) (hG : Good w0 ρ σ.h w) (hh : ρ.at_ b g = some h0) (h : run (liesK P b g o u n t) σ K = true) :
    ∃ σ', run t σ' K = true ∧ SI σ' ∧ σ'.h = σ.h ∧ h0.shift = 0 ∧ (variablesAt ⟨h0.blk, o, none⟩ u n).run P w = .ok true w ∧ ∃ ty m, w.shape? h0.blk = some (ty, m) := by
  obtain ⟨q, σ1, hq, e1, hS1, h⟩ := rd_ok hS h
  cases q with
  | cells c gen lo hi fl fh ro ty =>
    obtain ⟨k1, h⟩ := bifT h
    obtain ⟨k2, h⟩ := bifT h
    obtain ⟨x0, hx0, h⟩ := getT h
    cases x0 with
    | mk t0 a0 =>
      obtain ⟨k3, h⟩ := bifT h
      have h := fNT h
      obtain ⟨x1, hx1, h⟩ := getT h
      cases x1 with
      | mk t1 a1 =>
        obtain ⟨k4, h⟩ := bifT h
        obtain ⟨k5, h⟩ := bifT h
        obtain ⟨hm, q1, _, _, arr, fr, q3, q4, q5, q6⟩ := (hG.blk _ _ hq).2 g (bleT k1)
        rw [hh] at q1; injection q1 with q1; subst q1
        obtain ⟨r1, _⟩ := q6 0 t0 a0 hx0 (bleT k3)
        obtain ⟨_, v, r2, _⟩ := q6 _ t1 a1 hx1 (bleT k4)
        have hs0 : h0.shift = 0 := by omega
        have hge : Nat.sub hi 1 < arr.size := by
          rcases Nat.lt_or_ge (Nat.sub hi 1) arr.size with h' | h'
          · exact h'
          · rw [hs0, Array.getElem?_eq_none (by omega)] at r2; cases r2
        have hhi : hi ≤ arr.size := by
          have : Nat.sub hi 1 = hi - 1 := rfl
          omega
        have hsh : w.shape? h0.blk = some (ty, arr.size) := by simp [World.shape?, q3]
        refine ⟨σ1, h, hS1, e1, hs0, ?_, ty, arr.size, hsh⟩
        have hl := liesAt_mono (P := P) P.depth ty _ (arr.size / P.cellsOf ty) o u n (Nat.div_le_div_right hhi) k5
        simp [variablesAt, hsh, hl]
  | _ => exact (nofail h).elim
theorem ptr_addr {h : Home} {o : Nat} (hs : h.shift = 0) : (⟨h.blk, o - h.shift, none⟩ : Addr) = ⟨h.blk, o, none⟩ := by rw [hs]; rfl
theorem seenAt_run {a : Addr} {ty m : Nat} (hsh : w.shape? a.block = some (ty, m)) : (Conv.seenAt a).run P w = .ok a w := by
  simp [Conv.seenAt, viewAt, hsh]

theorem convA_ok {src dst : TypeId} {x : AV} {v : Value} (hS : SI σ) (hG : Good w0 ρ σ.h w) (hx : VR ρ x v) (h : run (convA P src dst x k) σ K = true) : Res P w0 ρ w k K (convert src dst v) := by
  obtain ⟨s, hs, h1⟩ := undT h
  obtain ⟨d, hd, h2⟩ := undT h1
  clear h h1
  split at h2 <;> (have h := h2; clear h2)
  · cases hx
    have h := wrapT h
    refine .plain h hS hG (.int _ _) ?_
    simp [convert, run_underlying hs, run_underlying hd, Conv.intToInt]
  · cases hx
    refine .plain h hS hG (.str _) ?_
    simp [convert, run_underlying hs, run_underlying hd]
  · obtain ⟨de, he, h⟩ := undT h
    split at h
    · cases hx
      exact conv_bytes hS hG hs hd he h
    · exact (nofail h).elim
  · obtain ⟨hsd, h⟩ := bifT h
    obtain ⟨de, he, h⟩ := undT h
    split at h
    · obtain ⟨hl, h⟩ := bifT h
      exact conv_mark hS hG hs hd he hx (by simpa using beqT hsd) (bleT hl) h
    · exact (nofail h).elim
  · cases hx
    refine .plain h hS hG .nilp ?_
    simp [convert, run_underlying hs, run_underlying hd, Conv.unsafePointer]
  · rename_i t0 b g o
    cases hx with
    | ptr b g o hm hh ho =>
      obtain ⟨i, hi, h⟩ := sizeT h
      obtain ⟨hz, h⟩ := bifF h
      have hz : ¬ i.size = 0 := fun e => by rw [e] at hz; cases hz
      obtain ⟨q, σ1, hq, e1, hS1, h⟩ := rd_ok hS h
      have hG1 : Good w0 ρ σ1.h w := by rw [e1]; exact hG
      cases q with
      | cells c gen lo hi2 fl fh ro ty =>
        obtain ⟨k1, h⟩ := bifT h
        obtain ⟨x0, hx0, h⟩ := getT h
        cases x0 with
        | mk tag a0 =>
          obtain ⟨k2, h⟩ := bifT h
          obtain ⟨hm2, q1, _, _, arr, fr, q3, q4, q5, q6⟩ := (hG.blk _ _ hq).2 g (bleT k1)
          rw [hh] at q1; injection q1 with q1; subst q1
          obtain ⟨_, v, r2, _⟩ := q6 o tag a0 hx0 (bleT k2)
          have hlt : o - hm.shift < arr.size := by
            rcases Nat.lt_or_ge (o - hm.shift) arr.size with h' | h'
            · exact h'
            · rw [Array.getElem?_eq_none h'] at r2; cases r2
          have hsh : w.shape? hm.blk = some (ty, arr.size) := by simp [World.shape?, q3]
          refine .plain h hS1 hG1 (.ptr b g o hm hh ho) ?_
          have hnl : ¬ arr.size ≤ o - hm.shift := by omega
          simp [convert, run_underlying hs, run_underlying hd, Conv.unsafePointer, seenAt_run (a := ⟨hm.blk, o - hm.shift, none⟩) hsh, cellsIn, hsh, sizeOf_run hi, hz, hnl]
      | _ => exact (nofail h).elim
  · cases hx
    refine .plain h hS hG .nilp ?_
    simp [convert, run_underlying hs, run_underlying hd, Conv.unsafePointer]
  · rename_i u b g o
    cases hx with
    | ptr b g o hm hh ho =>
      obtain ⟨i, hi, h⟩ := sizeT h
      obtain ⟨σ1, h, hS1, e1, hs0, hv, ty, m, hsh⟩ := lies_ok hS hG hh h
      refine .plain h hS1 (by rw [e1]; exact hG) (.ptr b g o hm hh ho) ?_
      rw [ptr_addr hs0]
      simp [convert, run_underlying hs, run_underlying hd, Conv.unsafePointer, seenAt_run (a := ⟨hm.blk, o, none⟩) hsh, sizeOf_run hi, hv]
  · obtain ⟨de, he, h⟩ := undT h
    split at h
    · cases hx
      refine .plain h hS hG (v := .string ⟨#[]⟩) (.str ⟨#[]⟩) ?_
      exact (run_convert_bytes_nil w src _ hs he 0 0 dst hd)
    · exact conv_back hS hG hs hd he hx rfl h
    · exact (nofail h).elim
  · exact (nofail h).elim
end
end Go.Sim
