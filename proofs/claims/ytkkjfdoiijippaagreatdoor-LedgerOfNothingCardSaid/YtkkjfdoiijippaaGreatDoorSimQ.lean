/-
  SIM, part Q: conversions.
-/
import Derived.Test.YtkkjfdoiijippaaGreatDoorSimP
import Derived.Laws.BytesArg
namespace Go.Sim
open Go.RowKit (Below)
set_option linter.unusedVariables false

theorem byteCells_LR (ρ : Rho) (s : ByteArray) : LR ρ (byteCells (bytesOf s)) (s.data.toList.map fun b => Value.int .u8 b.toNat) := by
  refine ⟨by simp [byteCells, bytesOf], fun i a v ha hv => ?_⟩
  unfold byteCells bytesOf at ha
  rw [List.map_map, List.getElem?_map] at ha
  rw [List.getElem?_map] at hv
  cases hs : s.data.toList[i]? with
  | none => rw [hs] at ha; cases ha
  | some b =>
    rw [hs] at ha hv
    injection ha with ha
    injection hv with hv
    subst ha; subst hv
    exact .int .u8 (b.toNat : Int)
theorem bytesRow_size {s : ByteArray} {c : Nat} (h : s.size ≤ c) : (bytesRow s c).size = c := by
  unfold bytesRow
  have : s.data.size = s.size := rfl
  simp; omega
theorem bytesRow_get {s : ByteArray} {c i : Nat} {v : Value} (h : (s.data.toList.map fun b => Value.int .u8 b.toNat)[i]? = some v) : (bytesRow s c)[i]? = some v := by
  unfold bytesRow
  have hi : i < s.data.size := by
    rcases Nat.lt_or_ge i s.data.size with h' | h'
    · exact h'
    · rw [List.getElem?_eq_none (by simpa using h')] at h; cases h
  rw [Array.getElem?_append_left (by simpa using hi)]
  simpa using h
theorem u8LT {ρ : Rho} : ∀ {l : List AV} {vs : List Value} {r : List Nat}, u8L l = some r → LR ρ l vs → ∃ bs : List UInt8, r = bs.map UInt8.toNat ∧ vs = bs.map fun b => Value.int .u8 (b.toNat : Int) := by
  intro l
  induction l with
  | nil => intro vs r h hl; injection h with h; subst h; exact ⟨[], rfl, hl.nil_inv⟩
  | cons a l ih =>
    intro vs r h hl
    obtain ⟨v, vs', rfl, hv, hl'⟩ := hl.cons_inv
    unfold u8L at h
    split at h
    · rename_i e; cases e
    · rename_i n r' e
      injection e with e1 e2
      subst e1; subst e2
      split at h
      · rename_i hn
        split at h
        · rename_i l' hl2
          injection h with h
          subst h
          obtain ⟨bs, e1, e2⟩ := ih hl2 hl'
          cases hv
          have hnn : (UInt8.ofNat n).toNat = n := by simp; omega
          refine ⟨UInt8.ofNat n :: bs, by rw [List.map_cons, hnn, e1], ?_⟩
          rw [List.map_cons, hnn, e2]; rfl
        · cases h
      · cases h
    · cases h

section
variable {P : Program} {w0 : World} {ρ : Rho} {w : World} {σ : St} {K : Fin} {k : AV → Tr}

theorem conv_bytes {src dst e : TypeId} {s : ByteArray} (hS : SI σ) (hG : Good w0 ρ σ.h w) (hs : P.underlying src = some .string) (hd : P.underlying dst = some (.slice e)) (he : P.underlying e = some (.int .u8))
    (h : run (fN (List.length (bytesOf s)) fun n => bif' (Nat.ble n 1000000) (newRowK (byteCells (bytesOf s)) fun b => k (.slc b 0 0 n none 1)) .fail) σ K = true) :
    Res P w0 ρ w k K (convert src dst (.string s)) := by
  obtain ⟨_, h⟩ := bifT (fNT h)
  have hn : (bytesOf s).length = s.size := by unfold bytesOf; rw [List.length_map]; rfl
  have hge := grownCap_ge w s.size 0 e
  have hsz := bytesRow_size hge
  have hL := byteCells_LR ρ s
  obtain ⟨b, σ', h2, hS', hle, hG'⟩ := newRowF_ok (w := w.drew) (bytesRow s (grownCap w s.size 0 e)) e ((bytesRow s (grownCap w s.size 0 e)).size, (bytesRow s (grownCap w s.size 0 e)).size + 1)
    ⟨by simp, fun x h1 h2 _ => by omega⟩ hS (hG.drawn _) (by simp [byteCells, hn, hsz]; exact hge) (fun i a ha => by
      obtain ⟨v, hv, hr⟩ := hL.get ha
      exact ⟨v, bytesRow_get hv, hr⟩) h
  refine ⟨_, σ', _, _, _, h2, hS', hG', hle, ?_, run_bytes_of_string w src dst e s hs hd he⟩
  rw [hn]
  refine .slc _ _ _ _ _ _ _ _ ⟨hge, .inr ⟨_, Rho.put_at _ _ _ _, Nat.zero_le _, rfl, ?_⟩⟩
  show 0 - 0 + grownCap w s.size 0 e * 1 ≤ (bytesRow s _).size
  omega
theorem conv_back {src dst e : TypeId} {x : AV} {v : Value} (hS : SI σ) (hG : Good w0 ρ σ.h w) (hs : P.underlying src = some (.slice e)) (hd : P.underlying dst = some .string) (he : P.underlying e = some (.int .u8)) (hx : VR ρ x v)
    {b g o len es : Nat} {cap : Option Nat} (ex : x = .slc b g o len cap es)
    (h : run (bif' (Nat.beq len 0) (k (.str [])) (loadRowK b g o len fun l => oel (u8L l) .fail fun l => k (.str l))) σ K = true) :
    Res P w0 ρ w k K (convert src dst v) := by
  subst ex
  cases hx with
  | slc b g o len cap es a c hsl =>
    rcases bif2 h with ⟨hb, h⟩ | ⟨hb, h⟩
    · have hb := beqT hb
      subst hb
      refine .plain h hS hG (v := .string ⟨#[]⟩) ?_ ?_
      · exact .str ⟨#[]⟩
      · exact run_convert_bytes_back w src dst e a c [] hs he hd (fun j hj => by cases hj)
    · have hb : 0 < len := by
        rcases Nat.eq_zero_or_pos len with e | e
        · subst e; simp at hb
        · exact e
      obtain ⟨hm, hh, ho, ea⟩ := slHome hsl hb
      subst ea
      obtain ⟨l, cs, σ', e1, hS', h, hL, hlen, hcell, _⟩ := loadRow_ok (P := P) hS hG hh ho h
      obtain ⟨r, hr, h⟩ := oelT h
      obtain ⟨bs, e2, e3⟩ := u8LT hr hL
      subst e2
      have hbl : bs.length = len := by rw [← hlen, e3, List.length_map]
      refine .plain h hS' (by rw [e1]; exact hG) (v := .string ⟨bs.toArray⟩) ?_ ?_
      · have := VR.str (ρ := ρ) ⟨bs.toArray⟩
        simpa [bytesOf] using this
      · have := run_convert_bytes_back (P := P) w src dst e ⟨hm.blk, o - hm.shift, none⟩ c bs hs he hd (fun j hj => by
          have h1 := hcell j (.int .u8 (bs[j].toNat : Int)) (by rw [e3]; simp [hj])
          unfold Addr.add
          split
          · rename_i e; subst e; simpa using h1
          · exact h1)
        rw [hbl] at this
        exact this
theorem heap_freeze (w : World) (a : Addr) (n : Nat) (hn : n ≠ 0) (i : Nat) : (w.freeze a n).heap[i]? = if a.block = i then (w.heap[i]?).map (fun
      | .cells c elem (lo, hi) => .cells c elem (if lo == hi then (a.off, a.off + n) else (min lo a.off, max hi (a.off + n)))
      | o => o) else w.heap[i]? := by
  simp only [World.freeze, if_neg hn, Array.getElem?_modify]
  split <;> rfl
/-- A block of ours is marked behind its last cell. -/
theorem Good.freeze {H : T ABlk} (hG : Good w0 ρ H w) {b g gen lo hi fl : Nat} {c : T Cell} {h : Home} (hb : H.get b = some (.cells c gen lo hi fl 0 false))
    (hh : ρ.at_ b g = some h) (hg : g ≤ gen) : ∃ e n, w.shape? h.blk = some (e, n) ∧ Good w0 ρ H (w.freeze ⟨h.blk, n, none⟩ 1) := by
  have hB := hG.blk _ _ hb
  obtain ⟨hm, q1, q2, _, arr, e, fr, q3, q4, q5, q6⟩ := hB.2 g hg
  rw [hh] at q1; injection q1 with q1; subst q1
  have q2 := q2 rfl
  obtain ⟨q5a, q5b⟩ := q5 rfl
  have hsz : (w.freeze ⟨h.blk, arr.size, none⟩ 1).heap.size = w.heap.size := by simp [World.freeze]
  refine ⟨e, arr.size, by simp [World.shape?, q3], ⟨?_, fun b' y hy => ?_, fun b' g' h' hh' => ?_, hG.inj, hG.gens⟩⟩
  · refine hG.below.trans ⟨rfl, rfl, rfl, by rw [hsz]; exact Nat.le_refl _, fun k hk => ?_⟩
    rw [heap_freeze _ _ _ (by decide), if_neg (by simp only; omega)]
  · by_cases e1 : b' = b
    · subst e1
      rw [hb] at hy; injection hy with hy; subst hy
      refine ⟨hB.1, fun g' hg' => ?_⟩
      obtain ⟨hm', s1, s2, s2', arr', e', fr', s3, s4, s5, s6⟩ := hB.2 g' hg'
      by_cases eb : hm'.blk = h.blk
      · obtain ⟨_, ehm⟩ := hG.inj _ _ _ _ _ _ s1 hh eb
        subst ehm
        rw [q3] at s3; injection s3 with s3; injection s3 with s3a s3b s3c
        subst s3a; subst s3b; subst s3c
        obtain ⟨f1, f2⟩ := fr
        refine ⟨_, s1, s2, s2', arr, e, _, by rw [heap_freeze _ _ _ (by decide), if_pos rfl, q3]; rfl, s4, fun _ => ?_, s6⟩
        simp only at q5a q5b
        refine ⟨?_, fun x hx h1 h2 => ?_⟩
        · split <;> simp <;> omega
        · split at h1
          · simp only at h1; omega
          · rename_i hne
            have hne : f1 ≠ f2 := by simpa using hne
            have h1 : f1 ≤ x := by simp only [Nat.min_def] at h1; split at h1 <;> omega
            have := q5b f1 (by omega) (Nat.le_refl _) (by omega)
            omega
      · refine ⟨hm', s1, s2, s2', arr', e', fr', ?_, s4, s5, s6⟩
        rw [heap_freeze _ _ _ (by decide), if_neg (fun e => eb e.symm)]; exact s3
    · refine (hG.blk b' y hy).keep (Rho.le.refl ρ) fun g' h' hh' => ?_
      rw [heap_freeze _ _ _ (by decide), if_neg (fun e2 => e1 (hG.inj _ _ _ _ _ _ hh' hh e2.symm).1)]
  · obtain ⟨q1, q2⟩ := hG.dom _ _ _ hh'
    exact ⟨by rw [hsz]; exact q1, q2⟩
theorem conv_mark {src dst e e' : TypeId} {b g o len es : Nat} {cap : Option Nat} {v : Value} (hS : SI σ) (hG : Good w0 ρ σ.h w) (hs : P.underlying src = some (.slice e')) (hd : P.underlying dst = some (.slice e))
    (he : P.underlying e = some (.int .u8)) (hx : VR ρ (.slc b g o len cap es) v) (hsd : src = dst) (hlen : 1 ≤ len)
    (h : run (.rd b fun q => (match q with
      | .cells c gen lo hi fl fh ro => bif' ro .fail (bif' (Nat.beq fh 0) (bif' (Nat.ble g gen) (k (.slc b g o len cap es)) .fail) .fail)
      | _ => .fail)) σ K = true) : Res P w0 ρ w k K (convert src dst v) := by
  obtain ⟨q, σ', h1, h2, h3, h⟩ := rd_ok hS h
  cases q with
  | cells c gen lo hi fl fh ro =>
    obtain ⟨ero, h5⟩ := bifF h
    obtain ⟨efh, h6⟩ := bifT h5
    obtain ⟨hgg, h7⟩ := bifT h6
    clear h h5 h6
    have efh := beqT efh
    have hgg := bleT hgg
    subst ero; subst efh
    cases hx with
    | slc b g o len cap es a c' hsl =>
      obtain ⟨hm, hh, ho, ea⟩ := slHome hsl hlen
      obtain ⟨e2, n, hsh, hG'⟩ := hG.freeze h1 hh hgg
      refine ⟨_, σ', ρ, .slice (some a) len c', _, h7, h3, by rw [h2]; exact hG', Rho.le.refl ρ, .slc _ _ _ _ _ _ _ _ hsl, ?_⟩
      have hb : (src == dst) = true := by simpa using hsd
      have hblk : a.block = hm.blk := by rw [ea]
      simp [convert, run_underlying hs, run_underlying hd, run_underlying he, hb, markStringish, hblk, hsh]
  | _ => exact (nofail h).elim
theorem convA_ok {src dst : TypeId} {x : AV} {v : Value} (hS : SI σ) (hG : Good w0 ρ σ.h w) (hx : VR ρ x v) (h : run (convA P src dst x k) σ K = true) : Res P w0 ρ w k K (convert src dst v) := by
  obtain ⟨s, hs, h⟩ := undT h
  obtain ⟨d, hd, h⟩ := undT h
  split at h
  · cases hx
    have h := wrapT h
    refine .plain h hS hG (.int _ _) ?_
    simp [convert, run_underlying hs, run_underlying hd, Conv.intToInt]
  · cases hx
    refine .plain h hS hG (.str _) ?_
    simp [convert, run_underlying hs, run_underlying hd]
  · obtain ⟨de, he, h⟩ := undT h
    split at h
    · cases hx
      exact conv_bytes hS hG hs hd he h
    · exact (nofail h).elim
  · obtain ⟨hsd, h⟩ := bifT h
    obtain ⟨de, he, h⟩ := undT h
    split at h
    · obtain ⟨hl, h⟩ := bifT h
      exact conv_mark hS hG hs hd he hx (by simpa using beqT hsd) (bleT hl) h
    · exact (nofail h).elim
  · obtain ⟨de, he, h⟩ := undT h
    split at h
    · cases hx
      refine .plain h hS hG (v := .string ⟨#[]⟩) (.str ⟨#[]⟩) ?_
      exact (run_convert_bytes_nil w src _ hs he 0 0 dst hd)
    · exact conv_back hS hG hs hd he hx rfl h
    · exact (nofail h).elim
  · exact (nofail h).elim
end
end Go.Sim
