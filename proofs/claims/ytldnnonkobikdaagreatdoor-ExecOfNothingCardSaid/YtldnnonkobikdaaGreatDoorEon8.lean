/- ExecOfNothing: values as trees; what the check tells of them; their size; ExecOfNothing: what is told of the check, the parts, the bytes and the text of a value; Formulas, by program (gen.py): batch 8; Formulas told and proved, by program (gen.py): batch 8. -/
import Derived.Test.YtldnnonkobikdaaGreatDoorEon1
namespace Go.Proofs.YtldnnonkobikdaaGreatDoor
open Go.Sym
set_option linter.unusedVariables false
def Nms (l : List G) (n : Int) : Prop := ∀ i : Nat, (i : Int) < n → (gS (kid (gAt l i) 0)).length ≤ 40
abbrev Ndz (kd sc : Int) (t : List Nat) (ns ks : List G) : Prop := (1 ≤ kd ∧ kd ≤ 9) ∧ (0 ≤ sc ∧ sc ≤ 18) ∧ t.length ≤ 16384 ∧ (kd = 9 → ns.length = ks.length) ∧ ks.length ≤ 200 ∧ Nms ns ns.length
abbrev Nd (g : G) : Prop := Ndz (gI (kid g 0)) (gI (kid g 2)) (gS (kid g 3)) (gL (kid g 4)) (gL (kid g 5))
def Wfs : Nat → List G → Int → Prop
  | 0, _, _ => False
  | k + 1, l, n => ∀ i : Nat, (i : Int) < n → Nd (gAt l i) ∧ Wfs k (gL (kid (gAt l i) 5)) (gL (kid (gAt l i) 5)).length
def pzG : Nat → G → Nat
  | 0, _ => 0
  | k + 1, g => 1 + (gS (kid g 3)).length + ((gL (kid g 5)).map (pzG k)).sum
def pzs (k : Nat) (l : List G) (n : Int) : Nat := ((l.take n.toNat).map (pzG k)).sum
theorem nms_succ {l : List G} {n : Int} (h : Nms l n) (h0 : 0 ≤ n) (h1 : (gS (kid (gAt l n.toNat) 0)).length ≤ 40) : Nms l (n + 1) := fun i hi => by
  by_cases e : (i : Int) < n
  · exact h i e
  · have : n.toNat = i := by omega
    rw [this] at h1; exact h1
theorem nms_get {l : List G} {n : Int} (h : Nms l l.length) (h0 : 0 ≤ n) (h1 : n < l.length) : (gS (kid (gAt l n.toNat) 0)).length ≤ 40 := h n.toNat (by omega)
theorem nms_eq {l : List G} {n m : Int} (h : Nms l n) (e : m ≤ n) : Nms l m := fun i hi => h i (by omega)
theorem wfs_succ {k : Nat} {l : List G} {n : Int} (h : Wfs (k + 1) l n) (h0 : 0 ≤ n) (h1 : Nd (gAt l n.toNat)) (h2 : Wfs k (gL (kid (gAt l n.toNat) 5)) (gL (kid (gAt l n.toNat) 5)).length) : Wfs (k + 1) l (n + 1) := fun i hi => by
  by_cases e : (i : Int) < n
  · exact h i e
  · have : n.toNat = i := by omega
    rw [this] at h1 h2; exact ⟨h1, h2⟩
theorem wfs_eq {k : Nat} {l : List G} {n m : Int} (h : Wfs (k + 1) l n) (e : m ≤ n) : Wfs (k + 1) l m := fun i hi => h i (by omega)
theorem wfs_nd {k : Nat} {l : List G} {n m : Int} (h : Wfs (k + 1) l m) (h0 : 0 ≤ n) (h1 : n < m) : Nd (gAt l n.toNat) := (h n.toNat (by omega)).1
theorem wfs_in {k : Nat} {l : List G} {n m : Int} (h : Wfs (k + 1) l m) (h0 : 0 ≤ n) (h1 : n < m) : Wfs k (gL (kid (gAt l n.toNat) 5)) (gL (kid (gAt l n.toNat) 5)).length := (h n.toNat (by omega)).2
theorem pzs_zero (k : Nat) (l : List G) : pzs k l 0 = 0 := rfl
theorem pzs_succ {k : Nat} {l : List G} {n : Int} (h0 : 0 ≤ n) (h1 : n < l.length) : pzs (k + 1) l (n + 1) = pzs (k + 1) l n + (1 + (gS (kid (gAt l n.toNat) 3)).length + pzs k (gL (kid (gAt l n.toNat) 5)) (gL (kid (gAt l n.toNat) 5)).length) := by
  have e : (n + 1).toNat = n.toNat + 1 := by omega
  have h1 : n.toNat < l.length := by omega
  have hg : l[n.toNat] = gAt l n.toNat := by
    unfold gAt
    rw [List.getD_eq_getElem?_getD, List.getElem?_eq_getElem h1]; rfl
  have e2 : ∀ m : List G, m.take ((m.length : Int)).toNat = m := fun m => by rw [Int.toNat_natCast, List.take_length]
  unfold pzs
  rw [e, List.take_succ_eq_append_getElem h1, List.map_append, List.sum_append, hg, e2]
  simp [pzG]
theorem pzs_le {k : Nat} {l : List G} {n m : Int} (h : n ≤ m) : pzs k l n ≤ pzs k l m := by
  unfold pzs
  have e : l.take n.toNat = (l.take m.toNat).take n.toNat := by rw [List.take_take, Nat.min_eq_left (by omega)]
  generalize l.take m.toNat = l' at e
  rw [e]
  conv => rhs; rw [← List.take_append_drop n.toNat l']
  rw [List.map_append, List.sum_append]; omega
theorem nms_nil {l : List G} {n : Int} (h : n ≤ 0) : Nms l n := fun i hi => by omega
theorem wfs_nil {k : Nat} {l : List G} {n : Int} (h : n ≤ 0) : Wfs (k + 1) l n := fun i hi => by omega
def pw (b k : Nat) : Int := (b : Int) ^ k
theorem pw_step {b m l l' : Nat} {n : Int} (h : n < pw b (m - l)) (hb : 1 < b) (hl : l + 1 ≤ m) (e : l' = l + 1) : n / (b : Int) < pw b (m - l') := by
  subst e
  have e : m - l = (m - (l + 1)) + 1 := by omega
  rw [e] at h
  unfold pw at *
  rw [Int.pow_succ] at h
  exact Int.ediv_lt_of_lt_mul (by omega) h
theorem pw_len {b m l : Nat} {n : Int} (h : n < pw b (m - l)) (h1 : l = 0 ∨ 1 ≤ n) (hm : 0 < m) : l + 1 ≤ m := by
  rcases h1 with h1 | h1
  · omega
  · rcases Nat.lt_or_ge l m with h2 | h2
    · omega
    · have e : m - l = 0 := by omega
      rw [e] at h
      have : pw b 0 = 1 := by simp [pw]
      omega
theorem pw_ten : pw 10 20 = 100000000000000000000 := by decide
theorem pw_128 : pw 128 10 = 1180591620717411303424 := by decide
noncomputable def bd (p : Prop) : Nat := @ite Nat p (Classical.propDecidable p) 0 1
theorem bd_eq (p : Prop) : (p ∧ bd p = 0) ∨ (¬ p ∧ bd p = 1) := by unfold bd; by_cases h : p <;> simp [h]
attribute [irreducible] Nms Wfs pzs pzG pw bd
noncomputable section
def rc : List Sh := [.s 1, .b 2]
def S231 : FSpec := { args := [.c (.i .u8 1)], blk := [], pre := fun _ => True, res := fun _ => .one (.c (.i .i64 10)), out := fun _ => [], post := fun z y => -1 ≤ y.i 10 ∧ y.i 10 ≤ 15 }
def S229 : FSpec := { args := [.c (.p 0), .c (.s 7)], blk := [.cells 278 rc], pre := fun _ => True, res := fun _ => .tu [], out := fun _ => [.cells 278 rc], post := fun z y => (y.s 1).length ≤ (z.s 1).length ∧ (¬ y.p 2 → ¬ z.p 2 ∧ (y.s 1).length + (z.s 7).length ≤ (z.s 1).length) }
def S233 : FSpec := { args := [.c (.p 0), .c (.i .u8 7)], blk := [.cells 278 rc], pre := fun _ => True, res := fun _ => .one (.c (.b 10)), out := fun z => [.cells 278 [.ps (z.s 1), .pb (z.p 2)]], post := fun z y => y.p 10 → ¬ z.p 2 ∧ 0 < (z.s 1).length }
def S232 : FSpec := { args := [.c (.p 0)], blk := [.cells 278 rc], pre := fun _ => True, res := fun _ => .one (.c (.i .u8 10)), out := fun _ => [.cells 278 rc], post := fun z y => (y.s 1).length ≤ (z.s 1).length ∧ 0 ≤ y.i 10 ∧ (¬ y.p 2 → ¬ z.p 2 ∧ (y.s 1).length + 2 ≤ (z.s 1).length) }
def S230a (p : Sy) : LSpec := { tmps := [(0, .c (.p 0)), (3, .c (.gb 1 20))], blk := [.cells 278 rc, .growb 5 20], inv := fun z => (z.s 20).length + (z.s 1).length ≤ 1000000, mu := fun z => (z.s 1).length, alts := [⟨.exit 0, [(0, .c (.p 0))], [.cells 278 rc, .growb 5 20]⟩, ⟨.ret, [(2, .c (.s 10))], [.cells 278 rc, .growb 5 20]⟩], post := fun z y => (y.s 1).length ≤ (z.s 1).length ∧ (y.i 999 = 0 → y.p 2) ∧ (¬ y.i 999 = 0 → ¬ z.p 2 ∧ (y.s 1).length < (z.s 1).length ∧ (y.s 10).length ≤ 1000000) }
def S230 : FSpec := { args := [.c (.p 0)], blk := [.cells 278 rc], pre := fun z => (z.s 1).length ≤ 1000000, res := fun _ => .one (.c (.s 10)), out := fun _ => [.cells 278 rc], post := fun z y => (y.s 1).length ≤ (z.s 1).length ∧ (y.s 10).length ≤ 1000000 ∧ (¬ y.p 2 → ¬ z.p 2 ∧ (y.s 1).length < (z.s 1).length) }
def S162a (p : Sy) : LSpec := { tmps := [(0, .c (.p 0)), (4, .c (.p 1)), (6, .c (.gb 2 20))], blk := [.cells 278 rc, .cells 46 vo, .growb 5 20], inv := fun z => (z.s 20).length + (z.s 1).length ≤ 1000001 ∧ (¬ z.p 2 → (z.s 20).length + (z.s 1).length ≤ 1000000), mu := fun z => 2 * (z.s 1).length + bd (z.p 2), alts := [⟨.exit 1, [(0, .c (.p 0)), (4, .c (.p 1)), (6, .c (.gb 2 20))], [.cells 278 rc, .cells 46 vo, .growb 5 20]⟩], post := fun z y => (y.s 1).length ≤ (z.s 1).length ∧ (¬ y.p 2 → ¬ z.p 2) ∧ (y.s 20).length ≤ 1000001 }
def S162b (p : Sy) : LSpec := { tmps := [(0, .c (.p 0)), (4, .c (.p 1)), (7, .c (.i .i64 3))], blk := [.cells 278 rc, .cells 46 vo], inv := fun z => 0 ≤ z.i 3 ∧ z.i 3 ≤ 100000000000000000 ∧ (¬ z.p 2 → z.i 3 ≤ 9007199254740992), mu := fun z => (z.s 1).length, alts := [⟨.exit 3, [(0, .c (.p 0)), (4, .c (.p 1)), (7, .c (.i .i64 3))], [.cells 278 rc, .cells 46 vo]⟩], post := fun z y => (y.s 1).length ≤ (z.s 1).length ∧ (¬ y.p 2 → ¬ z.p 2) }
def lv : List Sh := [.i .i64 20, .i .i64 21, .i .i64 22, .s 23, .g 3 1 30, .g 4 6 31]
abbrev Lst (z : Sy) : Prop := ((z.g 30).length + (z.s 1).length ≤ 1000001 ∧ (z.g 31).length + (z.s 1).length ≤ 1000001) ∧ (¬ z.p 2 → (z.g 30).length + (z.s 1).length ≤ 1000000 ∧ (z.g 31).length + (z.s 1).length ≤ 1000000)
abbrev Lsp (z y : Sy) : Prop := (y.s 1).length ≤ (z.s 1).length ∧ (¬ y.p 2 → ¬ z.p 2) ∧ (y.g 30).length ≤ 1000001 ∧ (y.g 31).length ≤ 1000001 ∧ (y.s 23).length = (z.s 23).length
def S162c (k : Nat) (p : Sy) : LSpec := { tmps := [(0, .c (.p 0)), (1, .c (.pi .i64 (p.i 5))), (4, .c (.p 1)), (8, .c (.p 2))], blk := [.cells 278 rc, .cells 46 vo, .cells 46 lv, .grow 1 9 30, .grow 2 46 31], inv := fun z => (1 ≤ p.i 5 ∧ p.i 5 ≤ 16 ∧ 17 - p.i 5 < k) ∧ Lst z, mu := fun z => 2 * (z.s 1).length + bd (z.p 2), alts := [⟨.exit 5, [(0, .c (.p 0)), (4, .c (.p 1)), (8, .c (.p 2))], [.cells 278 rc, .cells 46 vo, .cells 46 lv, .grow 1 9 30, .grow 2 46 31]⟩], post := Lsp }
def S162d (k : Nat) (p : Sy) : LSpec := { tmps := [(0, .c (.p 0)), (1, .c (.pi .i64 (p.i 5))), (4, .c (.p 1)), (9, .c (.p 2))], blk := [.cells 278 rc, .cells 46 vo, .cells 46 lv, .grow 1 9 30, .grow 2 46 31], inv := fun z => (1 ≤ p.i 5 ∧ p.i 5 ≤ 16 ∧ 17 - p.i 5 < k) ∧ Lst z, mu := fun z => 2 * (z.s 1).length + bd (z.p 2), alts := [⟨.exit 7, [(0, .c (.p 0)), (4, .c (.p 1)), (9, .c (.p 2))], [.cells 278 rc, .cells 46 vo, .cells 46 lv, .grow 1 9 30, .grow 2 46 31]⟩], post := Lsp }
def S162e (p : Sy) : LSpec := { tmps := [(0, .c (.p 0)), (4, .c (.p 1)), (10, .c (.i .i64 3))], blk := [.cells 278 rc, .cells 46 vo], inv := fun z => (z.s 1).length ≤ 1000000 ∧ 0 ≤ z.i 3 ∧ z.i 3 ≤ (z.s 1).length, mu := fun z => ((z.s 1).length - z.i 3).toNat, alts := [⟨.exit 9, [(0, .c (.p 0)), (4, .c (.p 1)), (10, .c (.i .i64 3))], [.cells 278 rc, .cells 46 vo]⟩], post := fun z y => (y.s 1).length = (z.s 1).length ∧ (y.p 2 → z.p 2) ∧ (z.p 2 → y.p 2) ∧ z.i 3 ≤ y.i 3 ∧ y.i 3 ≤ (z.s 1).length }
def S162 (k : Nat) : FSpec := { args := [.c (.p 0), .c (.i .i64 5)], blk := [.cells 278 rc], pre := fun z => (z.s 1).length ≤ 1000000 ∧ 1 ≤ z.i 5 ∧ z.i 5 ≤ 17 ∧ 17 - z.i 5 < k, res := fun _ => .one (.ag [.i .i64 10, .i .i64 11, .i .i64 12, .s 13, .v 1 14, .v 2 15]), out := fun _ => [.cells 278 rc], post := fun z y => (y.s 1).length ≤ (z.s 1).length ∧ (¬ y.p 2 → ¬ z.p 2 ∧ (y.s 1).length < (z.s 1).length) }
end
end Go.Proofs.YtldnnonkobikdaaGreatDoor
namespace Go.Proofs.YtldnnonkobikdaaGreatDoor
open Go.Sym
set_option linter.unusedVariables false
noncomputable section
def va : List Sh := [.i .i64 1, .i .i64 2, .i .i64 3, .s 4, .v 1 5, .v 2 6]
def vp (p : Sy) : List Sh := [.pi .i64 (p.i 1), .pi .i64 (p.i 2), .pi .i64 (p.i 3), .ps (p.s 4), .pv 1 (p.g 5), .pv 2 (p.g 6)]
abbrev Nz (z : Sy) : Prop := Ndz (z.i 1) (z.i 3) (z.s 4) (z.g 5) (z.g 6)
abbrev sz (k : Nat) (z : Sy) : Nat := 1 + (z.s 4).length + pzs k (z.g 6) (z.g 6).length
def S334a (p : Sy) : LSpec := { tmps := [(0, .ag (vp p)), (1, .c (.pi .i64 (p.i 7))), (2, .c (.p 0)), (7, .c (.i .i64 9))], blk := [.cells 46 (vp p)], inv := fun z => (p.g 5).length ≤ 200 ∧ (0 ≤ z.i 9 ∧ z.i 9 ≤ (p.g 5).length) ∧ Nms (p.g 5) (z.i 9), mu := fun z => ((p.g 5).length - z.i 9).toNat, alts := [⟨.exit 1, [(0, .ag (vp p)), (1, .c (.pi .i64 (p.i 7))), (2, .c (.p 0))], [.cells 46 (vp p)]⟩, ⟨.ret, [(4, .c (.i .i64 10))], [.cells 46 (vp p)]⟩], post := fun z y => (y.i 999 = 0 → Nms (p.g 5) (p.g 5).length) ∧ (¬ y.i 999 = 0 → y.i 10 ≠ 0) }
def S334b (k : Nat) (p : Sy) : LSpec := { tmps := [(1, .c (.pi .i64 (p.i 7))), (2, .c (.p 0)), (8, .c (.i .i64 9))], blk := [.cells 46 (vp p)], inv := fun z => (p.g 6).length ≤ 200 ∧ (1 ≤ p.i 7 ∧ p.i 7 ≤ 16 ∧ 17 - p.i 7 < k) ∧ (0 ≤ z.i 9 ∧ z.i 9 ≤ (p.g 6).length) ∧ Wfs k (p.g 6) (z.i 9), mu := fun z => ((p.g 6).length - z.i 9).toNat, alts := [⟨.exit 3, [], [.cells 46 (vp p)]⟩, ⟨.ret, [(4, .c (.i .i64 10))], [.cells 46 (vp p)]⟩], post := fun z y => (y.i 999 = 0 → Wfs k (p.g 6) (p.g 6).length) ∧ (¬ y.i 999 = 0 → y.i 10 ≠ 0) }
def S334 (k : Nat) : FSpec := { args := [.ag va, .c (.i .i64 7)], blk := [], pre := fun z => 1 ≤ z.i 7 ∧ z.i 7 ≤ 17 ∧ 17 - z.i 7 < k, res := fun _ => .one (.c (.i .i64 10)), out := fun _ => [], post := fun z y => y.i 10 = 0 → Nz z ∧ Wfs k (z.g 6) (z.g 6).length }
def S289 : FSpec := { args := [.ag va], blk := [], pre := fun _ => True, res := fun _ => .one (.c (.i .i64 10)), out := fun _ => [], post := fun z y => y.i 10 = 0 → Nz z ∧ Wfs 17 (z.g 6) (z.g 6).length }
def S290a (k : Nat) (p : Sy) : LSpec := { tmps := [(1, .c (.p 1)), (2, .c (.p 0)), (5, .c (.i .i64 9))], blk := [.cells 46 (vp p), .cells 3 [.i .i64 7]], inv := fun z => (p.g 6).length ≤ 200 ∧ Wfs k (p.g 6) (p.g 6).length ∧ (0 ≤ z.i 9 ∧ z.i 9 ≤ (p.g 6).length) ∧ (0 ≤ z.i 7 ∧ z.i 7 ≤ 2000000) ∧ (z.i 7 ≤ 65536 → p.i 7 + pzs k (p.g 6) (z.i 9) ≤ z.i 7), mu := fun z => ((p.g 6).length - z.i 9).toNat, alts := [⟨.exit 0, [(1, .c (.p 1))], [.cells 46 (vp p), .cells 3 [.i .i64 7]]⟩], post := fun z y => (0 ≤ y.i 7 ∧ y.i 7 ≤ 2000000) ∧ (y.i 7 ≤ 65536 → p.i 7 + pzs k (p.g 6) (p.g 6).length ≤ y.i 7) }
def S290 (k : Nat) : FSpec := { args := [.ag va, .c (.p 0)], blk := [.cells 3 [.i .i64 7]], pre := fun z => Nz z ∧ Wfs k (z.g 6) (z.g 6).length ∧ 0 ≤ z.i 7 ∧ z.i 7 ≤ 65536, res := fun _ => .one (.c (.b 10)), out := fun _ => [.cells 3 [.i .i64 7]], post := fun z y => (0 ≤ y.i 7 ∧ y.i 7 ≤ 2000000) ∧ (y.i 7 ≤ 65536 → z.i 7 + sz k z ≤ y.i 7) ∧ (¬ y.p 10 → y.i 7 ≤ 65536) }
def S336 : FSpec := { args := [.c (.i .i64 1)], blk := [], pre := fun _ => True, res := fun _ => .one (.c (.i .u64 10)), out := fun _ => [], post := fun z y => 0 ≤ y.i 10 ∧ y.i 10 < 18446744073709551616 }
def S335a (p : Sy) : LSpec := { tmps := [(0, .c (.i .u64 1)), (3, .c (.gb 0 20))], blk := [.growb 5 20], inv := fun z => 0 ≤ z.i 1 ∧ z.i 1 < pw 128 (10 - (z.s 20).length) ∧ ((z.s 20).length = 0 ∨ 1 ≤ z.i 1) ∧ (z.s 20).length ≤ 10, mu := fun z => (z.i 1).toNat, alts := [⟨.exit 0, [(0, .c (.i .u64 1)), (3, .c (.gb 0 20))], [.growb 5 20]⟩], post := fun z y => (y.s 20).length ≤ 9 }
def S335 : FSpec := { args := [.c (.i .u64 1)], blk := [], pre := fun z => 0 ≤ z.i 1 ∧ z.i 1 < 18446744073709551616, res := fun _ => .one (.c (.vb 10)), out := fun _ => [], post := fun z y => (y.s 10).length ≤ 10 }
def S337 : FSpec := { args := [.c (.gb 0 20), .c (.s 2)], blk := [.growb 5 20], pre := fun z => (z.s 2).length ≤ 1000000 ∧ (z.s 20).length ≤ 100000000, res := fun _ => .one (.c (.gb 0 20)), out := fun _ => [.growb 5 20], post := fun z y => (y.s 20).length ≤ (z.s 20).length + 10 + (z.s 2).length }
def S291a (k : Nat) (p : Sy) : LSpec := { tmps := [(0, .c (.gb 1 20)), (3, .c (.p 0)), (5, .c (.i .i64 9))], blk := [.cells 46 (vp p), .growb 5 20], inv := fun z => Nz p ∧ Wfs k (p.g 6) (p.g 6).length ∧ (0 ≤ z.i 9 ∧ z.i 9 ≤ (p.g 6).length) ∧ (z.s 20).length + 300 * pzs k (p.g 6) (p.g 6).length + 200 ≤ 100000000 + 300 * pzs k (p.g 6) (z.i 9), mu := fun z => ((p.g 6).length - z.i 9).toNat, alts := [⟨.exit 1, [(0, .c (.gb 1 20))], [.cells 46 (vp p), .growb 5 20]⟩], post := fun z y => (y.s 20).length + 300 * pzs k (p.g 6) (z.i 9) ≤ (z.s 20).length + 300 * pzs k (p.g 6) (p.g 6).length }
def S291 (k : Nat) : FSpec := { args := [.c (.gb 0 20), .ag va], blk := [.growb 5 20], pre := fun z => Nz z ∧ Wfs k (z.g 6) (z.g 6).length ∧ (z.s 20).length + 300 * sz k z ≤ 100000000, res := fun _ => .one (.c (.gb 0 20)), out := fun _ => [.growb 5 20], post := fun z y => (y.s 20).length + 100 ≤ (z.s 20).length + 300 * sz k z }
def S234 : FSpec := { args := [.ag va], blk := [], pre := fun _ => True, res := fun _ => .tu [.c .o, .c (.i .i64 11)], out := fun _ => [], post := fun z y => y.i 11 = 0 → Nz z ∧ Wfs 17 (z.g 6) (z.g 6).length ∧ 300 * sz 17 z ≤ 100000000 }
def S294a (p : Sy) : LSpec := { tmps := [(0, .c (.ps (p.s 1))), (3, .c (.gb 0 20)), (4, .c (.i .i64 3))], blk := [.growb 5 20], inv := fun z => (p.s 1).length ≤ 1000000 ∧ (0 ≤ z.i 3 ∧ z.i 3 ≤ (p.s 1).length) ∧ (z.s 20).length ≤ 1 + 3 * z.i 3, mu := fun z => ((p.s 1).length - z.i 3).toNat, alts := [⟨.exit 0, [(3, .c (.gb 0 20))], [.growb 5 20]⟩], post := fun z y => (y.s 20).length ≤ 1 + 3 * (p.s 1).length }
def S294 : FSpec := { args := [.c (.s 1)], blk := [], pre := fun z => (z.s 1).length ≤ 1000000, res := fun _ => .one (.c (.s 10)), out := fun _ => [], post := fun z y => (y.s 10).length ≤ 3 * (z.s 1).length + 2 }
def S338 : FSpec := { args := [.ag va], blk := [], pre := fun _ => True, res := fun _ => .one (.c (.b 10)), out := fun _ => [], post := fun _ _ => True }
def S339 : FSpec := { args := [.c (.i .i64 1)], blk := [], pre := fun z => True, res := fun _ => .one (.c (.i .u64 10)), out := fun _ => [], post := fun z y => 0 ≤ y.i 10 ∧ y.i 10 < 18446744073709551616 }
def S293a (p : Sy) : LSpec := { tmps := [(0, .c (.i .u64 1)), (3, .c (.s 21))], blk := [], inv := fun z => 0 ≤ z.i 1 ∧ z.i 1 < pw 10 (20 - (z.s 21).length) ∧ ((z.s 21).length = 0 ∨ 1 ≤ z.i 1) ∧ (z.s 21).length ≤ 20, mu := fun z => (z.i 1).toNat, alts := [⟨.ret, [(2, .c (.s 10))], []⟩], post := fun z y => (y.s 10).length ≤ 20 }
def S293 : FSpec := { args := [.c (.i .u64 1)], blk := [], pre := fun z => 0 ≤ z.i 1 ∧ z.i 1 < 18446744073709551616, res := fun _ => .one (.c (.s 10)), out := fun _ => [], post := fun z y => (y.s 10).length ≤ 20 }
def S292a (p : Sy) : LSpec := { tmps := [(1, .c (.p 0)), (4, .c (.s 21))], blk := [.cells 46 (vp p)], inv := fun z => (0 ≤ p.i 3 ∧ p.i 3 ≤ 18) ∧ (z.s 21).length ≤ 20, mu := fun z => (20 - (z.s 21).length), alts := [⟨.exit 0, [(1, .c (.p 0)), (4, .c (.s 21))], [.cells 46 (vp p)]⟩], post := fun z y => (y.s 21).length ≤ 20 ∧ p.i 3 < (y.s 21).length }
def S292 : FSpec := { args := [.ag va], blk := [], pre := fun z => 0 ≤ z.i 3 ∧ z.i 3 ≤ 18, res := fun _ => .tu [.c (.s 10), .c (.i .i64 11)], out := fun _ => [], post := fun z y => (y.s 10).length ≤ 45 }
def S235a (p : Sy) : LSpec := { tmps := [(1, .c (.p 0)), (5, .c (.gb 1 20)), (6, .c (.i .i64 9))], blk := [.cells 46 (vp p), .growb 5 20], inv := fun z => (p.s 4).length ≤ 1000000 ∧ (0 ≤ z.i 9 ∧ z.i 9 ≤ (p.s 4).length) ∧ (z.s 20).length ≤ 1 + 2 * z.i 9, mu := fun z => ((p.s 4).length - z.i 9).toNat, alts := [⟨.exit 1, [(5, .c (.gb 1 20))], [.cells 46 (vp p), .growb 5 20]⟩], post := fun z y => (y.s 20).length ≤ 1 + 2 * (p.s 4).length }
abbrev Shw (k : Nat) (p z : Sy) : Prop := Nz p ∧ Wfs k (p.g 6) (p.g 6).length ∧ (0 ≤ z.i 9 ∧ z.i 9 ≤ (p.g 6).length) ∧ 300 * pzs k (p.g 6) (p.g 6).length ≤ 100000000 ∧ (z.s 21).length ≤ 1 + 300 * pzs k (p.g 6) (z.i 9)
def S235b (k : Nat) (p : Sy) : LSpec := { tmps := [(1, .c (.p 0)), (7, .c (.s 21)), (8, .c (.i .i64 9))], blk := [.cells 46 (vp p)], inv := Shw k p, mu := fun z => ((p.g 6).length - z.i 9).toNat, alts := [⟨.exit 3, [(7, .c (.s 21))], [.cells 46 (vp p)]⟩], post := fun z y => (y.s 21).length ≤ 1 + 300 * pzs k (p.g 6) (p.g 6).length }
def S235c (k : Nat) (p : Sy) : LSpec := { tmps := [(1, .c (.p 0)), (9, .c (.s 21)), (10, .c (.i .i64 9))], blk := [.cells 46 (vp p)], inv := fun z => p.i 1 = 9 ∧ Shw k p z, mu := fun z => ((p.g 6).length - z.i 9).toNat, alts := [⟨.exit 5, [(9, .c (.s 21))], [.cells 46 (vp p)]⟩], post := fun z y => (y.s 21).length ≤ 1 + 300 * pzs k (p.g 6) (p.g 6).length }
def S235 (k : Nat) : FSpec := { args := [.ag va], blk := [], pre := fun z => Nz z ∧ Wfs k (z.g 6) (z.g 6).length ∧ 300 * sz k z ≤ 100000000, res := fun _ => .one (.c (.s 10)), out := fun _ => [], post := fun z y => (y.s 10).length + 130 ≤ 300 * sz k z }
def S163 : FSpec := { args := [.ag va], blk := [], pre := fun _ => True, res := fun _ => .tu [.c (.s 10), .c (.i .i64 11)], out := fun _ => [], post := fun _ _ => True }
end
end Go.Proofs.YtldnnonkobikdaaGreatDoor
namespace Go.Proofs.YtldnnonkobikdaaGreatDoor
open Go.Sym
noncomputable section
def F231   (z : Sy) (h : Hn) : Fm := S231.callFm Tryz.prog (tabOf [] [] []) 1000 231 z h
def A231  (z : Sy) : Prop := True ∧ S231.pre z
def F229   (z : Sy) (h : Hn) : Fm := S229.callFm Tryz.prog (tabOf [] [] []) 1000 229 z h
def A229  (z : Sy) : Prop := True ∧ S229.pre z
def F233   (z : Sy) (h : Hn) : Fm := S233.callFm Tryz.prog (tabOf [] [] []) 1000 233 z h
def A233  (z : Sy) : Prop := True ∧ S233.pre z
def F232  (z231 : Zf S231) (z : Sy) (h : Hn) : Fm := S232.callFm Tryz.prog (tabOf [] [⟨231, S231, z231, false⟩] []) 1000 232 z h
def A232  (z : Sy) : Prop := True ∧ S232.pre z
def F230a  (z233 : Zf S233) (z232 : Zf S232) (p z : Sy) (h : Hn) : Fm := (S230a p).roundFm Tryz.prog (tabOf [] [⟨233, S233, z233, false⟩, ⟨232, S232, z232, false⟩] []) 1000 230 0 z h
def A230a  (p z : Sy) : Prop := True ∧ (S230a p).inv z
def F230  (z229 : Zf S229) (z230a : Lf0 S230a) (z : Sy) (h : Hn) : Fm := S230.callFm Tryz.prog (tabOf [] [⟨229, S229, z229, false⟩] [⟨230, 0, loopN Tryz.prog 230 0, [], S230a, z230a⟩]) 1000 230 z h
def A230  (z : Sy) : Prop := True ∧ S230.pre z
def F162a  (z231 : Zf S231) (z232 : Zf S232) (p z : Sy) (h : Hn) : Fm := (S162a p).roundFm Tryz.prog (tabOf [] [⟨231, S231, z231, false⟩, ⟨232, S232, z232, false⟩] []) 1000 162 1 z h
def A162a  (p z : Sy) : Prop := True ∧ (S162a p).inv z
def F162b   (p z : Sy) (h : Hn) : Fm := (S162b p).roundFm Tryz.prog (tabOf [] [] []) 1000 162 3 z h
def A162b  (p z : Sy) : Prop := True ∧ (S162b p).inv z
def F162c (k : Nat) (z233 : Zf S233) (z229 : Zf S229) (z162m : Zf (S162 k)) (p z : Sy) (h : Hn) : Fm := ((S162c (k + 1)) p).roundFm Tryz.prog (tabOf [] [⟨233, S233, z233, false⟩, ⟨229, S229, z229, false⟩, ⟨162, (S162 k), z162m, false⟩] []) 1000 162 5 z h
def A162c (k : Nat) (p z : Sy) : Prop := True ∧ ((S162c (k + 1)) p).inv z
def F162d (k : Nat) (z233 : Zf S233) (z229 : Zf S229) (z230 : Zf S230) (z162m : Zf (S162 k)) (p z : Sy) (h : Hn) : Fm := ((S162d (k + 1)) p).roundFm Tryz.prog (tabOf [] [⟨233, S233, z233, false⟩, ⟨229, S229, z229, false⟩, ⟨230, S230, z230, false⟩, ⟨162, (S162 k), z162m, false⟩] []) 1000 162 7 z h
def A162d (k : Nat) (p z : Sy) : Prop := True ∧ ((S162d (k + 1)) p).inv z
def F162e   (p z : Sy) (h : Hn) : Fm := (S162e p).roundFm Tryz.prog (tabOf [] [] []) 1000 162 9 z h
def A162e  (p z : Sy) : Prop := True ∧ (S162e p).inv z
def F162 (k : Nat) (z229 : Zf S229) (z230 : Zf S230) (z103 : Zf S103) (z162a : Lf0 S162a) (z162b : Lf0 S162b) (z162cm : Lf0 (S162c (k + 1))) (z162dm : Lf0 (S162d (k + 1))) (z162e : Lf0 S162e) (z : Sy) (h : Hn) : Fm := (S162 (k + 1)).callFm Tryz.prog (tabOf [] [⟨229, S229, z229, false⟩, ⟨230, S230, z230, false⟩, ⟨103, S103, z103, false⟩] [⟨162, 1, loopN Tryz.prog 162 1, [], S162a, z162a⟩, ⟨162, 3, loopN Tryz.prog 162 3, [], S162b, z162b⟩, ⟨162, 5, loopN Tryz.prog 162 5, [(1, .c (.i .i64 5))], (S162c (k + 1)), z162cm⟩, ⟨162, 7, loopN Tryz.prog 162 7, [(1, .c (.i .i64 5))], (S162d (k + 1)), z162dm⟩, ⟨162, 9, loopN Tryz.prog 162 9, [], S162e, z162e⟩]) 1000 162 z h
def A162 (k : Nat) (z : Sy) : Prop := True ∧ (S162 (k + 1)).pre z
end
end Go.Proofs.YtldnnonkobikdaaGreatDoor
namespace Go.Proofs.YtldnnonkobikdaaGreatDoor
open Go.Sym
set_option linter.unusedVariables false
set_option maxRecDepth 100000
set_option maxHeartbeats 4000000
noncomputable def F231_h : Hn := (.both .nil (.both .nil (.both .nil (.both .nil (.both .nil (.both .nil (.both .nil (.both .nil (.both .nil (.both .nil (.both .nil (.both .nil (.both .nil (.both .nil (.both .nil (.both .nil .nil))))))))))))))))
noncomputable def F231_t (z : Sy) : Fm := (.two (48 = z.i 1) (.an (True) (.at ((-1 : Int) ≤ 0 ∧ (0 : Int) ≤ 15))) (.two (49 = z.i 1) (.an (True) (.at ((-1 : Int) ≤ 1 ∧ (1 : Int) ≤ 15))) (.two (50 = z.i 1) (.an (True) (.at ((-1 : Int) ≤ 2 ∧ (2 : Int) ≤ 15))) (.two (51 = z.i 1) (.an (True) (.at ((-1 : Int) ≤ 3 ∧ (3 : Int) ≤ 15))) (.two (52 = z.i 1) (.an (True) (.at ((-1 : Int) ≤ 4 ∧ (4 : Int) ≤ 15))) (.two (53 = z.i 1) (.an (True) (.at ((-1 : Int) ≤ 5 ∧ (5 : Int) ≤ 15))) (.two (54 = z.i 1) (.an (True) (.at ((-1 : Int) ≤ 6 ∧ (6 : Int) ≤ 15))) (.two (55 = z.i 1) (.an (True) (.at ((-1 : Int) ≤ 7 ∧ (7 : Int) ≤ 15))) (.two (56 = z.i 1) (.an (True) (.at ((-1 : Int) ≤ 8 ∧ (8 : Int) ≤ 15))) (.two (57 = z.i 1) (.an (True) (.at ((-1 : Int) ≤ 9 ∧ (9 : Int) ≤ 15))) (.two (97 = z.i 1) (.an (True) (.at ((-1 : Int) ≤ 10 ∧ (10 : Int) ≤ 15))) (.two (98 = z.i 1) (.an (True) (.at ((-1 : Int) ≤ 11 ∧ (11 : Int) ≤ 15))) (.two (99 = z.i 1) (.an (True) (.at ((-1 : Int) ≤ 12 ∧ (12 : Int) ≤ 15))) (.two (100 = z.i 1) (.an (True) (.at ((-1 : Int) ≤ 13 ∧ (13 : Int) ≤ 15))) (.two (101 = z.i 1) (.an (True) (.at ((-1 : Int) ≤ 14 ∧ (14 : Int) ≤ 15))) (.two (102 = z.i 1) (.an (True) (.at ((-1 : Int) ≤ 15 ∧ (15 : Int) ≤ 15))) (.an (True) (.at ((-1 : Int) ≤ (-1) ∧ (-1 : Int) ≤ 15)))))))))))))))))))
theorem F231_e (z : Sy) : F231 z F231_h = F231_t z := by kernel_rfl
theorem F231_d (z : Sy) (hA : A231 z) : (F231_t z).den := by
  have hB : True ∧ True := hA
  unfold F231_t
  try conv => zeta
  repeat' (with_reducible first | intro _ | apply fmA | apply fmT | apply fmN | apply fmL | apply fmE)
  all_goals first | omega | grind [symf_ne, symf_bstr, byteAt_lt, bd_eq]
theorem ok231 : Ok Tryz.prog 231 S231 := by
  exact call_ok (n := 1000) (tabOf_ok mN eN lN) fun z hz => ⟨F231_h, by show (F231 z F231_h).den; rw [F231_e]; exact F231_d z ⟨trivial, hz⟩⟩
noncomputable def F229_h : Hn := (.both .nil (.both .nil (.both .nil .nil)))
noncomputable def F229_t (z : Sy) : Fm := let v0 := ((z.s 1).length ≤ (z.s 1).length ∧ (¬true = true → ¬z.p 2 ∧ (z.s 1).length + (z.s 7).length ≤ (z.s 1).length)); let v1 := (↑(z.s 7).length : Int); let v2 := (↑(z.s 1).length : Int); let v3 := (List.drop v1.toNat (List.take v2.toNat (z.s 1))); (.two (z.p 2) (.an (True) (.at v0)) (.two (v2 < v1) (.an (True) (.at v0)) (.an ((0 : Int) ≤ 0 ∧ 0 ≤ v1 ∧ v1 ≤ v2) (.two (List.drop (Int.toNat 0) (List.take v1.toNat (z.s 1)) ≠ z.s 7) (.an (True) (.at v0)) (.an (0 ≤ v1 ∧ v1 ≤ v2 ∧ v2 ≤ v2) (.an (True) (.at (v3.length ≤ (z.s 1).length ∧ (¬z.p 2 → ¬z.p 2 ∧ v3.length + (z.s 7).length ≤ (z.s 1).length)))))))))
theorem F229_e (z : Sy) : F229 z F229_h = F229_t z := by kernel_rfl
theorem F229_d (z : Sy) (hA : A229 z) : (F229_t z).den := by
  have hB : True ∧ True := hA
  unfold F229_t
  try conv => zeta
  repeat' (with_reducible first | intro _ | apply fmA | apply fmT | apply fmN | apply fmL | apply fmE)
  all_goals first | omega | grind [symf_ne, symf_bstr, byteAt_lt, bd_eq]
theorem ok229 : Ok Tryz.prog 229 S229 := by
  exact call_ok (n := 1000) (tabOf_ok mN eN lN) fun z hz => ⟨F229_h, by show (F229 z F229_h).den; rw [F229_e]; exact F229_d z ⟨trivial, hz⟩⟩
noncomputable def F233_h : Hn := (.both (.both .nil .nil) .nil)
noncomputable def F233_t (z : Sy) : Fm := let v0 := ((z.p 2 ↔ z.p 2) ∧ z.s 1 = z.s 1 ∧ True); let v1 := (false = true → ¬z.p 2 ∧ 0 < (z.s 1).length); (.two (¬z.p 2) (.two (z.s 1 ≠ []) (.an ((0 : Int) ≤ 0 ∧ 0 < (↑(z.s 1).length : Int)) (.an v0 (.at ((↑(byteAt (z.s 1) (Int.toNat 0)) : Int) = z.i 7 → ¬z.p 2 ∧ 0 < (z.s 1).length)))) (.an v0 (.at v1))) (.an v0 (.at v1)))
theorem F233_e (z : Sy) : F233 z F233_h = F233_t z := by kernel_rfl
theorem F233_d (z : Sy) (hA : A233 z) : (F233_t z).den := by
  have hB : True ∧ True := hA
  unfold F233_t
  try conv => zeta
  repeat' (with_reducible first | intro _ | apply fmA | apply fmT | apply fmN | apply fmL | apply fmE)
  all_goals first | omega | grind [symf_ne, symf_bstr, byteAt_lt, bd_eq]
theorem ok233 : Ok Tryz.prog 233 S233 := by
  exact call_ok (n := 1000) (tabOf_ok mN eN lN) fun z hz => ⟨F233_h, by show (F233 z F233_h).den; rw [F233_e]; exact F233_d z ⟨trivial, hz⟩⟩
noncomputable def F232_h : Hn := (.both .nil (.both .nil (.both .nil (.both .nil (.yes (.yes .nil))))))
noncomputable def F232_t (z : Sy) : Fm := let v0 := ((z.s 1).length ≤ (z.s 1).length ∧ (0 : Int) ≤ 0 ∧ (¬true = true → ¬z.p 2 ∧ (z.s 1).length + 2 ≤ (z.s 1).length)); let v1 := (↑(z.s 1).length : Int); let v2 := (List.drop (Int.toNat 2) (List.take v1.toNat (z.s 1))); let v3 := (True ∧ True); let v4 := (-9223372036854775808 : Int); (.two (z.p 2) (.an (True) (.at v0)) (.two (v1 < 2) (.an (True) (.at v0)) (.an ((0 : Int) ≤ 0 ∧ 0 < v1) (.an v3 (.al (fun y0 => True → (-1) ≤ y0.i 10 ∧ y0.i 10 ≤ 15) fun y0 => (.two (y0.i 10 < 0) (.an (True) (.at v0)) (.an ((0 : Int) ≤ 1 ∧ 1 < v1) (.an v3 (.al (fun y1 => True → (-1) ≤ y1.i 10 ∧ y1.i 10 ≤ 15) fun y1 => (.two (y1.i 10 < 0) (.an (True) (.at v0)) (.an ((0 : Int) ≤ 0 ∧ 0 < v1) (.an v3 (.al (fun y2 => True → (-1) ≤ y2.i 10 ∧ y2.i 10 ≤ 15) fun y2 => (.an (v4 ≤ 16 * y2.i 10 ∧ 16 * y2.i 10 ≤ 9223372036854775807) (.an ((0 : Int) ≤ 1 ∧ 1 < v1) (.an v3 (.al (fun y3 => True → (-1) ≤ y3.i 10 ∧ y3.i 10 ≤ 15) fun y3 => (.an (v4 ≤ 16 * y2.i 10 + y3.i 10 ∧ 16 * y2.i 10 + y3.i 10 ≤ 9223372036854775807) (.an ((0 : Int) ≤ 2 ∧ 2 ≤ v1 ∧ v1 ≤ v1) (.an (True) (.at (v2.length ≤ (z.s 1).length ∧ 0 ≤ (16 * y2.i 10 + y3.i 10) % 256 ∧ (¬z.p 2 → ¬z.p 2 ∧ v2.length + 2 ≤ (z.s 1).length)))))))))))))))))))))))
theorem F232_e (z231 : Zf S231) (z : Sy) : F232 z231 z F232_h = F232_t z := by kernel_rfl
theorem F232_d (z : Sy) (hA : A232 z) : (F232_t z).den := by
  have hB : True ∧ True := hA
  unfold F232_t
  try conv => zeta
  repeat' (with_reducible first | intro _ | apply fmA | apply fmT | apply fmN | apply fmL | apply fmE)
  all_goals first | omega | grind [symf_ne, symf_bstr, byteAt_lt, bd_eq]
theorem ok232 (h231 : Ok Tryz.prog 231 S231) : Ok Tryz.prog 232 S232 := by
  obtain ⟨z231, h231⟩ := h231
  exact call_ok (n := 1000) (tabOf_ok mN (eC h231 eN) lN) fun z hz => ⟨F232_h, by show (F232 z231 z F232_h).den; rw [F232_e]; exact F232_d z ⟨trivial, hz⟩⟩
noncomputable def F230a_h : Hn := (.both (.both .nil (.both (.both .nil (.yes .nil)) (.no (.both .nil .nil)))) .nil)
noncomputable def F230a_t (p : Sy) (z : Sy) : Fm := let v1 := (↑(byteAt (z.s 1) (Int.toNat 0)) : Int); let v3 := (¬(0 : Int) = 0 → ¬z.p 2 ∧ (z.s 1).length < (z.s 1).length ∧ 0 ≤ 1000000); let v4 := (↑(z.s 1).length : Int); let v0 := (List.drop (Int.toNat 1) (List.take v4.toNat (z.s 1))); let v5 := (↑v0.length : Int); let v2 := (List.drop (Int.toNat 1) (List.take v5.toNat v0)); (.two (¬z.p 2) (.two (z.s 1 = []) (.an (True) (.at ((z.s 1).length ≤ (z.s 1).length ∧ ((0 : Int) = 0 → true = true) ∧ v3))) (.an ((0 : Int) ≤ 0 ∧ 0 < v4) (.an ((0 : Int) ≤ 1 ∧ 1 ≤ v4 ∧ v4 ≤ v4) (.two (v1 = 39) (.an (True ∧ True) (.al (fun y0 => True → y0.p 10 → ¬z.p 2 ∧ 0 < v0.length) fun y0 => (.two (y0.p 10) (.an ((z.s 20).length = (z.s 20).length ∧ (z.s 20).length ≤ 1000000000 ∧ (0 : Int) ≤ 39 ∧ True) (.an ((0 : Int) ≤ 1 ∧ 1 ≤ v5 ∧ v5 ≤ v5) (.an ((z.s 20 ++ [Int.toNat 39]).length = (z.s 20).length + 1 ∧ True) (.at ((z.s 20 ++ [Int.toNat 39]).length + v2.length ≤ 1000000 ∧ v2.length < (z.s 1).length ∧ ∀ (y : Sy), (y.s 1).length ≤ v2.length ∧ (y.i 999 = 0 → y.p 2) ∧ (¬y.i 999 = 0 → ¬z.p 2 ∧ (y.s 1).length < v2.length ∧ (y.s 10).length ≤ 1000000) → (y.s 1).length ≤ (z.s 1).length ∧ (y.i 999 = 0 → y.p 2) ∧ (¬y.i 999 = 0 → ¬z.p 2 ∧ (y.s 1).length < (z.s 1).length ∧ (y.s 10).length ≤ 1000000)))))) (.an (v1 = 39) (.an ((z.s 20).length = (z.s 20).length) (.an (True) (.at (v0.length ≤ (z.s 1).length ∧ ((1 : Int) = 0 → z.p 2) ∧ (¬(1 : Int) = 0 → ¬z.p 2 ∧ v0.length < (z.s 1).length ∧ (bstr (z.s 20)).length ≤ 1000000))))))))) (.an (¬ (v1 = 39)) (.two (v1 = 92) (.an (True ∧ True) (.al (fun y1 => True → (y1.s 1).length ≤ v0.length ∧ 0 ≤ y1.i 10 ∧ (¬y1.p 2 → ¬z.p 2 ∧ (y1.s 1).length + 2 ≤ v0.length)) fun y1 => (.an ((z.s 20).length = (z.s 20).length ∧ (z.s 20).length ≤ 1000000000 ∧ 0 ≤ y1.i 10 ∧ True) (.an ((z.s 20 ++ [(y1.i 10).toNat]).length = (z.s 20).length + 1 ∧ True) (.at ((z.s 20 ++ [(y1.i 10).toNat]).length + (y1.s 1).length ≤ 1000000 ∧ (y1.s 1).length < (z.s 1).length ∧ ∀ (y : Sy), (y.s 1).length ≤ (y1.s 1).length ∧ (y.i 999 = 0 → y.p 2) ∧ (¬y.i 999 = 0 → ¬y1.p 2 ∧ (y.s 1).length < (y1.s 1).length ∧ (y.s 10).length ≤ 1000000) → (y.s 1).length ≤ (z.s 1).length ∧ (y.i 999 = 0 → y.p 2) ∧ (¬y.i 999 = 0 → ¬z.p 2 ∧ (y.s 1).length < (z.s 1).length ∧ (y.s 10).length ≤ 1000000))))))) (.an ((z.s 20).length = (z.s 20).length ∧ (z.s 20).length ≤ 1000000000 ∧ 0 ≤ v1 ∧ True) (.an ((z.s 20 ++ [v1.toNat]).length = (z.s 20).length + 1 ∧ True) (.at ((z.s 20 ++ [v1.toNat]).length + v0.length ≤ 1000000 ∧ v0.length < (z.s 1).length ∧ ∀ (y : Sy), (y.s 1).length ≤ v0.length ∧ (y.i 999 = 0 → y.p 2) ∧ (¬y.i 999 = 0 → ¬z.p 2 ∧ (y.s 1).length < v0.length ∧ (y.s 10).length ≤ 1000000) → (y.s 1).length ≤ (z.s 1).length ∧ (y.i 999 = 0 → y.p 2) ∧ (¬y.i 999 = 0 → ¬z.p 2 ∧ (y.s 1).length < (z.s 1).length ∧ (y.s 10).length ≤ 1000000))))))))))) (.an (True) (.at ((z.s 1).length ≤ (z.s 1).length ∧ ((0 : Int) = 0 → z.p 2) ∧ v3))))
theorem F230a_e (z233 : Zf S233) (z232 : Zf S232) (p : Sy) (z : Sy) : F230a z233 z232 p z F230a_h = F230a_t p z := by kernel_rfl
theorem F230a_d (p : Sy) (z : Sy) (hA : A230a p z) : (F230a_t p z).den := by
  have hB : True ∧ (z.s 20).length + (z.s 1).length ≤ 1000000 := hA
  unfold F230a_t
  try conv => zeta
  repeat' (with_reducible first | intro _ | apply fmA | apply fmT | apply fmN | apply fmL | apply fmE)
  all_goals first | omega | grind [symf_ne, symf_bstr, byteAt_lt, bd_eq]
theorem ok230a (h233 : Ok Tryz.prog 233 S233) (h232 : Ok Tryz.prog 232 S232) : OkL Tryz.prog 230 0 S230a := by
  obtain ⟨z233, h233⟩ := h233
  obtain ⟨z232, h232⟩ := h232
  exact okL_of (n := 1000) (tabOf_ok mN (eC h233 (eC h232 eN)) lN) (by kernel_rfl) (fun p => Nat.le_of_ble_eq_true rfl) fun p z hz => ⟨F230a_h, by show (F230a z233 z232 p z F230a_h).den; rw [F230a_e]; exact F230a_d p z ⟨trivial, hz⟩⟩
noncomputable def F230_h : Hn := (.both .nil .nil)
noncomputable def F230_t (z : Sy) : Fm := (.an (True ∧ True) (.al (fun y0 => True → (y0.s 1).length ≤ (z.s 1).length ∧ (¬y0.p 2 → ¬z.p 2 ∧ (y0.s 1).length + 1 ≤ (z.s 1).length)) fun y0 => (.an ((0 = 0 ∧ True) ∧ 0 + (y0.s 1).length ≤ 1000000) (.al (fun y1 => 0 + (y0.s 1).length ≤ 1000000 → (y1.s 1).length ≤ (y0.s 1).length ∧ (y1.i 999 = 0 → y1.p 2) ∧ (¬y1.i 999 = 0 → ¬y0.p 2 ∧ (y1.s 1).length < (y0.s 1).length ∧ (y1.s 10).length ≤ 1000000)) fun y1 => (.two (y1.i 999 = 0) (.an (True) (.at ((y1.s 1).length ≤ (z.s 1).length ∧ 0 ≤ 1000000 ∧ (¬y1.p 2 → ¬z.p 2 ∧ (y1.s 1).length < (z.s 1).length)))) (.an (True) (.at ((y1.s 1).length ≤ (z.s 1).length ∧ (y1.s 10).length ≤ 1000000 ∧ (¬y1.p 2 → ¬z.p 2 ∧ (y1.s 1).length < (z.s 1).length)))))))))
theorem F230_e (z229 : Zf S229) (z230a : Lf0 S230a) (z : Sy) : F230 z229 z230a z F230_h = F230_t z := by kernel_rfl
theorem F230_d (z : Sy) (hA : A230 z) : (F230_t z).den := by
  have hB : True ∧ (z.s 1).length ≤ 1000000 := hA
  unfold F230_t
  try conv => zeta
  repeat' (with_reducible first | intro _ | apply fmA | apply fmT | apply fmN | apply fmL | apply fmE)
  all_goals first | omega | grind [symf_ne, symf_bstr, byteAt_lt, bd_eq]
theorem ok230 (h229 : Ok Tryz.prog 229 S229) (h230a : OkL Tryz.prog 230 0 S230a) : Ok Tryz.prog 230 S230 := by
  obtain ⟨z229, h229⟩ := h229
  obtain ⟨z230a, h230a⟩ := h230a
  exact call_ok (n := 1000) (tabOf_ok mN (eC h229 eN) (lC h230a lN)) fun z hz => ⟨F230_h, by show (F230 z229 z230a z F230_h).den; rw [F230_e]; exact F230_d z ⟨trivial, hz⟩⟩
noncomputable def F162a_h : Hn := (.both (.both (.both .nil .nil) .nil) .nil)
noncomputable def F162a_t (p : Sy) (z : Sy) : Fm := let v0 := ((z.s 1).length ≤ (z.s 1).length ∧ (¬z.p 2 → ¬z.p 2) ∧ (z.s 20).length ≤ 1000001); let v1 := ((z.s 20).length = (z.s 20).length ∧ True); (.two (¬z.p 2) (.two (z.s 1 ≠ []) (.an ((0 : Int) ≤ 0 ∧ 0 < (↑(z.s 1).length : Int)) (.an (True ∧ True) (.al (fun y0 => True → (-1) ≤ y0.i 10 ∧ y0.i 10 ≤ 15) fun y0 => (.two (0 ≤ y0.i 10) (.an (True ∧ True) (.al (fun y1 => True → (y1.s 1).length ≤ (z.s 1).length ∧ 0 ≤ y1.i 10 ∧ (¬y1.p 2 → ¬z.p 2 ∧ (y1.s 1).length + 2 ≤ (z.s 1).length)) fun y1 => (.an ((z.s 20).length = (z.s 20).length ∧ (z.s 20).length ≤ 1000000000 ∧ 0 ≤ y1.i 10 ∧ True) (.an ((z.s 20 ++ [(y1.i 10).toNat]).length = (z.s 20).length + 1 ∧ True) (.at (((z.s 20 ++ [(y1.i 10).toNat]).length + (y1.s 1).length ≤ 1000001 ∧ (¬y1.p 2 → (z.s 20 ++ [(y1.i 10).toNat]).length + (y1.s 1).length ≤ 1000000)) ∧ 2 * (y1.s 1).length + bd (y1.p 2) < 2 * (z.s 1).length + bd (z.p 2) ∧ ∀ (y : Sy), (y.s 1).length ≤ (y1.s 1).length ∧ (¬y.p 2 → ¬y1.p 2) ∧ (y.s 20).length ≤ 1000001 → (y.s 1).length ≤ (z.s 1).length ∧ (¬y.p 2 → ¬z.p 2) ∧ (y.s 20).length ≤ 1000001)))))) (.an v1 (.at v0)))))) (.an v1 (.at v0))) (.an v1 (.at v0)))
theorem F162a_e (z231 : Zf S231) (z232 : Zf S232) (p : Sy) (z : Sy) : F162a z231 z232 p z F162a_h = F162a_t p z := by kernel_rfl
theorem F162a_d (p : Sy) (z : Sy) (hA : A162a p z) : (F162a_t p z).den := by
  have hB : True ∧ (z.s 20).length + (z.s 1).length ≤ 1000001 ∧ (¬z.p 2 → (z.s 20).length + (z.s 1).length ≤ 1000000) := hA
  unfold F162a_t
  try conv => zeta
  repeat' (with_reducible first | intro _ | apply fmA | apply fmT | apply fmN | apply fmL | apply fmE)
  all_goals first | omega | grind [symf_ne, symf_bstr, byteAt_lt, bd_eq]
theorem ok162a (h231 : Ok Tryz.prog 231 S231) (h232 : Ok Tryz.prog 232 S232) : OkL Tryz.prog 162 1 S162a := by
  obtain ⟨z231, h231⟩ := h231
  obtain ⟨z232, h232⟩ := h232
  exact okL_of (n := 1000) (tabOf_ok mN (eC h231 (eC h232 eN)) lN) (by kernel_rfl) (fun p => Nat.le_of_ble_eq_true rfl) fun p z hz => ⟨F162a_h, by show (F162a z231 z232 p z F162a_h).den; rw [F162a_e]; exact F162a_d p z ⟨trivial, hz⟩⟩
noncomputable def F162b_h : Hn := (.both (.both (.both (.both (.yes (.yes (.yes (.yes (.both .nil .nil))))) .nil) .nil) .nil) .nil)
noncomputable def F162b_t (p : Sy) (z : Sy) : Fm := let v0 := (byteAt (z.s 1) (Int.toNat 0)); let v2 := ((z.s 1).length ≤ (z.s 1).length ∧ (¬z.p 2 → ¬z.p 2)); let v3 := (↑(z.s 1).length : Int); let v1 := (List.drop (Int.toNat 1) (List.take v3.toNat (z.s 1))); let v4 := ((0 : Int) ≤ 0 ∧ 0 < v3); (.two (¬z.p 2) (.two (z.s 1 ≠ []) (.an v4 (.two (48 ≤ (↑v0 : Int)) (.an v4 (.two ((↑v0 : Int) ≤ 57) (.an ((-9223372036854775808) ≤ z.i 3 * 10 ∧ z.i 3 * 10 ≤ 9223372036854775807) (.an v4 (.an ((-9223372036854775808) ≤ (↑v0 : Int) ∧ (↑v0 : Int) ≤ 9223372036854775807) (.an ((-9223372036854775808) ≤ z.i 3 * 10 + (↑v0 : Int) ∧ z.i 3 * 10 + ↑v0 ≤ 9223372036854775807) (.an ((-9223372036854775808) ≤ z.i 3 * 10 + (↑v0 : Int) - 48 ∧ z.i 3 * 10 + ↑v0 - 48 ≤ 9223372036854775807) (.an ((0 : Int) ≤ 1 ∧ 1 ≤ v3 ∧ v3 ≤ v3) (.two (9007199254740992 < z.i 3 * 10 + (↑v0 : Int) - 48) (.an (True) (.at ((0 ≤ z.i 3 * 10 + (↑v0 : Int) - 48 ∧ z.i 3 * 10 + ↑v0 - 48 ≤ 100000000000000000 ∧ (¬true = true → z.i 3 * 10 + ↑v0 - 48 ≤ 9007199254740992)) ∧ v1.length < (z.s 1).length ∧ ∀ (y : Sy), (y.s 1).length ≤ v1.length ∧ (¬y.p 2 → ¬true = true) → (y.s 1).length ≤ (z.s 1).length ∧ (¬y.p 2 → ¬z.p 2)))) (.an (True) (.at ((0 ≤ z.i 3 * 10 + (↑v0 : Int) - 48 ∧ z.i 3 * 10 + ↑v0 - 48 ≤ 100000000000000000 ∧ (¬z.p 2 → z.i 3 * 10 + ↑v0 - 48 ≤ 9007199254740992)) ∧ v1.length < (z.s 1).length ∧ ∀ (y : Sy), (y.s 1).length ≤ v1.length ∧ (¬y.p 2 → ¬z.p 2) → (y.s 1).length ≤ (z.s 1).length ∧ (¬y.p 2 → ¬z.p 2))))))))))) (.an (True) (.at v2)))) (.an (True) (.at v2)))) (.an (True) (.at v2))) (.an (True) (.at v2)))
theorem F162b_e (p : Sy) (z : Sy) : F162b p z F162b_h = F162b_t p z := by kernel_rfl
theorem F162b_d (p : Sy) (z : Sy) (hA : A162b p z) : (F162b_t p z).den := by
  have hB : True ∧ 0 ≤ z.i 3 ∧ z.i 3 ≤ 100000000000000000 ∧ (¬z.p 2 → z.i 3 ≤ 9007199254740992) := hA
  unfold F162b_t
  try conv => zeta
  repeat' (with_reducible first | intro _ | apply fmA | apply fmT | apply fmN | apply fmL | apply fmE)
  all_goals first | omega | grind [symf_ne, symf_bstr, byteAt_lt, bd_eq]
theorem ok162b : OkL Tryz.prog 162 3 S162b := by
  exact okL_of (n := 1000) (tabOf_ok mN eN lN) (by kernel_rfl) (fun p => Nat.le_of_ble_eq_true rfl) fun p z hz => ⟨F162b_h, by show (F162b p z F162b_h).den; rw [F162b_e]; exact F162b_d p z ⟨trivial, hz⟩⟩
noncomputable def F162c_h : Hn := (.both (.both (.both (.yes .nil) (.yes .nil)) .nil) .nil)
noncomputable def F162c_t (k : Nat) (p : Sy) (z : Sy) : Fm := let v0 := ((z.s 1).length ≤ (z.s 1).length ∧ (¬z.p 2 → ¬z.p 2) ∧ (z.g 30).length ≤ 1000001 ∧ (z.g 31).length ≤ 1000001 ∧ (z.s 23).length = (z.s 23).length); let v1 := ((z.g 30).length = (z.g 30).length ∧ (z.g 31).length = (z.g 31).length ∧ True); let v2 := ((z.g 31).length = (z.g 31).length ∧ (z.g 31).length ≤ 1000000000 ∧ True); let v3 := ((-9223372036854775808) ≤ p.i 5 + 1 ∧ p.i 5 + 1 ≤ 9223372036854775807); let v4 := (1 ≤ p.i 5 ∧ p.i 5 ≤ 16 ∧ 17 - p.i 5 < (↑(k + 1) : Int)); (.two (¬z.p 2) (.an (True ∧ True) (.al (fun y0 => True → y0.p 10 → ¬z.p 2 ∧ 0 < (z.s 1).length) fun y0 => (.two (¬y0.p 10) (.two (0 < (↑(z.g 31).length : Int)) (.an (True ∧ True) (.al (fun y1 => True → (y1.s 1).length ≤ (z.s 1).length ∧ (¬y1.p 2 → ¬z.p 2 ∧ (y1.s 1).length + 2 ≤ (z.s 1).length)) fun y1 => (.an v3 (.an (True ∧ (y1.s 1).length ≤ 1000000 ∧ 1 ≤ p.i 5 + 1 ∧ p.i 5 + 1 ≤ 17 ∧ 17 - (p.i 5 + 1) < (↑k : Int)) (.al (fun y2 => (y1.s 1).length ≤ 1000000 ∧ 1 ≤ p.i 5 + 1 ∧ p.i 5 + 1 ≤ 17 ∧ 17 - (p.i 5 + 1) < (↑k : Int) → (y2.s 1).length ≤ (y1.s 1).length ∧ (¬y2.p 2 → ¬y1.p 2 ∧ (y2.s 1).length < (y1.s 1).length)) fun y2 => (.an v2 (.an ((z.g 30).length = (z.g 30).length ∧ (z.g 31 ++ [G.node [G.int (y2.i 10), G.int (y2.i 11), G.int (y2.i 12), G.str (y2.s 13), G.node (y2.g 14), G.node (y2.g 15)]]).length = (z.g 31).length + 1 ∧ p.i 5 = p.i 5 ∧ True) (.at ((v4 ∧ ((z.g 30).length + (y2.s 1).length ≤ 1000001 ∧ (z.g 31 ++ [G.node [G.int (y2.i 10), G.int (y2.i 11), G.int (y2.i 12), G.str (y2.s 13), G.node (y2.g 14), G.node (y2.g 15)]]).length + (y2.s 1).length ≤ 1000001) ∧ (¬y2.p 2 → (z.g 30).length + (y2.s 1).length ≤ 1000000 ∧ (z.g 31 ++ [G.node [G.int (y2.i 10), G.int (y2.i 11), G.int (y2.i 12), G.str (y2.s 13), G.node (y2.g 14), G.node (y2.g 15)]]).length + (y2.s 1).length ≤ 1000000)) ∧ 2 * (y2.s 1).length + bd (y2.p 2) < 2 * (z.s 1).length + bd (z.p 2) ∧ ∀ (y : Sy), (y.s 1).length ≤ (y2.s 1).length ∧ (¬y.p 2 → ¬y2.p 2) ∧ (y.g 30).length ≤ 1000001 ∧ (y.g 31).length ≤ 1000001 ∧ (y.s 23).length = (z.s 23).length → (y.s 1).length ≤ (z.s 1).length ∧ (¬y.p 2 → ¬z.p 2) ∧ (y.g 30).length ≤ 1000001 ∧ (y.g 31).length ≤ 1000001 ∧ (y.s 23).length = (z.s 23).length))))))))) (.an v3 (.an (True ∧ (z.s 1).length ≤ 1000000 ∧ 1 ≤ p.i 5 + 1 ∧ p.i 5 + 1 ≤ 17 ∧ 17 - (p.i 5 + 1) < (↑k : Int)) (.al (fun y3 => (z.s 1).length ≤ 1000000 ∧ 1 ≤ p.i 5 + 1 ∧ p.i 5 + 1 ≤ 17 ∧ 17 - (p.i 5 + 1) < (↑k : Int) → (y3.s 1).length ≤ (z.s 1).length ∧ (¬y3.p 2 → ¬z.p 2 ∧ (y3.s 1).length < (z.s 1).length)) fun y3 => (.an v2 (.an ((z.g 30).length = (z.g 30).length ∧ (z.g 31 ++ [G.node [G.int (y3.i 10), G.int (y3.i 11), G.int (y3.i 12), G.str (y3.s 13), G.node (y3.g 14), G.node (y3.g 15)]]).length = (z.g 31).length + 1 ∧ p.i 5 = p.i 5 ∧ True) (.at ((v4 ∧ ((z.g 30).length + (y3.s 1).length ≤ 1000001 ∧ (z.g 31 ++ [G.node [G.int (y3.i 10), G.int (y3.i 11), G.int (y3.i 12), G.str (y3.s 13), G.node (y3.g 14), G.node (y3.g 15)]]).length + (y3.s 1).length ≤ 1000001) ∧ (¬y3.p 2 → (z.g 30).length + (y3.s 1).length ≤ 1000000 ∧ (z.g 31 ++ [G.node [G.int (y3.i 10), G.int (y3.i 11), G.int (y3.i 12), G.str (y3.s 13), G.node (y3.g 14), G.node (y3.g 15)]]).length + (y3.s 1).length ≤ 1000000)) ∧ 2 * (y3.s 1).length + bd (y3.p 2) < 2 * (z.s 1).length + bd (z.p 2) ∧ ∀ (y : Sy), (y.s 1).length ≤ (y3.s 1).length ∧ (¬y.p 2 → ¬y3.p 2) ∧ (y.g 30).length ≤ 1000001 ∧ (y.g 31).length ≤ 1000001 ∧ (y.s 23).length = (z.s 23).length → (y.s 1).length ≤ (z.s 1).length ∧ (¬y.p 2 → ¬z.p 2) ∧ (y.g 30).length ≤ 1000001 ∧ (y.g 31).length ≤ 1000001 ∧ (y.s 23).length = (z.s 23).length)))))))) (.an v1 (.at v0))))) (.an v1 (.at v0)))
theorem F162c_e (k : Nat) (z233 : Zf S233) (z229 : Zf S229) (z162m : Zf (S162 k)) (p : Sy) (z : Sy) : F162c k z233 z229 z162m p z F162c_h = F162c_t k p z := by kernel_rfl
theorem F162c_d (k : Nat) (p : Sy) (z : Sy) (hA : A162c k p z) : (F162c_t k p z).den := by
  have hB : True ∧ (1 ≤ p.i 5 ∧ p.i 5 ≤ 16 ∧ 17 - p.i 5 < (↑(k + 1) : Int)) ∧ ((z.g 30).length + (z.s 1).length ≤ 1000001 ∧ (z.g 31).length + (z.s 1).length ≤ 1000001) ∧ (¬z.p 2 → (z.g 30).length + (z.s 1).length ≤ 1000000 ∧ (z.g 31).length + (z.s 1).length ≤ 1000000) := hA
  unfold F162c_t
  try conv => zeta
  repeat' (with_reducible first | intro _ | apply fmA | apply fmT | apply fmN | apply fmL | apply fmE)
  all_goals first | omega | grind [symf_ne, symf_bstr, byteAt_lt, bd_eq]
theorem ok162c (k : Nat) (h233 : Ok Tryz.prog 233 S233) (h229 : Ok Tryz.prog 229 S229) (h162m : Ok Tryz.prog 162 (S162 k)) : OkL Tryz.prog 162 5 (S162c (k + 1)) := by
  obtain ⟨z233, h233⟩ := h233
  obtain ⟨z229, h229⟩ := h229
  obtain ⟨z162m, h162m⟩ := h162m
  exact okL_of (n := 1000) (tabOf_ok mN (eC h233 (eC h229 (eC h162m eN))) lN) (by kernel_rfl) (fun p => Nat.le_of_ble_eq_true rfl) fun p z hz => ⟨F162c_h, by show (F162c k z233 z229 z162m p z F162c_h).den; rw [F162c_e]; exact F162c_d k p z ⟨trivial, hz⟩⟩
noncomputable def F162d_h : Hn := (.both (.both (.both (.yes .nil) (.yes .nil)) .nil) .nil)
noncomputable def F162d_t (k : Nat) (p : Sy) (z : Sy) : Fm := let v0 := ((z.s 1).length ≤ (z.s 1).length ∧ (¬z.p 2 → ¬z.p 2) ∧ (z.g 30).length ≤ 1000001 ∧ (z.g 31).length ≤ 1000001 ∧ (z.s 23).length = (z.s 23).length); let v1 := ((z.g 30).length = (z.g 30).length ∧ (z.g 31).length = (z.g 31).length ∧ True); let v2 := ((z.g 30).length = (z.g 30).length ∧ (z.g 30).length ≤ 1000000000 ∧ True); let v3 := ((z.g 31).length = (z.g 31).length ∧ (z.g 31).length ≤ 1000000000 ∧ True); let v4 := ((-9223372036854775808) ≤ p.i 5 + 1 ∧ p.i 5 + 1 ≤ 9223372036854775807); let v5 := (1 ≤ p.i 5 ∧ p.i 5 ≤ 16 ∧ 17 - p.i 5 < (↑(k + 1) : Int)); let v6 := (True ∧ True); (.two (¬z.p 2) (.an v6 (.al (fun y0 => True → y0.p 10 → ¬z.p 2 ∧ 0 < (z.s 1).length) fun y0 => (.two (¬y0.p 10) (.two (0 < (↑(z.g 31).length : Int)) (.an v6 (.al (fun y1 => True → (y1.s 1).length ≤ (z.s 1).length ∧ (¬y1.p 2 → ¬z.p 2 ∧ (y1.s 1).length + 2 ≤ (z.s 1).length)) fun y1 => (.an (True ∧ (y1.s 1).length ≤ 1000000) (.al (fun y2 => (y1.s 1).length ≤ 1000000 → (y2.s 1).length ≤ (y1.s 1).length ∧ (y2.s 10).length ≤ 1000000 ∧ (¬y2.p 2 → ¬y1.p 2 ∧ (y2.s 1).length < (y1.s 1).length)) fun y2 => (.an v2 (.an v6 (.al (fun y3 => True → (y3.s 1).length ≤ (y2.s 1).length ∧ (¬y3.p 2 → ¬y2.p 2 ∧ (y3.s 1).length + 2 ≤ (y2.s 1).length)) fun y3 => (.an v4 (.an (True ∧ (y3.s 1).length ≤ 1000000 ∧ 1 ≤ p.i 5 + 1 ∧ p.i 5 + 1 ≤ 17 ∧ 17 - (p.i 5 + 1) < (↑k : Int)) (.al (fun y4 => (y3.s 1).length ≤ 1000000 ∧ 1 ≤ p.i 5 + 1 ∧ p.i 5 + 1 ≤ 17 ∧ 17 - (p.i 5 + 1) < (↑k : Int) → (y4.s 1).length ≤ (y3.s 1).length ∧ (¬y4.p 2 → ¬y3.p 2 ∧ (y4.s 1).length < (y3.s 1).length)) fun y4 => (.an v3 (.an ((z.g 30 ++ [G.node [G.str (y2.s 10)]]).length = (z.g 30).length + 1 ∧ (z.g 31 ++ [G.node [G.int (y4.i 10), G.int (y4.i 11), G.int (y4.i 12), G.str (y4.s 13), G.node (y4.g 14), G.node (y4.g 15)]]).length = (z.g 31).length + 1 ∧ p.i 5 = p.i 5 ∧ True) (.at ((v5 ∧ ((z.g 30 ++ [G.node [G.str (y2.s 10)]]).length + (y4.s 1).length ≤ 1000001 ∧ (z.g 31 ++ [G.node [G.int (y4.i 10), G.int (y4.i 11), G.int (y4.i 12), G.str (y4.s 13), G.node (y4.g 14), G.node (y4.g 15)]]).length + (y4.s 1).length ≤ 1000001) ∧ (¬y4.p 2 → (z.g 30 ++ [G.node [G.str (y2.s 10)]]).length + (y4.s 1).length ≤ 1000000 ∧ (z.g 31 ++ [G.node [G.int (y4.i 10), G.int (y4.i 11), G.int (y4.i 12), G.str (y4.s 13), G.node (y4.g 14), G.node (y4.g 15)]]).length + (y4.s 1).length ≤ 1000000)) ∧ 2 * (y4.s 1).length + bd (y4.p 2) < 2 * (z.s 1).length + bd (z.p 2) ∧ ∀ (y : Sy), (y.s 1).length ≤ (y4.s 1).length ∧ (¬y.p 2 → ¬y4.p 2) ∧ (y.g 30).length ≤ 1000001 ∧ (y.g 31).length ≤ 1000001 ∧ (y.s 23).length = (z.s 23).length → (y.s 1).length ≤ (z.s 1).length ∧ (¬y.p 2 → ¬z.p 2) ∧ (y.g 30).length ≤ 1000001 ∧ (y.g 31).length ≤ 1000001 ∧ (y.s 23).length = (z.s 23).length)))))))))))))) (.an (True ∧ (z.s 1).length ≤ 1000000) (.al (fun y5 => (z.s 1).length ≤ 1000000 → (y5.s 1).length ≤ (z.s 1).length ∧ (y5.s 10).length ≤ 1000000 ∧ (¬y5.p 2 → ¬z.p 2 ∧ (y5.s 1).length < (z.s 1).length)) fun y5 => (.an v2 (.an v6 (.al (fun y6 => True → (y6.s 1).length ≤ (y5.s 1).length ∧ (¬y6.p 2 → ¬y5.p 2 ∧ (y6.s 1).length + 2 ≤ (y5.s 1).length)) fun y6 => (.an v4 (.an (True ∧ (y6.s 1).length ≤ 1000000 ∧ 1 ≤ p.i 5 + 1 ∧ p.i 5 + 1 ≤ 17 ∧ 17 - (p.i 5 + 1) < (↑k : Int)) (.al (fun y7 => (y6.s 1).length ≤ 1000000 ∧ 1 ≤ p.i 5 + 1 ∧ p.i 5 + 1 ≤ 17 ∧ 17 - (p.i 5 + 1) < (↑k : Int) → (y7.s 1).length ≤ (y6.s 1).length ∧ (¬y7.p 2 → ¬y6.p 2 ∧ (y7.s 1).length < (y6.s 1).length)) fun y7 => (.an v3 (.an ((z.g 30 ++ [G.node [G.str (y5.s 10)]]).length = (z.g 30).length + 1 ∧ (z.g 31 ++ [G.node [G.int (y7.i 10), G.int (y7.i 11), G.int (y7.i 12), G.str (y7.s 13), G.node (y7.g 14), G.node (y7.g 15)]]).length = (z.g 31).length + 1 ∧ p.i 5 = p.i 5 ∧ True) (.at ((v5 ∧ ((z.g 30 ++ [G.node [G.str (y5.s 10)]]).length + (y7.s 1).length ≤ 1000001 ∧ (z.g 31 ++ [G.node [G.int (y7.i 10), G.int (y7.i 11), G.int (y7.i 12), G.str (y7.s 13), G.node (y7.g 14), G.node (y7.g 15)]]).length + (y7.s 1).length ≤ 1000001) ∧ (¬y7.p 2 → (z.g 30 ++ [G.node [G.str (y5.s 10)]]).length + (y7.s 1).length ≤ 1000000 ∧ (z.g 31 ++ [G.node [G.int (y7.i 10), G.int (y7.i 11), G.int (y7.i 12), G.str (y7.s 13), G.node (y7.g 14), G.node (y7.g 15)]]).length + (y7.s 1).length ≤ 1000000)) ∧ 2 * (y7.s 1).length + bd (y7.p 2) < 2 * (z.s 1).length + bd (z.p 2) ∧ ∀ (y : Sy), (y.s 1).length ≤ (y7.s 1).length ∧ (¬y.p 2 → ¬y7.p 2) ∧ (y.g 30).length ≤ 1000001 ∧ (y.g 31).length ≤ 1000001 ∧ (y.s 23).length = (z.s 23).length → (y.s 1).length ≤ (z.s 1).length ∧ (¬y.p 2 → ¬z.p 2) ∧ (y.g 30).length ≤ 1000001 ∧ (y.g 31).length ≤ 1000001 ∧ (y.s 23).length = (z.s 23).length))))))))))))) (.an v1 (.at v0))))) (.an v1 (.at v0)))
theorem F162d_e (k : Nat) (z233 : Zf S233) (z229 : Zf S229) (z230 : Zf S230) (z162m : Zf (S162 k)) (p : Sy) (z : Sy) : F162d k z233 z229 z230 z162m p z F162d_h = F162d_t k p z := by kernel_rfl
theorem F162d_d (k : Nat) (p : Sy) (z : Sy) (hA : A162d k p z) : (F162d_t k p z).den := by
  have hB : True ∧ (1 ≤ p.i 5 ∧ p.i 5 ≤ 16 ∧ 17 - p.i 5 < (↑(k + 1) : Int)) ∧ ((z.g 30).length + (z.s 1).length ≤ 1000001 ∧ (z.g 31).length + (z.s 1).length ≤ 1000001) ∧ (¬z.p 2 → (z.g 30).length + (z.s 1).length ≤ 1000000 ∧ (z.g 31).length + (z.s 1).length ≤ 1000000) := hA
  unfold F162d_t
  try conv => zeta
  repeat' (with_reducible first | intro _ | apply fmA | apply fmT | apply fmN | apply fmL | apply fmE)
  all_goals first | omega | grind [symf_ne, symf_bstr, byteAt_lt, bd_eq]
theorem ok162d (k : Nat) (h233 : Ok Tryz.prog 233 S233) (h229 : Ok Tryz.prog 229 S229) (h230 : Ok Tryz.prog 230 S230) (h162m : Ok Tryz.prog 162 (S162 k)) : OkL Tryz.prog 162 7 (S162d (k + 1)) := by
  obtain ⟨z233, h233⟩ := h233
  obtain ⟨z229, h229⟩ := h229
  obtain ⟨z230, h230⟩ := h230
  obtain ⟨z162m, h162m⟩ := h162m
  exact okL_of (n := 1000) (tabOf_ok mN (eC h233 (eC h229 (eC h230 (eC h162m eN)))) lN) (by kernel_rfl) (fun p => Nat.le_of_ble_eq_true rfl) fun p z hz => ⟨F162d_h, by show (F162d k z233 z229 z230 z162m p z F162d_h).den; rw [F162d_e]; exact F162d_d k p z ⟨trivial, hz⟩⟩
noncomputable def F162e_h : Hn := (.both (.both (.yes .nil) (.both (.yes .nil) (.both (.both (.yes .nil) .nil) .nil))) .nil)
noncomputable def F162e_t (p : Sy) (z : Sy) : Fm := let v0 := ((z.s 1).length = (z.s 1).length ∧ (z.p 2 → z.p 2) ∧ (z.p 2 → z.p 2) ∧ z.i 3 ≤ z.i 3 ∧ z.i 3 ≤ ↑(z.s 1).length); let v1 := ((z.s 1).length ≤ 1000000 ∧ 0 ≤ z.i 3 + 1 ∧ z.i 3 + 1 ≤ ↑(z.s 1).length); let v2 := ((-9223372036854775808) ≤ z.i 3 + 1 ∧ z.i 3 + 1 ≤ 9223372036854775807); let v3 := (↑(byteAt (z.s 1) (z.i 3).toNat) : Int); let v4 := (0 ≤ z.i 3 ∧ z.i 3 < ↑(z.s 1).length); let v5 := (↑(z.s 1).length : Int); let v6 := (v5 - (z.i 3 + 1)); (.two (z.i 3 < ↑(z.s 1).length) (.an v4 (.two (v3 = 45) (.an v2 (.an (True) (.at (v1 ∧ v6.toNat < (v5 - z.i 3).toNat ∧ ∀ (y : Sy), (y.s 1).length = (z.s 1).length ∧ (y.p 2 → z.p 2) ∧ (z.p 2 → y.p 2) ∧ z.i 3 + 1 ≤ y.i 3 ∧ y.i 3 ≤ ↑(z.s 1).length → (y.s 1).length = (z.s 1).length ∧ (y.p 2 → z.p 2) ∧ (z.p 2 → y.p 2) ∧ z.i 3 ≤ y.i 3 ∧ y.i 3 ≤ ↑(z.s 1).length)))) (.an v4 (.two (v3 = 46) (.an v2 (.an (True) (.at (v1 ∧ v6.toNat < (v5 - z.i 3).toNat ∧ ∀ (y : Sy), (y.s 1).length = (z.s 1).length ∧ (y.p 2 → z.p 2) ∧ (z.p 2 → y.p 2) ∧ z.i 3 + 1 ≤ y.i 3 ∧ y.i 3 ≤ ↑(z.s 1).length → (y.s 1).length = (z.s 1).length ∧ (y.p 2 → z.p 2) ∧ (z.p 2 → y.p 2) ∧ z.i 3 ≤ y.i 3 ∧ y.i 3 ≤ ↑(z.s 1).length)))) (.an v4 (.two (48 ≤ v3) (.an v4 (.two (v3 ≤ 57) (.an v2 (.an (True) (.at (v1 ∧ v6.toNat < (v5 - z.i 3).toNat ∧ ∀ (y : Sy), (y.s 1).length = (z.s 1).length ∧ (y.p 2 → z.p 2) ∧ (z.p 2 → y.p 2) ∧ z.i 3 + 1 ≤ y.i 3 ∧ y.i 3 ≤ ↑(z.s 1).length → (y.s 1).length = (z.s 1).length ∧ (y.p 2 → z.p 2) ∧ (z.p 2 → y.p 2) ∧ z.i 3 ≤ y.i 3 ∧ y.i 3 ≤ ↑(z.s 1).length)))) (.an (True) (.at v0)))) (.an (True) (.at v0)))))))) (.an (True) (.at v0)))
theorem F162e_e (p : Sy) (z : Sy) : F162e p z F162e_h = F162e_t p z := by kernel_rfl
theorem F162e_d (p : Sy) (z : Sy) (hA : A162e p z) : (F162e_t p z).den := by
  have hB : True ∧ (z.s 1).length ≤ 1000000 ∧ 0 ≤ z.i 3 ∧ z.i 3 ≤ ↑(z.s 1).length := hA
  unfold F162e_t
  try conv => zeta
  repeat' (with_reducible first | intro _ | apply fmA | apply fmT | apply fmN | apply fmL | apply fmE)
  all_goals first | omega | grind [symf_ne, symf_bstr, byteAt_lt, bd_eq]
theorem ok162e : OkL Tryz.prog 162 9 S162e := by
  exact okL_of (n := 1000) (tabOf_ok mN eN lN) (by kernel_rfl) (fun p => Nat.le_of_ble_eq_true rfl) fun p z hz => ⟨F162e_h, by show (F162e p z F162e_h).den; rw [F162e_e]; exact F162e_d p z ⟨trivial, hz⟩⟩
noncomputable def F162_h : Hn := (.both .nil (.both .nil (.both .nil (.both .nil (.both .nil (.both .nil (.both .nil (.both .nil (.both .nil (.both .nil (.both .nil (.both .nil .nil))))))))))))
noncomputable def F162_t (k : Nat) (z : Sy) : Fm := let v0 := (↑(byteAt (z.s 1) (Int.toNat 0)) : Int); let v1 := ((z.s 1).length ≤ (z.s 1).length ∧ (¬true = true → ¬z.p 2 ∧ (z.s 1).length < (z.s 1).length)); let v2 := (1 ≤ z.i 5 ∧ z.i 5 ≤ 16 ∧ 17 - z.i 5 < (↑(k + 1) : Int)); let v3 := (True ∧ True); let v4 := (↑(z.s 1).length : Int); let v5 := (0 = 0 ∧ 0 = 0 ∧ z.i 5 = z.i 5 ∧ True); (.two (z.p 2) (.an (True) (.at v1)) (.two (z.s 1 = []) (.an (True) (.at v1)) (.two (16 < z.i 5) (.an (True) (.at v1)) (.an ((0 : Int) ≤ 0 ∧ 0 < v4) (.two (v0 = 110) (.an v3 (.al (fun y0 => True → (y0.s 1).length ≤ (z.s 1).length ∧ (¬y0.p 2 → ¬z.p 2 ∧ (y0.s 1).length + 4 ≤ (z.s 1).length)) fun y0 => (.an (True) (.at ((y0.s 1).length ≤ (z.s 1).length ∧ (¬y0.p 2 → ¬z.p 2 ∧ (y0.s 1).length < (z.s 1).length)))))) (.two (v0 = 116) (.an v3 (.al (fun y1 => True → (y1.s 1).length ≤ (z.s 1).length ∧ (¬y1.p 2 → ¬z.p 2 ∧ (y1.s 1).length + 4 ≤ (z.s 1).length)) fun y1 => (.an (True) (.at ((y1.s 1).length ≤ (z.s 1).length ∧ (¬y1.p 2 → ¬z.p 2 ∧ (y1.s 1).length < (z.s 1).length)))))) (.two (v0 = 102) (.an v3 (.al (fun y2 => True → (y2.s 1).length ≤ (z.s 1).length ∧ (¬y2.p 2 → ¬z.p 2 ∧ (y2.s 1).length + 5 ≤ (z.s 1).length)) fun y2 => (.an (True) (.at ((y2.s 1).length ≤ (z.s 1).length ∧ (¬y2.p 2 → ¬z.p 2 ∧ (y2.s 1).length < (z.s 1).length)))))) (.two (v0 = 39) (.an (True ∧ (z.s 1).length ≤ 1000000) (.al (fun y3 => (z.s 1).length ≤ 1000000 → (y3.s 1).length ≤ (z.s 1).length ∧ (y3.s 10).length ≤ 1000000 ∧ (¬y3.p 2 → ¬z.p 2 ∧ (y3.s 1).length < (z.s 1).length)) fun y3 => (.an (True) (.at ((y3.s 1).length ≤ (z.s 1).length ∧ (¬y3.p 2 → ¬z.p 2 ∧ (y3.s 1).length < (z.s 1).length)))))) (.two (v0 = 35) (.an v3 (.al (fun y4 => True → (y4.s 1).length ≤ (z.s 1).length ∧ (¬y4.p 2 → ¬z.p 2 ∧ (y4.s 1).length + 1 ≤ (z.s 1).length)) fun y4 => (.an ((0 = 0 ∧ True) ∧ 0 + (y4.s 1).length ≤ 1000001 ∧ (¬y4.p 2 → 0 + (y4.s 1).length ≤ 1000000)) (.al (fun y5 => 0 + (y4.s 1).length ≤ 1000001 ∧ (¬y4.p 2 → 0 + (y4.s 1).length ≤ 1000000) → (y5.s 1).length ≤ (y4.s 1).length ∧ (¬y5.p 2 → ¬y4.p 2) ∧ (y5.s 20).length ≤ 1000001) fun y5 => (.an ((y5.s 20).length = (y5.s 20).length) (.an (True) (.at ((y5.s 1).length ≤ (z.s 1).length ∧ (¬y5.p 2 → ¬z.p 2 ∧ (y5.s 1).length < (z.s 1).length))))))))) (.two (v0 = 64) (.an v3 (.al (fun y6 => True → (y6.s 1).length ≤ (z.s 1).length ∧ (¬y6.p 2 → ¬z.p 2 ∧ (y6.s 1).length + 1 ≤ (z.s 1).length)) fun y6 => (.an (True ∧ (0 : Int) ≤ 0 ∧ (0 : Int) ≤ 100000000000000000 ∧ (¬y6.p 2 → (0 : Int) ≤ 9007199254740992)) (.al (fun y7 => (0 : Int) ≤ 0 ∧ (0 : Int) ≤ 100000000000000000 ∧ (¬y6.p 2 → (0 : Int) ≤ 9007199254740992) → (y7.s 1).length ≤ (y6.s 1).length ∧ (¬y7.p 2 → ¬y6.p 2)) fun y7 => (.an (True) (.at ((y7.s 1).length ≤ (z.s 1).length ∧ (¬y7.p 2 → ¬z.p 2 ∧ (y7.s 1).length < (z.s 1).length)))))))) (.two (v0 = 91) (.an v3 (.al (fun y8 => True → (y8.s 1).length ≤ (z.s 1).length ∧ (¬y8.p 2 → ¬z.p 2 ∧ (y8.s 1).length + 1 ≤ (z.s 1).length)) fun y8 => (.an (v5 ∧ v2 ∧ (0 + (y8.s 1).length ≤ 1000001 ∧ 0 + (y8.s 1).length ≤ 1000001) ∧ (¬y8.p 2 → 0 + (y8.s 1).length ≤ 1000000 ∧ 0 + (y8.s 1).length ≤ 1000000)) (.al (fun y9 => v2 ∧ (0 + (y8.s 1).length ≤ 1000001 ∧ 0 + (y8.s 1).length ≤ 1000001) ∧ (¬y8.p 2 → 0 + (y8.s 1).length ≤ 1000000 ∧ 0 + (y8.s 1).length ≤ 1000000) → (y9.s 1).length ≤ (y8.s 1).length ∧ (¬y9.p 2 → ¬y8.p 2) ∧ (y9.g 30).length ≤ 1000001 ∧ (y9.g 31).length ≤ 1000001 ∧ (y9.s 23).length = 0) fun y9 => (.an v3 (.al (fun y10 => True → (y10.s 1).length ≤ (y9.s 1).length ∧ (¬y10.p 2 → ¬y9.p 2 ∧ (y10.s 1).length + 1 ≤ (y9.s 1).length)) fun y10 => (.an ((y9.g 31).length = (y9.g 31).length ∧ (y9.g 30).length = (y9.g 30).length ∧ True) (.at ((y10.s 1).length ≤ (z.s 1).length ∧ (¬y10.p 2 → ¬z.p 2 ∧ (y10.s 1).length < (z.s 1).length)))))))))) (.two (v0 = 123) (.an v3 (.al (fun y11 => True → (y11.s 1).length ≤ (z.s 1).length ∧ (¬y11.p 2 → ¬z.p 2 ∧ (y11.s 1).length + 1 ≤ (z.s 1).length)) fun y11 => (.an (v5 ∧ v2 ∧ (0 + (y11.s 1).length ≤ 1000001 ∧ 0 + (y11.s 1).length ≤ 1000001) ∧ (¬y11.p 2 → 0 + (y11.s 1).length ≤ 1000000 ∧ 0 + (y11.s 1).length ≤ 1000000)) (.al (fun y12 => v2 ∧ (0 + (y11.s 1).length ≤ 1000001 ∧ 0 + (y11.s 1).length ≤ 1000001) ∧ (¬y11.p 2 → 0 + (y11.s 1).length ≤ 1000000 ∧ 0 + (y11.s 1).length ≤ 1000000) → (y12.s 1).length ≤ (y11.s 1).length ∧ (¬y12.p 2 → ¬y11.p 2) ∧ (y12.g 30).length ≤ 1000001 ∧ (y12.g 31).length ≤ 1000001 ∧ (y12.s 23).length = 0) fun y12 => (.an v3 (.al (fun y13 => True → (y13.s 1).length ≤ (y12.s 1).length ∧ (¬y13.p 2 → ¬y12.p 2 ∧ (y13.s 1).length + 1 ≤ (y12.s 1).length)) fun y13 => (.an ((y12.g 31).length = (y12.g 31).length ∧ (y12.g 30).length = (y12.g 30).length ∧ True) (.at ((y13.s 1).length ≤ (z.s 1).length ∧ (¬y13.p 2 → ¬z.p 2 ∧ (y13.s 1).length < (z.s 1).length)))))))))) (.an (True ∧ (z.s 1).length ≤ 1000000 ∧ (0 : Int) ≤ 0 ∧ 0 ≤ v4) (.al (fun y14 => (z.s 1).length ≤ 1000000 ∧ (0 : Int) ≤ 0 ∧ 0 ≤ v4 → (y14.s 1).length = (z.s 1).length ∧ (y14.p 2 → z.p 2) ∧ (z.p 2 → y14.p 2) ∧ 0 ≤ y14.i 3 ∧ y14.i 3 ≤ ↑(z.s 1).length) fun y14 => (.an ((0 : Int) ≤ 0 ∧ 0 ≤ y14.i 3 ∧ y14.i 3 ≤ ↑(y14.s 1).length) (.an (True ∧ (List.drop (Int.toNat 0) (List.take (y14.i 3).toNat (y14.s 1))).length ≤ 1000000) (.al (fun y15 => (List.drop (Int.toNat 0) (List.take (y14.i 3).toNat (y14.s 1))).length ≤ 1000000 → y15.i 14 = 0 → 0 < (List.drop (Int.toNat 0) (List.take (y14.i 3).toNat (y14.s 1))).length ∧ 0 ≤ y15.i 12 ∧ y15.i 12 ≤ 18 ∧ (y15.s 13).length = 0 ∧ (y15.g 15).length = 0 ∧ (y15.g 16).length = 0 ∧ (y15.i 10 = 3 ∨ y15.i 10 = 4)) fun y15 => (.two (y14.p 2) (.an (0 ≤ y14.i 3 ∧ y14.i 3 ≤ ↑(y14.s 1).length ∧ (↑(y14.s 1).length : Int) ≤ (↑(y14.s 1).length : Int)) (.an (True) (.at ((List.drop (y14.i 3).toNat (List.take (↑(y14.s 1).length : Int).toNat (y14.s 1))).length ≤ (z.s 1).length ∧ (¬true = true → ¬z.p 2 ∧ (List.drop (y14.i 3).toNat (List.take (↑(y14.s 1).length : Int).toNat (y14.s 1))).length < (z.s 1).length))))) (.an (0 ≤ y14.i 3 ∧ y14.i 3 ≤ ↑(y14.s 1).length ∧ (↑(y14.s 1).length : Int) ≤ (↑(y14.s 1).length : Int)) (.an (True) (.at ((List.drop (y14.i 3).toNat (List.take (↑(y14.s 1).length : Int).toNat (y14.s 1))).length ≤ (z.s 1).length ∧ (¬y15.i 14 ≠ 0 → ¬z.p 2 ∧ (List.drop (y14.i 3).toNat (List.take (↑(y14.s 1).length : Int).toNat (y14.s 1))).length < (z.s 1).length)))))))))))))))))))))))
theorem F162_e (k : Nat) (z229 : Zf S229) (z230 : Zf S230) (z103 : Zf S103) (z162a : Lf0 S162a) (z162b : Lf0 S162b) (z162cm : Lf0 (S162c (k + 1))) (z162dm : Lf0 (S162d (k + 1))) (z162e : Lf0 S162e) (z : Sy) : F162 k z229 z230 z103 z162a z162b z162cm z162dm z162e z F162_h = F162_t k z := by kernel_rfl
theorem F162_d (k : Nat) (z : Sy) (hA : A162 k z) : (F162_t k z).den := by
  have hB : True ∧ (z.s 1).length ≤ 1000000 ∧ 1 ≤ z.i 5 ∧ z.i 5 ≤ 17 ∧ 17 - z.i 5 < (↑(k + 1) : Int) := hA
  unfold F162_t
  try conv => zeta
  repeat' (with_reducible first | intro _ | apply fmA | apply fmT | apply fmN | apply fmL | apply fmE)
  all_goals first | omega | grind [symf_ne, symf_bstr, byteAt_lt, bd_eq]
theorem ok162 (k : Nat) (h229 : Ok Tryz.prog 229 S229) (h230 : Ok Tryz.prog 230 S230) (h103 : Ok Tryz.prog 103 S103) (h162a : OkL Tryz.prog 162 1 S162a) (h162b : OkL Tryz.prog 162 3 S162b) (h162cm : OkL Tryz.prog 162 5 (S162c (k + 1))) (h162dm : OkL Tryz.prog 162 7 (S162d (k + 1))) (h162e : OkL Tryz.prog 162 9 S162e) : Ok Tryz.prog 162 (S162 (k + 1)) := by
  obtain ⟨z229, h229⟩ := h229
  obtain ⟨z230, h230⟩ := h230
  obtain ⟨z103, h103⟩ := h103
  obtain ⟨z162a, h162a⟩ := h162a
  obtain ⟨z162b, h162b⟩ := h162b
  obtain ⟨z162cm, h162cm⟩ := h162cm
  obtain ⟨z162dm, h162dm⟩ := h162dm
  obtain ⟨z162e, h162e⟩ := h162e
  exact call_ok (n := 1000) (tabOf_ok mN (eC h229 (eC h230 (eC h103 eN))) (lC h162a (lC h162b (lC h162cm (lC h162dm (lC h162e lN)))))) fun z hz => ⟨F162_h, by show (F162 k z229 z230 z103 z162a z162b z162cm z162dm z162e z F162_h).den; rw [F162_e]; exact F162_d k z ⟨trivial, hz⟩⟩
end Go.Proofs.YtldnnonkobikdaaGreatDoor
