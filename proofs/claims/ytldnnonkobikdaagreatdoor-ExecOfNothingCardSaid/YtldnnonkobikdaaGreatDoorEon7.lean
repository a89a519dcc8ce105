/- ExecOfNothing: the parser's functions with the tokens as a term; ExecOfNothing: Parse, parsed; Formulas, by program (gen.py): batch 7; Formulas told and proved, by program (gen.py): batch 7. -/
import Derived.Test.YtldnnonkobikdaaGreatDoorEon3
import Derived.Test.YtldnnonkobikdaaGreatDoorEon4
namespace Go.Proofs.YtldnnonkobikdaaGreatDoor
open Go.Sym
set_option linter.unusedVariables false
theorem okT {P : Program} {f : Nat} {S : List G → FSpec} {S' : FSpec} (h : ∀ L, Toks L → Ok P f (S L)) (ha : ∀ z, S'.argsA z = (S (z.g 50)).argsA z) (hh : ∀ z, S'.heap z = (S (z.g 50)).heap z) (hr : ∀ z, S'.res z = (S (z.g 50)).res z) (ho : ∀ z, S'.out z = (S (z.g 50)).out z)
    (hpre : ∀ z, S'.pre z → Toks (z.g 50) ∧ (S (z.g 50)).pre z) (hpost : ∀ z y, S'.pre z → (S (z.g 50)).post z y → S'.post z y) : Ok P f S' := by
  have key : ∀ z, ∃ y : { y : Sy // S'.pre z → S'.post z y }, S'.pre z → ∃ (q : Toks (z.g 50)), y.1 = ((Classical.choose (h (z.g 50) q)) z).1 := fun z => by
    by_cases hz : S'.pre z
    · obtain ⟨q, hp⟩ := hpre z hz
      exact ⟨⟨((Classical.choose (h (z.g 50) q)) z).1, fun _ => hpost z _ hz (((Classical.choose (h (z.g 50) q)) z).2 hp)⟩, fun _ => ⟨q, rfl⟩⟩
    · exact ⟨⟨⟨fun _ => 0, fun _ => [], fun _ => False, fun _ => []⟩, fun h => absurd h hz⟩, fun h => absurd h hz⟩
  refine ⟨fun z => Classical.choose (key z), fun z hz w ρ vs hG hl => ?_⟩
  obtain ⟨q, e⟩ := Classical.choose_spec (key z) hz
  have hC := Classical.choose_spec (h (z.g 50) q)
  rw [hh] at hG
  rw [ha] at hl
  rw [hr, ho, e]
  exact hC z (hpre z hz).2 w ρ vs hG hl
def tk : List Sh := [.v 0 50, .i .i64 1, .i .i64 2, .i .i64 3, .i .i64 4, .i .i64 5]
noncomputable section
def S22t : FSpec := { args := [.c (.p 0)], blk := [.cells 76 tk], pre := fun z => Toks (z.g 50) ∧ AtL (z.g 50) 41 z, res := fun z => (S22 (z.g 50)).res z, out := fun z => [.cells 76 (pl (z.g 50) z)], post := fun z y => On (z.g 50) z y }
def S23t : FSpec := { args := [.c (.p 0), .c (.s 7)], blk := [.cells 76 tk], pre := fun z => Toks (z.g 50) ∧ AtP (z.g 50) z, res := fun z => .one (.c (.b 10)), out := fun z => [.cells 76 (pp (z.g 50) z)], post := fun z y => y.p 10 → z.i 1 + 1 < (z.g 50).length }
def S24t : FSpec := { args := [.c (.p 0)], blk := [.cells 76 tk], pre := fun z => Toks (z.g 50) ∧ AtP (z.g 50) z, res := fun z => .one (.ag [.pi .i64 (kd (z.g 50) (z.i 1)), .ps (tx (z.g 50) (z.i 1)), .pi .i64 (po (z.g 50) (z.i 1))]), out := fun z => [.cells 76 (pp (z.g 50) z)], post := fun z y => True }
def S25t : FSpec := { args := [.c (.p 0), .c (.i .i64 6)], blk := [.cells 76 tk], pre := fun z => Toks (z.g 50) ∧ AtP (z.g 50) z, res := fun z => .tu [], out := fun z => [.cells 76 (pe (z.g 50) z)], post := fun z y => True }
end
theorem ok22t (h103 : Ok Tryz.prog 103 S103) (h104 : Ok Tryz.prog 104 S104) : Ok Tryz.prog 22 S22t :=
  okT (S := S22) (fun L hg => (stmt_all L hg h103 h104).1) (fun z => rfl) (fun z => rfl) (fun z => rfl) (fun z => rfl) (fun z hz => hz) (fun z y hz h => h)
theorem ok23t (h103 : Ok Tryz.prog 103 S103) (h104 : Ok Tryz.prog 104 S104) : Ok Tryz.prog 23 S23t :=
  okT (S := S23) (fun L hg => (stmt_all L hg h103 h104).2.1) (fun z => rfl) (fun z => rfl) (fun z => rfl) (fun z => rfl) (fun z hz => hz) (fun z y hz h hp => (h hp).1)
theorem ok24t (h103 : Ok Tryz.prog 103 S103) (h104 : Ok Tryz.prog 104 S104) : Ok Tryz.prog 24 S24t :=
  okT (S := S24) (fun L hg => (stmt_all L hg h103 h104).2.2.1) (fun z => rfl) (fun z => rfl) (fun z => rfl) (fun z => rfl) (fun z hz => hz) (fun z y hz h => trivial)
theorem ok25t (h103 : Ok Tryz.prog 103 S103) (h104 : Ok Tryz.prog 104 S104) : Ok Tryz.prog 25 S25t :=
  okT (S := S25) (fun L hg => (stmt_all L hg h103 h104).2.2.2) (fun z => rfl) (fun z => rfl) (fun z => rfl) (fun z => rfl) (fun z hz => hz) (fun z y hz h => trivial)
end Go.Proofs.YtldnnonkobikdaaGreatDoor
namespace Go.Proofs.YtldnnonkobikdaaGreatDoor
open Go.Sym
set_option linter.unusedVariables false
def so13 : List Sh := [.o, .o, .o, .o, .o, .o, .o, .o, .o, .o, .o, .o, .o]
noncomputable section
def S10 : FSpec := { args := [.c (.s 1)], blk := [], pre := fun _ => True, res := fun z => .tu [.ag so13, .c (.i .i64 14), .c (.i .i64 15)], out := fun _ => [], post := fun _ _ => True }
def S4 : FSpec := { args := [.c (.s 1)], blk := [], pre := fun _ => True, res := fun z => .tu [.ag so13, .c (.b 14)], out := fun _ => [], post := fun _ _ => True }
end
end Go.Proofs.YtldnnonkobikdaaGreatDoor
namespace Go.Proofs.YtldnnonkobikdaaGreatDoor
open Go.Sym
noncomputable section
def F10  (z21 : Zf S21) (z22t : Zf S22t) (z23t : Zf S23t) (z24t : Zf S24t) (z25t : Zf S25t) (z : Sy) (h : Hn) : Fm := S10.callFm Tryz.prog (tabOf [] [⟨21, S21, z21, false⟩, ⟨22, S22t, z22t, false⟩, ⟨23, S23t, z23t, false⟩, ⟨24, S24t, z24t, false⟩, ⟨25, S25t, z25t, false⟩] []) 1000 10 z h
def A10  (z : Sy) : Prop := True ∧ S10.pre z
def F4  (z10 : Zf S10) (z : Sy) (h : Hn) : Fm := S4.callFm Tryz.prog (tabOf [] [⟨10, S10, z10, false⟩] []) 1000 4 z h
def A4  (z : Sy) : Prop := True ∧ S4.pre z
end
end Go.Proofs.YtldnnonkobikdaaGreatDoor
namespace Go.Proofs.YtldnnonkobikdaaGreatDoor
open Go.Sym
set_option linter.unusedVariables false
set_option maxRecDepth 100000
set_option maxHeartbeats 4000000
noncomputable def F10_h : Hn := (.both .nil (.both (.yes (.both (.both (.both .nil .nil) (.no .nil)) (.yes .nil))) (.both (.both (.both .nil .nil) (.no .nil)) (.yes .nil))))
noncomputable def F10_t (z : Sy) : Fm := (.an (True ∧ True) (.al (fun y0 => True → y0.i 12 = 0 → (0 < (y0.g 10).length ∧ (y0.g 10).length ≤ 1000000) ∧ Ends (y0.g 10) ∧ Txs (y0.g 10)) fun y0 => (.two (y0.i 12 ≠ 0) (.an (True) (.at (True))) (.an (True ∧ ((0 < (y0.g 10).length ∧ (y0.g 10).length ≤ 1000000) ∧ Ends (y0.g 10) ∧ Txs (y0.g 10)) ∧ ((0 : Int) ≤ 0 ∧ 0 < (↑(y0.g 10).length : Int)) ∧ (0 : Int) ≤ 0 ∧ (0 : Int) ≤ 40 ∧ (40 : Int) - 0 < 41) (.al (fun y1 => ((0 < (y0.g 10).length ∧ (y0.g 10).length ≤ 1000000) ∧ Ends (y0.g 10) ∧ Txs (y0.g 10)) ∧ ((0 : Int) ≤ 0 ∧ 0 < (↑(y0.g 10).length : Int)) ∧ (0 : Int) ≤ 0 ∧ (0 : Int) ≤ 40 ∧ (40 : Int) - 0 < 41 → 0 ≤ y1.i 1 ∧ y1.i 1 < ↑(y0.g 10).length) fun y1 => (.an (True ∧ ((0 < (y0.g 10).length ∧ (y0.g 10).length ≤ 1000000) ∧ Ends (y0.g 10) ∧ Txs (y0.g 10)) ∧ 0 ≤ y1.i 1 ∧ y1.i 1 < ↑(y0.g 10).length) (.al (fun y2 => ((0 < (y0.g 10).length ∧ (y0.g 10).length ≤ 1000000) ∧ Ends (y0.g 10) ∧ Txs (y0.g 10)) ∧ 0 ≤ y1.i 1 ∧ y1.i 1 < ↑(y0.g 10).length → y2.p 10 → y1.i 1 + 1 < ↑(y0.g 10).length) fun y2 => (.two (y2.p 10) (.an ((-9223372036854775808) ≤ y1.i 1 + 1 ∧ y1.i 1 + 1 ≤ 9223372036854775807) (.two (y1.i 2 = 0) (.an (True ∧ ((0 < (y0.g 10).length ∧ (y0.g 10).length ≤ 1000000) ∧ Ends (y0.g 10) ∧ Txs (y0.g 10)) ∧ 0 ≤ y1.i 1 + 1 ∧ y1.i 1 + 1 < ↑(y0.g 10).length) (.al (fun y3 => ((0 < (y0.g 10).length ∧ (y0.g 10).length ≤ 1000000) ∧ Ends (y0.g 10) ∧ Txs (y0.g 10)) ∧ 0 ≤ y1.i 1 + 1 ∧ y1.i 1 + 1 < ↑(y0.g 10).length → True) fun y3 => (.two (kd (y0.g 10) (y1.i 1 + 1) ≠ 8) (.an (True ∧ ((0 < (y0.g 10).length ∧ (y0.g 10).length ≤ 1000000) ∧ Ends (y0.g 10) ∧ Txs (y0.g 10)) ∧ 0 ≤ y1.i 1 + 1 ∧ y1.i 1 + 1 < ↑(y0.g 10).length) (.al (fun y4 => ((0 < (y0.g 10).length ∧ (y0.g 10).length ≤ 1000000) ∧ Ends (y0.g 10) ∧ Txs (y0.g 10)) ∧ 0 ≤ y1.i 1 + 1 ∧ y1.i 1 + 1 < ↑(y0.g 10).length → True) fun y4 => (.two (y4.i 2 ≠ 0) (.an (True) (.at (True))) (.an (True) (.at (True)))))) (.an (¬ (y1.i 2 ≠ 0)) (.an (True) (.at (True))))))) (.an (y1.i 2 ≠ 0) (.an (True) (.at (True)))))) (.two (y1.i 2 = 0) (.an (True ∧ ((0 < (y0.g 10).length ∧ (y0.g 10).length ≤ 1000000) ∧ Ends (y0.g 10) ∧ Txs (y0.g 10)) ∧ 0 ≤ y1.i 1 ∧ y1.i 1 < ↑(y0.g 10).length) (.al (fun y5 => ((0 < (y0.g 10).length ∧ (y0.g 10).length ≤ 1000000) ∧ Ends (y0.g 10) ∧ Txs (y0.g 10)) ∧ 0 ≤ y1.i 1 ∧ y1.i 1 < ↑(y0.g 10).length → True) fun y5 => (.two (kd (y0.g 10) (y1.i 1) ≠ 8) (.an (True ∧ ((0 < (y0.g 10).length ∧ (y0.g 10).length ≤ 1000000) ∧ Ends (y0.g 10) ∧ Txs (y0.g 10)) ∧ 0 ≤ y1.i 1 ∧ y1.i 1 < ↑(y0.g 10).length) (.al (fun y6 => ((0 < (y0.g 10).length ∧ (y0.g 10).length ≤ 1000000) ∧ Ends (y0.g 10) ∧ Txs (y0.g 10)) ∧ 0 ≤ y1.i 1 ∧ y1.i 1 < ↑(y0.g 10).length → True) fun y6 => (.two (y6.i 2 ≠ 0) (.an (True) (.at (True))) (.an (True) (.at (True)))))) (.an (¬ (y1.i 2 ≠ 0)) (.an (True) (.at (True))))))) (.an (y1.i 2 ≠ 0) (.an (True) (.at (True)))))))))))))
theorem F10_e (z21 : Zf S21) (z22t : Zf S22t) (z23t : Zf S23t) (z24t : Zf S24t) (z25t : Zf S25t) (z : Sy) : F10 z21 z22t z23t z24t z25t z F10_h = F10_t z := by kernel_rfl
theorem F10_d (z : Sy) (hA : A10 z) : (F10_t z).den := by
  have hB : True ∧ True := hA
  unfold F10_t
  try conv => zeta
  repeat' (with_reducible first | intro _ | apply fmA | apply fmT | apply fmN | apply fmL | apply fmE)
  all_goals first | omega | grind [symf_ne, symf_bstr, byteAt_lt]
theorem ok10 (h21 : Ok Tryz.prog 21 S21) (h22t : Ok Tryz.prog 22 S22t) (h23t : Ok Tryz.prog 23 S23t) (h24t : Ok Tryz.prog 24 S24t) (h25t : Ok Tryz.prog 25 S25t) : Ok Tryz.prog 10 S10 := by
  obtain ⟨z21, h21⟩ := h21
  obtain ⟨z22t, h22t⟩ := h22t
  obtain ⟨z23t, h23t⟩ := h23t
  obtain ⟨z24t, h24t⟩ := h24t
  obtain ⟨z25t, h25t⟩ := h25t
  exact call_ok (n := 1000) (tabOf_ok mN (eC h21 (eC h22t (eC h23t (eC h24t (eC h25t eN))))) lN) fun z hz => ⟨F10_h, by show (F10 z21 z22t z23t z24t z25t z F10_h).den; rw [F10_e]; exact F10_d z ⟨trivial, hz⟩⟩
noncomputable def F4_h : Hn := (.both .nil .nil)
noncomputable def F4_t (z : Sy) : Fm := (.two (1500 < (↑(z.s 1).length : Int)) (.an (True) (.at (True))) (.an (True ∧ True) (.al (fun y0 => True → True) fun y0 => (.an (True) (.at (True))))))
theorem F4_e (z10 : Zf S10) (z : Sy) : F4 z10 z F4_h = F4_t z := by kernel_rfl
theorem F4_d (z : Sy) (hA : A4 z) : (F4_t z).den := by
  have hB : True ∧ True := hA
  unfold F4_t
  try conv => zeta
  repeat' (with_reducible first | intro _ | apply fmA | apply fmT | apply fmN | apply fmL | apply fmE)
  all_goals first | omega | grind [symf_ne, symf_bstr, byteAt_lt]
theorem ok4 (h10 : Ok Tryz.prog 10 S10) : Ok Tryz.prog 4 S4 := by
  obtain ⟨z10, h10⟩ := h10
  exact call_ok (n := 1000) (tabOf_ok mN (eC h10 eN) lN) fun z hz => ⟨F4_h, by show (F4 z10 z F4_h).den; rw [F4_e]; exact F4_d z ⟨trivial, hz⟩⟩
end Go.Proofs.YtldnnonkobikdaaGreatDoor
