/- Formulas, by program (gen.py): batch 2; Formulas told and proved, by program (gen.py): batch 2; ExecOfNothing: the climbing functions, by induction over the nesting that is left. -/
import Derived.Test.YtldnnonkobikdaaGreatDoorEon1
namespace Go.Proofs.YtldnnonkobikdaaGreatDoor
open Go.Sym
noncomputable section
def F340a   (p z : Sy) (h : Hn) : Fm := (S340a p).roundFm Tryz.prog (tabOf [] [] []) 1000 340 0 z h
def A340a  (p z : Sy) : Prop := True ∧ (S340a p).inv z
def F340  (z340a : Lf0 S340a) (z : Sy) (h : Hn) : Fm := S340.callFm Tryz.prog (tabOf [] [] [⟨340, 0, loopN Tryz.prog 340 0, [], S340a, z340a⟩]) 1000 340 z h
def A340  (z : Sy) : Prop := True ∧ S340.pre z
def F58 (L : List G) (k : Nat) (z108m : Zf (S108 L)) (z109m : Zf (S109 L (k - 1))) (z : Sy) (h : Hn) : Fm := (S58 L k).callFm Tryz.prog (tabOf [] [⟨108, (S108 L), z108m, false⟩, ⟨109, (S109 L (k - 1)), z109m, false⟩] []) 1000 58 z h
def A58 (L : List G) (k : Nat) (z : Sy) : Prop := Toks L ∧ (S58 L k).pre z
def F296a (L : List G) (k : Nat) (z106m : Zf (S106 L)) (z58 : Zf (S58 L k)) (z23m : Zf (S23 L)) (p z : Sy) (h : Hn) : Fm := ((S296a L k) p).roundFm Tryz.prog (tabOf [] [⟨106, (S106 L), z106m, false⟩, ⟨58, (S58 L k), z58, false⟩, ⟨23, (S23 L), z23m, false⟩] []) 1000 296 0 z h
def A296a (L : List G) (k : Nat) (p z : Sy) : Prop := Toks L ∧ ((S296a L k) p).inv z
def F296 (L : List G) (k : Nat) (z23m : Zf (S23 L)) (z56m : Zf (S56 L)) (z296a : Lf0 (S296a L k)) (z : Sy) (h : Hn) : Fm := (S296 L k).callFm Tryz.prog (tabOf [] [⟨23, (S23 L), z23m, false⟩, ⟨56, (S56 L), z56m, false⟩] [⟨296, 0, loopN Tryz.prog 296 0, [], (S296a L k), z296a⟩]) 1000 296 z h
def A296 (L : List G) (k : Nat) (z : Sy) : Prop := Toks L ∧ (S296 L k).pre z
def F297a (L : List G) (k : Nat) (z106m : Zf (S106 L)) (z24m : Zf (S24 L)) (z104 : Zf S104) (z25m : Zf (S25 L)) (z56m : Zf (S56 L)) (z58 : Zf (S58 L k)) (z340 : Zf S340) (z23m : Zf (S23 L)) (p z : Sy) (h : Hn) : Fm := ((S297a L k) p).roundFm Tryz.prog (tabOf [] [⟨106, (S106 L), z106m, false⟩, ⟨24, (S24 L), z24m, false⟩, ⟨104, S104, z104, false⟩, ⟨25, (S25 L), z25m, false⟩, ⟨56, (S56 L), z56m, false⟩, ⟨58, (S58 L k), z58, false⟩, ⟨340, S340, z340, true⟩, ⟨23, (S23 L), z23m, false⟩] []) 1000 297 0 z h
def A297a (L : List G) (k : Nat) (p z : Sy) : Prop := Toks L ∧ ((S297a L k) p).inv z
def F297 (L : List G) (k : Nat) (z23m : Zf (S23 L)) (z56m : Zf (S56 L)) (z297a : Lf0 (S297a L k)) (z : Sy) (h : Hn) : Fm := (S297 L k).callFm Tryz.prog (tabOf [] [⟨23, (S23 L), z23m, false⟩, ⟨56, (S56 L), z56m, false⟩] [⟨297, 0, loopN Tryz.prog 297 0, [], (S297a L k), z297a⟩]) 1000 297 z h
def A297 (L : List G) (k : Nat) (z : Sy) : Prop := Toks L ∧ (S297 L k).pre z
def F236 (L : List G) (k : Nat) (z24m : Zf (S24 L)) (z25m : Zf (S25 L)) (z103 : Zf S103) (z104 : Zf S104) (z295 : Zf S295) (z54m : Zf (S54 L)) (z23m : Zf (S23 L)) (z56m : Zf (S56 L)) (z296 : Zf (S296 L k)) (z297 : Zf (S297 L k)) (z58 : Zf (S58 L k)) (z : Sy) (h : Hn) : Fm := (S236 L k).callFm Tryz.prog (tabOf [] [⟨24, (S24 L), z24m, false⟩, ⟨25, (S25 L), z25m, false⟩, ⟨103, S103, z103, false⟩, ⟨104, S104, z104, false⟩, ⟨295, S295, z295, false⟩, ⟨54, (S54 L), z54m, false⟩, ⟨23, (S23 L), z23m, false⟩, ⟨56, (S56 L), z56m, false⟩, ⟨296, (S296 L k), z296, false⟩, ⟨297, (S297 L k), z297, false⟩, ⟨58, (S58 L k), z58, false⟩] []) 1000 236 z h
def A236 (L : List G) (k : Nat) (z : Sy) : Prop := Toks L ∧ (S236 L k).pre z
def F166a (L : List G) (k : Nat) (z23m : Zf (S23 L)) (z57m : Zf (S57 L)) (z58 : Zf (S58 L k)) (z56m : Zf (S56 L)) (p z : Sy) (h : Hn) : Fm := ((S166a L k) p).roundFm Tryz.prog (tabOf [] [⟨23, (S23 L), z23m, false⟩, ⟨57, (S57 L), z57m, false⟩, ⟨58, (S58 L k), z58, false⟩, ⟨56, (S56 L), z56m, false⟩] []) 1000 166 0 z h
def A166a (L : List G) (k : Nat) (p z : Sy) : Prop := Toks L ∧ ((S166a L k) p).inv z
def F166 (L : List G) (k : Nat) (z236 : Zf (S236 L k)) (z166a : Lf0 (S166a L k)) (z : Sy) (h : Hn) : Fm := (S166 L k).callFm Tryz.prog (tabOf [] [⟨236, (S236 L k), z236, false⟩] [⟨166, 0, loopN Tryz.prog 166 0, [], (S166a L k), z166a⟩]) 1000 166 z h
def A166 (L : List G) (k : Nat) (z : Sy) : Prop := Toks L ∧ (S166 L k).pre z
def F376 (L : List G) (k : Nat) (z23m : Zf (S23 L)) (z108m : Zf (S108 L)) (z166 : Zf (S166 L k)) (z376m : Zf (S376 L (k - 1))) (z : Sy) (h : Hn) : Fm := (S376 L k).callFm Tryz.prog (tabOf [] [⟨23, (S23 L), z23m, false⟩, ⟨108, (S108 L), z108m, false⟩, ⟨166, (S166 L k), z166, false⟩, ⟨376, (S376 L (k - 1)), z376m, false⟩] []) 1000 376 z h
def A376 (L : List G) (k : Nat) (z : Sy) : Prop := Toks L ∧ (S376 L k).pre z
def F364a (L : List G) (k : Nat) (z23m : Zf (S23 L)) (z168 : Zf S168) (z376 : Zf (S376 L k)) (p z : Sy) (h : Hn) : Fm := ((S364a L k) p).roundFm Tryz.prog (tabOf [] [⟨23, (S23 L), z23m, false⟩, ⟨168, S168, z168, false⟩, ⟨376, (S376 L k), z376, false⟩] []) 1000 364 0 z h
def A364a (L : List G) (k : Nat) (p z : Sy) : Prop := Toks L ∧ ((S364a L k) p).inv z
def F364 (L : List G) (k : Nat) (z376 : Zf (S376 L k)) (z364a : Lf0 (S364a L k)) (z : Sy) (h : Hn) : Fm := (S364 L k).callFm Tryz.prog (tabOf [] [⟨376, (S376 L k), z376, false⟩] [⟨364, 0, loopN Tryz.prog 364 0, [], (S364a L k), z364a⟩]) 1000 364 z h
def A364 (L : List G) (k : Nat) (z : Sy) : Prop := Toks L ∧ (S364 L k).pre z
def F341a (L : List G) (k : Nat) (z23m : Zf (S23 L)) (z24m : Zf (S24 L)) (z168 : Zf S168) (z364 : Zf (S364 L k)) (p z : Sy) (h : Hn) : Fm := ((S341a L k) p).roundFm Tryz.prog (tabOf [] [⟨23, (S23 L), z23m, false⟩, ⟨24, (S24 L), z24m, false⟩, ⟨168, S168, z168, false⟩, ⟨364, (S364 L k), z364, false⟩] []) 1000 341 0 z h
def A341a (L : List G) (k : Nat) (p z : Sy) : Prop := Toks L ∧ ((S341a L k) p).inv z
def F341 (L : List G) (k : Nat) (z364 : Zf (S364 L k)) (z341a : Lf0 (S341a L k)) (z : Sy) (h : Hn) : Fm := (S341 L k).callFm Tryz.prog (tabOf [] [⟨364, (S364 L k), z364, false⟩] [⟨341, 0, loopN Tryz.prog 341 0, [], (S341a L k), z341a⟩]) 1000 341 z h
def A341 (L : List G) (k : Nat) (z : Sy) : Prop := Toks L ∧ (S341 L k).pre z
def F298 (L : List G) (k : Nat) (z341 : Zf (S341 L k)) (z23m : Zf (S23 L)) (z54m : Zf (S54 L)) (z25m : Zf (S25 L)) (z24m : Zf (S24 L)) (z168 : Zf S168) (z : Sy) (h : Hn) : Fm := (S298 L k).callFm Tryz.prog (tabOf [] [⟨341, (S341 L k), z341, false⟩, ⟨23, (S23 L), z23m, false⟩, ⟨54, (S54 L), z54m, false⟩, ⟨25, (S25 L), z25m, false⟩, ⟨24, (S24 L), z24m, false⟩, ⟨168, S168, z168, false⟩] []) 1000 298 z h
def A298 (L : List G) (k : Nat) (z : Sy) : Prop := Toks L ∧ (S298 L k).pre z
def F237 (L : List G) (k : Nat) (z54m : Zf (S54 L)) (z108m : Zf (S108 L)) (z298 : Zf (S298 L k)) (z237m : Zf (S237 L (k - 1))) (z : Sy) (h : Hn) : Fm := (S237 L k).callFm Tryz.prog (tabOf [] [⟨54, (S54 L), z54m, false⟩, ⟨108, (S108 L), z108m, false⟩, ⟨298, (S298 L k), z298, false⟩, ⟨237, (S237 L (k - 1)), z237m, false⟩] []) 1000 237 z h
def A237 (L : List G) (k : Nat) (z : Sy) : Prop := Toks L ∧ (S237 L k).pre z
def F167a (L : List G) (k : Nat) (z54m : Zf (S54 L)) (z168 : Zf S168) (z237 : Zf (S237 L k)) (p z : Sy) (h : Hn) : Fm := ((S167a L k) p).roundFm Tryz.prog (tabOf [] [⟨54, (S54 L), z54m, false⟩, ⟨168, S168, z168, false⟩, ⟨237, (S237 L k), z237, false⟩] []) 1000 167 0 z h
def A167a (L : List G) (k : Nat) (p z : Sy) : Prop := Toks L ∧ ((S167a L k) p).inv z
def F167 (L : List G) (k : Nat) (z237 : Zf (S237 L k)) (z167a : Lf0 (S167a L k)) (z : Sy) (h : Hn) : Fm := (S167 L k).callFm Tryz.prog (tabOf [] [⟨237, (S237 L k), z237, false⟩] [⟨167, 0, loopN Tryz.prog 167 0, [], (S167a L k), z167a⟩]) 1000 167 z h
def A167 (L : List G) (k : Nat) (z : Sy) : Prop := Toks L ∧ (S167 L k).pre z
def F109a (L : List G) (k : Nat) (z54m : Zf (S54 L)) (z168 : Zf S168) (z167 : Zf (S167 L k)) (p z : Sy) (h : Hn) : Fm := ((S109a L k) p).roundFm Tryz.prog (tabOf [] [⟨54, (S54 L), z54m, false⟩, ⟨168, S168, z168, false⟩, ⟨167, (S167 L k), z167, false⟩] []) 1000 109 0 z h
def A109a (L : List G) (k : Nat) (p z : Sy) : Prop := Toks L ∧ ((S109a L k) p).inv z
def F109 (L : List G) (k : Nat) (z167 : Zf (S167 L k)) (z109a : Lf0 (S109a L k)) (z : Sy) (h : Hn) : Fm := (S109 L k).callFm Tryz.prog (tabOf [] [⟨167, (S167 L k), z167, false⟩] [⟨109, 0, loopN Tryz.prog 109 0, [], (S109a L k), z109a⟩]) 1000 109 z h
def A109 (L : List G) (k : Nat) (z : Sy) : Prop := Toks L ∧ (S109 L k).pre z
end
end Go.Proofs.YtldnnonkobikdaaGreatDoor
namespace Go.Proofs.YtldnnonkobikdaaGreatDoor
open Go.Sym
set_option linter.unusedVariables false
set_option maxRecDepth 100000
set_option maxHeartbeats 4000000
noncomputable def F340a_h : Hn := (.both (.both .nil (.yes .nil)) .nil)
noncomputable def F340a_t (p : Sy) (z : Sy) : Fm := (.two (z.i 3 < ↑(z.g 1).length) (.an (0 ≤ z.i 3 ∧ z.i 3 < ↑(z.g 1).length) (.two (gS (kid (gAt (z.g 1) (z.i 3).toNat) 0) = z.s 2) (.an (True) (.at (True))) (.an ((-9223372036854775808) ≤ z.i 3 + 1 ∧ z.i 3 + 1 ≤ 9223372036854775807) (.an (True) (.at (((z.g 1).length ≤ 1000000 ∧ 0 ≤ z.i 3 + 1 ∧ z.i 3 + 1 ≤ ↑(z.g 1).length) ∧ (↑(z.g 1).length - (z.i 3 + (1 : Int))).toNat < (↑(z.g 1).length - z.i 3).toNat ∧ ∀ (y : Sy), True → True)))))) (.an (True) (.at (True))))
theorem F340a_e (p : Sy) (z : Sy) : F340a p z F340a_h = F340a_t p z := by kernel_rfl
theorem F340a_d (p : Sy) (z : Sy) (hA : A340a p z) : (F340a_t p z).den := by
  have hB : True ∧ (z.g 1).length ≤ 1000000 ∧ 0 ≤ z.i 3 ∧ z.i 3 ≤ ↑(z.g 1).length := hA
  unfold F340a_t
  try conv => zeta
  repeat' (with_reducible first | intro _ | apply fmA | apply fmT | apply fmN | apply fmL | apply fmE)
  all_goals first | omega | grind [symf_ne, symf_bstr, byteAt_lt, tok8]
theorem ok340a : OkL Tryz.prog 340 0 S340a := by
  exact okL_of (n := 1000) (tabOf_ok mN eN lN) (by kernel_rfl) (fun p => Nat.le_of_ble_eq_true rfl) fun p z hz => ⟨F340a_h, by show (F340a p z F340a_h).den; rw [F340a_e]; exact F340a_d p z ⟨trivial, hz⟩⟩
noncomputable def F340_h : Hn := (.both .nil .nil)
noncomputable def F340_t (z : Sy) : Fm := (.an (True ∧ (z.g 1).length ≤ 1000000 ∧ (0 : Int) ≤ 0 ∧ (0 : Int) ≤ ↑(z.g 1).length) (.al (fun y0 => (z.g 1).length ≤ 1000000 ∧ (0 : Int) ≤ 0 ∧ (0 : Int) ≤ ↑(z.g 1).length → True) fun y0 => (.two (y0.i 999 = ↑0) (.an (True) (.at (True))) (.an (True) (.at (True))))))
theorem F340_e (z340a : Lf0 S340a) (z : Sy) : F340 z340a z F340_h = F340_t z := by kernel_rfl
theorem F340_d (z : Sy) (hA : A340 z) : (F340_t z).den := by
  have hB : True ∧ (z.g 1).length ≤ 1000000 := hA
  unfold F340_t
  try conv => zeta
  repeat' (with_reducible first | intro _ | apply fmA | apply fmT | apply fmN | apply fmL | apply fmE)
  all_goals first | omega | grind [symf_ne, symf_bstr, byteAt_lt, tok8]
theorem ok340 (h340a : OkL Tryz.prog 340 0 S340a) : Ok Tryz.prog 340 S340 := by
  obtain ⟨z340a, h340a⟩ := h340a
  exact call_ok (n := 1000) (tabOf_ok mN eN (lC h340a lN)) fun z hz => ⟨F340_h, by show (F340 z340a z F340_h).den; rw [F340_e]; exact F340_d z ⟨trivial, hz⟩⟩
noncomputable def F58_h : Hn := (.both .nil (.yes .nil))
noncomputable def F58_t (L : List G) (k : Nat) (z : Sy) : Fm := let v0 := (0 ≤ z.i 1 ∧ z.i 1 < ↑L.length); (.an ((L = L ∧ True) ∧ v0 ∧ 0 ≤ z.i 4 ∧ z.i 4 ≤ 40) (.al (fun y0 => v0 ∧ 0 ≤ z.i 4 ∧ z.i 4 ≤ 40 → (y0.p 10 → z.i 4 < 40 ∧ y0.i 4 = z.i 4 + 1) ∧ (¬y0.p 10 → y0.i 4 = z.i 4)) fun y0 => (.two (¬y0.p 10) (.an (y0.i 4 = z.i 4 ∧ L = L ∧ True) (.at (z.i 1 ≤ z.i 1 ∧ z.i 1 < ↑L.length))) (.an ((L = L ∧ True) ∧ v0 ∧ 0 ≤ y0.i 4 ∧ y0.i 4 ≤ 40 ∧ (40 : Int) - y0.i 4 < ↑(k - 1)) (.al (fun y1 => v0 ∧ 0 ≤ y0.i 4 ∧ y0.i 4 ≤ 40 ∧ (40 : Int) - y0.i 4 < ↑(k - 1) → z.i 1 ≤ y1.i 1 ∧ y1.i 1 < ↑L.length) fun y1 => (.an ((-9223372036854775808) ≤ y0.i 4 - 1 ∧ y0.i 4 - 1 ≤ 9223372036854775807) (.an (y0.i 4 - 1 = z.i 4 ∧ L = L ∧ True) (.at (z.i 1 ≤ y1.i 1 ∧ y1.i 1 < ↑L.length)))))))))
theorem F58_e (L : List G) (k : Nat) (z108m : Zf (S108 L)) (z109m : Zf (S109 L (k - 1))) (z : Sy) : F58 L k z108m z109m z F58_h = F58_t L k z := by kernel_rfl
theorem F58_d (L : List G) (k : Nat) (z : Sy) (hA : A58 L k z) : (F58_t L k z).den := by
  have hB : ((0 < L.length ∧ L.length ≤ 1000000) ∧ Ends L ∧ Txs L) ∧ (0 ≤ z.i 1 ∧ z.i 1 < ↑L.length) ∧ 0 ≤ z.i 4 ∧ z.i 4 ≤ 40 ∧ (40 : Int) - z.i 4 < ↑k := hA
  unfold F58_t
  try conv => zeta
  repeat' (with_reducible first | intro _ | apply fmA | apply fmT | apply fmN | apply fmL | apply fmE)
  all_goals first | omega | grind [symf_ne, symf_bstr, byteAt_lt, tok8]
theorem ok58 (L : List G) (k : Nat) (hg : Toks L) (h108m : Ok Tryz.prog 108 (S108 L)) (h109m : Ok Tryz.prog 109 (S109 L (k - 1))) : Ok Tryz.prog 58 (S58 L k) := by
  obtain ⟨z108m, h108m⟩ := h108m
  obtain ⟨z109m, h109m⟩ := h109m
  exact call_ok (n := 1000) (tabOf_ok mN (eC h108m (eC h109m eN)) lN) fun z hz => ⟨F58_h, by show (F58 L k z108m z109m z F58_h).den; rw [F58_e]; exact F58_d L k z ⟨hg, hz⟩⟩
noncomputable def F296a_h : Hn := (.both (.both .nil (.yes .nil)) .nil)
noncomputable def F296a_t (L : List G) (k : Nat) (p : Sy) (z : Sy) : Fm := let v0 := (1, 2 * 30, (z.g 30).length + 1); let v1 := (0 ≤ z.i 1 ∧ z.i 1 < ↑L.length); (.two (z.i 2 = 0) (.an ((L = L ∧ True) ∧ 0 ≤ z.i 1 ∧ z.i 1 < ↑L.length) (.al (fun y0 => 0 ≤ z.i 1 ∧ z.i 1 < ↑L.length → True) fun y0 => (.an ((L = L ∧ True) ∧ v1 ∧ 0 ≤ z.i 4 ∧ z.i 4 ≤ 40 ∧ (40 : Int) - z.i 4 < ↑k) (.al (fun y1 => v1 ∧ 0 ≤ z.i 4 ∧ z.i 4 ≤ 40 ∧ (40 : Int) - z.i 4 < ↑k → z.i 1 ≤ y1.i 1 ∧ y1.i 1 < ↑L.length) fun y1 => (.an ((z.g 30).length = (z.g 30).length ∧ (z.g 30).length ≤ 1000000000 ∧ True) (.an ((L = L ∧ True) ∧ 0 ≤ y1.i 1 ∧ y1.i 1 < ↑L.length) (.al (fun y2 => 0 ≤ y1.i 1 ∧ y1.i 1 < ↑L.length → y2.p 10 → y1.i 1 + 1 < ↑L.length ∧ kd L (y1.i 1) = 6) fun y2 => (.two (¬y2.p 10) (.an ((z.g 30 ++ [G.node [G.int (y1.i 10), G.int (y1.i 11), G.str (y1.s 12), G.int (y1.i 13), G.int (y1.i 14), G.int (y1.i 15), G.str (y1.s 16), G.int 0, G.int 0, G.int 0, G.int 0]]).length = v0.snd.snd ∧ L = L ∧ True) (.at ((z.i 1 ≤ y1.i 1 ∧ y1.i 1 < ↑L.length) ∧ z.i 4 = z.i 4))) (.an ((-9223372036854775808) ≤ y1.i 1 + 1 ∧ y1.i 1 + 1 ≤ 9223372036854775807) (.an ((z.g 30 ++ [G.node [G.int (y1.i 10), G.int (y1.i 11), G.str (y1.s 12), G.int (y1.i 13), G.int (y1.i 14), G.int (y1.i 15), G.str (y1.s 16), G.int 0, G.int 0, G.int 0, G.int 0]]).length = v0.snd.snd ∧ L = L ∧ True) (.at ((((0 ≤ y1.i 1 + 1 ∧ y1.i 1 + 1 < ↑L.length) ∧ 0 ≤ z.i 4 ∧ z.i 4 ≤ 40 ∧ (40 : Int) - z.i 4 < ↑k) ∧ ↑(z.g 30 ++ [G.node [G.int (y1.i 10), G.int (y1.i 11), G.str (y1.s 12), G.int (y1.i 13), G.int (y1.i 14), G.int (y1.i 15), G.str (y1.s 16), G.int 0, G.int 0, G.int 0, G.int 0]]).length ≤ y1.i 1 + 1) ∧ (↑L.length - (y1.i 1 + (1 : Int))).toNat < (↑L.length - z.i 1).toNat ∧ ∀ (y : Sy), (y1.i 1 + 1 ≤ y.i 1 ∧ y.i 1 < ↑L.length) ∧ y.i 4 = z.i 4 → (z.i 1 ≤ y.i 1 ∧ y.i 1 < ↑L.length) ∧ y.i 4 = z.i 4)))))))))))) (.an ((z.g 30).length = (1, 2 * 30, (z.g 30).length).snd.snd ∧ L = L ∧ True) (.at ((z.i 1 ≤ z.i 1 ∧ z.i 1 < ↑L.length) ∧ z.i 4 = z.i 4))))
theorem F296a_e (L : List G) (k : Nat) (z106m : Zf (S106 L)) (z58 : Zf (S58 L k)) (z23m : Zf (S23 L)) (p : Sy) (z : Sy) : F296a L k z106m z58 z23m p z F296a_h = F296a_t L k p z := by kernel_rfl
theorem F296a_d (L : List G) (k : Nat) (p : Sy) (z : Sy) (hA : A296a L k p z) : (F296a_t L k p z).den := by
  have hB : ((0 < L.length ∧ L.length ≤ 1000000) ∧ Ends L ∧ Txs L) ∧ ((0 ≤ z.i 1 ∧ z.i 1 < ↑L.length) ∧ 0 ≤ z.i 4 ∧ z.i 4 ≤ 40 ∧ (40 : Int) - z.i 4 < ↑k) ∧ ↑(z.g 30).length ≤ z.i 1 := hA
  unfold F296a_t
  try conv => zeta
  repeat' (with_reducible first | intro _ | apply fmA | apply fmT | apply fmN | apply fmL | apply fmE)
  all_goals first | omega | grind [symf_ne, symf_bstr, byteAt_lt, tok8]
theorem ok296a (L : List G) (k : Nat) (hg : Toks L) (h106m : Ok Tryz.prog 106 (S106 L)) (h58 : Ok Tryz.prog 58 (S58 L k)) (h23m : Ok Tryz.prog 23 (S23 L)) : OkL Tryz.prog 296 0 (S296a L k) := by
  obtain ⟨z106m, h106m⟩ := h106m
  obtain ⟨z58, h58⟩ := h58
  obtain ⟨z23m, h23m⟩ := h23m
  exact okL_of (n := 1000) (tabOf_ok mN (eC h106m (eC h58 (eC h23m eN))) lN) (by kernel_rfl) (fun p => Nat.le_of_ble_eq_true rfl) fun p z hz => ⟨F296a_h, by show (F296a L k z106m z58 z23m p z F296a_h).den; rw [F296a_e]; exact F296a_d L k p z ⟨hg, hz⟩⟩
noncomputable def F296_h : Hn := (.both .nil .nil)
noncomputable def F296_t (L : List G) (k : Nat) (z : Sy) : Fm := let v0 := (0 ≤ z.i 1 ∧ z.i 1 < ↑L.length); let v1 := (v0 ∧ 0 ≤ z.i 4 ∧ z.i 4 ≤ 40 ∧ (40 : Int) - z.i 4 < ↑k); (.an ((L = L ∧ True) ∧ 0 ≤ z.i 1 ∧ z.i 1 < ↑L.length) (.al (fun y0 => 0 ≤ z.i 1 ∧ z.i 1 < ↑L.length → y0.p 10 → z.i 1 + 1 < ↑L.length ∧ kd L (z.i 1) = 6) fun y0 => (.two (¬y0.p 10) (.an ((0 = (1, 2 * 30, 0).snd.snd ∧ L = L ∧ True) ∧ v1 ∧ ↑0 ≤ z.i 1) (.al (fun y1 => v1 ∧ ↑0 ≤ z.i 1 → (z.i 1 ≤ y1.i 1 ∧ y1.i 1 < ↑L.length) ∧ y1.i 4 = z.i 4) fun y1 => (.an ((L = L ∧ True) ∧ (0 ≤ y1.i 1 ∧ y1.i 1 < ↑L.length) ∧ (6 : Int) ≠ 8) (.al (fun y2 => (0 ≤ y1.i 1 ∧ y1.i 1 < ↑L.length) ∧ (6 : Int) ≠ 8 → y1.i 1 ≤ y2.i 1 ∧ y2.i 1 < ↑L.length) fun y2 => (.an (y1.i 4 = z.i 4 ∧ L = L ∧ True) (.at (z.i 1 ≤ y2.i 1 ∧ y2.i 1 < ↑L.length))))))) (.an ((L = L ∧ True) ∧ v0 ∧ (6 : Int) ≠ 8) (.al (fun y3 => v0 ∧ (6 : Int) ≠ 8 → z.i 1 ≤ y3.i 1 ∧ y3.i 1 < ↑L.length) fun y3 => (.an (z.i 4 = z.i 4 ∧ L = L ∧ True) (.at (z.i 1 ≤ y3.i 1 ∧ y3.i 1 < ↑L.length))))))))
theorem F296_e (L : List G) (k : Nat) (z23m : Zf (S23 L)) (z56m : Zf (S56 L)) (z296a : Lf0 (S296a L k)) (z : Sy) : F296 L k z23m z56m z296a z F296_h = F296_t L k z := by kernel_rfl
theorem F296_d (L : List G) (k : Nat) (z : Sy) (hA : A296 L k z) : (F296_t L k z).den := by
  have hB : ((0 < L.length ∧ L.length ≤ 1000000) ∧ Ends L ∧ Txs L) ∧ (0 ≤ z.i 1 ∧ z.i 1 < ↑L.length) ∧ 0 ≤ z.i 4 ∧ z.i 4 ≤ 40 ∧ (40 : Int) - z.i 4 < ↑k := hA
  unfold F296_t
  try conv => zeta
  repeat' (with_reducible first | intro _ | apply fmA | apply fmT | apply fmN | apply fmL | apply fmE)
  all_goals first | omega | grind [symf_ne, symf_bstr, byteAt_lt, tok8]
theorem ok296 (L : List G) (k : Nat) (hg : Toks L) (h23m : Ok Tryz.prog 23 (S23 L)) (h56m : Ok Tryz.prog 56 (S56 L)) (h296a : OkL Tryz.prog 296 0 (S296a L k)) : Ok Tryz.prog 296 (S296 L k) := by
  obtain ⟨z23m, h23m⟩ := h23m
  obtain ⟨z56m, h56m⟩ := h56m
  obtain ⟨z296a, h296a⟩ := h296a
  exact call_ok (n := 1000) (tabOf_ok mN (eC h23m (eC h56m eN)) (lC h296a lN)) fun z hz => ⟨F296_h, by show (F296 L k z23m z56m z296a z F296_h).den; rw [F296_e]; exact F296_d L k z ⟨hg, hz⟩⟩
noncomputable def F297a_h : Hn := (.both (.both .nil (.both .nil (.both .nil (.both .nil (.both .nil (.both .nil (.yes (.both .nil (.yes .nil))))))))) .nil)
noncomputable def F297a_t (L : List G) (k : Nat) (p : Sy) (z : Sy) : Fm := let v0 := ((z.g 30).length = (3, 2 * 30, (z.g 30).length).snd.snd ∧ (z.g 31).length = (4, 2 * 31, (z.g 31).length).snd.snd ∧ L = L ∧ True); let v1 := ((z.i 1 ≤ z.i 1 ∧ z.i 1 < ↑L.length) ∧ z.i 4 = z.i 4); let v2 := ((L = L ∧ True) ∧ 0 ≤ z.i 1 ∧ z.i 1 < ↑L.length); let v3 := (0 ≤ z.i 1 + 1 ∧ z.i 1 + 1 < ↑L.length); let v4 := (3, 2 * 30, (z.g 30).length + 1); let v5 := (4, 2 * 31, (z.g 31).length + 1); (.two (z.i 2 = 0) (.an v2 (.al (fun y0 => 0 ≤ z.i 1 ∧ z.i 1 < ↑L.length → True) fun y0 => (.two (y0.i 2 ≠ 0) (.an v0 (.at v1)) (.an v2 (.al (fun y1 => 0 ≤ z.i 1 ∧ z.i 1 < ↑L.length → (kd L (z.i 1) = 8 ∨ z.i 1 + 1 < ↑L.length) ∧ (tx L (z.i 1)).length ≤ 1000000) fun y1 => (.an (True ∧ (tx L (z.i 1)).length ≤ 1000000) (.al (fun y2 => (tx L (z.i 1)).length ≤ 1000000 → True) fun y2 => (.two (kd L (z.i 1) ≠ 5) (.an v2 (.al (fun y3 => 0 ≤ z.i 1 ∧ z.i 1 < ↑L.length → (12 : Int) ≠ 0 → y3.i 2 ≠ 0) fun y3 => (.an v0 (.at v1)))) (.two (y2.i 14 ≠ 0) (.an v2 (.al (fun y4 => 0 ≤ z.i 1 ∧ z.i 1 < ↑L.length → (12 : Int) ≠ 0 → y4.i 2 ≠ 0) fun y4 => (.an v0 (.at v1)))) (.two (↑(y2.s 13).length < (1 : Int)) (.an v2 (.al (fun y5 => 0 ≤ z.i 1 ∧ z.i 1 < ↑L.length → (12 : Int) ≠ 0 → y5.i 2 ≠ 0) fun y5 => (.an v0 (.at v1)))) (.two ((40 : Int) < ↑(y2.s 13).length) (.an v2 (.al (fun y6 => 0 ≤ z.i 1 ∧ z.i 1 < ↑L.length → (12 : Int) ≠ 0 → y6.i 2 ≠ 0) fun y6 => (.an v0 (.at v1)))) (.an ((z.g 30).length = (z.g 30).length) (.an (True ∧ (z.g 30).length ≤ 1000000) (.al (fun y7 => (z.g 30).length ≤ 1000000 → True) fun y7 => (.two (y7.p 10) (.an v2 (.al (fun y8 => 0 ≤ z.i 1 ∧ z.i 1 < ↑L.length → (12 : Int) ≠ 0 → y8.i 2 ≠ 0) fun y8 => (.an v0 (.at v1)))) (.an ((-9223372036854775808) ≤ z.i 1 + 1 ∧ z.i 1 + 1 ≤ 9223372036854775807) (.an ((L = L ∧ True) ∧ v3 ∧ (6 : Int) ≠ 8) (.al (fun y9 => v3 ∧ (6 : Int) ≠ 8 → z.i 1 + 1 ≤ y9.i 1 ∧ y9.i 1 < ↑L.length) fun y9 => (.an ((L = L ∧ True) ∧ (0 ≤ y9.i 1 ∧ y9.i 1 < ↑L.length) ∧ 0 ≤ z.i 4 ∧ z.i 4 ≤ 40 ∧ (40 : Int) - z.i 4 < ↑k) (.al (fun y10 => (0 ≤ y9.i 1 ∧ y9.i 1 < ↑L.length) ∧ 0 ≤ z.i 4 ∧ z.i 4 ≤ 40 ∧ (40 : Int) - z.i 4 < ↑k → y9.i 1 ≤ y10.i 1 ∧ y10.i 1 < ↑L.length) fun y10 => (.an ((z.g 31).length = (z.g 31).length ∧ (z.g 31).length ≤ 1000000000 ∧ True) (.an ((z.g 30).length = (z.g 30).length ∧ (z.g 30).length ≤ 1000000000 ∧ True) (.an ((L = L ∧ True) ∧ 0 ≤ y10.i 1 ∧ y10.i 1 < ↑L.length) (.al (fun y11 => 0 ≤ y10.i 1 ∧ y10.i 1 < ↑L.length → y11.p 10 → y10.i 1 + 1 < ↑L.length ∧ kd L (y10.i 1) = 6) fun y11 => (.two (¬y11.p 10) (.an ((z.g 30 ++ [G.node [G.str (y2.s 13)]]).length = v4.snd.snd ∧ (z.g 31 ++ [G.node [G.int (y10.i 10), G.int (y10.i 11), G.str (y10.s 12), G.int (y10.i 13), G.int (y10.i 14), G.int (y10.i 15), G.str (y10.s 16), G.int 0, G.int 0, G.int 0, G.int 0]]).length = v5.snd.snd ∧ L = L ∧ True) (.at ((z.i 1 ≤ y10.i 1 ∧ y10.i 1 < ↑L.length) ∧ z.i 4 = z.i 4))) (.an ((-9223372036854775808) ≤ y10.i 1 + 1 ∧ y10.i 1 + 1 ≤ 9223372036854775807) (.an ((z.g 30 ++ [G.node [G.str (y2.s 13)]]).length = v4.snd.snd ∧ (z.g 31 ++ [G.node [G.int (y10.i 10), G.int (y10.i 11), G.str (y10.s 12), G.int (y10.i 13), G.int (y10.i 14), G.int (y10.i 15), G.str (y10.s 16), G.int 0, G.int 0, G.int 0, G.int 0]]).length = v5.snd.snd ∧ L = L ∧ True) (.at ((((0 ≤ y10.i 1 + 1 ∧ y10.i 1 + 1 < ↑L.length) ∧ 0 ≤ z.i 4 ∧ z.i 4 ≤ 40 ∧ (40 : Int) - z.i 4 < ↑k) ∧ ↑(z.g 30 ++ [G.node [G.str (y2.s 13)]]).length ≤ y10.i 1 + 1 ∧ ↑(z.g 31 ++ [G.node [G.int (y10.i 10), G.int (y10.i 11), G.str (y10.s 12), G.int (y10.i 13), G.int (y10.i 14), G.int (y10.i 15), G.str (y10.s 16), G.int 0, G.int 0, G.int 0, G.int 0]]).length ≤ y10.i 1 + 1) ∧ (↑L.length - (y10.i 1 + (1 : Int))).toNat < (↑L.length - z.i 1).toNat ∧ ∀ (y : Sy), (y10.i 1 + 1 ≤ y.i 1 ∧ y.i 1 < ↑L.length) ∧ y.i 4 = z.i 4 → (z.i 1 ≤ y.i 1 ∧ y.i 1 < ↑L.length) ∧ y.i 4 = z.i 4))))))))))))))))))))))))))))) (.an v0 (.at v1)))
theorem F297a_e (L : List G) (k : Nat) (z106m : Zf (S106 L)) (z24m : Zf (S24 L)) (z104 : Zf S104) (z25m : Zf (S25 L)) (z56m : Zf (S56 L)) (z58 : Zf (S58 L k)) (z340 : Zf S340) (z23m : Zf (S23 L)) (p : Sy) (z : Sy) : F297a L k z106m z24m z104 z25m z56m z58 z340 z23m p z F297a_h = F297a_t L k p z := by kernel_rfl
theorem F297a_d (L : List G) (k : Nat) (p : Sy) (z : Sy) (hA : A297a L k p z) : (F297a_t L k p z).den := by
  have hB : ((0 < L.length ∧ L.length ≤ 1000000) ∧ Ends L ∧ Txs L) ∧ ((0 ≤ z.i 1 ∧ z.i 1 < ↑L.length) ∧ 0 ≤ z.i 4 ∧ z.i 4 ≤ 40 ∧ (40 : Int) - z.i 4 < ↑k) ∧ ↑(z.g 30).length ≤ z.i 1 ∧ ↑(z.g 31).length ≤ z.i 1 := hA
  unfold F297a_t
  try conv => zeta
  repeat' (with_reducible first | intro _ | apply fmA | apply fmT | apply fmN | apply fmL | apply fmE)
  all_goals first | omega | grind [symf_ne, symf_bstr, byteAt_lt, tok8]
theorem ok297a (L : List G) (k : Nat) (hg : Toks L) (h106m : Ok Tryz.prog 106 (S106 L)) (h24m : Ok Tryz.prog 24 (S24 L)) (h104 : Ok Tryz.prog 104 S104) (h25m : Ok Tryz.prog 25 (S25 L)) (h56m : Ok Tryz.prog 56 (S56 L)) (h58 : Ok Tryz.prog 58 (S58 L k)) (h340 : Ok Tryz.prog 340 S340) (h23m : Ok Tryz.prog 23 (S23 L)) : OkL Tryz.prog 297 0 (S297a L k) := by
  obtain ⟨z106m, h106m⟩ := h106m
  obtain ⟨z24m, h24m⟩ := h24m
  obtain ⟨z104, h104⟩ := h104
  obtain ⟨z25m, h25m⟩ := h25m
  obtain ⟨z56m, h56m⟩ := h56m
  obtain ⟨z58, h58⟩ := h58
  obtain ⟨z340, h340⟩ := h340
  obtain ⟨z23m, h23m⟩ := h23m
  exact okL_of (n := 1000) (tabOf_ok mN (eC h106m (eC h24m (eC h104 (eC h25m (eC h56m (eC h58 (eC h340 (eC h23m eN)))))))) lN) (by kernel_rfl) (fun p => Nat.le_of_ble_eq_true rfl) fun p z hz => ⟨F297a_h, by show (F297a L k z106m z24m z104 z25m z56m z58 z340 z23m p z F297a_h).den; rw [F297a_e]; exact F297a_d L k p z ⟨hg, hz⟩⟩
noncomputable def F297_h : Hn := (.yes (.both (.yes .nil) .nil))
noncomputable def F297_t (L : List G) (k : Nat) (z : Sy) : Fm := let v0 := ((0 ≤ z.i 1 + 1 ∧ z.i 1 + 1 < ↑L.length) ∧ 0 ≤ z.i 4 ∧ z.i 4 ≤ 40 ∧ (40 : Int) - z.i 4 < ↑k); (.an ((-9223372036854775808) ≤ z.i 1 + 1 ∧ z.i 1 + 1 ≤ 9223372036854775807) (.an ((L = L ∧ True) ∧ 0 ≤ z.i 1 + 1 ∧ z.i 1 + 1 < ↑L.length) (.al (fun y0 => 0 ≤ z.i 1 + 1 ∧ z.i 1 + 1 < ↑L.length → y0.p 10 → z.i 1 + 1 + 1 < ↑L.length ∧ kd L (z.i 1 + 1) = 6) fun y0 => (.two (y0.p 10) (.an ((-9223372036854775808) ≤ z.i 1 + 1 + 1 ∧ z.i 1 + 1 + 1 ≤ 9223372036854775807) (.an (z.i 4 = z.i 4 ∧ L = L ∧ True) (.at (z.i 1 ≤ z.i 1 + 1 + 1 ∧ z.i 1 + 1 + 1 < ↑L.length)))) (.an ((0 = (3, 2 * 30, 0).snd.snd ∧ 0 = (4, 2 * 31, 0).snd.snd ∧ L = L ∧ True) ∧ v0 ∧ ↑0 ≤ z.i 1 + 1 ∧ ↑0 ≤ z.i 1 + 1) (.al (fun y1 => v0 ∧ ↑0 ≤ z.i 1 + 1 ∧ ↑0 ≤ z.i 1 + 1 → (z.i 1 + 1 ≤ y1.i 1 ∧ y1.i 1 < ↑L.length) ∧ y1.i 4 = z.i 4) fun y1 => (.an ((L = L ∧ True) ∧ (0 ≤ y1.i 1 ∧ y1.i 1 < ↑L.length) ∧ (6 : Int) ≠ 8) (.al (fun y2 => (0 ≤ y1.i 1 ∧ y1.i 1 < ↑L.length) ∧ (6 : Int) ≠ 8 → y1.i 1 ≤ y2.i 1 ∧ y2.i 1 < ↑L.length) fun y2 => (.an (y1.i 4 = z.i 4 ∧ L = L ∧ True) (.at (z.i 1 ≤ y2.i 1 ∧ y2.i 1 < ↑L.length)))))))))))
theorem F297_e (L : List G) (k : Nat) (z23m : Zf (S23 L)) (z56m : Zf (S56 L)) (z297a : Lf0 (S297a L k)) (z : Sy) : F297 L k z23m z56m z297a z F297_h = F297_t L k z := by kernel_rfl
theorem F297_d (L : List G) (k : Nat) (z : Sy) (hA : A297 L k z) : (F297_t L k z).den := by
  have hB : ((0 < L.length ∧ L.length ≤ 1000000) ∧ Ends L ∧ Txs L) ∧ ((0 ≤ z.i 1 ∧ z.i 1 < ↑L.length) ∧ 0 ≤ z.i 4 ∧ z.i 4 ≤ 40 ∧ (40 : Int) - z.i 4 < ↑k) ∧ z.i 1 + 1 < ↑L.length := hA
  unfold F297_t
  try conv => zeta
  repeat' (with_reducible first | intro _ | apply fmA | apply fmT | apply fmN | apply fmL | apply fmE)
  all_goals first | omega | grind [symf_ne, symf_bstr, byteAt_lt, tok8]
theorem ok297 (L : List G) (k : Nat) (hg : Toks L) (h23m : Ok Tryz.prog 23 (S23 L)) (h56m : Ok Tryz.prog 56 (S56 L)) (h297a : OkL Tryz.prog 297 0 (S297a L k)) : Ok Tryz.prog 297 (S297 L k) := by
  obtain ⟨z23m, h23m⟩ := h23m
  obtain ⟨z56m, h56m⟩ := h56m
  obtain ⟨z297a, h297a⟩ := h297a
  exact call_ok (n := 1000) (tabOf_ok mN (eC h23m (eC h56m eN)) (lC h297a lN)) fun z hz => ⟨F297_h, by show (F297 L k z23m z56m z297a z F297_h).den; rw [F297_e]; exact F297_d L k z ⟨hg, hz⟩⟩
noncomputable def F236_h : Hn := (.both .nil (.both (.yes .nil) (.both (.yes .nil) (.both (.yes .nil) (.both (.yes .nil) (.both (.yes (.yes (.both .nil .nil))) (.both (.yes (.both .nil .nil)) (.both (.yes (.both (.both .nil .nil) (.both .nil .nil))) (.both (.yes (.both (.yes .nil) .nil)) (.both (.yes .nil) (.both (.yes .nil) (.both .nil .nil))))))))))))
noncomputable def F236_t (L : List G) (k : Nat) (z : Sy) : Fm := let v0 := ((-9223372036854775808) ≤ z.i 1 + 1 ∧ z.i 1 + 1 ≤ 9223372036854775807); let v1 := (z.i 4 = z.i 4 ∧ L = L ∧ True); let v2 := (z.i 1 ≤ z.i 1 + 1 ∧ z.i 1 + 1 < ↑L.length); let v4 := (0 ≤ z.i 1 + 1 ∧ z.i 1 + 1 < ↑L.length); let v5 := (tx L (z.i 1)); let v6 := ((0 ≤ z.i 1 ∧ z.i 1 < ↑L.length) ∧ 0 ≤ z.i 4 ∧ z.i 4 ≤ 40 ∧ 40 - z.i 4 < (↑k : Int)); let v7 := (True ∧ True); let v9 := (True ∧ v5.length ≤ 1000000); let v10 := (0 ≤ z.i 1 + 1 + 1 ∧ z.i 1 + 1 + 1 < ↑L.length); let v11 := (tx L (z.i 1) = [116, 114, 117, 101]); let v12 := (L = L ∧ True); let v3 := (v12 ∧ 0 ≤ z.i 1 ∧ z.i 1 < ↑L.length); let v8 := (v12 ∧ v4 ∧ 0 ≤ z.i 4 ∧ z.i 4 ≤ 40 ∧ 40 - z.i 4 < (↑k : Int)); let v13 := (z.i 1 ≤ z.i 1 ∧ z.i 1 < ↑L.length); (.two (z.i 2 ≠ 0) (.an v1 (.at v13)) (.an v3 (.al (fun y0 => 0 ≤ z.i 1 ∧ z.i 1 < ↑L.length → (kd L (z.i 1) = 8 ∨ z.i 1 + 1 < ↑L.length) ∧ v5.length ≤ 1000000) fun y0 => (.two (kd L (z.i 1) = 3) (.an v0 (.an v9 (.al (fun y1 => v5.length ≤ 1000000 → y1.i 14 = 0 → 0 < v5.length ∧ 0 ≤ y1.i 12 ∧ y1.i 12 ≤ 18 ∧ (y1.s 13).length = 0 ∧ (y1.g 15).length = 0 ∧ (y1.g 16).length = 0 ∧ (y1.i 10 = 3 ∨ y1.i 10 = 4)) fun y1 => (.an v7 (.al (fun y2 => True → True) fun y2 => (.an v1 (.at v2))))))) (.two (kd L (z.i 1) = 4) (.an v0 (.an v9 (.al (fun y3 => v5.length ≤ 1000000 → y3.i 14 = 0 → 0 < v5.length ∧ 0 ≤ y3.i 12 ∧ y3.i 12 ≤ 18 ∧ (y3.s 13).length = 0 ∧ (y3.g 15).length = 0 ∧ (y3.g 16).length = 0 ∧ (y3.i 10 = 3 ∨ y3.i 10 = 4)) fun y3 => (.an v7 (.al (fun y4 => True → True) fun y4 => (.an v1 (.at v2))))))) (.two (kd L (z.i 1) = 5) (.an v0 (.an v9 (.al (fun y5 => v5.length ≤ 1000000 → True) fun y5 => (.an v7 (.al (fun y6 => True → True) fun y6 => (.an v1 (.at v2))))))) (.an v3 (.al (fun y7 => 0 ≤ z.i 1 ∧ z.i 1 < ↑L.length → y7.p 10 → z.i 1 + 1 < ↑L.length ∧ kd L (z.i 1) = 2) fun y7 => (.two (y7.p 10) (.an v0 (.an v7 (.al (fun y8 => True → True) fun y8 => (.an v1 (.at v2))))) (.an v3 (.al (fun y9 => 0 ≤ z.i 1 ∧ z.i 1 < ↑L.length → y9.p 10 → z.i 1 + 1 < ↑L.length ∧ kd L (z.i 1) = 2) fun y9 => (.two (y9.p 10) (.an (y9.p 10) (.an v0 (.two v11 (.an v7 (.al (fun y10 => True → True) fun y10 => (.an v1 (.at v2)))) (.an v7 (.al (fun y11 => True → True) fun y11 => (.an v1 (.at v2))))))) (.an v3 (.al (fun y12 => 0 ≤ z.i 1 ∧ z.i 1 < ↑L.length → y12.p 10 → z.i 1 + 1 < ↑L.length ∧ kd L (z.i 1) = 2) fun y12 => (.two (y12.p 10) (.an v0 (.two v11 (.an v7 (.al (fun y13 => True → True) fun y13 => (.an v1 (.at v2)))) (.an v7 (.al (fun y14 => True → True) fun y14 => (.an v1 (.at v2)))))) (.two (kd L (z.i 1) = 7) (.an v0 (.two ((-9223372036854775808) ≤ z.i 5 + 1 ∧ z.i 5 + 1 ≤ 9223372036854775807) (.two ((-9223372036854775808) ≤ z.i 5 + 1 - 1 ∧ z.i 5 + 1 - 1 ≤ 9223372036854775807) (.an v1 (.at v2)) (.an v1 (.at v2))) (.two ((-9223372036854775808) ≤ Go.IntKind.i64.wrap (z.i 5 + 1) - 1 ∧ Go.IntKind.i64.wrap (z.i 5 + 1) - 1 ≤ 9223372036854775807) (.an v1 (.at v2)) (.an v1 (.at v2))))) (.two (kd L (z.i 1) = 1) (.an v0 (.an (v12 ∧ 0 ≤ z.i 1 + 1 ∧ z.i 1 + 1 < ↑L.length) (.al (fun y15 => 0 ≤ z.i 1 + 1 ∧ z.i 1 + 1 < ↑L.length → y15.p 10 → z.i 1 + 1 + 1 < ↑L.length ∧ kd L (z.i 1 + 1) = 6) fun y15 => (.two (y15.p 10) (.an ((-9223372036854775808) ≤ z.i 1 + 1 + 1 ∧ z.i 1 + 1 + 1 ≤ 9223372036854775807) (.an (v12 ∧ v10 ∧ 0 ≤ z.i 4 ∧ z.i 4 ≤ 40 ∧ 40 - z.i 4 < (↑k : Int)) (.al (fun y16 => v10 ∧ 0 ≤ z.i 4 ∧ z.i 4 ≤ 40 ∧ 40 - z.i 4 < (↑k : Int) → z.i 1 + 1 + 1 ≤ y16.i 1 ∧ y16.i 1 < ↑L.length) fun y16 => (.an v1 (.at (z.i 1 ≤ y16.i 1 ∧ y16.i 1 < ↑L.length)))))) (.an v1 (.at v2)))))) (.an v3 (.al (fun y17 => 0 ≤ z.i 1 ∧ z.i 1 < ↑L.length → y17.p 10 → z.i 1 + 1 < ↑L.length ∧ kd L (z.i 1) = 6) fun y17 => (.two (y17.p 10) (.an v0 (.an v8 (.al (fun y18 => v4 ∧ 0 ≤ z.i 4 ∧ z.i 4 ≤ 40 ∧ 40 - z.i 4 < (↑k : Int) → z.i 1 + 1 ≤ y18.i 1 ∧ y18.i 1 < ↑L.length) fun y18 => (.an (v12 ∧ (0 ≤ y18.i 1 ∧ y18.i 1 < ↑L.length) ∧ (6 : Int) ≠ 8) (.al (fun y19 => (0 ≤ y18.i 1 ∧ y18.i 1 < ↑L.length) ∧ (6 : Int) ≠ 8 → y18.i 1 ≤ y19.i 1 ∧ y19.i 1 < ↑L.length) fun y19 => (.an v1 (.at (z.i 1 ≤ y19.i 1 ∧ y19.i 1 < ↑L.length)))))))) (.an v3 (.al (fun y20 => 0 ≤ z.i 1 ∧ z.i 1 < ↑L.length → y20.p 10 → z.i 1 + 1 < ↑L.length ∧ kd L (z.i 1) = 6) fun y20 => (.two (y20.p 10) (.an v0 (.an v8 (.al (fun y21 => v4 ∧ 0 ≤ z.i 4 ∧ z.i 4 ≤ 40 ∧ 40 - z.i 4 < (↑k : Int) → z.i 1 + 1 ≤ y21.i 1 ∧ y21.i 1 < ↑L.length) fun y21 => (.an v1 (.at (z.i 1 ≤ y21.i 1 ∧ y21.i 1 < ↑L.length)))))) (.an v3 (.al (fun y22 => 0 ≤ z.i 1 ∧ z.i 1 < ↑L.length → y22.p 10 → z.i 1 + 1 < ↑L.length ∧ kd L (z.i 1) = 6) fun y22 => (.two (y22.p 10) (.an (v12 ∧ v6 ∧ z.i 1 + 1 < ↑L.length) (.al (fun y23 => v6 ∧ z.i 1 + 1 < ↑L.length → z.i 1 ≤ y23.i 1 ∧ y23.i 1 < ↑L.length) fun y23 => (.an v1 (.at (z.i 1 ≤ y23.i 1 ∧ y23.i 1 < ↑L.length))))) (.an v3 (.al (fun y24 => 0 ≤ z.i 1 ∧ z.i 1 < ↑L.length → (12 : Int) ≠ 0 → y24.i 2 ≠ 0) fun y24 => (.an v1 (.at v13))))))))))))))))))))))))))))))
theorem F236_e (L : List G) (k : Nat) (z24m : Zf (S24 L)) (z25m : Zf (S25 L)) (z103 : Zf S103) (z104 : Zf S104) (z295 : Zf S295) (z54m : Zf (S54 L)) (z23m : Zf (S23 L)) (z56m : Zf (S56 L)) (z296 : Zf (S296 L k)) (z297 : Zf (S297 L k)) (z58 : Zf (S58 L k)) (z : Sy) : F236 L k z24m z25m z103 z104 z295 z54m z23m z56m z296 z297 z58 z F236_h = F236_t L k z := by kernel_rfl
theorem F236_d (L : List G) (k : Nat) (z : Sy) (hA : A236 L k z) : (F236_t L k z).den := by
  have hB : ((0 < L.length ∧ L.length ≤ 1000000) ∧ Ends L ∧ Txs L) ∧ (0 ≤ z.i 1 ∧ z.i 1 < ↑L.length) ∧ 0 ≤ z.i 4 ∧ z.i 4 ≤ 40 ∧ 40 - z.i 4 < (↑k : Int) := hA
  unfold F236_t
  try conv => zeta
  repeat' (with_reducible first | intro _ | apply fmA | apply fmT | apply fmN | apply fmL | apply fmE)
  all_goals first | omega | grind [symf_ne, symf_bstr, byteAt_lt, tok8]
theorem ok236 (L : List G) (k : Nat) (hg : Toks L) (h24m : Ok Tryz.prog 24 (S24 L)) (h25m : Ok Tryz.prog 25 (S25 L)) (h103 : Ok Tryz.prog 103 S103) (h104 : Ok Tryz.prog 104 S104) (h295 : Ok Tryz.prog 295 S295) (h54m : Ok Tryz.prog 54 (S54 L)) (h23m : Ok Tryz.prog 23 (S23 L)) (h56m : Ok Tryz.prog 56 (S56 L)) (h296 : Ok Tryz.prog 296 (S296 L k)) (h297 : Ok Tryz.prog 297 (S297 L k)) (h58 : Ok Tryz.prog 58 (S58 L k)) : Ok Tryz.prog 236 (S236 L k) := by
  obtain ⟨z24m, h24m⟩ := h24m
  obtain ⟨z25m, h25m⟩ := h25m
  obtain ⟨z103, h103⟩ := h103
  obtain ⟨z104, h104⟩ := h104
  obtain ⟨z295, h295⟩ := h295
  obtain ⟨z54m, h54m⟩ := h54m
  obtain ⟨z23m, h23m⟩ := h23m
  obtain ⟨z56m, h56m⟩ := h56m
  obtain ⟨z296, h296⟩ := h296
  obtain ⟨z297, h297⟩ := h297
  obtain ⟨z58, h58⟩ := h58
  exact call_ok (n := 1000) (tabOf_ok mN (eC h24m (eC h25m (eC h103 (eC h104 (eC h295 (eC h54m (eC h23m (eC h56m (eC h296 (eC h297 (eC h58 eN))))))))))) lN) fun z hz => ⟨F236_h, by show (F236 L k z24m z25m z103 z104 z295 z54m z23m z56m z296 z297 z58 z F236_h).den; rw [F236_e]; exact F236_d L k z ⟨hg, hz⟩⟩
noncomputable def F166a_h : Hn := (.both (.both (.yes .nil) (.yes .nil)) (.both (.both (.yes .nil) (.yes .nil)) .nil))
noncomputable def F166a_t (L : List G) (k : Nat) (p : Sy) (z : Sy) : Fm := let v0 := ((-9223372036854775808) ≤ z.i 1 + 1 ∧ z.i 1 + 1 ≤ 9223372036854775807); let v1 := (L = L ∧ True); let v2 := (0 ≤ z.i 1 + 1 ∧ z.i 1 + 1 < ↑L.length); let v3 := (v1 ∧ 0 ≤ z.i 1 ∧ z.i 1 < ↑L.length); let v4 := (v1 ∧ v2 ∧ 0 ≤ z.i 4 ∧ z.i 4 ≤ 40 ∧ (40 : Int) - z.i 4 < ↑k); let v5 := (↑L.length - z.i 1); let v6 := (v1 ∧ 0 ≤ z.i 1 + 1 ∧ z.i 1 + 1 < ↑L.length); (.an v3 (.al (fun y0 => 0 ≤ z.i 1 ∧ z.i 1 < ↑L.length → y0.p 10 → z.i 1 + 1 < ↑L.length ∧ kd L (z.i 1) = 6) fun y0 => (.two (y0.p 10) (.an v3 (.al (fun y1 => 0 ≤ z.i 1 ∧ z.i 1 < ↑L.length → y1.p 10 → z.i 1 + 1 < ↑L.length ∧ kd L (z.i 1) = 6) fun y1 => (.two (y1.p 10) (.an v0 (.an v6 (.al (fun y2 => 0 ≤ z.i 1 + 1 ∧ z.i 1 + 1 < ↑L.length → z.i 1 + 1 ≤ y2.i 1 ∧ y2.i 1 < ↑L.length) fun y2 => (.an v1 (.at (((0 ≤ y2.i 1 ∧ y2.i 1 < ↑L.length) ∧ 0 ≤ z.i 4 ∧ z.i 4 ≤ 40 ∧ (40 : Int) - z.i 4 < ↑k) ∧ (↑L.length - y2.i 1).toNat < v5.toNat ∧ ∀ (y : Sy), (y2.i 1 ≤ y.i 1 ∧ y.i 1 < ↑L.length) ∧ y.i 4 = z.i 4 → (z.i 1 ≤ y.i 1 ∧ y.i 1 < ↑L.length) ∧ y.i 4 = z.i 4)))))) (.an v0 (.an v4 (.al (fun y3 => v2 ∧ 0 ≤ z.i 4 ∧ z.i 4 ≤ 40 ∧ (40 : Int) - z.i 4 < ↑k → z.i 1 + 1 ≤ y3.i 1 ∧ y3.i 1 < ↑L.length) fun y3 => (.an (v1 ∧ (0 ≤ y3.i 1 ∧ y3.i 1 < ↑L.length) ∧ (6 : Int) ≠ 8) (.al (fun y4 => (0 ≤ y3.i 1 ∧ y3.i 1 < ↑L.length) ∧ (6 : Int) ≠ 8 → y3.i 1 ≤ y4.i 1 ∧ y4.i 1 < ↑L.length) fun y4 => (.an v1 (.at (((0 ≤ y4.i 1 ∧ y4.i 1 < ↑L.length) ∧ 0 ≤ z.i 4 ∧ z.i 4 ≤ 40 ∧ (40 : Int) - z.i 4 < ↑k) ∧ (↑L.length - y4.i 1).toNat < v5.toNat ∧ ∀ (y : Sy), (y4.i 1 ≤ y.i 1 ∧ y.i 1 < ↑L.length) ∧ y.i 4 = z.i 4 → (z.i 1 ≤ y.i 1 ∧ y.i 1 < ↑L.length) ∧ y.i 4 = z.i 4))))))))))) (.an v3 (.al (fun y5 => 0 ≤ z.i 1 ∧ z.i 1 < ↑L.length → y5.p 10 → z.i 1 + 1 < ↑L.length ∧ kd L (z.i 1) = 6) fun y5 => (.two (y5.p 10) (.an v3 (.al (fun y6 => 0 ≤ z.i 1 ∧ z.i 1 < ↑L.length → y6.p 10 → z.i 1 + 1 < ↑L.length ∧ kd L (z.i 1) = 6) fun y6 => (.two (y6.p 10) (.an v0 (.an v6 (.al (fun y7 => 0 ≤ z.i 1 + 1 ∧ z.i 1 + 1 < ↑L.length → z.i 1 + 1 ≤ y7.i 1 ∧ y7.i 1 < ↑L.length) fun y7 => (.an v1 (.at (((0 ≤ y7.i 1 ∧ y7.i 1 < ↑L.length) ∧ 0 ≤ z.i 4 ∧ z.i 4 ≤ 40 ∧ (40 : Int) - z.i 4 < ↑k) ∧ (↑L.length - y7.i 1).toNat < v5.toNat ∧ ∀ (y : Sy), (y7.i 1 ≤ y.i 1 ∧ y.i 1 < ↑L.length) ∧ y.i 4 = z.i 4 → (z.i 1 ≤ y.i 1 ∧ y.i 1 < ↑L.length) ∧ y.i 4 = z.i 4)))))) (.an v0 (.an v4 (.al (fun y8 => v2 ∧ 0 ≤ z.i 4 ∧ z.i 4 ≤ 40 ∧ (40 : Int) - z.i 4 < ↑k → z.i 1 + 1 ≤ y8.i 1 ∧ y8.i 1 < ↑L.length) fun y8 => (.an (v1 ∧ (0 ≤ y8.i 1 ∧ y8.i 1 < ↑L.length) ∧ (6 : Int) ≠ 8) (.al (fun y9 => (0 ≤ y8.i 1 ∧ y8.i 1 < ↑L.length) ∧ (6 : Int) ≠ 8 → y8.i 1 ≤ y9.i 1 ∧ y9.i 1 < ↑L.length) fun y9 => (.an v1 (.at (((0 ≤ y9.i 1 ∧ y9.i 1 < ↑L.length) ∧ 0 ≤ z.i 4 ∧ z.i 4 ≤ 40 ∧ (40 : Int) - z.i 4 < ↑k) ∧ (↑L.length - y9.i 1).toNat < v5.toNat ∧ ∀ (y : Sy), (y9.i 1 ≤ y.i 1 ∧ y.i 1 < ↑L.length) ∧ y.i 4 = z.i 4 → (z.i 1 ≤ y.i 1 ∧ y.i 1 < ↑L.length) ∧ y.i 4 = z.i 4))))))))))) (.an v1 (.at ((z.i 1 ≤ z.i 1 ∧ z.i 1 < ↑L.length) ∧ z.i 4 = z.i 4)))))))))
theorem F166a_e (L : List G) (k : Nat) (z23m : Zf (S23 L)) (z57m : Zf (S57 L)) (z58 : Zf (S58 L k)) (z56m : Zf (S56 L)) (p : Sy) (z : Sy) : F166a L k z23m z57m z58 z56m p z F166a_h = F166a_t L k p z := by kernel_rfl
theorem F166a_d (L : List G) (k : Nat) (p : Sy) (z : Sy) (hA : A166a L k p z) : (F166a_t L k p z).den := by
  have hB : ((0 < L.length ∧ L.length ≤ 1000000) ∧ Ends L ∧ Txs L) ∧ (0 ≤ z.i 1 ∧ z.i 1 < ↑L.length) ∧ 0 ≤ z.i 4 ∧ z.i 4 ≤ 40 ∧ (40 : Int) - z.i 4 < ↑k := hA
  unfold F166a_t
  try conv => zeta
  repeat' (with_reducible first | intro _ | apply fmA | apply fmT | apply fmN | apply fmL | apply fmE)
  all_goals first | omega | grind [symf_ne, symf_bstr, byteAt_lt, tok8]
theorem ok166a (L : List G) (k : Nat) (hg : Toks L) (h23m : Ok Tryz.prog 23 (S23 L)) (h57m : Ok Tryz.prog 57 (S57 L)) (h58 : Ok Tryz.prog 58 (S58 L k)) (h56m : Ok Tryz.prog 56 (S56 L)) : OkL Tryz.prog 166 0 (S166a L k) := by
  obtain ⟨z23m, h23m⟩ := h23m
  obtain ⟨z57m, h57m⟩ := h57m
  obtain ⟨z58, h58⟩ := h58
  obtain ⟨z56m, h56m⟩ := h56m
  exact okL_of (n := 1000) (tabOf_ok mN (eC h23m (eC h57m (eC h58 (eC h56m eN)))) lN) (by kernel_rfl) (fun p => Nat.le_of_ble_eq_true rfl) fun p z hz => ⟨F166a_h, by show (F166a L k z23m z57m z58 z56m p z F166a_h).den; rw [F166a_e]; exact F166a_d L k p z ⟨hg, hz⟩⟩
noncomputable def F166_h : Hn := .nil
noncomputable def F166_t (L : List G) (k : Nat) (z : Sy) : Fm := let v0 := (0 ≤ z.i 1 ∧ z.i 1 < ↑L.length); (.an ((L = L ∧ True) ∧ v0 ∧ 0 ≤ z.i 4 ∧ z.i 4 ≤ 40 ∧ (40 : Int) - z.i 4 < ↑k) (.al (fun y0 => v0 ∧ 0 ≤ z.i 4 ∧ z.i 4 ≤ 40 ∧ (40 : Int) - z.i 4 < ↑k → z.i 1 ≤ y0.i 1 ∧ y0.i 1 < ↑L.length) fun y0 => (.an ((L = L ∧ True) ∧ (0 ≤ y0.i 1 ∧ y0.i 1 < ↑L.length) ∧ 0 ≤ z.i 4 ∧ z.i 4 ≤ 40 ∧ (40 : Int) - z.i 4 < ↑k) (.al (fun y1 => (0 ≤ y0.i 1 ∧ y0.i 1 < ↑L.length) ∧ 0 ≤ z.i 4 ∧ z.i 4 ≤ 40 ∧ (40 : Int) - z.i 4 < ↑k → (y0.i 1 ≤ y1.i 1 ∧ y1.i 1 < ↑L.length) ∧ y1.i 4 = z.i 4) fun y1 => (.an (y1.i 4 = z.i 4 ∧ L = L ∧ True) (.at (z.i 1 ≤ y1.i 1 ∧ y1.i 1 < ↑L.length)))))))
theorem F166_e (L : List G) (k : Nat) (z236 : Zf (S236 L k)) (z166a : Lf0 (S166a L k)) (z : Sy) : F166 L k z236 z166a z F166_h = F166_t L k z := by kernel_rfl
theorem F166_d (L : List G) (k : Nat) (z : Sy) (hA : A166 L k z) : (F166_t L k z).den := by
  have hB : ((0 < L.length ∧ L.length ≤ 1000000) ∧ Ends L ∧ Txs L) ∧ (0 ≤ z.i 1 ∧ z.i 1 < ↑L.length) ∧ 0 ≤ z.i 4 ∧ z.i 4 ≤ 40 ∧ (40 : Int) - z.i 4 < ↑k := hA
  unfold F166_t
  try conv => zeta
  repeat' (with_reducible first | intro _ | apply fmA | apply fmT | apply fmN | apply fmL | apply fmE)
  all_goals first | omega | grind [symf_ne, symf_bstr, byteAt_lt, tok8]
theorem ok166 (L : List G) (k : Nat) (hg : Toks L) (h236 : Ok Tryz.prog 236 (S236 L k)) (h166a : OkL Tryz.prog 166 0 (S166a L k)) : Ok Tryz.prog 166 (S166 L k) := by
  obtain ⟨z236, h236⟩ := h236
  obtain ⟨z166a, h166a⟩ := h166a
  exact call_ok (n := 1000) (tabOf_ok mN (eC h236 eN) (lC h166a lN)) fun z hz => ⟨F166_h, by show (F166 L k z236 z166a z F166_h).den; rw [F166_e]; exact F166_d L k z ⟨hg, hz⟩⟩
noncomputable def F376_h : Hn := (.both (.yes (.both (.yes .nil) .nil)) .nil)
noncomputable def F376_t (L : List G) (k : Nat) (z : Sy) : Fm := let v0 := (0 ≤ z.i 1 + 1 ∧ z.i 1 + 1 < ↑L.length); let v1 := (L = L ∧ True); let v2 := (0 ≤ z.i 1 ∧ z.i 1 < ↑L.length); (.an (v1 ∧ 0 ≤ z.i 1 ∧ z.i 1 < ↑L.length) (.al (fun y0 => 0 ≤ z.i 1 ∧ z.i 1 < ↑L.length → y0.p 10 → z.i 1 + 1 < ↑L.length ∧ kd L (z.i 1) = 6) fun y0 => (.two (y0.p 10) (.an ((-9223372036854775808) ≤ z.i 1 + 1 ∧ z.i 1 + 1 ≤ 9223372036854775807) (.an (v1 ∧ v0 ∧ 0 ≤ z.i 4 ∧ z.i 4 ≤ 40) (.al (fun y1 => v0 ∧ 0 ≤ z.i 4 ∧ z.i 4 ≤ 40 → (y1.p 10 → z.i 4 < 40 ∧ y1.i 4 = z.i 4 + 1) ∧ (¬y1.p 10 → y1.i 4 = z.i 4)) fun y1 => (.two (y1.p 10) (.an (v1 ∧ v0 ∧ 0 ≤ y1.i 4 ∧ y1.i 4 ≤ 40 ∧ (40 : Int) - y1.i 4 < ↑(k - 1)) (.al (fun y2 => v0 ∧ 0 ≤ y1.i 4 ∧ y1.i 4 ≤ 40 ∧ (40 : Int) - y1.i 4 < ↑(k - 1) → z.i 1 + 1 ≤ y2.i 1 ∧ y2.i 1 < ↑L.length) fun y2 => (.an ((-9223372036854775808) ≤ y1.i 4 - 1 ∧ y1.i 4 - 1 ≤ 9223372036854775807) (.an (y1.i 4 - 1 = z.i 4 ∧ L = L ∧ True) (.at (z.i 1 ≤ y2.i 1 ∧ y2.i 1 < ↑L.length)))))) (.an (y1.i 4 = z.i 4 ∧ L = L ∧ True) (.at (z.i 1 ≤ z.i 1 + 1 ∧ z.i 1 + 1 < ↑L.length))))))) (.an (v1 ∧ v2 ∧ 0 ≤ z.i 4 ∧ z.i 4 ≤ 40 ∧ (40 : Int) - z.i 4 < ↑k) (.al (fun y3 => v2 ∧ 0 ≤ z.i 4 ∧ z.i 4 ≤ 40 ∧ (40 : Int) - z.i 4 < ↑k → z.i 1 ≤ y3.i 1 ∧ y3.i 1 < ↑L.length) fun y3 => (.an (z.i 4 = z.i 4 ∧ L = L ∧ True) (.at (z.i 1 ≤ y3.i 1 ∧ y3.i 1 < ↑L.length))))))))
theorem F376_e (L : List G) (k : Nat) (z23m : Zf (S23 L)) (z108m : Zf (S108 L)) (z166 : Zf (S166 L k)) (z376m : Zf (S376 L (k - 1))) (z : Sy) : F376 L k z23m z108m z166 z376m z F376_h = F376_t L k z := by kernel_rfl
theorem F376_d (L : List G) (k : Nat) (z : Sy) (hA : A376 L k z) : (F376_t L k z).den := by
  have hB : ((0 < L.length ∧ L.length ≤ 1000000) ∧ Ends L ∧ Txs L) ∧ (0 ≤ z.i 1 ∧ z.i 1 < ↑L.length) ∧ 0 ≤ z.i 4 ∧ z.i 4 ≤ 40 ∧ (40 : Int) - z.i 4 < ↑k := hA
  unfold F376_t
  try conv => zeta
  repeat' (with_reducible first | intro _ | apply fmA | apply fmT | apply fmN | apply fmL | apply fmE)
  all_goals first | omega | grind [symf_ne, symf_bstr, byteAt_lt, tok8]
theorem ok376 (L : List G) (k : Nat) (hg : Toks L) (h23m : Ok Tryz.prog 23 (S23 L)) (h108m : Ok Tryz.prog 108 (S108 L)) (h166 : Ok Tryz.prog 166 (S166 L k)) (h376m : Ok Tryz.prog 376 (S376 L (k - 1))) : Ok Tryz.prog 376 (S376 L k) := by
  obtain ⟨z23m, h23m⟩ := h23m
  obtain ⟨z108m, h108m⟩ := h108m
  obtain ⟨z166, h166⟩ := h166
  obtain ⟨z376m, h376m⟩ := h376m
  exact call_ok (n := 1000) (tabOf_ok mN (eC h23m (eC h108m (eC h166 (eC h376m eN)))) lN) fun z hz => ⟨F376_h, by show (F376 L k z23m z108m z166 z376m z F376_h).den; rw [F376_e]; exact F376_d L k z ⟨hg, hz⟩⟩
noncomputable def F364a_h : Hn := (.both (.yes .nil) .nil)
noncomputable def F364a_t (L : List G) (k : Nat) (p : Sy) (z : Sy) : Fm := let v0 := (0 ≤ z.i 1 + 1 ∧ z.i 1 + 1 < ↑L.length); let v1 := (L = L ∧ True); (.an (v1 ∧ 0 ≤ z.i 1 ∧ z.i 1 < ↑L.length) (.al (fun y0 => 0 ≤ z.i 1 ∧ z.i 1 < ↑L.length → y0.p 10 → z.i 1 + 1 < ↑L.length ∧ kd L (z.i 1) = 6) fun y0 => (.two (y0.p 10) (.an ((-9223372036854775808) ≤ z.i 1 + 1 ∧ z.i 1 + 1 ≤ 9223372036854775807) (.an (v1 ∧ v0 ∧ 0 ≤ z.i 4 ∧ z.i 4 ≤ 40 ∧ (40 : Int) - z.i 4 < ↑k) (.al (fun y1 => v0 ∧ 0 ≤ z.i 4 ∧ z.i 4 ≤ 40 ∧ (40 : Int) - z.i 4 < ↑k → z.i 1 + 1 ≤ y1.i 1 ∧ y1.i 1 < ↑L.length) fun y1 => (.an (True ∧ True) (.al (fun y2 => True → True) fun y2 => (.an v1 (.at (((0 ≤ y1.i 1 ∧ y1.i 1 < ↑L.length) ∧ 0 ≤ z.i 4 ∧ z.i 4 ≤ 40 ∧ (40 : Int) - z.i 4 < ↑k) ∧ (↑L.length - y1.i 1).toNat < (↑L.length - z.i 1).toNat ∧ ∀ (y : Sy), (y1.i 1 ≤ y.i 1 ∧ y.i 1 < ↑L.length) ∧ y.i 4 = z.i 4 → (z.i 1 ≤ y.i 1 ∧ y.i 1 < ↑L.length) ∧ y.i 4 = z.i 4)))))))) (.an v1 (.at ((z.i 1 ≤ z.i 1 ∧ z.i 1 < ↑L.length) ∧ z.i 4 = z.i 4))))))
theorem F364a_e (L : List G) (k : Nat) (z23m : Zf (S23 L)) (z168 : Zf S168) (z376 : Zf (S376 L k)) (p : Sy) (z : Sy) : F364a L k z23m z168 z376 p z F364a_h = F364a_t L k p z := by kernel_rfl
theorem F364a_d (L : List G) (k : Nat) (p : Sy) (z : Sy) (hA : A364a L k p z) : (F364a_t L k p z).den := by
  have hB : ((0 < L.length ∧ L.length ≤ 1000000) ∧ Ends L ∧ Txs L) ∧ (0 ≤ z.i 1 ∧ z.i 1 < ↑L.length) ∧ 0 ≤ z.i 4 ∧ z.i 4 ≤ 40 ∧ (40 : Int) - z.i 4 < ↑k := hA
  unfold F364a_t
  try conv => zeta
  repeat' (with_reducible first | intro _ | apply fmA | apply fmT | apply fmN | apply fmL | apply fmE)
  all_goals first | omega | grind [symf_ne, symf_bstr, byteAt_lt, tok8]
theorem ok364a (L : List G) (k : Nat) (hg : Toks L) (h23m : Ok Tryz.prog 23 (S23 L)) (h168 : Ok Tryz.prog 168 S168) (h376 : Ok Tryz.prog 376 (S376 L k)) : OkL Tryz.prog 364 0 (S364a L k) := by
  obtain ⟨z23m, h23m⟩ := h23m
  obtain ⟨z168, h168⟩ := h168
  obtain ⟨z376, h376⟩ := h376
  exact okL_of (n := 1000) (tabOf_ok mN (eC h23m (eC h168 (eC h376 eN))) lN) (by kernel_rfl) (fun p => Nat.le_of_ble_eq_true rfl) fun p z hz => ⟨F364a_h, by show (F364a L k z23m z168 z376 p z F364a_h).den; rw [F364a_e]; exact F364a_d L k p z ⟨hg, hz⟩⟩
noncomputable def F364_h : Hn := .nil
noncomputable def F364_t (L : List G) (k : Nat) (z : Sy) : Fm := let v0 := (0 ≤ z.i 1 ∧ z.i 1 < ↑L.length); (.an ((L = L ∧ True) ∧ v0 ∧ 0 ≤ z.i 4 ∧ z.i 4 ≤ 40 ∧ (40 : Int) - z.i 4 < ↑k) (.al (fun y0 => v0 ∧ 0 ≤ z.i 4 ∧ z.i 4 ≤ 40 ∧ (40 : Int) - z.i 4 < ↑k → z.i 1 ≤ y0.i 1 ∧ y0.i 1 < ↑L.length) fun y0 => (.an ((L = L ∧ True) ∧ (0 ≤ y0.i 1 ∧ y0.i 1 < ↑L.length) ∧ 0 ≤ z.i 4 ∧ z.i 4 ≤ 40 ∧ (40 : Int) - z.i 4 < ↑k) (.al (fun y1 => (0 ≤ y0.i 1 ∧ y0.i 1 < ↑L.length) ∧ 0 ≤ z.i 4 ∧ z.i 4 ≤ 40 ∧ (40 : Int) - z.i 4 < ↑k → (y0.i 1 ≤ y1.i 1 ∧ y1.i 1 < ↑L.length) ∧ y1.i 4 = z.i 4) fun y1 => (.an (y1.i 4 = z.i 4 ∧ L = L ∧ True) (.at (z.i 1 ≤ y1.i 1 ∧ y1.i 1 < ↑L.length)))))))
theorem F364_e (L : List G) (k : Nat) (z376 : Zf (S376 L k)) (z364a : Lf0 (S364a L k)) (z : Sy) : F364 L k z376 z364a z F364_h = F364_t L k z := by kernel_rfl
theorem F364_d (L : List G) (k : Nat) (z : Sy) (hA : A364 L k z) : (F364_t L k z).den := by
  have hB : ((0 < L.length ∧ L.length ≤ 1000000) ∧ Ends L ∧ Txs L) ∧ (0 ≤ z.i 1 ∧ z.i 1 < ↑L.length) ∧ 0 ≤ z.i 4 ∧ z.i 4 ≤ 40 ∧ (40 : Int) - z.i 4 < ↑k := hA
  unfold F364_t
  try conv => zeta
  repeat' (with_reducible first | intro _ | apply fmA | apply fmT | apply fmN | apply fmL | apply fmE)
  all_goals first | omega | grind [symf_ne, symf_bstr, byteAt_lt, tok8]
theorem ok364 (L : List G) (k : Nat) (hg : Toks L) (h376 : Ok Tryz.prog 376 (S376 L k)) (h364a : OkL Tryz.prog 364 0 (S364a L k)) : Ok Tryz.prog 364 (S364 L k) := by
  obtain ⟨z376, h376⟩ := h376
  obtain ⟨z364a, h364a⟩ := h364a
  exact call_ok (n := 1000) (tabOf_ok mN (eC h376 eN) (lC h364a lN)) fun z hz => ⟨F364_h, by show (F364 L k z376 z364a z F364_h).den; rw [F364_e]; exact F364_d L k z ⟨hg, hz⟩⟩
noncomputable def F341a_h : Hn := (.both (.yes .nil) (.both (.yes .nil) (.both (.yes .nil) .nil)))
noncomputable def F341a_t (L : List G) (k : Nat) (p : Sy) (z : Sy) : Fm := let v2 := ((-9223372036854775808) ≤ z.i 1 + 1 ∧ z.i 1 + 1 ≤ 9223372036854775807); let v3 := (kd L (z.i 1) = 8 ∨ z.i 1 + 1 < ↑L.length); let v4 := (0 ≤ z.i 1 + 1 ∧ z.i 1 + 1 < ↑L.length); let v5 := (L = L ∧ True); let v0 := (v5 ∧ 0 ≤ z.i 1 ∧ z.i 1 < ↑L.length); let v1 := (v5 ∧ v4 ∧ 0 ≤ z.i 4 ∧ z.i 4 ≤ 40 ∧ (40 : Int) - z.i 4 < ↑k); let v6 := (↑L.length - z.i 1); (.an v0 (.al (fun y0 => 0 ≤ z.i 1 ∧ z.i 1 < ↑L.length → y0.p 10 → z.i 1 + 1 < ↑L.length ∧ kd L (z.i 1) = 6) fun y0 => (.two (y0.p 10) (.an v0 (.al (fun y1 => 0 ≤ z.i 1 ∧ z.i 1 < ↑L.length → v3 ∧ (tx L (z.i 1)).length ≤ 1000000) fun y1 => (.an v2 (.an v1 (.al (fun y2 => v4 ∧ 0 ≤ z.i 4 ∧ z.i 4 ≤ 40 ∧ (40 : Int) - z.i 4 < ↑k → z.i 1 + 1 ≤ y2.i 1 ∧ y2.i 1 < ↑L.length) fun y2 => (.an (True ∧ True) (.al (fun y3 => True → True) fun y3 => (.an v5 (.at (((0 ≤ y2.i 1 ∧ y2.i 1 < ↑L.length) ∧ 0 ≤ z.i 4 ∧ z.i 4 ≤ 40 ∧ (40 : Int) - z.i 4 < ↑k) ∧ (↑L.length - y2.i 1).toNat < v6.toNat ∧ ∀ (y : Sy), (y2.i 1 ≤ y.i 1 ∧ y.i 1 < ↑L.length) ∧ y.i 4 = z.i 4 → (z.i 1 ≤ y.i 1 ∧ y.i 1 < ↑L.length) ∧ y.i 4 = z.i 4)))))))))) (.an v0 (.al (fun y4 => 0 ≤ z.i 1 ∧ z.i 1 < ↑L.length → y4.p 10 → z.i 1 + 1 < ↑L.length ∧ kd L (z.i 1) = 6) fun y4 => (.two (y4.p 10) (.an v0 (.al (fun y5 => 0 ≤ z.i 1 ∧ z.i 1 < ↑L.length → v3 ∧ (tx L (z.i 1)).length ≤ 1000000) fun y5 => (.an v2 (.an v1 (.al (fun y6 => v4 ∧ 0 ≤ z.i 4 ∧ z.i 4 ≤ 40 ∧ (40 : Int) - z.i 4 < ↑k → z.i 1 + 1 ≤ y6.i 1 ∧ y6.i 1 < ↑L.length) fun y6 => (.an (True ∧ True) (.al (fun y7 => True → True) fun y7 => (.an v5 (.at (((0 ≤ y6.i 1 ∧ y6.i 1 < ↑L.length) ∧ 0 ≤ z.i 4 ∧ z.i 4 ≤ 40 ∧ (40 : Int) - z.i 4 < ↑k) ∧ (↑L.length - y6.i 1).toNat < v6.toNat ∧ ∀ (y : Sy), (y6.i 1 ≤ y.i 1 ∧ y.i 1 < ↑L.length) ∧ y.i 4 = z.i 4 → (z.i 1 ≤ y.i 1 ∧ y.i 1 < ↑L.length) ∧ y.i 4 = z.i 4)))))))))) (.an v0 (.al (fun y8 => 0 ≤ z.i 1 ∧ z.i 1 < ↑L.length → y8.p 10 → z.i 1 + 1 < ↑L.length ∧ kd L (z.i 1) = 6) fun y8 => (.two (y8.p 10) (.an v0 (.al (fun y9 => 0 ≤ z.i 1 ∧ z.i 1 < ↑L.length → v3 ∧ (tx L (z.i 1)).length ≤ 1000000) fun y9 => (.an v2 (.an v1 (.al (fun y10 => v4 ∧ 0 ≤ z.i 4 ∧ z.i 4 ≤ 40 ∧ (40 : Int) - z.i 4 < ↑k → z.i 1 + 1 ≤ y10.i 1 ∧ y10.i 1 < ↑L.length) fun y10 => (.an (True ∧ True) (.al (fun y11 => True → True) fun y11 => (.an v5 (.at (((0 ≤ y10.i 1 ∧ y10.i 1 < ↑L.length) ∧ 0 ≤ z.i 4 ∧ z.i 4 ≤ 40 ∧ (40 : Int) - z.i 4 < ↑k) ∧ (↑L.length - y10.i 1).toNat < v6.toNat ∧ ∀ (y : Sy), (y10.i 1 ≤ y.i 1 ∧ y.i 1 < ↑L.length) ∧ y.i 4 = z.i 4 → (z.i 1 ≤ y.i 1 ∧ y.i 1 < ↑L.length) ∧ y.i 4 = z.i 4)))))))))) (.an v5 (.at ((z.i 1 ≤ z.i 1 ∧ z.i 1 < ↑L.length) ∧ z.i 4 = z.i 4))))))))))))
theorem F341a_e (L : List G) (k : Nat) (z23m : Zf (S23 L)) (z24m : Zf (S24 L)) (z168 : Zf S168) (z364 : Zf (S364 L k)) (p : Sy) (z : Sy) : F341a L k z23m z24m z168 z364 p z F341a_h = F341a_t L k p z := by kernel_rfl
theorem F341a_d (L : List G) (k : Nat) (p : Sy) (z : Sy) (hA : A341a L k p z) : (F341a_t L k p z).den := by
  have hB : ((0 < L.length ∧ L.length ≤ 1000000) ∧ Ends L ∧ Txs L) ∧ (0 ≤ z.i 1 ∧ z.i 1 < ↑L.length) ∧ 0 ≤ z.i 4 ∧ z.i 4 ≤ 40 ∧ (40 : Int) - z.i 4 < ↑k := hA
  unfold F341a_t
  try conv => zeta
  repeat' (with_reducible first | intro _ | apply fmA | apply fmT | apply fmN | apply fmL | apply fmE)
  all_goals first | omega | grind [symf_ne, symf_bstr, byteAt_lt, tok8]
theorem ok341a (L : List G) (k : Nat) (hg : Toks L) (h23m : Ok Tryz.prog 23 (S23 L)) (h24m : Ok Tryz.prog 24 (S24 L)) (h168 : Ok Tryz.prog 168 S168) (h364 : Ok Tryz.prog 364 (S364 L k)) : OkL Tryz.prog 341 0 (S341a L k) := by
  obtain ⟨z23m, h23m⟩ := h23m
  obtain ⟨z24m, h24m⟩ := h24m
  obtain ⟨z168, h168⟩ := h168
  obtain ⟨z364, h364⟩ := h364
  exact okL_of (n := 1000) (tabOf_ok mN (eC h23m (eC h24m (eC h168 (eC h364 eN)))) lN) (by kernel_rfl) (fun p => Nat.le_of_ble_eq_true rfl) fun p z hz => ⟨F341a_h, by show (F341a L k z23m z24m z168 z364 p z F341a_h).den; rw [F341a_e]; exact F341a_d L k p z ⟨hg, hz⟩⟩
noncomputable def F341_h : Hn := .nil
noncomputable def F341_t (L : List G) (k : Nat) (z : Sy) : Fm := let v0 := (0 ≤ z.i 1 ∧ z.i 1 < ↑L.length); (.an ((L = L ∧ True) ∧ v0 ∧ 0 ≤ z.i 4 ∧ z.i 4 ≤ 40 ∧ (40 : Int) - z.i 4 < ↑k) (.al (fun y0 => v0 ∧ 0 ≤ z.i 4 ∧ z.i 4 ≤ 40 ∧ (40 : Int) - z.i 4 < ↑k → z.i 1 ≤ y0.i 1 ∧ y0.i 1 < ↑L.length) fun y0 => (.an ((L = L ∧ True) ∧ (0 ≤ y0.i 1 ∧ y0.i 1 < ↑L.length) ∧ 0 ≤ z.i 4 ∧ z.i 4 ≤ 40 ∧ (40 : Int) - z.i 4 < ↑k) (.al (fun y1 => (0 ≤ y0.i 1 ∧ y0.i 1 < ↑L.length) ∧ 0 ≤ z.i 4 ∧ z.i 4 ≤ 40 ∧ (40 : Int) - z.i 4 < ↑k → (y0.i 1 ≤ y1.i 1 ∧ y1.i 1 < ↑L.length) ∧ y1.i 4 = z.i 4) fun y1 => (.an (y1.i 4 = z.i 4 ∧ L = L ∧ True) (.at (z.i 1 ≤ y1.i 1 ∧ y1.i 1 < ↑L.length)))))))
theorem F341_e (L : List G) (k : Nat) (z364 : Zf (S364 L k)) (z341a : Lf0 (S341a L k)) (z : Sy) : F341 L k z364 z341a z F341_h = F341_t L k z := by kernel_rfl
theorem F341_d (L : List G) (k : Nat) (z : Sy) (hA : A341 L k z) : (F341_t L k z).den := by
  have hB : ((0 < L.length ∧ L.length ≤ 1000000) ∧ Ends L ∧ Txs L) ∧ (0 ≤ z.i 1 ∧ z.i 1 < ↑L.length) ∧ 0 ≤ z.i 4 ∧ z.i 4 ≤ 40 ∧ (40 : Int) - z.i 4 < ↑k := hA
  unfold F341_t
  try conv => zeta
  repeat' (with_reducible first | intro _ | apply fmA | apply fmT | apply fmN | apply fmL | apply fmE)
  all_goals first | omega | grind [symf_ne, symf_bstr, byteAt_lt, tok8]
theorem ok341 (L : List G) (k : Nat) (hg : Toks L) (h364 : Ok Tryz.prog 364 (S364 L k)) (h341a : OkL Tryz.prog 341 0 (S341a L k)) : Ok Tryz.prog 341 (S341 L k) := by
  obtain ⟨z364, h364⟩ := h364
  obtain ⟨z341a, h341a⟩ := h341a
  exact call_ok (n := 1000) (tabOf_ok mN (eC h364 eN) (lC h341a lN)) fun z hz => ⟨F341_h, by show (F341 L k z364 z341a z F341_h).den; rw [F341_e]; exact F341_d L k z ⟨hg, hz⟩⟩
noncomputable def F298_h : Hn := (.both (.yes .nil) (.both (.yes .nil) (.both (.yes .nil) (.both (.yes .nil) (.both (.yes .nil) (.both (.yes .nil) (.both .nil (.yes (.both (.yes (.both (.both .nil (.yes (.yes .nil))) (.yes (.yes .nil)))) (.both (.both .nil (.yes (.no .nil))) (.yes (.no .nil))))))))))))
noncomputable def F298_t (L : List G) (k : Nat) (z : Sy) : Fm := let v0 := (z.i 4 = z.i 4 ∧ L = L ∧ True); let v1 := (L = L ∧ True); let v2 := (True ∧ True); let v3 := (0 ≤ z.i 1 ∧ z.i 1 < ↑L.length); (.an (v1 ∧ v3 ∧ 0 ≤ z.i 4 ∧ z.i 4 ≤ 40 ∧ (40 : Int) - z.i 4 < ↑k) (.al (fun y0 => v3 ∧ 0 ≤ z.i 4 ∧ z.i 4 ≤ 40 ∧ (40 : Int) - z.i 4 < ↑k → z.i 1 ≤ y0.i 1 ∧ y0.i 1 < ↑L.length) fun y0 => (.an (v1 ∧ 0 ≤ y0.i 1 ∧ y0.i 1 < ↑L.length) (.al (fun y1 => 0 ≤ y0.i 1 ∧ y0.i 1 < ↑L.length → y1.p 10 → y0.i 1 + 1 < ↑L.length ∧ kd L (y0.i 1) = 6) fun y1 => (.two (y1.p 10) (.an ((-9223372036854775808) ≤ y0.i 1 + 1 ∧ y0.i 1 + 1 ≤ 9223372036854775807) (.an (v1 ∧ (0 ≤ y0.i 1 + 1 ∧ y0.i 1 + 1 < ↑L.length) ∧ 0 ≤ z.i 4 ∧ z.i 4 ≤ 40 ∧ (40 : Int) - z.i 4 < ↑k) (.al (fun y2 => (0 ≤ y0.i 1 + 1 ∧ y0.i 1 + 1 < ↑L.length) ∧ 0 ≤ z.i 4 ∧ z.i 4 ≤ 40 ∧ (40 : Int) - z.i 4 < ↑k → y0.i 1 + 1 ≤ y2.i 1 ∧ y2.i 1 < ↑L.length) fun y2 => (.an v2 (.al (fun y3 => True → True) fun y3 => (.an v0 (.at (z.i 1 ≤ y2.i 1 ∧ y2.i 1 < ↑L.length)))))))) (.an (v1 ∧ 0 ≤ y0.i 1 ∧ y0.i 1 < ↑L.length) (.al (fun y4 => 0 ≤ y0.i 1 ∧ y0.i 1 < ↑L.length → y4.p 10 → y0.i 1 + 1 < ↑L.length ∧ kd L (y0.i 1) = 6) fun y4 => (.two (y4.p 10) (.an ((-9223372036854775808) ≤ y0.i 1 + 1 ∧ y0.i 1 + 1 ≤ 9223372036854775807) (.an (v1 ∧ (0 ≤ y0.i 1 + 1 ∧ y0.i 1 + 1 < ↑L.length) ∧ 0 ≤ z.i 4 ∧ z.i 4 ≤ 40 ∧ (40 : Int) - z.i 4 < ↑k) (.al (fun y5 => (0 ≤ y0.i 1 + 1 ∧ y0.i 1 + 1 < ↑L.length) ∧ 0 ≤ z.i 4 ∧ z.i 4 ≤ 40 ∧ (40 : Int) - z.i 4 < ↑k → y0.i 1 + 1 ≤ y5.i 1 ∧ y5.i 1 < ↑L.length) fun y5 => (.an v2 (.al (fun y6 => True → True) fun y6 => (.an v0 (.at (z.i 1 ≤ y5.i 1 ∧ y5.i 1 < ↑L.length)))))))) (.an (v1 ∧ 0 ≤ y0.i 1 ∧ y0.i 1 < ↑L.length) (.al (fun y7 => 0 ≤ y0.i 1 ∧ y0.i 1 < ↑L.length → y7.p 10 → y0.i 1 + 1 < ↑L.length ∧ kd L (y0.i 1) = 6) fun y7 => (.two (y7.p 10) (.an ((-9223372036854775808) ≤ y0.i 1 + 1 ∧ y0.i 1 + 1 ≤ 9223372036854775807) (.an (v1 ∧ (0 ≤ y0.i 1 + 1 ∧ y0.i 1 + 1 < ↑L.length) ∧ 0 ≤ z.i 4 ∧ z.i 4 ≤ 40 ∧ (40 : Int) - z.i 4 < ↑k) (.al (fun y8 => (0 ≤ y0.i 1 + 1 ∧ y0.i 1 + 1 < ↑L.length) ∧ 0 ≤ z.i 4 ∧ z.i 4 ≤ 40 ∧ (40 : Int) - z.i 4 < ↑k → y0.i 1 + 1 ≤ y8.i 1 ∧ y8.i 1 < ↑L.length) fun y8 => (.an v2 (.al (fun y9 => True → True) fun y9 => (.an v0 (.at (z.i 1 ≤ y8.i 1 ∧ y8.i 1 < ↑L.length)))))))) (.an (v1 ∧ 0 ≤ y0.i 1 ∧ y0.i 1 < ↑L.length) (.al (fun y10 => 0 ≤ y0.i 1 ∧ y0.i 1 < ↑L.length → y10.p 10 → y0.i 1 + 1 < ↑L.length ∧ kd L (y0.i 1) = 6) fun y10 => (.two (y10.p 10) (.an ((-9223372036854775808) ≤ y0.i 1 + 1 ∧ y0.i 1 + 1 ≤ 9223372036854775807) (.an (v1 ∧ (0 ≤ y0.i 1 + 1 ∧ y0.i 1 + 1 < ↑L.length) ∧ 0 ≤ z.i 4 ∧ z.i 4 ≤ 40 ∧ (40 : Int) - z.i 4 < ↑k) (.al (fun y11 => (0 ≤ y0.i 1 + 1 ∧ y0.i 1 + 1 < ↑L.length) ∧ 0 ≤ z.i 4 ∧ z.i 4 ≤ 40 ∧ (40 : Int) - z.i 4 < ↑k → y0.i 1 + 1 ≤ y11.i 1 ∧ y11.i 1 < ↑L.length) fun y11 => (.an v2 (.al (fun y12 => True → True) fun y12 => (.an v0 (.at (z.i 1 ≤ y11.i 1 ∧ y11.i 1 < ↑L.length)))))))) (.an (v1 ∧ 0 ≤ y0.i 1 ∧ y0.i 1 < ↑L.length) (.al (fun y13 => 0 ≤ y0.i 1 ∧ y0.i 1 < ↑L.length → y13.p 10 → y0.i 1 + 1 < ↑L.length ∧ kd L (y0.i 1) = 6) fun y13 => (.two (y13.p 10) (.an ((-9223372036854775808) ≤ y0.i 1 + 1 ∧ y0.i 1 + 1 ≤ 9223372036854775807) (.an (v1 ∧ (0 ≤ y0.i 1 + 1 ∧ y0.i 1 + 1 < ↑L.length) ∧ 0 ≤ z.i 4 ∧ z.i 4 ≤ 40 ∧ (40 : Int) - z.i 4 < ↑k) (.al (fun y14 => (0 ≤ y0.i 1 + 1 ∧ y0.i 1 + 1 < ↑L.length) ∧ 0 ≤ z.i 4 ∧ z.i 4 ≤ 40 ∧ (40 : Int) - z.i 4 < ↑k → y0.i 1 + 1 ≤ y14.i 1 ∧ y14.i 1 < ↑L.length) fun y14 => (.an v2 (.al (fun y15 => True → True) fun y15 => (.an v0 (.at (z.i 1 ≤ y14.i 1 ∧ y14.i 1 < ↑L.length)))))))) (.an (v1 ∧ 0 ≤ y0.i 1 ∧ y0.i 1 < ↑L.length) (.al (fun y16 => 0 ≤ y0.i 1 ∧ y0.i 1 < ↑L.length → y16.p 10 → y0.i 1 + 1 < ↑L.length ∧ kd L (y0.i 1) = 6) fun y16 => (.two (y16.p 10) (.an ((-9223372036854775808) ≤ y0.i 1 + 1 ∧ y0.i 1 + 1 ≤ 9223372036854775807) (.an (v1 ∧ (0 ≤ y0.i 1 + 1 ∧ y0.i 1 + 1 < ↑L.length) ∧ 0 ≤ z.i 4 ∧ z.i 4 ≤ 40 ∧ (40 : Int) - z.i 4 < ↑k) (.al (fun y17 => (0 ≤ y0.i 1 + 1 ∧ y0.i 1 + 1 < ↑L.length) ∧ 0 ≤ z.i 4 ∧ z.i 4 ≤ 40 ∧ (40 : Int) - z.i 4 < ↑k → y0.i 1 + 1 ≤ y17.i 1 ∧ y17.i 1 < ↑L.length) fun y17 => (.an v2 (.al (fun y18 => True → True) fun y18 => (.an v0 (.at (z.i 1 ≤ y17.i 1 ∧ y17.i 1 < ↑L.length)))))))) (.an (v1 ∧ 0 ≤ y0.i 1 ∧ y0.i 1 < ↑L.length) (.al (fun y19 => 0 ≤ y0.i 1 ∧ y0.i 1 < ↑L.length → y19.p 10 → y0.i 1 + 1 < ↑L.length ∧ kd L (y0.i 1) = 2) fun y19 => (.two (¬y19.p 10) (.an v0 (.at (z.i 1 ≤ y0.i 1 ∧ y0.i 1 < ↑L.length))) (.an ((-9223372036854775808) ≤ y0.i 1 + 1 ∧ y0.i 1 + 1 ≤ 9223372036854775807) (.an (v1 ∧ 0 ≤ y0.i 1 + 1 ∧ y0.i 1 + 1 < ↑L.length) (.al (fun y20 => 0 ≤ y0.i 1 + 1 ∧ y0.i 1 + 1 < ↑L.length → y20.p 10 → y0.i 1 + 1 + 1 < ↑L.length ∧ kd L (y0.i 1 + 1) = 2) fun y20 => (.two (y20.p 10) (.an ((-9223372036854775808) ≤ y0.i 1 + 1 + 1 ∧ y0.i 1 + 1 + 1 ≤ 9223372036854775807) (.an (v1 ∧ 0 ≤ y0.i 1 + 1 + 1 ∧ y0.i 1 + 1 + 1 < ↑L.length) (.al (fun y21 => 0 ≤ y0.i 1 + 1 + 1 ∧ y0.i 1 + 1 + 1 < ↑L.length → y21.p 10 → y0.i 1 + 1 + 1 + 1 < ↑L.length ∧ kd L (y0.i 1 + 1 + 1) = 2) fun y21 => (.two (¬y21.p 10) (.an (v1 ∧ 0 ≤ y0.i 1 + 1 + 1 ∧ y0.i 1 + 1 + 1 < ↑L.length) (.al (fun y22 => 0 ≤ y0.i 1 + 1 + 1 ∧ y0.i 1 + 1 + 1 < ↑L.length → y22.p 10 → y0.i 1 + 1 + 1 + 1 < ↑L.length ∧ kd L (y0.i 1 + 1 + 1) = 2) fun y22 => (.two (¬y22.p 10) (.an (v1 ∧ 0 ≤ y0.i 1 + 1 + 1 ∧ y0.i 1 + 1 + 1 < ↑L.length) (.al (fun y23 => 0 ≤ y0.i 1 + 1 + 1 ∧ y0.i 1 + 1 + 1 < ↑L.length → (12 : Int) ≠ 0 → y23.i 2 ≠ 0) fun y23 => (.an v0 (.at (z.i 1 ≤ y0.i 1 + 1 + 1 ∧ y0.i 1 + 1 + 1 < ↑L.length))))) (.an (v1 ∧ 0 ≤ y0.i 1 + 1 + 1 ∧ y0.i 1 + 1 + 1 < ↑L.length) (.al (fun y24 => 0 ≤ y0.i 1 + 1 + 1 ∧ y0.i 1 + 1 + 1 < ↑L.length → (kd L (y0.i 1 + 1 + 1) = 8 ∨ y0.i 1 + 1 + 1 + 1 < ↑L.length) ∧ (tx L (y0.i 1 + 1 + 1)).length ≤ 1000000) fun y24 => (.an ((-9223372036854775808) ≤ y0.i 1 + 1 + 1 + 1 ∧ y0.i 1 + 1 + 1 + 1 ≤ 9223372036854775807) (.an (y20.p 10) (.an v0 (.at (z.i 1 ≤ y0.i 1 + 1 + 1 + 1 ∧ y0.i 1 + 1 + 1 + 1 < ↑L.length)))))))))) (.an (v1 ∧ 0 ≤ y0.i 1 + 1 + 1 ∧ y0.i 1 + 1 + 1 < ↑L.length) (.al (fun y25 => 0 ≤ y0.i 1 + 1 + 1 ∧ y0.i 1 + 1 + 1 < ↑L.length → (kd L (y0.i 1 + 1 + 1) = 8 ∨ y0.i 1 + 1 + 1 + 1 < ↑L.length) ∧ (tx L (y0.i 1 + 1 + 1)).length ≤ 1000000) fun y25 => (.an ((-9223372036854775808) ≤ y0.i 1 + 1 + 1 + 1 ∧ y0.i 1 + 1 + 1 + 1 ≤ 9223372036854775807) (.an (y20.p 10) (.an v0 (.at (z.i 1 ≤ y0.i 1 + 1 + 1 + 1 ∧ y0.i 1 + 1 + 1 + 1 < ↑L.length))))))))))) (.an (v1 ∧ 0 ≤ y0.i 1 + 1 ∧ y0.i 1 + 1 < ↑L.length) (.al (fun y26 => 0 ≤ y0.i 1 + 1 ∧ y0.i 1 + 1 < ↑L.length → y26.p 10 → y0.i 1 + 1 + 1 < ↑L.length ∧ kd L (y0.i 1 + 1) = 2) fun y26 => (.two (¬y26.p 10) (.an (v1 ∧ 0 ≤ y0.i 1 + 1 ∧ y0.i 1 + 1 < ↑L.length) (.al (fun y27 => 0 ≤ y0.i 1 + 1 ∧ y0.i 1 + 1 < ↑L.length → y27.p 10 → y0.i 1 + 1 + 1 < ↑L.length ∧ kd L (y0.i 1 + 1) = 2) fun y27 => (.two (¬y27.p 10) (.an (v1 ∧ 0 ≤ y0.i 1 + 1 ∧ y0.i 1 + 1 < ↑L.length) (.al (fun y28 => 0 ≤ y0.i 1 + 1 ∧ y0.i 1 + 1 < ↑L.length → (12 : Int) ≠ 0 → y28.i 2 ≠ 0) fun y28 => (.an v0 (.at (z.i 1 ≤ y0.i 1 + 1 ∧ y0.i 1 + 1 < ↑L.length))))) (.an (v1 ∧ 0 ≤ y0.i 1 + 1 ∧ y0.i 1 + 1 < ↑L.length) (.al (fun y29 => 0 ≤ y0.i 1 + 1 ∧ y0.i 1 + 1 < ↑L.length → (kd L (y0.i 1 + 1) = 8 ∨ y0.i 1 + 1 + 1 < ↑L.length) ∧ (tx L (y0.i 1 + 1)).length ≤ 1000000) fun y29 => (.an ((-9223372036854775808) ≤ y0.i 1 + 1 + 1 ∧ y0.i 1 + 1 + 1 ≤ 9223372036854775807) (.an (¬ (y20.p 10)) (.an v0 (.at (z.i 1 ≤ y0.i 1 + 1 + 1 ∧ y0.i 1 + 1 + 1 < ↑L.length)))))))))) (.an (v1 ∧ 0 ≤ y0.i 1 + 1 ∧ y0.i 1 + 1 < ↑L.length) (.al (fun y30 => 0 ≤ y0.i 1 + 1 ∧ y0.i 1 + 1 < ↑L.length → (kd L (y0.i 1 + 1) = 8 ∨ y0.i 1 + 1 + 1 < ↑L.length) ∧ (tx L (y0.i 1 + 1)).length ≤ 1000000) fun y30 => (.an ((-9223372036854775808) ≤ y0.i 1 + 1 + 1 ∧ y0.i 1 + 1 + 1 ≤ 9223372036854775807) (.an (¬ (y20.p 10)) (.an v0 (.at (z.i 1 ≤ y0.i 1 + 1 + 1 ∧ y0.i 1 + 1 + 1 < ↑L.length)))))))))))))))))))))))))))))))))))))
theorem F298_e (L : List G) (k : Nat) (z341 : Zf (S341 L k)) (z23m : Zf (S23 L)) (z54m : Zf (S54 L)) (z25m : Zf (S25 L)) (z24m : Zf (S24 L)) (z168 : Zf S168) (z : Sy) : F298 L k z341 z23m z54m z25m z24m z168 z F298_h = F298_t L k z := by kernel_rfl
theorem F298_d (L : List G) (k : Nat) (z : Sy) (hA : A298 L k z) : (F298_t L k z).den := by
  have hB : ((0 < L.length ∧ L.length ≤ 1000000) ∧ Ends L ∧ Txs L) ∧ (0 ≤ z.i 1 ∧ z.i 1 < ↑L.length) ∧ 0 ≤ z.i 4 ∧ z.i 4 ≤ 40 ∧ (40 : Int) - z.i 4 < ↑k := hA
  unfold F298_t
  try conv => zeta
  repeat' (with_reducible first | intro _ | apply fmA | apply fmT | apply fmN | apply fmL | apply fmE)
  all_goals first | omega | grind [symf_ne, symf_bstr, byteAt_lt, tok8]
theorem ok298 (L : List G) (k : Nat) (hg : Toks L) (h341 : Ok Tryz.prog 341 (S341 L k)) (h23m : Ok Tryz.prog 23 (S23 L)) (h54m : Ok Tryz.prog 54 (S54 L)) (h25m : Ok Tryz.prog 25 (S25 L)) (h24m : Ok Tryz.prog 24 (S24 L)) (h168 : Ok Tryz.prog 168 S168) : Ok Tryz.prog 298 (S298 L k) := by
  obtain ⟨z341, h341⟩ := h341
  obtain ⟨z23m, h23m⟩ := h23m
  obtain ⟨z54m, h54m⟩ := h54m
  obtain ⟨z25m, h25m⟩ := h25m
  obtain ⟨z24m, h24m⟩ := h24m
  obtain ⟨z168, h168⟩ := h168
  exact call_ok (n := 1000) (tabOf_ok mN (eC h341 (eC h23m (eC h54m (eC h25m (eC h24m (eC h168 eN)))))) lN) fun z hz => ⟨F298_h, by show (F298 L k z341 z23m z54m z25m z24m z168 z F298_h).den; rw [F298_e]; exact F298_d L k z ⟨hg, hz⟩⟩
noncomputable def F237_h : Hn := (.both (.yes (.both (.yes .nil) .nil)) .nil)
noncomputable def F237_t (L : List G) (k : Nat) (z : Sy) : Fm := let v0 := (0 ≤ z.i 1 + 1 ∧ z.i 1 + 1 < ↑L.length); let v1 := (L = L ∧ True); let v2 := (0 ≤ z.i 1 ∧ z.i 1 < ↑L.length); (.an (v1 ∧ 0 ≤ z.i 1 ∧ z.i 1 < ↑L.length) (.al (fun y0 => 0 ≤ z.i 1 ∧ z.i 1 < ↑L.length → y0.p 10 → z.i 1 + 1 < ↑L.length ∧ kd L (z.i 1) = 2) fun y0 => (.two (y0.p 10) (.an ((-9223372036854775808) ≤ z.i 1 + 1 ∧ z.i 1 + 1 ≤ 9223372036854775807) (.an (v1 ∧ v0 ∧ 0 ≤ z.i 4 ∧ z.i 4 ≤ 40) (.al (fun y1 => v0 ∧ 0 ≤ z.i 4 ∧ z.i 4 ≤ 40 → (y1.p 10 → z.i 4 < 40 ∧ y1.i 4 = z.i 4 + 1) ∧ (¬y1.p 10 → y1.i 4 = z.i 4)) fun y1 => (.two (y1.p 10) (.an (v1 ∧ v0 ∧ 0 ≤ y1.i 4 ∧ y1.i 4 ≤ 40 ∧ (40 : Int) - y1.i 4 < ↑(k - 1)) (.al (fun y2 => v0 ∧ 0 ≤ y1.i 4 ∧ y1.i 4 ≤ 40 ∧ (40 : Int) - y1.i 4 < ↑(k - 1) → z.i 1 + 1 ≤ y2.i 1 ∧ y2.i 1 < ↑L.length) fun y2 => (.an ((-9223372036854775808) ≤ y1.i 4 - 1 ∧ y1.i 4 - 1 ≤ 9223372036854775807) (.an (y1.i 4 - 1 = z.i 4 ∧ L = L ∧ True) (.at (z.i 1 ≤ y2.i 1 ∧ y2.i 1 < ↑L.length)))))) (.an (y1.i 4 = z.i 4 ∧ L = L ∧ True) (.at (z.i 1 ≤ z.i 1 + 1 ∧ z.i 1 + 1 < ↑L.length))))))) (.an (v1 ∧ v2 ∧ 0 ≤ z.i 4 ∧ z.i 4 ≤ 40 ∧ (40 : Int) - z.i 4 < ↑k) (.al (fun y3 => v2 ∧ 0 ≤ z.i 4 ∧ z.i 4 ≤ 40 ∧ (40 : Int) - z.i 4 < ↑k → z.i 1 ≤ y3.i 1 ∧ y3.i 1 < ↑L.length) fun y3 => (.an (z.i 4 = z.i 4 ∧ L = L ∧ True) (.at (z.i 1 ≤ y3.i 1 ∧ y3.i 1 < ↑L.length))))))))
theorem F237_e (L : List G) (k : Nat) (z54m : Zf (S54 L)) (z108m : Zf (S108 L)) (z298 : Zf (S298 L k)) (z237m : Zf (S237 L (k - 1))) (z : Sy) : F237 L k z54m z108m z298 z237m z F237_h = F237_t L k z := by kernel_rfl
theorem F237_d (L : List G) (k : Nat) (z : Sy) (hA : A237 L k z) : (F237_t L k z).den := by
  have hB : ((0 < L.length ∧ L.length ≤ 1000000) ∧ Ends L ∧ Txs L) ∧ (0 ≤ z.i 1 ∧ z.i 1 < ↑L.length) ∧ 0 ≤ z.i 4 ∧ z.i 4 ≤ 40 ∧ (40 : Int) - z.i 4 < ↑k := hA
  unfold F237_t
  try conv => zeta
  repeat' (with_reducible first | intro _ | apply fmA | apply fmT | apply fmN | apply fmL | apply fmE)
  all_goals first | omega | grind [symf_ne, symf_bstr, byteAt_lt, tok8]
theorem ok237 (L : List G) (k : Nat) (hg : Toks L) (h54m : Ok Tryz.prog 54 (S54 L)) (h108m : Ok Tryz.prog 108 (S108 L)) (h298 : Ok Tryz.prog 298 (S298 L k)) (h237m : Ok Tryz.prog 237 (S237 L (k - 1))) : Ok Tryz.prog 237 (S237 L k) := by
  obtain ⟨z54m, h54m⟩ := h54m
  obtain ⟨z108m, h108m⟩ := h108m
  obtain ⟨z298, h298⟩ := h298
  obtain ⟨z237m, h237m⟩ := h237m
  exact call_ok (n := 1000) (tabOf_ok mN (eC h54m (eC h108m (eC h298 (eC h237m eN)))) lN) fun z hz => ⟨F237_h, by show (F237 L k z54m z108m z298 z237m z F237_h).den; rw [F237_e]; exact F237_d L k z ⟨hg, hz⟩⟩
noncomputable def F167a_h : Hn := (.both (.yes .nil) .nil)
noncomputable def F167a_t (L : List G) (k : Nat) (p : Sy) (z : Sy) : Fm := let v0 := (0 ≤ z.i 1 + 1 ∧ z.i 1 + 1 < ↑L.length); let v1 := (L = L ∧ True); (.an (v1 ∧ 0 ≤ z.i 1 ∧ z.i 1 < ↑L.length) (.al (fun y0 => 0 ≤ z.i 1 ∧ z.i 1 < ↑L.length → y0.p 10 → z.i 1 + 1 < ↑L.length ∧ kd L (z.i 1) = 2) fun y0 => (.two (y0.p 10) (.an ((-9223372036854775808) ≤ z.i 1 + 1 ∧ z.i 1 + 1 ≤ 9223372036854775807) (.an (v1 ∧ v0 ∧ 0 ≤ z.i 4 ∧ z.i 4 ≤ 40 ∧ (40 : Int) - z.i 4 < ↑k) (.al (fun y1 => v0 ∧ 0 ≤ z.i 4 ∧ z.i 4 ≤ 40 ∧ (40 : Int) - z.i 4 < ↑k → z.i 1 + 1 ≤ y1.i 1 ∧ y1.i 1 < ↑L.length) fun y1 => (.an (True ∧ True) (.al (fun y2 => True → True) fun y2 => (.an v1 (.at (((0 ≤ y1.i 1 ∧ y1.i 1 < ↑L.length) ∧ 0 ≤ z.i 4 ∧ z.i 4 ≤ 40 ∧ (40 : Int) - z.i 4 < ↑k) ∧ (↑L.length - y1.i 1).toNat < (↑L.length - z.i 1).toNat ∧ ∀ (y : Sy), (y1.i 1 ≤ y.i 1 ∧ y.i 1 < ↑L.length) ∧ y.i 4 = z.i 4 → (z.i 1 ≤ y.i 1 ∧ y.i 1 < ↑L.length) ∧ y.i 4 = z.i 4)))))))) (.an v1 (.at ((z.i 1 ≤ z.i 1 ∧ z.i 1 < ↑L.length) ∧ z.i 4 = z.i 4))))))
theorem F167a_e (L : List G) (k : Nat) (z54m : Zf (S54 L)) (z168 : Zf S168) (z237 : Zf (S237 L k)) (p : Sy) (z : Sy) : F167a L k z54m z168 z237 p z F167a_h = F167a_t L k p z := by kernel_rfl
theorem F167a_d (L : List G) (k : Nat) (p : Sy) (z : Sy) (hA : A167a L k p z) : (F167a_t L k p z).den := by
  have hB : ((0 < L.length ∧ L.length ≤ 1000000) ∧ Ends L ∧ Txs L) ∧ (0 ≤ z.i 1 ∧ z.i 1 < ↑L.length) ∧ 0 ≤ z.i 4 ∧ z.i 4 ≤ 40 ∧ (40 : Int) - z.i 4 < ↑k := hA
  unfold F167a_t
  try conv => zeta
  repeat' (with_reducible first | intro _ | apply fmA | apply fmT | apply fmN | apply fmL | apply fmE)
  all_goals first | omega | grind [symf_ne, symf_bstr, byteAt_lt, tok8]
theorem ok167a (L : List G) (k : Nat) (hg : Toks L) (h54m : Ok Tryz.prog 54 (S54 L)) (h168 : Ok Tryz.prog 168 S168) (h237 : Ok Tryz.prog 237 (S237 L k)) : OkL Tryz.prog 167 0 (S167a L k) := by
  obtain ⟨z54m, h54m⟩ := h54m
  obtain ⟨z168, h168⟩ := h168
  obtain ⟨z237, h237⟩ := h237
  exact okL_of (n := 1000) (tabOf_ok mN (eC h54m (eC h168 (eC h237 eN))) lN) (by kernel_rfl) (fun p => Nat.le_of_ble_eq_true rfl) fun p z hz => ⟨F167a_h, by show (F167a L k z54m z168 z237 p z F167a_h).den; rw [F167a_e]; exact F167a_d L k p z ⟨hg, hz⟩⟩
noncomputable def F167_h : Hn := .nil
noncomputable def F167_t (L : List G) (k : Nat) (z : Sy) : Fm := let v0 := (0 ≤ z.i 1 ∧ z.i 1 < ↑L.length); (.an ((L = L ∧ True) ∧ v0 ∧ 0 ≤ z.i 4 ∧ z.i 4 ≤ 40 ∧ (40 : Int) - z.i 4 < ↑k) (.al (fun y0 => v0 ∧ 0 ≤ z.i 4 ∧ z.i 4 ≤ 40 ∧ (40 : Int) - z.i 4 < ↑k → z.i 1 ≤ y0.i 1 ∧ y0.i 1 < ↑L.length) fun y0 => (.an ((L = L ∧ True) ∧ (0 ≤ y0.i 1 ∧ y0.i 1 < ↑L.length) ∧ 0 ≤ z.i 4 ∧ z.i 4 ≤ 40 ∧ (40 : Int) - z.i 4 < ↑k) (.al (fun y1 => (0 ≤ y0.i 1 ∧ y0.i 1 < ↑L.length) ∧ 0 ≤ z.i 4 ∧ z.i 4 ≤ 40 ∧ (40 : Int) - z.i 4 < ↑k → (y0.i 1 ≤ y1.i 1 ∧ y1.i 1 < ↑L.length) ∧ y1.i 4 = z.i 4) fun y1 => (.an (y1.i 4 = z.i 4 ∧ L = L ∧ True) (.at (z.i 1 ≤ y1.i 1 ∧ y1.i 1 < ↑L.length)))))))
theorem F167_e (L : List G) (k : Nat) (z237 : Zf (S237 L k)) (z167a : Lf0 (S167a L k)) (z : Sy) : F167 L k z237 z167a z F167_h = F167_t L k z := by kernel_rfl
theorem F167_d (L : List G) (k : Nat) (z : Sy) (hA : A167 L k z) : (F167_t L k z).den := by
  have hB : ((0 < L.length ∧ L.length ≤ 1000000) ∧ Ends L ∧ Txs L) ∧ (0 ≤ z.i 1 ∧ z.i 1 < ↑L.length) ∧ 0 ≤ z.i 4 ∧ z.i 4 ≤ 40 ∧ (40 : Int) - z.i 4 < ↑k := hA
  unfold F167_t
  try conv => zeta
  repeat' (with_reducible first | intro _ | apply fmA | apply fmT | apply fmN | apply fmL | apply fmE)
  all_goals first | omega | grind [symf_ne, symf_bstr, byteAt_lt, tok8]
theorem ok167 (L : List G) (k : Nat) (hg : Toks L) (h237 : Ok Tryz.prog 237 (S237 L k)) (h167a : OkL Tryz.prog 167 0 (S167a L k)) : Ok Tryz.prog 167 (S167 L k) := by
  obtain ⟨z237, h237⟩ := h237
  obtain ⟨z167a, h167a⟩ := h167a
  exact call_ok (n := 1000) (tabOf_ok mN (eC h237 eN) (lC h167a lN)) fun z hz => ⟨F167_h, by show (F167 L k z237 z167a z F167_h).den; rw [F167_e]; exact F167_d L k z ⟨hg, hz⟩⟩
noncomputable def F109a_h : Hn := (.both (.yes .nil) .nil)
noncomputable def F109a_t (L : List G) (k : Nat) (p : Sy) (z : Sy) : Fm := let v0 := (0 ≤ z.i 1 + 1 ∧ z.i 1 + 1 < ↑L.length); let v1 := (L = L ∧ True); (.an (v1 ∧ 0 ≤ z.i 1 ∧ z.i 1 < ↑L.length) (.al (fun y0 => 0 ≤ z.i 1 ∧ z.i 1 < ↑L.length → y0.p 10 → z.i 1 + 1 < ↑L.length ∧ kd L (z.i 1) = 2) fun y0 => (.two (y0.p 10) (.an ((-9223372036854775808) ≤ z.i 1 + 1 ∧ z.i 1 + 1 ≤ 9223372036854775807) (.an (v1 ∧ v0 ∧ 0 ≤ z.i 4 ∧ z.i 4 ≤ 40 ∧ (40 : Int) - z.i 4 < ↑k) (.al (fun y1 => v0 ∧ 0 ≤ z.i 4 ∧ z.i 4 ≤ 40 ∧ (40 : Int) - z.i 4 < ↑k → z.i 1 + 1 ≤ y1.i 1 ∧ y1.i 1 < ↑L.length) fun y1 => (.an (True ∧ True) (.al (fun y2 => True → True) fun y2 => (.an v1 (.at (((0 ≤ y1.i 1 ∧ y1.i 1 < ↑L.length) ∧ 0 ≤ z.i 4 ∧ z.i 4 ≤ 40 ∧ (40 : Int) - z.i 4 < ↑k) ∧ (↑L.length - y1.i 1).toNat < (↑L.length - z.i 1).toNat ∧ ∀ (y : Sy), (y1.i 1 ≤ y.i 1 ∧ y.i 1 < ↑L.length) ∧ y.i 4 = z.i 4 → (z.i 1 ≤ y.i 1 ∧ y.i 1 < ↑L.length) ∧ y.i 4 = z.i 4)))))))) (.an v1 (.at ((z.i 1 ≤ z.i 1 ∧ z.i 1 < ↑L.length) ∧ z.i 4 = z.i 4))))))
theorem F109a_e (L : List G) (k : Nat) (z54m : Zf (S54 L)) (z168 : Zf S168) (z167 : Zf (S167 L k)) (p : Sy) (z : Sy) : F109a L k z54m z168 z167 p z F109a_h = F109a_t L k p z := by kernel_rfl
theorem F109a_d (L : List G) (k : Nat) (p : Sy) (z : Sy) (hA : A109a L k p z) : (F109a_t L k p z).den := by
  have hB : ((0 < L.length ∧ L.length ≤ 1000000) ∧ Ends L ∧ Txs L) ∧ (0 ≤ z.i 1 ∧ z.i 1 < ↑L.length) ∧ 0 ≤ z.i 4 ∧ z.i 4 ≤ 40 ∧ (40 : Int) - z.i 4 < ↑k := hA
  unfold F109a_t
  try conv => zeta
  repeat' (with_reducible first | intro _ | apply fmA | apply fmT | apply fmN | apply fmL | apply fmE)
  all_goals first | omega | grind [symf_ne, symf_bstr, byteAt_lt, tok8]
theorem ok109a (L : List G) (k : Nat) (hg : Toks L) (h54m : Ok Tryz.prog 54 (S54 L)) (h168 : Ok Tryz.prog 168 S168) (h167 : Ok Tryz.prog 167 (S167 L k)) : OkL Tryz.prog 109 0 (S109a L k) := by
  obtain ⟨z54m, h54m⟩ := h54m
  obtain ⟨z168, h168⟩ := h168
  obtain ⟨z167, h167⟩ := h167
  exact okL_of (n := 1000) (tabOf_ok mN (eC h54m (eC h168 (eC h167 eN))) lN) (by kernel_rfl) (fun p => Nat.le_of_ble_eq_true rfl) fun p z hz => ⟨F109a_h, by show (F109a L k z54m z168 z167 p z F109a_h).den; rw [F109a_e]; exact F109a_d L k p z ⟨hg, hz⟩⟩
noncomputable def F109_h : Hn := .nil
noncomputable def F109_t (L : List G) (k : Nat) (z : Sy) : Fm := let v0 := (0 ≤ z.i 1 ∧ z.i 1 < ↑L.length); (.an ((L = L ∧ True) ∧ v0 ∧ 0 ≤ z.i 4 ∧ z.i 4 ≤ 40 ∧ (40 : Int) - z.i 4 < ↑k) (.al (fun y0 => v0 ∧ 0 ≤ z.i 4 ∧ z.i 4 ≤ 40 ∧ (40 : Int) - z.i 4 < ↑k → z.i 1 ≤ y0.i 1 ∧ y0.i 1 < ↑L.length) fun y0 => (.an ((L = L ∧ True) ∧ (0 ≤ y0.i 1 ∧ y0.i 1 < ↑L.length) ∧ 0 ≤ z.i 4 ∧ z.i 4 ≤ 40 ∧ (40 : Int) - z.i 4 < ↑k) (.al (fun y1 => (0 ≤ y0.i 1 ∧ y0.i 1 < ↑L.length) ∧ 0 ≤ z.i 4 ∧ z.i 4 ≤ 40 ∧ (40 : Int) - z.i 4 < ↑k → (y0.i 1 ≤ y1.i 1 ∧ y1.i 1 < ↑L.length) ∧ y1.i 4 = z.i 4) fun y1 => (.an (y1.i 4 = z.i 4 ∧ L = L ∧ True) (.at (z.i 1 ≤ y1.i 1 ∧ y1.i 1 < ↑L.length)))))))
theorem F109_e (L : List G) (k : Nat) (z167 : Zf (S167 L k)) (z109a : Lf0 (S109a L k)) (z : Sy) : F109 L k z167 z109a z F109_h = F109_t L k z := by kernel_rfl
theorem F109_d (L : List G) (k : Nat) (z : Sy) (hA : A109 L k z) : (F109_t L k z).den := by
  have hB : ((0 < L.length ∧ L.length ≤ 1000000) ∧ Ends L ∧ Txs L) ∧ (0 ≤ z.i 1 ∧ z.i 1 < ↑L.length) ∧ 0 ≤ z.i 4 ∧ z.i 4 ≤ 40 ∧ (40 : Int) - z.i 4 < ↑k := hA
  unfold F109_t
  try conv => zeta
  repeat' (with_reducible first | intro _ | apply fmA | apply fmT | apply fmN | apply fmL | apply fmE)
  all_goals first | omega | grind [symf_ne, symf_bstr, byteAt_lt, tok8]
theorem ok109 (L : List G) (k : Nat) (hg : Toks L) (h167 : Ok Tryz.prog 167 (S167 L k)) (h109a : OkL Tryz.prog 109 0 (S109a L k)) : Ok Tryz.prog 109 (S109 L k) := by
  obtain ⟨z167, h167⟩ := h167
  obtain ⟨z109a, h109a⟩ := h109a
  exact call_ok (n := 1000) (tabOf_ok mN (eC h167 eN) (lC h109a lN)) fun z hz => ⟨F109_h, by show (F109 L k z167 z109a z F109_h).den; rw [F109_e]; exact F109_d L k z ⟨hg, hz⟩⟩
end Go.Proofs.YtldnnonkobikdaaGreatDoor
namespace Go.Proofs.YtldnnonkobikdaaGreatDoor
open Go.Sym
set_option linter.unusedVariables false
theorem okV {P : Program} {f : Nat} {S : FSpec} (h : ∀ z, ¬ S.pre z) : Ok P f S :=
  ⟨fun z => ⟨⟨fun _ => 0, fun _ => [], fun _ => False, fun _ => []⟩, fun hp => absurd hp (h z)⟩, fun z hz => absurd hz (h z)⟩
theorem se0 (L : List G) (z : Sy) : ¬ (Se L 0).pre z := by
  intro h
  have h : AtL L 0 z := h
  omega
structure Lev (L : List G) (k : Nat) : Prop where
  or : Ok Tryz.prog 109 (Se L k)
  un : Ok Tryz.prog 376 (Se L k)
  no : Ok Tryz.prog 237 (Se L k)
  ex : Ok Tryz.prog 58 (Se L k)
  pa : Ok Tryz.prog 166 (Se L k)
theorem lev_all (L : List G) (hg : Toks L) (h103 : Ok Tryz.prog 103 S103) (h104 : Ok Tryz.prog 104 S104) : ∀ k, Lev L k := by
  have o24 := ok24 L hg
  have o25 := ok25 L hg o24
  have o62 := ok62 L hg o24
  have o54 := ok54 L hg o62
  have o23 := ok23 L hg o62
  have o56 := ok56 L hg o62 o25
  have o57 := ok57 L hg o24 o25
  have o106 := ok106 L hg o25
  have o108 := ok108 L hg o25
  have o340 := ok340 ok340a
  intro k
  induction k with
  | zero => exact ⟨okV (se0 L), okV (se0 L), okV (se0 L), okV (se0 L), okV (se0 L)⟩
  | succ k ih =>
    have o58 := ok58 L (k + 1) hg o108 ih.or
    have o296 := ok296 L (k + 1) hg o23 o56 (ok296a L (k + 1) hg o106 o58 o23)
    have o297 := ok297 L (k + 1) hg o23 o56 (ok297a L (k + 1) hg o106 o24 h104 o25 o56 o58 o340 o23)
    have o236 := ok236 L (k + 1) hg o24 o25 h103 h104 ok295 o54 o23 o56 o296 o297 o58
    have o166 := ok166 L (k + 1) hg o236 (ok166a L (k + 1) hg o23 o57 o58 o56)
    have o376 := ok376 L (k + 1) hg o23 o108 o166 ih.un
    have o364 := ok364 L (k + 1) hg o376 (ok364a L (k + 1) hg o23 ok168 o376)
    have o341 := ok341 L (k + 1) hg o364 (ok341a L (k + 1) hg o23 o24 ok168 o364)
    have o298 := ok298 L (k + 1) hg o341 o23 o54 o25 o24 ok168
    have o237 := ok237 L (k + 1) hg o54 o108 o298 ih.no
    have o167 := ok167 L (k + 1) hg o237 (ok167a L (k + 1) hg o54 ok168 o237)
    exact ⟨ok109 L (k + 1) hg o167 (ok109a L (k + 1) hg o54 ok168 o167), o376, o237, o58, o166⟩
end Go.Proofs.YtldnnonkobikdaaGreatDoor
