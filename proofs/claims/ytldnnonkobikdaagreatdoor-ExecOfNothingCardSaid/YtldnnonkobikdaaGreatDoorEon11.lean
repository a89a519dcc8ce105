/- Formulas, by program (gen.py): batch 11; Formulas told and proved, by program (gen.py): batch 11; Formulas, by program (gen.py): batch 12; Formulas told and proved, by program (gen.py): batch 12. -/
import Derived.Test.YtldnnonkobikdaaGreatDoorEon8
import Derived.Test.YtldnnonkobikdaaGreatDoorEon9
namespace Go.Proofs.YtldnnonkobikdaaGreatDoor
open Go.Sym
noncomputable section
def F294a   (p z : Sy) (h : Hn) : Fm := (S294a p).roundFm Tryz.prog (tabOf [] [] []) 1000 294 0 z h
def A294a  (p z : Sy) : Prop := True ∧ (S294a p).inv z
def F294  (z294a : Lf0 S294a) (z : Sy) (h : Hn) : Fm := S294.callFm Tryz.prog (tabOf [] [] [⟨294, 0, loopN Tryz.prog 294 0, [(0, .c (.s 1))], S294a, z294a⟩]) 1000 294 z h
def A294  (z : Sy) : Prop := True ∧ S294.pre z
def F338   (z : Sy) (h : Hn) : Fm := S338.callFm Tryz.prog (tabOf [] [] []) 1000 338 z h
def A338  (z : Sy) : Prop := True ∧ S338.pre z
def F339   (z : Sy) (h : Hn) : Fm := S339.callFm Tryz.prog (tabOf [] [] []) 1000 339 z h
def A339  (z : Sy) : Prop := True ∧ S339.pre z
def F293a   (p z : Sy) (h : Hn) : Fm := (S293a p).roundFm Tryz.prog (tabOf [] [] []) 1000 293 0 z h
def A293a  (p z : Sy) : Prop := True ∧ (S293a p).inv z
def F293  (z293a : Lf0 S293a) (z : Sy) (h : Hn) : Fm := S293.callFm Tryz.prog (tabOf [] [] [⟨293, 0, loopN Tryz.prog 293 0, [], S293a, z293a⟩]) 1000 293 z h
def A293  (z : Sy) : Prop := True ∧ S293.pre z
def F292a   (p z : Sy) (h : Hn) : Fm := (S292a p).roundFm Tryz.prog (tabOf [] [] []) 1000 292 0 z h
def A292a  (p z : Sy) : Prop := True ∧ (S292a p).inv z
def F292  (z338 : Zf S338) (z339 : Zf S339) (z293 : Zf S293) (z292a : Lf0 S292a) (z : Sy) (h : Hn) : Fm := S292.callFm Tryz.prog (tabOf [] [⟨338, S338, z338, false⟩, ⟨339, S339, z339, false⟩, ⟨293, S293, z293, false⟩] [⟨292, 0, loopN Tryz.prog 292 0, [(0, .ag va)], S292a, z292a⟩]) 1000 292 z h
def A292  (z : Sy) : Prop := True ∧ S292.pre z
def F235a   (p z : Sy) (h : Hn) : Fm := (S235a p).roundFm Tryz.prog (tabOf [] [] []) 1000 235 1 z h
def A235a  (p z : Sy) : Prop := True ∧ (S235a p).inv z
def F235b (k : Nat) (z235m : Zf (S235 k)) (p z : Sy) (h : Hn) : Fm := ((S235b (k + 1)) p).roundFm Tryz.prog (tabOf [] [⟨235, (S235 k), z235m, false⟩] []) 1000 235 3 z h
def A235b (k : Nat) (p z : Sy) : Prop := True ∧ ((S235b (k + 1)) p).inv z
def F235c (k : Nat) (z294 : Zf S294) (z235m : Zf (S235 k)) (p z : Sy) (h : Hn) : Fm := ((S235c (k + 1)) p).roundFm Tryz.prog (tabOf [] [⟨294, S294, z294, false⟩, ⟨235, (S235 k), z235m, false⟩] []) 1000 235 5 z h
def A235c (k : Nat) (p z : Sy) : Prop := True ∧ ((S235c (k + 1)) p).inv z
def F235 (k : Nat) (z294 : Zf S294) (z292 : Zf S292) (z293 : Zf S293) (z235a : Lf0 S235a) (z235bm : Lf0 (S235b (k + 1))) (z235cm : Lf0 (S235c (k + 1))) (z : Sy) (h : Hn) : Fm := (S235 (k + 1)).callFm Tryz.prog (tabOf [] [⟨294, S294, z294, false⟩, ⟨292, S292, z292, false⟩, ⟨293, S293, z293, false⟩] [⟨235, 1, loopN Tryz.prog 235 1, [(0, .ag va)], S235a, z235a⟩, ⟨235, 3, loopN Tryz.prog 235 3, [(0, .ag va)], (S235b (k + 1)), z235bm⟩, ⟨235, 5, loopN Tryz.prog 235 5, [(0, .ag va)], (S235c (k + 1)), z235cm⟩]) 1000 235 z h
def A235 (k : Nat) (z : Sy) : Prop := True ∧ (S235 (k + 1)).pre z
def F163  (z234 : Zf S234) (z235m : Zf (S235 17)) (z : Sy) (h : Hn) : Fm := S163.callFm Tryz.prog (tabOf [] [⟨234, S234, z234, false⟩, ⟨235, (S235 17), z235m, false⟩] []) 1000 163 z h
def A163  (z : Sy) : Prop := True ∧ S163.pre z
end
end Go.Proofs.YtldnnonkobikdaaGreatDoor
namespace Go.Proofs.YtldnnonkobikdaaGreatDoor
open Go.Sym
set_option linter.unusedVariables false
set_option maxRecDepth 100000
set_option maxHeartbeats 4000000
noncomputable def F294a_h : Hn := (.both (.both (.yes .nil) (.both (.yes (.yes (.yes .nil))) (.both (.yes (.yes (.yes .nil))) (.both (.yes (.yes (.yes .nil))) (.yes .nil))))) .nil)
noncomputable def F294a_t (p : Sy) (z : Sy) : Fm := let v1 := (↑(byteAt (p.s 1) (z.i 3).toNat) : Int); let v0 := (z.s 20 ++ [Int.toNat 92, (↑(byteAt [48, 49, 50, 51, 52, 53, 54, 55, 56, 57, 97, 98, 99, 100, 101, 102] (v1 / 16 % 256).toNat) : Int).toNat, (↑(byteAt [48, 49, 50, 51, 52, 53, 54, 55, 56, 57, 97, 98, 99, 100, 101, 102] (v1 % 16).toNat) : Int).toNat]); let v2 := ((z.s 20).length = (z.s 20).length ∧ (z.s 20).length ≤ 1000000000 ∧ (0 : Int) ≤ 92 ∧ 0 ≤ (↑(byteAt [48, 49, 50, 51, 52, 53, 54, 55, 56, 57, 97, 98, 99, 100, 101, 102] (v1 / 16 % 256).toNat) : Int) ∧ 0 ≤ (↑(byteAt [48, 49, 50, 51, 52, 53, 54, 55, 56, 57, 97, 98, 99, 100, 101, 102] (v1 % 16).toNat) : Int) ∧ True); let v3 := ((-9223372036854775808) ≤ z.i 3 + 1 ∧ z.i 3 + 1 ≤ 9223372036854775807); let v5 := (↑(p.s 1).length : Int); let v6 := (0 ≤ v1 ∧ (0 : Int) < 16); let v7 := (v0.length = (z.s 20).length + 3 ∧ p.s 1 = p.s 1 ∧ True); let v8 := (0 ≤ v1 / 16 % 256 ∧ v1 / 16 % 256 < (↑16 : Int)); let v9 := ((16 : Int) ≠ 0); let v10 := (0 ≤ v1 % 16 ∧ v1 % 16 < (↑16 : Int)); let v11 := (v5 - (z.i 3 + 1)); let v12 := (0 ≤ z.i 3 + 1 ∧ z.i 3 + 1 ≤ ↑(p.s 1).length); let v4 := ((p.s 1).length ≤ 1000000 ∧ v12 ∧ (↑v0.length : Int) ≤ 1 + 3 * (z.i 3 + 1)); let v13 := (z.s 20 ++ [Int.toNat 39, Int.toNat 39]); let v14 := (v5 - z.i 3); (.two (z.i 3 < ↑(p.s 1).length) (.an (0 ≤ z.i 3 ∧ z.i 3 < ↑(p.s 1).length) (.two (v1 = 39) (.an ((z.s 20).length = (z.s 20).length ∧ (z.s 20).length ≤ 1000000000 ∧ (0 : Int) ≤ 39 ∧ (0 : Int) ≤ 39 ∧ True) (.an v3 (.an (v13.length = (z.s 20).length + 2 ∧ p.s 1 = p.s 1 ∧ True) (.at (((p.s 1).length ≤ 1000000 ∧ v12 ∧ (↑v13.length : Int) ≤ 1 + 3 * (z.i 3 + 1)) ∧ v11.toNat < v14.toNat ∧ ∀ (y : Sy), (y.s 20).length ≤ 1 + 3 * (p.s 1).length → (y.s 20).length ≤ 1 + 3 * (p.s 1).length))))) (.two (v1 < 32) (.an v9 (.an v6 (.an v8 (.an v9 (.an v6 (.an v10 (.an v2 (.an v3 (.an v7 (.at (v4 ∧ v11.toNat < v14.toNat ∧ ∀ (y : Sy), (y.s 20).length ≤ 1 + 3 * (p.s 1).length → (y.s 20).length ≤ 1 + 3 * (p.s 1).length))))))))))) (.two (126 < v1) (.an v9 (.an v6 (.an v8 (.an v9 (.an v6 (.an v10 (.an v2 (.an v3 (.an v7 (.at (v4 ∧ v11.toNat < v14.toNat ∧ ∀ (y : Sy), (y.s 20).length ≤ 1 + 3 * (p.s 1).length → (y.s 20).length ≤ 1 + 3 * (p.s 1).length))))))))))) (.two (v1 = 92) (.an v9 (.an v6 (.an v8 (.an v9 (.an v6 (.an v10 (.an v2 (.an v3 (.an v7 (.at (v4 ∧ v11.toNat < v14.toNat ∧ ∀ (y : Sy), (y.s 20).length ≤ 1 + 3 * (p.s 1).length → (y.s 20).length ≤ 1 + 3 * (p.s 1).length))))))))))) (.an ((z.s 20).length = (z.s 20).length ∧ (z.s 20).length ≤ 1000000000 ∧ 0 ≤ v1 ∧ True) (.an v3 (.an ((z.s 20 ++ [v1.toNat]).length = (z.s 20).length + 1 ∧ p.s 1 = p.s 1 ∧ True) (.at (((p.s 1).length ≤ 1000000 ∧ v12 ∧ (↑(z.s 20 ++ [v1.toNat]).length : Int) ≤ 1 + 3 * (z.i 3 + 1)) ∧ v11.toNat < v14.toNat ∧ ∀ (y : Sy), (y.s 20).length ≤ 1 + 3 * (p.s 1).length → (y.s 20).length ≤ 1 + 3 * (p.s 1).length)))))))))) (.an ((z.s 20).length = (z.s 20).length ∧ True) (.at ((z.s 20).length ≤ 1 + 3 * (p.s 1).length))))
theorem F294a_e (p : Sy) (z : Sy) : F294a p z F294a_h = F294a_t p z := by kernel_rfl
theorem F294a_d (p : Sy) (z : Sy) (hA : A294a p z) : (F294a_t p z).den := by
  have hB : True ∧ (p.s 1).length ≤ 1000000 ∧ (0 ≤ z.i 3 ∧ z.i 3 ≤ ↑(p.s 1).length) ∧ (↑(z.s 20).length : Int) ≤ 1 + 3 * z.i 3 := hA
  unfold F294a_t
  try conv => zeta
  repeat' (with_reducible first | intro _ | apply fmA | apply fmT | apply fmN | apply fmL | apply fmE)
  all_goals first | omega | grind [symf_ne, symf_bstr, byteAt_lt]
theorem ok294a : OkL Tryz.prog 294 0 S294a := by
  exact okL_of (n := 1000) (tabOf_ok mN eN lN) (by kernel_rfl) (fun p => Nat.le_of_ble_eq_true rfl) fun p z hz => ⟨F294a_h, by show (F294a p z F294a_h).den; rw [F294a_e]; exact F294a_d p z ⟨trivial, hz⟩⟩
noncomputable def F294_h : Hn := .nil
noncomputable def F294_t (z : Sy) : Fm := let v0 := ((0 : Int) ≤ 0 ∧ 0 ≤ (↑(z.s 1).length : Int)); (.an ((0 : Int) ≤ 39 ∧ True) (.an (1 = 1) (.an ((1 = 1 ∧ z.s 1 = z.s 1 ∧ True) ∧ (z.s 1).length ≤ 1000000 ∧ v0 ∧ (↑1 : Int) ≤ 1 + 3 * 0) (.al (fun y0 => (z.s 1).length ≤ 1000000 ∧ v0 ∧ (↑1 : Int) ≤ 1 + 3 * 0 → (y0.s 20).length ≤ 1 + 3 * (z.s 1).length) fun y0 => (.an ((y0.s 20).length = (y0.s 20).length ∧ (y0.s 20).length ≤ 1000000000 ∧ (0 : Int) ≤ 39 ∧ True) (.an ((y0.s 20 ++ [Int.toNat 39]).length = (y0.s 20).length + 1) (.an (True) (.at ((bstr (y0.s 20 ++ [Int.toNat 39])).length ≤ 3 * (z.s 1).length + 2)))))))))
theorem F294_e (z294a : Lf0 S294a) (z : Sy) : F294 z294a z F294_h = F294_t z := by kernel_rfl
theorem F294_d (z : Sy) (hA : A294 z) : (F294_t z).den := by
  have hB : True ∧ (z.s 1).length ≤ 1000000 := hA
  unfold F294_t
  try conv => zeta
  repeat' (with_reducible first | intro _ | apply fmA | apply fmT | apply fmN | apply fmL | apply fmE)
  all_goals first | omega | grind [symf_ne, symf_bstr, byteAt_lt]
theorem ok294 (h294a : OkL Tryz.prog 294 0 S294a) : Ok Tryz.prog 294 S294 := by
  obtain ⟨z294a, h294a⟩ := h294a
  exact call_ok (n := 1000) (tabOf_ok mN eN (lC h294a lN)) fun z hz => ⟨F294_h, by show (F294 z294a z F294_h).den; rw [F294_e]; exact F294_d z ⟨trivial, hz⟩⟩
noncomputable def F338_h : Hn := (.both (.both (.no (.no (.yes (.both .nil (.both .nil .nil))))) (.no (.no (.yes (.both .nil (.both .nil (.both .nil (.no .nil)))))))) (.both (.both (.no (.no (.no (.yes (.both .nil (.both .nil (.both (.both .nil (.both .nil .nil)) (.both .nil (.both .nil .nil))))))))) (.no (.no (.no (.yes (.both .nil (.both .nil (.both (.both .nil (.both .nil (.both .nil (.no .nil)))) (.both .nil (.both .nil (.both .nil (.no .nil)))))))))))) .nil))
noncomputable def F338_t (z : Sy) : Fm := let v0 := (0 < (↑(z.g 6).length : Int)); let v1 := (0 < (↑(z.g 5).length : Int)); let v2 := (z.s 4 ≠ []); let v3 := (¬ (z.i 1 = 1)); let v4 := (¬ (z.i 1 = 2)); let v5 := (0 ≤ z.i 2 ∧ (0 : Int) < 10); (.two (z.i 1 = 3) (.two v0 (.an v3 (.an v4 (.an (z.i 1 = 3) (.two (z.i 3 ≠ 0) (.an (True) (.at (True))) (.two v2 (.an (True) (.at (True))) (.an (True) (.at (True)))))))) (.an v3 (.an v4 (.an (z.i 1 = 3) (.two (z.i 3 ≠ 0) (.an (True) (.at (True))) (.two v2 (.an (True) (.at (True))) (.two v1 (.an (True) (.at (True))) (.an (¬ v0) (.an (True) (.at (True))))))))))) (.two (z.i 1 = 4) (.two v0 (.an v3 (.an v4 (.an (¬ (z.i 1 = 3)) (.an (z.i 1 = 4) (.two (z.i 3 < 1) (.an (True) (.at (True))) (.two (18 < z.i 3) (.an (True) (.at (True))) (.an ((10 : Int) ≠ 0) (.two v5 (.two (z.i 2 % 10 = 0) (.an (True) (.at (True))) (.two v2 (.an (True) (.at (True))) (.an (True) (.at (True))))) (.two ((z.i 2).tmod 10 = 0) (.an (True) (.at (True))) (.two v2 (.an (True) (.at (True))) (.an (True) (.at (True))))))))))))) (.an v3 (.an v4 (.an (¬ (z.i 1 = 3)) (.an (z.i 1 = 4) (.two (z.i 3 < 1) (.an (True) (.at (True))) (.two (18 < z.i 3) (.an (True) (.at (True))) (.an ((10 : Int) ≠ 0) (.two v5 (.two (z.i 2 % 10 = 0) (.an (True) (.at (True))) (.two v2 (.an (True) (.at (True))) (.two v1 (.an (True) (.at (True))) (.an (¬ v0) (.an (True) (.at (True))))))) (.two ((z.i 2).tmod 10 = 0) (.an (True) (.at (True))) (.two v2 (.an (True) (.at (True))) (.two v1 (.an (True) (.at (True))) (.an (¬ v0) (.an (True) (.at (True)))))))))))))))) (.an (True) (.at (True)))))
theorem F338_e (z : Sy) : F338 z F338_h = F338_t z := by kernel_rfl
theorem F338_d (z : Sy) (hA : A338 z) : (F338_t z).den := by
  have hB : True ∧ True := hA
  unfold F338_t
  try conv => zeta
  repeat' (with_reducible first | intro _ | apply fmA | apply fmT | apply fmN | apply fmL | apply fmE)
  all_goals first | omega | grind [symf_ne, symf_bstr, byteAt_lt]
theorem ok338 : Ok Tryz.prog 338 S338 := by
  exact call_ok (n := 1000) (tabOf_ok mN eN lN) fun z hz => ⟨F338_h, by show (F338 z F338_h).den; rw [F338_e]; exact F338_d z ⟨trivial, hz⟩⟩
noncomputable def F339_h : Hn := (.both (.both (.both .nil .nil) (.both .nil .nil)) .nil)
noncomputable def F339_t (z : Sy) : Fm := let v0 := (0 - Go.IntKind.i64.wrap (z.i 1 + 1)); let v1 := (Go.IntKind.i64.wrap (0 - (z.i 1 + 1)) % 18446744073709551616 + 1); let v2 := (Go.IntKind.i64.wrap v0 % 18446744073709551616 + 1); let v3 := ((0 - (z.i 1 + 1)) % 18446744073709551616 + 1); let v4 := (v0 % 18446744073709551616 + 1); let v5 := (-9223372036854775808 : Int); (.two (z.i 1 < 0) (.two ((-9223372036854775808) ≤ z.i 1 + 1 ∧ z.i 1 + 1 ≤ 9223372036854775807) (.two (v5 ≤ 0 - (z.i 1 + 1) ∧ 0 - (z.i 1 + 1) ≤ 9223372036854775807) (.an (True) (.at (0 ≤ v3 % 18446744073709551616 ∧ v3 % (18446744073709551616 : Int) < 18446744073709551616))) (.an (True) (.at (0 ≤ v1 % 18446744073709551616 ∧ v1 % 18446744073709551616 < 18446744073709551616)))) (.two (v5 ≤ 0 - Go.IntKind.i64.wrap (z.i 1 + 1) ∧ 0 - Go.IntKind.i64.wrap (z.i 1 + 1) ≤ 9223372036854775807) (.an (True) (.at (0 ≤ v4 % 18446744073709551616 ∧ v4 % 18446744073709551616 < 18446744073709551616))) (.an (True) (.at (0 ≤ v2 % 18446744073709551616 ∧ v2 % 18446744073709551616 < 18446744073709551616))))) (.an (True) (.at (0 ≤ z.i 1 % 18446744073709551616 ∧ z.i 1 % 18446744073709551616 < 18446744073709551616))))
theorem F339_e (z : Sy) : F339 z F339_h = F339_t z := by kernel_rfl
theorem F339_d (z : Sy) (hA : A339 z) : (F339_t z).den := by
  have hB : True ∧ True := hA
  unfold F339_t
  try conv => zeta
  repeat' (with_reducible first | intro _ | apply fmA | apply fmT | apply fmN | apply fmL | apply fmE)
  all_goals first | omega | grind [symf_ne, symf_bstr, byteAt_lt]
theorem ok339 : Ok Tryz.prog 339 S339 := by
  exact call_ok (n := 1000) (tabOf_ok mN eN lN) fun z hz => ⟨F339_h, by show (F339 z F339_h).den; rw [F339_e]; exact F339_d z ⟨trivial, hz⟩⟩
noncomputable def F293a_h : Hn := (.yes (.yes (.both .nil .nil)))
noncomputable def F293a_t (p : Sy) (z : Sy) : Fm := let v0 := ([((48 + z.i 1 % 10) % 18446744073709551616 % 256).toNat] ++ z.s 21); let v1 := (0 ≤ z.i 1 ∧ (0 : Int) < 10); (.an ((10 : Int) ≠ 0) (.an v1 (.an (inB [(48 + z.i 1 % 10) % 18446744073709551616 % 256]) (.an (v0.length ≤ 1000000000) (.an ((10 : Int) ≠ 0) (.an v1 (.two (z.i 1 / 10 % 18446744073709551616 = 0) (.an (True) (.at (v0.length ≤ 20))) (.an (True) (.at ((0 ≤ z.i 1 / 10 % 18446744073709551616 ∧ z.i 1 / 10 % 18446744073709551616 < pw 10 (20 - v0.length) ∧ (v0.length = 0 ∨ 1 ≤ z.i 1 / 10 % 18446744073709551616) ∧ v0.length ≤ 20) ∧ (z.i 1 / 10 % 18446744073709551616).toNat < (z.i 1).toNat ∧ ∀ (y : Sy), (y.s 10).length ≤ 20 → (y.s 10).length ≤ 20))))))))))
theorem F293a_e (p : Sy) (z : Sy) : F293a p z F293a_h = F293a_t p z := by kernel_rfl
theorem F293a_d (p : Sy) (z : Sy) (hA : A293a p z) : (F293a_t p z).den := by
  have hB : True ∧ 0 ≤ z.i 1 ∧ z.i 1 < pw 10 (20 - (z.s 21).length) ∧ ((z.s 21).length = 0 ∨ 1 ≤ z.i 1) ∧ (z.s 21).length ≤ 20 := hA
  have hst := fun h hl => @pw_step 10 20 (z.s 21).length ((z.s 21).length + 1) (z.i 1) h (by decide) hl rfl
  have hpl := fun h1 h2 => @pw_len 10 20 (z.s 21).length (z.i 1) h1 h2 (by decide)
  unfold F293a_t
  try conv => zeta
  repeat' (with_reducible first | intro _ | apply fmA | apply fmT | apply fmN | apply fmL | apply fmE)
  all_goals first | omega | grind [symf_ne, symf_bstr, byteAt_lt, = wrap64_eq, = wrap8_eq, inB]
theorem ok293a : OkL Tryz.prog 293 0 S293a := by
  exact okL_of (n := 1000) (tabOf_ok mN eN lN) (by kernel_rfl) (fun p => Nat.le_of_ble_eq_true rfl) fun p z hz => ⟨F293a_h, by show (F293a p z F293a_h).den; rw [F293a_e]; exact F293a_d p z ⟨trivial, hz⟩⟩
noncomputable def F293_h : Hn := .nil
noncomputable def F293_t (z : Sy) : Fm := (.an (True ∧ 0 ≤ z.i 1 ∧ z.i 1 < pw 10 (20 - 0) ∧ (0 = 0 ∨ 1 ≤ z.i 1) ∧ 0 ≤ 20) (.al (fun y0 => 0 ≤ z.i 1 ∧ z.i 1 < pw 10 (20 - 0) ∧ (0 = 0 ∨ 1 ≤ z.i 1) ∧ 0 ≤ 20 → (y0.s 10).length ≤ 20) fun y0 => (.an (True) (.at ((y0.s 10).length ≤ 20)))))
theorem F293_e (z293a : Lf0 S293a) (z : Sy) : F293 z293a z F293_h = F293_t z := by kernel_rfl
theorem F293_d (z : Sy) (hA : A293 z) : (F293_t z).den := by
  have hB : True ∧ 0 ≤ z.i 1 ∧ z.i 1 < 18446744073709551616 := hA
  have hp := pw_ten
  unfold F293_t
  try conv => zeta
  repeat' (with_reducible first | intro _ | apply fmA | apply fmT | apply fmN | apply fmL | apply fmE)
  all_goals first | omega | grind [symf_ne, symf_bstr, byteAt_lt]
theorem ok293 (h293a : OkL Tryz.prog 293 0 S293a) : Ok Tryz.prog 293 S293 := by
  obtain ⟨z293a, h293a⟩ := h293a
  exact call_ok (n := 1000) (tabOf_ok mN eN (lC h293a lN)) fun z hz => ⟨F293_h, by show (F293 z293a z F293_h).den; rw [F293_e]; exact F293_d z ⟨trivial, hz⟩⟩
noncomputable def F292a_h : Hn := (.both .nil .nil)
noncomputable def F292a_t (p : Sy) (z : Sy) : Fm := let v0 := (p.g 6 = p.g 6 ∧ p.g 5 = p.g 5 ∧ p.s 4 = p.s 4 ∧ p.i 3 = p.i 3 ∧ p.i 2 = p.i 2 ∧ p.i 1 = p.i 1 ∧ True); let v1 := ([48] ++ z.s 21); (.two ((↑(z.s 21).length : Int) ≤ p.i 3) (.an (v1.length ≤ 1000000000) (.an v0 (.at (((0 ≤ p.i 3 ∧ p.i 3 ≤ 18) ∧ v1.length ≤ 20) ∧ 20 - v1.length < 20 - (z.s 21).length ∧ ∀ (y : Sy), (y.s 21).length ≤ 20 ∧ p.i 3 < ↑(y.s 21).length → (y.s 21).length ≤ 20 ∧ p.i 3 < ↑(y.s 21).length)))) (.an v0 (.at ((z.s 21).length ≤ 20 ∧ p.i 3 < ↑(z.s 21).length))))
theorem F292a_e (p : Sy) (z : Sy) : F292a p z F292a_h = F292a_t p z := by kernel_rfl
theorem F292a_d (p : Sy) (z : Sy) (hA : A292a p z) : (F292a_t p z).den := by
  have hB : True ∧ (0 ≤ p.i 3 ∧ p.i 3 ≤ 18) ∧ (z.s 21).length ≤ 20 := hA
  unfold F292a_t
  try conv => zeta
  repeat' (with_reducible first | intro _ | apply fmA | apply fmT | apply fmN | apply fmL | apply fmE)
  all_goals first | omega | grind [symf_ne, symf_bstr, byteAt_lt]
theorem ok292a : OkL Tryz.prog 292 0 S292a := by
  exact okL_of (n := 1000) (tabOf_ok mN eN lN) (by kernel_rfl) (fun p => Nat.le_of_ble_eq_true rfl) fun p z hz => ⟨F292a_h, by show (F292a p z F292a_h).den; rw [F292a_e]; exact F292a_d p z ⟨trivial, hz⟩⟩
noncomputable def F292_h : Hn := (.both .nil (.both (.yes (.yes (.both .nil .nil))) (.both .nil .nil)))
noncomputable def F292_t (z : Sy) : Fm := let v0 := (Int.toNat 0); (.an (True ∧ True) (.al (fun y0 => True → True) fun y0 => (.two (¬y0.p 10) (.an (True) (.at (0 ≤ 45))) (.an (True ∧ True) (.al (fun y1 => True → 0 ≤ y1.i 10 ∧ y1.i 10 < 18446744073709551616) fun y1 => (.an (True ∧ 0 ≤ y1.i 10 ∧ y1.i 10 < 18446744073709551616) (.al (fun y2 => 0 ≤ y1.i 10 ∧ y1.i 10 < 18446744073709551616 → (y2.s 10).length ≤ 20) fun y2 => (.two (0 < z.i 3) (.an ((z.g 6 = z.g 6 ∧ z.g 5 = z.g 5 ∧ z.s 4 = z.s 4 ∧ z.i 3 = z.i 3 ∧ z.i 2 = z.i 2 ∧ z.i 1 = z.i 1 ∧ True) ∧ (0 ≤ z.i 3 ∧ z.i 3 ≤ 18) ∧ (y2.s 10).length ≤ 20) (.al (fun y3 => (0 ≤ z.i 3 ∧ z.i 3 ≤ 18) ∧ (y2.s 10).length ≤ 20 → (y3.s 21).length ≤ 20 ∧ z.i 3 < ↑(y3.s 21).length) fun y3 => (.an ((-9223372036854775808) ≤ (↑(y3.s 21).length : Int) - z.i 3 ∧ (↑(y3.s 21).length : Int) - z.i 3 ≤ 9223372036854775807) (.an ((0 : Int) ≤ 0 ∧ 0 ≤ (↑(y3.s 21).length : Int) - z.i 3 ∧ (↑(y3.s 21).length : Int) - z.i 3 ≤ (↑(y3.s 21).length : Int)) (.an ((List.drop v0 (List.take ((↑(y3.s 21).length : Int) - z.i 3).toNat (y3.s 21)) ++ [46]).length ≤ 1000000000) (.an ((-9223372036854775808) ≤ (↑(y3.s 21).length : Int) - z.i 3 ∧ (↑(y3.s 21).length : Int) - z.i 3 ≤ 9223372036854775807) (.an (0 ≤ (↑(y3.s 21).length : Int) - z.i 3 ∧ (↑(y3.s 21).length : Int) - z.i 3 ≤ (↑(y3.s 21).length : Int) ∧ (↑(y3.s 21).length : Int) ≤ (↑(y3.s 21).length : Int)) (.an ((List.drop v0 (List.take ((↑(y3.s 21).length : Int) - z.i 3).toNat (y3.s 21)) ++ [46] ++ List.drop ((↑(y3.s 21).length : Int) - z.i 3).toNat (List.take (↑(y3.s 21).length : Int).toNat (y3.s 21))).length ≤ 1000000000) (.two (z.i 2 < 0) (.an (([45] ++ (List.drop v0 (List.take ((↑(y3.s 21).length : Int) - z.i 3).toNat (y3.s 21)) ++ [46] ++ List.drop ((↑(y3.s 21).length : Int) - z.i 3).toNat (List.take (↑(y3.s 21).length : Int).toNat (y3.s 21)))).length ≤ 1000000000) (.an (True) (.at (([45] ++ (List.drop v0 (List.take ((↑(y3.s 21).length : Int) - z.i 3).toNat (y3.s 21)) ++ [46] ++ List.drop ((↑(y3.s 21).length : Int) - z.i 3).toNat (List.take (↑(y3.s 21).length : Int).toNat (y3.s 21)))).length ≤ 45)))) (.an (True) (.at ((List.drop v0 (List.take ((↑(y3.s 21).length : Int) - z.i 3).toNat (y3.s 21)) ++ [46] ++ List.drop ((↑(y3.s 21).length : Int) - z.i 3).toNat (List.take (↑(y3.s 21).length : Int).toNat (y3.s 21))).length ≤ 45)))))))))))) (.two (z.i 2 < 0) (.an (([45] ++ y2.s 10).length ≤ 1000000000) (.an (True) (.at (([45] ++ y2.s 10).length ≤ 45)))) (.an (True) (.at ((y2.s 10).length ≤ 45))))))))))))
theorem F292_e (z338 : Zf S338) (z339 : Zf S339) (z293 : Zf S293) (z292a : Lf0 S292a) (z : Sy) : F292 z338 z339 z293 z292a z F292_h = F292_t z := by kernel_rfl
theorem F292_d (z : Sy) (hA : A292 z) : (F292_t z).den := by
  have hB : True ∧ 0 ≤ z.i 3 ∧ z.i 3 ≤ 18 := hA
  unfold F292_t
  try conv => zeta
  repeat' (with_reducible first | intro _ | apply fmA | apply fmT | apply fmN | apply fmL | apply fmE)
  all_goals first | omega | grind [symf_ne, symf_bstr, byteAt_lt]
theorem ok292 (h338 : Ok Tryz.prog 338 S338) (h339 : Ok Tryz.prog 339 S339) (h293 : Ok Tryz.prog 293 S293) (h292a : OkL Tryz.prog 292 0 S292a) : Ok Tryz.prog 292 S292 := by
  obtain ⟨z338, h338⟩ := h338
  obtain ⟨z339, h339⟩ := h339
  obtain ⟨z293, h293⟩ := h293
  obtain ⟨z292a, h292a⟩ := h292a
  exact call_ok (n := 1000) (tabOf_ok mN (eC h338 (eC h339 (eC h293 eN))) (lC h292a lN)) fun z hz => ⟨F292_h, by show (F292 z338 z339 z293 z292a z F292_h).den; rw [F292_e]; exact F292_d z ⟨trivial, hz⟩⟩
noncomputable def F235a_h : Hn := (.both (.yes (.yes (.yes .nil))) .nil)
noncomputable def F235a_t (p : Sy) (z : Sy) : Fm := let v0 := (↑(byteAt (p.s 4) (z.i 9).toNat) : Int); let v1 := (z.s 20 ++ [(↑(byteAt [48, 49, 50, 51, 52, 53, 54, 55, 56, 57, 97, 98, 99, 100, 101, 102] (v0 / 16 % 256).toNat) : Int).toNat, (↑(byteAt [48, 49, 50, 51, 52, 53, 54, 55, 56, 57, 97, 98, 99, 100, 101, 102] (v0 % 16).toNat) : Int).toNat]); let v2 := (0 ≤ z.i 9 ∧ z.i 9 < ↑(p.s 4).length); (.two (z.i 9 < ↑(p.s 4).length) (.an v2 (.an ((16 : Int) ≠ 0) (.an (0 ≤ v0 ∧ (0 : Int) < 16) (.an (0 ≤ v0 / 16 % 256 ∧ v0 / 16 % 256 < (↑16 : Int)) (.an v2 (.an ((16 : Int) ≠ 0) (.an (0 ≤ v0 ∧ (0 : Int) < 16) (.an (0 ≤ v0 % 16 ∧ v0 % 16 < (↑16 : Int)) (.an ((z.s 20).length = (z.s 20).length ∧ (z.s 20).length ≤ 1000000000 ∧ 0 ≤ (↑(byteAt [48, 49, 50, 51, 52, 53, 54, 55, 56, 57, 97, 98, 99, 100, 101, 102] (v0 / 16 % 256).toNat) : Int) ∧ 0 ≤ (↑(byteAt [48, 49, 50, 51, 52, 53, 54, 55, 56, 57, 97, 98, 99, 100, 101, 102] (v0 % 16).toNat) : Int) ∧ True) (.an ((-9223372036854775808) ≤ z.i 9 + 1 ∧ z.i 9 + 1 ≤ 9223372036854775807) (.an (v1.length = (z.s 20).length + 2 ∧ p.g 6 = p.g 6 ∧ p.g 5 = p.g 5 ∧ p.s 4 = p.s 4 ∧ p.i 3 = p.i 3 ∧ p.i 2 = p.i 2 ∧ p.i 1 = p.i 1 ∧ True) (.at (((p.s 4).length ≤ 1000000 ∧ (0 ≤ z.i 9 + 1 ∧ z.i 9 + 1 ≤ ↑(p.s 4).length) ∧ (↑v1.length : Int) ≤ 1 + 2 * (z.i 9 + 1)) ∧ ((↑(p.s 4).length : Int) - (z.i 9 + 1)).toNat < ((↑(p.s 4).length : Int) - z.i 9).toNat ∧ ∀ (y : Sy), (y.s 20).length ≤ 1 + 2 * (p.s 4).length → (y.s 20).length ≤ 1 + 2 * (p.s 4).length))))))))))))) (.an ((z.s 20).length = (z.s 20).length ∧ p.g 6 = p.g 6 ∧ p.g 5 = p.g 5 ∧ p.s 4 = p.s 4 ∧ p.i 3 = p.i 3 ∧ p.i 2 = p.i 2 ∧ p.i 1 = p.i 1 ∧ True) (.at ((z.s 20).length ≤ 1 + 2 * (p.s 4).length))))
theorem F235a_e (p : Sy) (z : Sy) : F235a p z F235a_h = F235a_t p z := by kernel_rfl
theorem F235a_d (p : Sy) (z : Sy) (hA : A235a p z) : (F235a_t p z).den := by
  have hB : True ∧ (p.s 4).length ≤ 1000000 ∧ (0 ≤ z.i 9 ∧ z.i 9 ≤ ↑(p.s 4).length) ∧ (↑(z.s 20).length : Int) ≤ 1 + 2 * z.i 9 := hA
  unfold F235a_t
  try conv => zeta
  repeat' (with_reducible first | intro _ | apply fmA | apply fmT | apply fmN | apply fmL | apply fmE)
  all_goals first | omega | grind [symf_ne, symf_bstr, byteAt_lt]
theorem ok235a : OkL Tryz.prog 235 1 S235a := by
  exact okL_of (n := 1000) (tabOf_ok mN eN lN) (by kernel_rfl) (fun p => Nat.le_of_ble_eq_true rfl) fun p z hz => ⟨F235a_h, by show (F235a p z F235a_h).den; rw [F235a_e]; exact F235a_d p z ⟨trivial, hz⟩⟩
noncomputable def F235b_h : Hn := (.both (.both (.yes .nil) (.yes .nil)) .nil)
noncomputable def F235b_t (k : Nat) (p : Sy) (z : Sy) : Fm := let v0 := (gAt (p.g 6) (z.i 9).toNat); let v3 := (↑(p.g 6).length : Int); let v4 := (p.g 6 = p.g 6 ∧ p.g 5 = p.g 5 ∧ p.s 4 = p.s 4 ∧ p.i 3 = p.i 3 ∧ p.i 2 = p.i 2 ∧ p.i 1 = p.i 1 ∧ True); let v5 := ((1 ≤ p.i 1 ∧ p.i 1 ≤ 9) ∧ (0 ≤ p.i 3 ∧ p.i 3 ≤ 18) ∧ (p.s 4).length ≤ 16384 ∧ (p.i 1 = 9 → (p.g 5).length = (p.g 6).length) ∧ (p.g 6).length ≤ 200 ∧ Nms (p.g 5) (↑(p.g 5).length : Int)); let v6 := (gL (kid v0 5)); let v1 := ((1 ≤ gI (kid v0 0) ∧ gI (kid v0 0) ≤ 9) ∧ (0 ≤ gI (kid v0 2) ∧ gI (kid v0 2) ≤ 18) ∧ (gS (kid v0 3)).length ≤ 16384 ∧ (gI (kid v0 0) = 9 → (gL (kid v0 4)).length = v6.length) ∧ v6.length ≤ 200 ∧ Nms (gL (kid v0 4)) (↑(gL (kid v0 4)).length : Int)); let v2 := (1 + (gS (kid v0 3)).length + pzs k v6 (↑v6.length : Int)); let v7 := ((-9223372036854775808) ≤ z.i 9 + 1 ∧ z.i 9 + 1 ≤ 9223372036854775807); let v8 := (True ∧ v1 ∧ Wfs k v6 (↑v6.length : Int) ∧ 300 * v2 ≤ 100000000); let v9 := (0 ≤ z.i 9 + 1 ∧ z.i 9 + 1 ≤ ↑(p.g 6).length); let v10 := (0 ≤ z.i 9 ∧ z.i 9 < ↑(p.g 6).length); (.two (z.i 9 < ↑(p.g 6).length) (.two (0 < z.i 9) (.an ((z.s 21 ++ [44, 32]).length ≤ 1000000000) (.an v10 (.an v8 (.al (fun y0 => v1 ∧ Wfs k v6 (↑v6.length : Int) ∧ 300 * v2 ≤ 100000000 → (y0.s 10).length + 130 ≤ 300 * v2) fun y0 => (.an ((z.s 21 ++ [44, 32] ++ y0.s 10).length ≤ 1000000000) (.an v7 (.an v4 (.at ((v5 ∧ Wfs (k + 1) (p.g 6) v3 ∧ v9 ∧ 300 * pzs (k + 1) (p.g 6) v3 ≤ 100000000 ∧ (z.s 21 ++ [44, 32] ++ y0.s 10).length ≤ 1 + 300 * pzs (k + 1) (p.g 6) (z.i 9 + 1)) ∧ (v3 - (z.i 9 + 1)).toNat < (v3 - z.i 9).toNat ∧ ∀ (y : Sy), (y.s 21).length ≤ 1 + 300 * pzs (k + 1) (p.g 6) v3 → (y.s 21).length ≤ 1 + 300 * pzs (k + 1) (p.g 6) v3))))))))) (.an v10 (.an v8 (.al (fun y1 => v1 ∧ Wfs k v6 (↑v6.length : Int) ∧ 300 * v2 ≤ 100000000 → (y1.s 10).length + 130 ≤ 300 * v2) fun y1 => (.an ((z.s 21 ++ y1.s 10).length ≤ 1000000000) (.an v7 (.an v4 (.at ((v5 ∧ Wfs (k + 1) (p.g 6) v3 ∧ v9 ∧ 300 * pzs (k + 1) (p.g 6) v3 ≤ 100000000 ∧ (z.s 21 ++ y1.s 10).length ≤ 1 + 300 * pzs (k + 1) (p.g 6) (z.i 9 + 1)) ∧ (v3 - (z.i 9 + 1)).toNat < (v3 - z.i 9).toNat ∧ ∀ (y : Sy), (y.s 21).length ≤ 1 + 300 * pzs (k + 1) (p.g 6) v3 → (y.s 21).length ≤ 1 + 300 * pzs (k + 1) (p.g 6) v3))))))))) (.an v4 (.at ((z.s 21).length ≤ 1 + 300 * pzs (k + 1) (p.g 6) v3))))
theorem F235b_e (k : Nat) (z235m : Zf (S235 k)) (p : Sy) (z : Sy) : F235b k z235m p z F235b_h = F235b_t k p z := by kernel_rfl
theorem F235b_d (k : Nat) (p : Sy) (z : Sy) (hA : A235b k p z) : (F235b_t k p z).den := by
  have hB : True ∧ ((1 ≤ p.i 1 ∧ p.i 1 ≤ 9) ∧ (0 ≤ p.i 3 ∧ p.i 3 ≤ 18) ∧ (p.s 4).length ≤ 16384 ∧ (p.i 1 = 9 → (p.g 5).length = (p.g 6).length) ∧ (p.g 6).length ≤ 200 ∧ Nms (p.g 5) (↑(p.g 5).length : Int)) ∧ Wfs (k + 1) (p.g 6) (↑(p.g 6).length : Int) ∧ (0 ≤ z.i 9 ∧ z.i 9 ≤ ↑(p.g 6).length) ∧ 300 * pzs (k + 1) (p.g 6) (↑(p.g 6).length : Int) ≤ 100000000 ∧ (z.s 21).length ≤ 1 + 300 * pzs (k + 1) (p.g 6) (z.i 9) := hA
  have hs := fun h0 h1 => @pzs_succ k (p.g 6) (z.i 9) h0 h1
  have hm := fun h => @pzs_le (k + 1) (p.g 6) (z.i 9 + 1) (p.g 6).length h
  have hw := @wfs_nd k (p.g 6) (z.i 9) (p.g 6).length
  dsimp only [Nd, Ndz] at hw
  have hv := @wfs_in k (p.g 6) (z.i 9) (p.g 6).length
  unfold F235b_t
  try conv => zeta
  repeat' (with_reducible first | intro _ | apply fmA | apply fmT | apply fmN | apply fmL | apply fmE)
  all_goals first | omega | grind [symf_ne, symf_bstr, byteAt_lt]
theorem ok235b (k : Nat) (h235m : Ok Tryz.prog 235 (S235 k)) : OkL Tryz.prog 235 3 (S235b (k + 1)) := by
  obtain ⟨z235m, h235m⟩ := h235m
  exact okL_of (n := 1000) (tabOf_ok mN (eC h235m eN) lN) (by kernel_rfl) (fun p => Nat.le_of_ble_eq_true rfl) fun p z hz => ⟨F235b_h, by show (F235b k z235m p z F235b_h).den; rw [F235b_e]; exact F235b_d k p z ⟨trivial, hz⟩⟩
noncomputable def F235c_h : Hn := (.both (.both (.yes .nil) (.yes .nil)) .nil)
noncomputable def F235c_t (k : Nat) (p : Sy) (z : Sy) : Fm := let v0 := (gAt (p.g 6) (z.i 9).toNat); let v3 := (↑(p.g 6).length : Int); let v4 := (p.g 6 = p.g 6 ∧ p.g 5 = p.g 5 ∧ p.s 4 = p.s 4 ∧ p.i 3 = p.i 3 ∧ p.i 2 = p.i 2 ∧ p.i 1 = p.i 1 ∧ True); let v5 := (gS (kid (gAt (p.g 5) (z.i 9).toNat) 0)); let v6 := ((1 ≤ p.i 1 ∧ p.i 1 ≤ 9) ∧ (0 ≤ p.i 3 ∧ p.i 3 ≤ 18) ∧ (p.s 4).length ≤ 16384 ∧ (p.i 1 = 9 → (p.g 5).length = (p.g 6).length) ∧ (p.g 6).length ≤ 200 ∧ Nms (p.g 5) (↑(p.g 5).length : Int)); let v7 := (gL (kid v0 5)); let v1 := ((1 ≤ gI (kid v0 0) ∧ gI (kid v0 0) ≤ 9) ∧ (0 ≤ gI (kid v0 2) ∧ gI (kid v0 2) ≤ 18) ∧ (gS (kid v0 3)).length ≤ 16384 ∧ (gI (kid v0 0) = 9 → (gL (kid v0 4)).length = v7.length) ∧ v7.length ≤ 200 ∧ Nms (gL (kid v0 4)) (↑(gL (kid v0 4)).length : Int)); let v2 := (1 + (gS (kid v0 3)).length + pzs k v7 (↑v7.length : Int)); let v8 := ((-9223372036854775808) ≤ z.i 9 + 1 ∧ z.i 9 + 1 ≤ 9223372036854775807); let v9 := (True ∧ v1 ∧ Wfs k v7 (↑v7.length : Int) ∧ 300 * v2 ≤ 100000000); let v10 := (0 ≤ z.i 9 + 1 ∧ z.i 9 + 1 ≤ ↑(p.g 6).length); let v11 := (0 ≤ z.i 9 ∧ z.i 9 < ↑(p.g 5).length); let v12 := (0 ≤ z.i 9 ∧ z.i 9 < ↑(p.g 6).length); (.two (z.i 9 < ↑(p.g 6).length) (.two (0 < z.i 9) (.an ((z.s 21 ++ [44, 32]).length ≤ 1000000000) (.an v11 (.an (True ∧ v5.length ≤ 1000000) (.al (fun y0 => v5.length ≤ 1000000 → (y0.s 10).length ≤ 3 * v5.length + 2) fun y0 => (.an ((z.s 21 ++ [44, 32] ++ y0.s 10).length ≤ 1000000000) (.an ((z.s 21 ++ [44, 32] ++ y0.s 10 ++ [58, 32]).length ≤ 1000000000) (.an v12 (.an v9 (.al (fun y1 => v1 ∧ Wfs k v7 (↑v7.length : Int) ∧ 300 * v2 ≤ 100000000 → (y1.s 10).length + 130 ≤ 300 * v2) fun y1 => (.an ((z.s 21 ++ [44, 32] ++ y0.s 10 ++ [58, 32] ++ y1.s 10).length ≤ 1000000000) (.an v8 (.an v4 (.at ((p.i 1 = 9 ∧ v6 ∧ Wfs (k + 1) (p.g 6) v3 ∧ v10 ∧ 300 * pzs (k + 1) (p.g 6) v3 ≤ 100000000 ∧ (z.s 21 ++ [44, 32] ++ y0.s 10 ++ [58, 32] ++ y1.s 10).length ≤ 1 + 300 * pzs (k + 1) (p.g 6) (z.i 9 + 1)) ∧ (v3 - (z.i 9 + 1)).toNat < (v3 - z.i 9).toNat ∧ ∀ (y : Sy), (y.s 21).length ≤ 1 + 300 * pzs (k + 1) (p.g 6) v3 → (y.s 21).length ≤ 1 + 300 * pzs (k + 1) (p.g 6) v3)))))))))))))) (.an v11 (.an (True ∧ v5.length ≤ 1000000) (.al (fun y2 => v5.length ≤ 1000000 → (y2.s 10).length ≤ 3 * v5.length + 2) fun y2 => (.an ((z.s 21 ++ y2.s 10).length ≤ 1000000000) (.an ((z.s 21 ++ y2.s 10 ++ [58, 32]).length ≤ 1000000000) (.an v12 (.an v9 (.al (fun y3 => v1 ∧ Wfs k v7 (↑v7.length : Int) ∧ 300 * v2 ≤ 100000000 → (y3.s 10).length + 130 ≤ 300 * v2) fun y3 => (.an ((z.s 21 ++ y2.s 10 ++ [58, 32] ++ y3.s 10).length ≤ 1000000000) (.an v8 (.an v4 (.at ((p.i 1 = 9 ∧ v6 ∧ Wfs (k + 1) (p.g 6) v3 ∧ v10 ∧ 300 * pzs (k + 1) (p.g 6) v3 ≤ 100000000 ∧ (z.s 21 ++ y2.s 10 ++ [58, 32] ++ y3.s 10).length ≤ 1 + 300 * pzs (k + 1) (p.g 6) (z.i 9 + 1)) ∧ (v3 - (z.i 9 + 1)).toNat < (v3 - z.i 9).toNat ∧ ∀ (y : Sy), (y.s 21).length ≤ 1 + 300 * pzs (k + 1) (p.g 6) v3 → (y.s 21).length ≤ 1 + 300 * pzs (k + 1) (p.g 6) v3)))))))))))))) (.an v4 (.at ((z.s 21).length ≤ 1 + 300 * pzs (k + 1) (p.g 6) v3))))
theorem F235c_e (k : Nat) (z294 : Zf S294) (z235m : Zf (S235 k)) (p : Sy) (z : Sy) : F235c k z294 z235m p z F235c_h = F235c_t k p z := by kernel_rfl
theorem F235c_d (k : Nat) (p : Sy) (z : Sy) (hA : A235c k p z) : (F235c_t k p z).den := by
  have hB : True ∧ p.i 1 = 9 ∧ ((1 ≤ p.i 1 ∧ p.i 1 ≤ 9) ∧ (0 ≤ p.i 3 ∧ p.i 3 ≤ 18) ∧ (p.s 4).length ≤ 16384 ∧ (p.i 1 = 9 → (p.g 5).length = (p.g 6).length) ∧ (p.g 6).length ≤ 200 ∧ Nms (p.g 5) (↑(p.g 5).length : Int)) ∧ Wfs (k + 1) (p.g 6) (↑(p.g 6).length : Int) ∧ (0 ≤ z.i 9 ∧ z.i 9 ≤ ↑(p.g 6).length) ∧ 300 * pzs (k + 1) (p.g 6) (↑(p.g 6).length : Int) ≤ 100000000 ∧ (z.s 21).length ≤ 1 + 300 * pzs (k + 1) (p.g 6) (z.i 9) := hA
  have hs := fun h0 h1 => @pzs_succ k (p.g 6) (z.i 9) h0 h1
  have hm := fun h => @pzs_le (k + 1) (p.g 6) (z.i 9 + 1) (p.g 6).length h
  have hw := @wfs_nd k (p.g 6) (z.i 9) (p.g 6).length
  dsimp only [Nd, Ndz] at hw
  have hv := @wfs_in k (p.g 6) (z.i 9) (p.g 6).length
  unfold F235c_t
  try conv => zeta
  repeat' (with_reducible first | intro _ | apply fmA | apply fmT | apply fmN | apply fmL | apply fmE)
  all_goals first | omega | grind [symf_ne, symf_bstr, byteAt_lt, nms_get]
theorem ok235c (k : Nat) (h294 : Ok Tryz.prog 294 S294) (h235m : Ok Tryz.prog 235 (S235 k)) : OkL Tryz.prog 235 5 (S235c (k + 1)) := by
  obtain ⟨z294, h294⟩ := h294
  obtain ⟨z235m, h235m⟩ := h235m
  exact okL_of (n := 1000) (tabOf_ok mN (eC h294 (eC h235m eN)) lN) (by kernel_rfl) (fun p => Nat.le_of_ble_eq_true rfl) fun p z hz => ⟨F235c_h, by show (F235c k z294 z235m p z F235c_h).den; rw [F235c_e]; exact F235c_d k p z ⟨trivial, hz⟩⟩
noncomputable def F235_h : Hn := (.both .nil (.both (.both .nil .nil) (.both (.yes .nil) (.both .nil (.both .nil (.both .nil (.both .nil (.both .nil .nil))))))))
noncomputable def F235_t (k : Nat) (z : Sy) : Fm := let v1 := ((1 ≤ z.i 1 ∧ z.i 1 ≤ 9) ∧ (0 ≤ z.i 3 ∧ z.i 3 ≤ 18) ∧ (z.s 4).length ≤ 16384 ∧ (z.i 1 = 9 → (z.g 5).length = (z.g 6).length) ∧ (z.g 6).length ≤ 200 ∧ Nms (z.g 5) (↑(z.g 5).length : Int)); let v2 := (↑(z.g 6).length : Int); let v0 := (1 + (z.s 4).length + pzs (k + 1) (z.g 6) v2); let v3 := (z.g 6 = z.g 6 ∧ z.g 5 = z.g 5 ∧ z.s 4 = z.s 4 ∧ z.i 3 = z.i 3 ∧ z.i 2 = z.i 2 ∧ z.i 1 = z.i 1 ∧ True); let v4 := ((0 : Int) ≤ 0 ∧ 0 ≤ v2); let v5 := ((0 : Int) ≤ 0 ∧ 0 ≤ (↑(z.s 4).length : Int)); let v6 := (True ∧ 0 ≤ z.i 3 ∧ z.i 3 ≤ 18); (.two (z.i 1 = 1) (.an (True) (.at (4 + 130 ≤ 300 * v0))) (.two (z.i 1 = 2) (.two (z.i 2 = 1) (.an (True) (.at (4 + 130 ≤ 300 * v0))) (.an (True) (.at (5 + 130 ≤ 300 * v0)))) (.two (z.i 1 = 3) (.an (z.i 1 = 3) (.an v6 (.al (fun y0 => 0 ≤ z.i 3 ∧ z.i 3 ≤ 18 → (y0.s 10).length ≤ 45) fun y0 => (.an (True) (.at ((y0.s 10).length + 130 ≤ 300 * v0)))))) (.two (z.i 1 = 4) (.an v6 (.al (fun y1 => 0 ≤ z.i 3 ∧ z.i 3 ≤ 18 → (y1.s 10).length ≤ 45) fun y1 => (.an (True) (.at ((y1.s 10).length + 130 ≤ 300 * v0))))) (.two (z.i 1 = 5) (.an (True ∧ 0 ≤ z.i 2 % 18446744073709551616 ∧ z.i 2 % 18446744073709551616 < 18446744073709551616) (.al (fun y2 => 0 ≤ z.i 2 % 18446744073709551616 ∧ z.i 2 % 18446744073709551616 < 18446744073709551616 → (y2.s 10).length ≤ 20) fun y2 => (.an (([64] ++ y2.s 10).length ≤ 1000000000) (.an (True) (.at (([64] ++ y2.s 10).length + 130 ≤ 300 * v0)))))) (.two (z.i 1 = 6) (.an (True ∧ (z.s 4).length ≤ 1000000) (.al (fun y3 => (z.s 4).length ≤ 1000000 → (y3.s 10).length ≤ 3 * (z.s 4).length + 2) fun y3 => (.an (True) (.at ((y3.s 10).length + 130 ≤ 300 * v0))))) (.two (z.i 1 = 7) (.an ((0 : Int) ≤ 35 ∧ True) (.an (1 = 1) (.an ((1 = 1 ∧ z.g 6 = z.g 6 ∧ z.g 5 = z.g 5 ∧ z.s 4 = z.s 4 ∧ z.i 3 = z.i 3 ∧ z.i 2 = z.i 2 ∧ z.i 1 = z.i 1 ∧ True) ∧ (z.s 4).length ≤ 1000000 ∧ v5 ∧ (↑1 : Int) ≤ 1 + 2 * 0) (.al (fun y4 => (z.s 4).length ≤ 1000000 ∧ v5 ∧ (↑1 : Int) ≤ 1 + 2 * 0 → (y4.s 20).length ≤ 1 + 2 * (z.s 4).length) fun y4 => (.an ((y4.s 20).length = (y4.s 20).length) (.an (True) (.at ((bstr (y4.s 20)).length + 130 ≤ 300 * v0)))))))) (.two (z.i 1 = 8) (.an (v3 ∧ v1 ∧ Wfs (k + 1) (z.g 6) v2 ∧ v4 ∧ 300 * pzs (k + 1) (z.g 6) v2 ≤ 100000000 ∧ 1 ≤ 1 + 300 * pzs (k + 1) (z.g 6) 0) (.al (fun y5 => v1 ∧ Wfs (k + 1) (z.g 6) v2 ∧ v4 ∧ 300 * pzs (k + 1) (z.g 6) v2 ≤ 100000000 ∧ 1 ≤ 1 + 300 * pzs (k + 1) (z.g 6) 0 → (y5.s 21).length ≤ 1 + 300 * pzs (k + 1) (z.g 6) v2) fun y5 => (.an ((y5.s 21 ++ [93]).length ≤ 1000000000) (.an (True) (.at ((y5.s 21 ++ [93]).length + 130 ≤ 300 * v0)))))) (.an (v3 ∧ z.i 1 = 9 ∧ v1 ∧ Wfs (k + 1) (z.g 6) v2 ∧ v4 ∧ 300 * pzs (k + 1) (z.g 6) v2 ≤ 100000000 ∧ 1 ≤ 1 + 300 * pzs (k + 1) (z.g 6) 0) (.al (fun y6 => z.i 1 = 9 ∧ v1 ∧ Wfs (k + 1) (z.g 6) v2 ∧ v4 ∧ 300 * pzs (k + 1) (z.g 6) v2 ≤ 100000000 ∧ 1 ≤ 1 + 300 * pzs (k + 1) (z.g 6) 0 → (y6.s 21).length ≤ 1 + 300 * pzs (k + 1) (z.g 6) v2) fun y6 => (.an ((y6.s 21 ++ [125]).length ≤ 1000000000) (.an (True) (.at ((y6.s 21 ++ [125]).length + 130 ≤ 300 * v0))))))))))))))
theorem F235_e (k : Nat) (z294 : Zf S294) (z292 : Zf S292) (z293 : Zf S293) (z235a : Lf0 S235a) (z235bm : Lf0 (S235b (k + 1))) (z235cm : Lf0 (S235c (k + 1))) (z : Sy) : F235 k z294 z292 z293 z235a z235bm z235cm z F235_h = F235_t k z := by kernel_rfl
theorem F235_d (k : Nat) (z : Sy) (hA : A235 k z) : (F235_t k z).den := by
  have hB : True ∧ ((1 ≤ z.i 1 ∧ z.i 1 ≤ 9) ∧ (0 ≤ z.i 3 ∧ z.i 3 ≤ 18) ∧ (z.s 4).length ≤ 16384 ∧ (z.i 1 = 9 → (z.g 5).length = (z.g 6).length) ∧ (z.g 6).length ≤ 200 ∧ Nms (z.g 5) (↑(z.g 5).length : Int)) ∧ Wfs (k + 1) (z.g 6) (↑(z.g 6).length : Int) ∧ 300 * (1 + (z.s 4).length + pzs (k + 1) (z.g 6) (↑(z.g 6).length : Int)) ≤ 100000000 := hA
  have h0 := pzs_zero (k + 1) (z.g 6)
  unfold F235_t
  try conv => zeta
  repeat' (with_reducible first | intro _ | apply fmA | apply fmT | apply fmN | apply fmL | apply fmE)
  all_goals first | omega | grind [symf_ne, symf_bstr, byteAt_lt]
theorem ok235 (k : Nat) (h294 : Ok Tryz.prog 294 S294) (h292 : Ok Tryz.prog 292 S292) (h293 : Ok Tryz.prog 293 S293) (h235a : OkL Tryz.prog 235 1 S235a) (h235bm : OkL Tryz.prog 235 3 (S235b (k + 1))) (h235cm : OkL Tryz.prog 235 5 (S235c (k + 1))) : Ok Tryz.prog 235 (S235 (k + 1)) := by
  obtain ⟨z294, h294⟩ := h294
  obtain ⟨z292, h292⟩ := h292
  obtain ⟨z293, h293⟩ := h293
  obtain ⟨z235a, h235a⟩ := h235a
  obtain ⟨z235bm, h235bm⟩ := h235bm
  obtain ⟨z235cm, h235cm⟩ := h235cm
  exact call_ok (n := 1000) (tabOf_ok mN (eC h294 (eC h292 (eC h293 eN))) (lC h235a (lC h235bm (lC h235cm lN)))) fun z hz => ⟨F235_h, by show (F235 k z294 z292 z293 z235a z235bm z235cm z F235_h).den; rw [F235_e]; exact F235_d k z ⟨trivial, hz⟩⟩
noncomputable def F163_h : Hn := (.both .nil .nil)
noncomputable def F163_t (z : Sy) : Fm := let v0 := ((1 ≤ z.i 1 ∧ z.i 1 ≤ 9) ∧ (0 ≤ z.i 3 ∧ z.i 3 ≤ 18) ∧ (z.s 4).length ≤ 16384 ∧ (z.i 1 = 9 → (z.g 5).length = (z.g 6).length) ∧ (z.g 6).length ≤ 200 ∧ Nms (z.g 5) (↑(z.g 5).length : Int)); let v2 := (↑(z.g 6).length : Int); let v1 := (1 + (z.s 4).length + pzs 17 (z.g 6) v2); (.an (True ∧ True) (.al (fun y0 => True → y0.i 11 = 0 → v0 ∧ Wfs 17 (z.g 6) v2 ∧ 300 * v1 ≤ 100000000) fun y0 => (.two (y0.i 11 ≠ 0) (.an (True) (.at (True))) (.an (True ∧ v0 ∧ Wfs 17 (z.g 6) v2 ∧ 300 * v1 ≤ 100000000) (.al (fun y1 => v0 ∧ Wfs 17 (z.g 6) v2 ∧ 300 * v1 ≤ 100000000 → (y1.s 10).length + 130 ≤ 300 * v1) fun y1 => (.an (True) (.at (True))))))))
theorem F163_e (z234 : Zf S234) (z235m : Zf (S235 17)) (z : Sy) : F163 z234 z235m z F163_h = F163_t z := by kernel_rfl
theorem F163_d (z : Sy) (hA : A163 z) : (F163_t z).den := by
  have hB : True ∧ True := hA
  unfold F163_t
  try conv => zeta
  repeat' (with_reducible first | intro _ | apply fmA | apply fmT | apply fmN | apply fmL | apply fmE)
  all_goals first | omega | grind [symf_ne, symf_bstr, byteAt_lt]
theorem ok163 (h234 : Ok Tryz.prog 234 S234) (h235m : Ok Tryz.prog 235 (S235 17)) : Ok Tryz.prog 163 S163 := by
  obtain ⟨z234, h234⟩ := h234
  obtain ⟨z235m, h235m⟩ := h235m
  exact call_ok (n := 1000) (tabOf_ok mN (eC h234 (eC h235m eN)) lN) fun z hz => ⟨F163_h, by show (F163 z234 z235m z F163_h).den; rw [F163_e]; exact F163_d z ⟨trivial, hz⟩⟩
end Go.Proofs.YtldnnonkobikdaaGreatDoor
namespace Go.Proofs.YtldnnonkobikdaaGreatDoor
open Go.Sym
noncomputable section
def F104  (z162m : Zf (S162 17)) (z163 : Zf S163) (z : Sy) (h : Hn) : Fm := S104.callFm Tryz.prog (tabOf [] [⟨162, (S162 17), z162m, false⟩, ⟨163, S163, z163, false⟩] []) 1000 104 z h
def A104  (z : Sy) : Prop := True ∧ S104.pre z
end
end Go.Proofs.YtldnnonkobikdaaGreatDoor
namespace Go.Proofs.YtldnnonkobikdaaGreatDoor
open Go.Sym
set_option linter.unusedVariables false
set_option maxRecDepth 100000
set_option maxHeartbeats 4000000
noncomputable def F104_h : Hn := (.both .nil (.both .nil (.both .nil (.both .nil .nil))))
noncomputable def F104_t (z : Sy) : Fm := (.an (True ∧ (z.s 1).length ≤ 1000000 ∧ (1 : Int) ≤ 1 ∧ (1 : Int) ≤ 17 ∧ (17 : Int) - 1 < 17) (.al (fun y0 => (z.s 1).length ≤ 1000000 ∧ (1 : Int) ≤ 1 ∧ (1 : Int) ≤ 17 ∧ (17 : Int) - 1 < 17 → (y0.s 1).length ≤ (z.s 1).length ∧ (¬y0.p 2 → ¬false = true ∧ (y0.s 1).length < (z.s 1).length)) fun y0 => (.two (y0.p 2) (.an (True) (.at (True))) (.two (y0.s 1 ≠ []) (.an (True) (.at (True))) (.an (True ∧ True) (.al (fun y1 => True → True) fun y1 => (.two (y1.i 11 ≠ 0) (.an (True) (.at (True))) (.two (y1.s 10 ≠ z.s 1) (.an (True) (.at (True))) (.an (True) (.at (True)))))))))))
theorem F104_e (z162m : Zf (S162 17)) (z163 : Zf S163) (z : Sy) : F104 z162m z163 z F104_h = F104_t z := by kernel_rfl
theorem F104_d (z : Sy) (hA : A104 z) : (F104_t z).den := by
  have hB : True ∧ (z.s 1).length ≤ 1000000 := hA
  unfold F104_t
  try conv => zeta
  repeat' (with_reducible first | intro _ | apply fmA | apply fmT | apply fmN | apply fmL | apply fmE)
  all_goals first | omega | grind [symf_ne, symf_bstr, byteAt_lt]
theorem ok104 (h162m : Ok Tryz.prog 162 (S162 17)) (h163 : Ok Tryz.prog 163 S163) : Ok Tryz.prog 104 S104 := by
  obtain ⟨z162m, h162m⟩ := h162m
  obtain ⟨z163, h163⟩ := h163
  exact call_ok (n := 1000) (tabOf_ok mN (eC h162m (eC h163 eN)) lN) fun z hz => ⟨F104_h, by show (F104 z162m z163 z F104_h).den; rw [F104_e]; exact F104_d z ⟨trivial, hz⟩⟩
end Go.Proofs.YtldnnonkobikdaaGreatDoor
