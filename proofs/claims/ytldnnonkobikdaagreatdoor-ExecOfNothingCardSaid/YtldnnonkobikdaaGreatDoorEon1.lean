/- ExecOfNothing: the parser's tokens, its object; what is told of the parser's small functions; Formulas, by program (gen.py): batch 1; Formulas told and proved, by program (gen.py): batch 1. -/
import Derived.Test.YtldnnonkobikdaaGreatDoorSymTb
import Derived.Test.YtldnnonkobikdaaGreatDoorProg
namespace Go.Proofs.YtldnnonkobikdaaGreatDoor
open Go.Sym
set_option linter.unusedVariables false
def kd (L : List G) (i : Int) : Int := gI (kid (gAt L i.toNat) 0)
def tx (L : List G) (i : Int) : List Nat := gS (kid (gAt L i.toNat) 1)
def po (L : List G) (i : Int) : Int := gI (kid (gAt L i.toNat) 2)
def Ends (L : List G) : Prop := kd L ((L.length : Int) - 1) = 8
def Txs (L : List G) : Prop := ∀ i, (tx L i).length ≤ 1000000
abbrev Toks (L : List G) : Prop := (0 < L.length ∧ L.length ≤ 1000000) ∧ Ends L ∧ Txs L
def pc (L : List G) : List Sh := [.pv 0 L, .i .i64 1, .i .i64 2, .i .i64 3, .i .i64 4, .i .i64 5]
def pp (L : List G) (z : Sy) : List Sh := [.pv 0 L, .pi .i64 (z.i 1), .pi .i64 (z.i 2), .pi .i64 (z.i 3), .pi .i64 (z.i 4), .pi .i64 (z.i 5)]
def pm (L : List G) (z : Sy) : List Sh := [.pv 0 L, .i .i64 1, .i .i64 2, .i .i64 3, .pi .i64 (z.i 4), .pi .i64 (z.i 5)]
def pe (L : List G) (z : Sy) : List Sh := [.pv 0 L, .pi .i64 (z.i 1), .i .i64 2, .i .i64 3, .pi .i64 (z.i 4), .pi .i64 (z.i 5)]
abbrev AtP (L : List G) (z : Sy) : Prop := 0 ≤ z.i 1 ∧ z.i 1 < L.length
abbrev On (L : List G) (z y : Sy) : Prop := z.i 1 ≤ y.i 1 ∧ y.i 1 < L.length
theorem tok8 {L : List G} (h : Toks L) {i : Int} (h0 : 0 ≤ i) (h1 : i < L.length) : (kd L i = 8 ∨ i + 1 < L.length) ∧ (tx L i).length ≤ 1000000 := by
  refine ⟨?_, h.2.2 i⟩
  obtain ⟨_, h2, _⟩ := h
  by_cases e : i = (L.length : Int) - 1
  · exact .inl (by rw [e]; exact h2)
  · exact .inr (by omega)
noncomputable section
def S24 (L : List G) : FSpec := { args := [.c (.p 0)], blk := [.cells 76 (pc L)], pre := AtP L, res := fun z => .one (.ag [.pi .i64 (kd L (z.i 1)), .ps (tx L (z.i 1)), .pi .i64 (po L (z.i 1))]), out := fun z => [.cells 76 (pp L z)], post := fun z _ => (kd L (z.i 1) = 8 ∨ z.i 1 + 1 < L.length) ∧ (tx L (z.i 1)).length ≤ 1000000 }
def S25 (L : List G) : FSpec := { args := [.c (.p 0), .c (.i .i64 6)], blk := [.cells 76 (pc L)], pre := AtP L, res := fun z => .tu [], out := fun z => [.cells 76 (pe L z)], post := fun z y => z.i 6 ≠ 0 → y.i 2 ≠ 0 }
def S62 (L : List G) : FSpec := { args := [.c (.p 0), .c (.i .i64 6), .c (.s 7)], blk := [.cells 76 (pc L)], pre := fun z => AtP L z ∧ z.i 6 ≠ 8, res := fun z => .one (.c (.b 10)), out := fun z => [.cells 76 (pp L z)], post := fun z y => y.p 10 → z.i 1 + 1 < L.length ∧ kd L (z.i 1) = z.i 6 }
def S54 (L : List G) : FSpec := { args := [.c (.p 0), .c (.s 7)], blk := [.cells 76 (pc L)], pre := AtP L, res := fun z => .one (.c (.b 10)), out := fun z => [.cells 76 (pp L z)], post := fun z y => y.p 10 → z.i 1 + 1 < L.length ∧ kd L (z.i 1) = 2 }
def S23 (L : List G) : FSpec := { args := [.c (.p 0), .c (.s 7)], blk := [.cells 76 (pc L)], pre := AtP L, res := fun z => .one (.c (.b 10)), out := fun z => [.cells 76 (pp L z)], post := fun z y => y.p 10 → z.i 1 + 1 < L.length ∧ kd L (z.i 1) = 6 }
def S56 (L : List G) : FSpec := { args := [.c (.p 0), .c (.i .i64 6), .c (.s 7)], blk := [.cells 76 (pc L)], pre := fun z => AtP L z ∧ z.i 6 ≠ 8, res := fun z => .tu [], out := fun z => [.cells 76 (pm L z)], post := On L }
def S57 (L : List G) : FSpec := { args := [.c (.p 0)], blk := [.cells 76 (pc L)], pre := AtP L, res := fun z => .one (.c (.s 10)), out := fun z => [.cells 76 (pm L z)], post := On L }
def S106 (L : List G) : FSpec := { args := [.c (.p 0), .c (.i .i64 6)], blk := [.cells 76 (pc L)], pre := AtP L, res := fun z => .tu [], out := fun z => [.cells 76 (pe L z)], post := fun _ _ => True }
def S108 (L : List G) : FSpec := { args := [.c (.p 0)], blk := [.cells 76 (pc L)], pre := fun z => AtP L z ∧ 0 ≤ z.i 4 ∧ z.i 4 ≤ 40, res := fun z => .one (.c (.b 10)), out := fun z => [.cells 76 [.pv 0 L, .pi .i64 (z.i 1), .i .i64 2, .i .i64 3, .i .i64 4, .pi .i64 (z.i 5)]], post := fun z y => (y.p 10 → z.i 4 < 40 ∧ y.i 4 = z.i 4 + 1) ∧ (¬ y.p 10 → y.i 4 = z.i 4) }
def xs : List Sh := [.i .i64 10, .i .i64 11, .s 12, .i .i64 13, .i .i64 14, .i .i64 15, .s 16, .o, .o, .o, .o]
def xo : List Sh := [.o, .o, .o, .o, .o, .o, .o, .o, .o, .o, .o]
def vo : List Sh := [.o, .o, .o, .o, .o, .o]
def S168 : FSpec := { args := [.c (.s 1), .ag xo, .ag xo], blk := [], pre := fun _ => True, res := fun _ => .one (.ag xs), out := fun _ => [], post := fun _ _ => True }
def S295 : FSpec := { args := [.ag [.i .i64 1, .i .i64 2, .i .i64 3, .s 4, .o, .o]], blk := [], pre := fun _ => True, res := fun _ => .one (.ag xs), out := fun _ => [], post := fun _ _ => True }
def S164 : FSpec := { args := [.ag xs], blk := [], pre := fun _ => True, res := fun _ => .tu [.c (.s 20), .c (.b 21)], out := fun _ => [], post := fun _ _ => True }
def S165 : FSpec := { args := [.ag [.i .i64 1, .s 2, .i .i64 3]], blk := [], pre := fun _ => True, res := fun _ => .one (.c (.b 10)), out := fun _ => [], post := fun _ _ => True }
abbrev AtL (L : List G) (k : Nat) (z : Sy) : Prop := AtP L z ∧ 0 ≤ z.i 4 ∧ z.i 4 ≤ 40 ∧ 40 - z.i 4 < k
def pl (L : List G) (z : Sy) : List Sh := [.pv 0 L, .i .i64 1, .i .i64 2, .i .i64 3, .pi .i64 (z.i 4), .i .i64 5]
def xt : List Sh := [.i .i64 20, .i .i64 21, .s 22, .i .i64 23, .i .i64 24, .i .i64 25, .s 26, .o, .o, .o, .o]
def Se (L : List G) (k : Nat) : FSpec := { args := [.c (.p 0)], blk := [.cells 76 (pc L)], pre := AtL L k, res := fun z => .one (.ag xs), out := fun z => [.cells 76 (pl L z)], post := On L }
def S296 (L : List G) (k : Nat) : FSpec := { args := [.c (.p 0), .c (.s 7)], blk := [.cells 76 (pc L)], pre := AtL L k, res := fun z => .one (.c .o), out := fun z => [.cells 76 (pl L z)], post := On L }
def S297 (L : List G) (k : Nat) : FSpec := { args := [.c (.p 0)], blk := [.cells 76 (pc L)], pre := fun z => AtL L k z ∧ z.i 1 + 1 < L.length, res := fun z => .one (.ag xs), out := fun z => [.cells 76 (pl L z)], post := On L }
def Lb (L : List G) (k : Nat) (p : Sy) : LSpec := { tmps := [(0, .c (.p 0)), (2, .c (.p 1)), (3, .c (.p 2))], blk := [.cells 76 (pc L), .cells 121 xo, .cells 121 xt], inv := AtL L k, mu := fun z => (L.length - z.i 1).toNat, alts := [⟨.exit 0, [(0, .c (.p 0)), (2, .c (.p 1)), (3, .c (.p 2))], [.cells 76 (pc L), .cells 121 xo, .cells 121 xt]⟩], post := fun z y => On L z y ∧ y.i 4 = z.i 4 }
def S296a (L : List G) (k : Nat) (p : Sy) : LSpec := { tmps := [(0, .c (.p 0)), (1, .c (.s 7)), (5, .c (.g 1 11 30))], blk := [.cells 76 (pc L), .grow 3 121 30], inv := fun z => AtL L k z ∧ (z.g 30).length ≤ z.i 1, mu := fun z => (L.length - z.i 1).toNat, alts := [⟨.exit 0, [(0, .c (.p 0)), (1, .c (.s 7)), (5, .c (.g 1 11 30))], [.cells 76 (pc L), .grow 3 121 30]⟩], post := fun z y => On L z y ∧ y.i 4 = z.i 4 }
def st : List Sh := [.i .i64 20, .i .i64 21, .s 22, .i .i64 23, .i .i64 24, .i .i64 25, .s 26, .o, .o, .g 3 1 30, .g 4 11 31]
def S297a (L : List G) (k : Nat) (p : Sy) : LSpec := { tmps := [(0, .c (.p 0)), (2, .c (.p 1)), (3, .c (.p 2))], blk := [.cells 76 (pc L), .cells 121 xo, .cells 121 st, .grow 1 9 30, .grow 3 121 31], inv := fun z => AtL L k z ∧ (z.g 30).length ≤ z.i 1 ∧ (z.g 31).length ≤ z.i 1, mu := fun z => (L.length - z.i 1).toNat, alts := [⟨.exit 0, [(0, .c (.p 0)), (2, .c (.p 1)), (3, .c (.p 2))], [.cells 76 (pc L), .cells 121 xo, .cells 121 st, .grow 1 9 30, .grow 3 121 31]⟩], post := fun z y => On L z y ∧ y.i 4 = z.i 4 }
def S340 : FSpec := { args := [.c (.v 1 1), .c (.s 2)], blk := [], pre := fun z => (z.g 1).length ≤ 1000000, res := fun _ => .one (.c (.b 10)), out := fun _ => [], post := fun _ _ => True }
def S340a (p : Sy) : LSpec := { tmps := [(0, .c (.v 1 1)), (1, .c (.s 2)), (5, .c (.i .i64 3))], blk := [], inv := fun z => (z.g 1).length ≤ 1000000 ∧ 0 ≤ z.i 3 ∧ z.i 3 ≤ (z.g 1).length, mu := fun z => ((z.g 1).length - z.i 3).toNat, alts := [⟨.exit 0, [], []⟩, ⟨.ret, [(4, .c (.b 10))], []⟩], post := fun _ _ => True }
def S103 : FSpec := { args := [.c (.s 1)], blk := [], pre := fun z => (z.s 1).length ≤ 1000000, res := fun _ => .tu [.ag [.i .i64 10, .i .i64 11, .i .i64 12, .s 13, .v 1 15, .v 2 16], .c (.i .i64 14)], out := fun _ => [], post := fun z y => y.i 14 = 0 → 0 < (z.s 1).length ∧ 0 ≤ y.i 12 ∧ y.i 12 ≤ 18 ∧ (y.s 13).length = 0 ∧ (y.g 15).length = 0 ∧ (y.g 16).length = 0 ∧ (y.i 10 = 3 ∨ y.i 10 = 4) }
def S104 : FSpec := { args := [.c (.s 1)], blk := [], pre := fun z => (z.s 1).length ≤ 1000000, res := fun _ => .tu [.ag [.i .i64 10, .i .i64 11, .i .i64 12, .s 13, .o, .o], .c (.i .i64 14)], out := fun _ => [], post := fun _ _ => True }
abbrev S58 (L : List G) (k : Nat) := Se L k
abbrev S109 (L : List G) (k : Nat) := Se L k
abbrev S167 (L : List G) (k : Nat) := Se L k
abbrev S237 (L : List G) (k : Nat) := Se L k
abbrev S298 (L : List G) (k : Nat) := Se L k
abbrev S341 (L : List G) (k : Nat) := Se L k
abbrev S364 (L : List G) (k : Nat) := Se L k
abbrev S376 (L : List G) (k : Nat) := Se L k
abbrev S166 (L : List G) (k : Nat) := Se L k
abbrev S236 (L : List G) (k : Nat) := Se L k
abbrev S109a (L : List G) (k : Nat) := Lb L k
abbrev S167a (L : List G) (k : Nat) := Lb L k
abbrev S341a (L : List G) (k : Nat) := Lb L k
abbrev S364a (L : List G) (k : Nat) := Lb L k
abbrev S166a (L : List G) (k : Nat) := Lb L k
end
end Go.Proofs.YtldnnonkobikdaaGreatDoor
namespace Go.Proofs.YtldnnonkobikdaaGreatDoor
open Go.Sym
noncomputable section
def F24 (L : List G)  (z : Sy) (h : Hn) : Fm := (S24 L).callFm Tryz.prog (tabOf [] [] []) 1000 24 z h
def A24 (L : List G) (z : Sy) : Prop := Toks L ∧ (S24 L).pre z
def F25 (L : List G) (z24 : Zf (S24 L)) (z : Sy) (h : Hn) : Fm := (S25 L).callFm Tryz.prog (tabOf [] [⟨24, (S24 L), z24, false⟩] []) 1000 25 z h
def A25 (L : List G) (z : Sy) : Prop := Toks L ∧ (S25 L).pre z
def F62 (L : List G) (z24 : Zf (S24 L)) (z : Sy) (h : Hn) : Fm := (S62 L).callFm Tryz.prog (tabOf [] [⟨24, (S24 L), z24, false⟩] []) 1000 62 z h
def A62 (L : List G) (z : Sy) : Prop := Toks L ∧ (S62 L).pre z
def F54 (L : List G) (z62 : Zf (S62 L)) (z : Sy) (h : Hn) : Fm := (S54 L).callFm Tryz.prog (tabOf [] [⟨62, (S62 L), z62, false⟩] []) 1000 54 z h
def A54 (L : List G) (z : Sy) : Prop := Toks L ∧ (S54 L).pre z
def F23 (L : List G) (z62 : Zf (S62 L)) (z : Sy) (h : Hn) : Fm := (S23 L).callFm Tryz.prog (tabOf [] [⟨62, (S62 L), z62, false⟩] []) 1000 23 z h
def A23 (L : List G) (z : Sy) : Prop := Toks L ∧ (S23 L).pre z
def F56 (L : List G) (z62 : Zf (S62 L)) (z25 : Zf (S25 L)) (z : Sy) (h : Hn) : Fm := (S56 L).callFm Tryz.prog (tabOf [] [⟨62, (S62 L), z62, false⟩, ⟨25, (S25 L), z25, false⟩] []) 1000 56 z h
def A56 (L : List G) (z : Sy) : Prop := Toks L ∧ (S56 L).pre z
def F57 (L : List G) (z24 : Zf (S24 L)) (z25 : Zf (S25 L)) (z : Sy) (h : Hn) : Fm := (S57 L).callFm Tryz.prog (tabOf [] [⟨24, (S24 L), z24, false⟩, ⟨25, (S25 L), z25, false⟩] []) 1000 57 z h
def A57 (L : List G) (z : Sy) : Prop := Toks L ∧ (S57 L).pre z
def F106 (L : List G) (z25 : Zf (S25 L)) (z : Sy) (h : Hn) : Fm := (S106 L).callFm Tryz.prog (tabOf [] [⟨25, (S25 L), z25, false⟩] []) 1000 106 z h
def A106 (L : List G) (z : Sy) : Prop := Toks L ∧ (S106 L).pre z
def F108 (L : List G) (z25 : Zf (S25 L)) (z : Sy) (h : Hn) : Fm := (S108 L).callFm Tryz.prog (tabOf [] [⟨25, (S25 L), z25, false⟩] []) 1000 108 z h
def A108 (L : List G) (z : Sy) : Prop := Toks L ∧ (S108 L).pre z
def F168   (z : Sy) (h : Hn) : Fm := S168.callFm Tryz.prog (tabOf [] [] []) 1000 168 z h
def A168  (z : Sy) : Prop := True ∧ S168.pre z
def F295   (z : Sy) (h : Hn) : Fm := S295.callFm Tryz.prog (tabOf [] [] []) 1000 295 z h
def A295  (z : Sy) : Prop := True ∧ S295.pre z
def F164   (z : Sy) (h : Hn) : Fm := S164.callFm Tryz.prog (tabOf [] [] []) 1000 164 z h
def A164  (z : Sy) : Prop := True ∧ S164.pre z
def F165   (z : Sy) (h : Hn) : Fm := S165.callFm Tryz.prog (tabOf [] [] []) 1000 165 z h
def A165  (z : Sy) : Prop := True ∧ S165.pre z
end
end Go.Proofs.YtldnnonkobikdaaGreatDoor
namespace Go.Proofs.YtldnnonkobikdaaGreatDoor
open Go.Sym
set_option linter.unusedVariables false
noncomputable def F24_h : Hn := .nil
noncomputable def F24_t (L : List G) (z : Sy) : Fm := let v0 := (gAt L (z.i 1).toNat); (.an (0 ≤ z.i 1 ∧ z.i 1 < ↑L.length) (.an (z.i 5 = z.i 5 ∧ z.i 4 = z.i 4 ∧ z.i 3 = z.i 3 ∧ z.i 2 = z.i 2 ∧ z.i 1 = z.i 1 ∧ L = L ∧ gI (kid v0 2) = po L (z.i 1) ∧ gS (kid v0 1) = tx L (z.i 1) ∧ gI (kid v0 0) = kd L (z.i 1) ∧ True) (.at ((kd L (z.i 1) = 8 ∨ z.i 1 + 1 < ↑L.length) ∧ (tx L (z.i 1)).length ≤ 1000000))))
theorem F24_e (L : List G) (z : Sy) : F24 L z F24_h = F24_t L z := by kernel_rfl
theorem F24_d (L : List G) (z : Sy) (hA : A24 L z) : (F24_t L z).den := by
  have hB : ((0 < L.length ∧ L.length ≤ 1000000) ∧ Ends L ∧ Txs L) ∧ 0 ≤ z.i 1 ∧ z.i 1 < ↑L.length := hA
  unfold F24_t
  try conv => zeta
  repeat' (with_reducible first | intro _ | apply fmA | apply fmT | apply fmN | apply fmL | apply fmE)
  all_goals first | omega | grind [symf_ne, symf_bstr, byteAt_lt, tok8, kd, tx, po]
theorem ok24 (L : List G) (hg : Toks L) : Ok Tryz.prog 24 (S24 L) := by
  exact call_ok (n := 1000) (tabOf_ok mN eN lN) fun z hz => ⟨F24_h, by show (F24 L z F24_h).den; rw [F24_e]; exact F24_d L z ⟨hg, hz⟩⟩
noncomputable def F25_h : Hn := (.both .nil .nil)
noncomputable def F25_t (L : List G) (z : Sy) : Fm := let v0 := (z.i 5 = z.i 5 ∧ z.i 4 = z.i 4 ∧ z.i 1 = z.i 1 ∧ L = L ∧ True); (.two (z.i 2 = 0) (.an ((L = L ∧ True) ∧ 0 ≤ z.i 1 ∧ z.i 1 < ↑L.length) (.al (fun y0 => 0 ≤ z.i 1 ∧ z.i 1 < ↑L.length → (kd L (z.i 1) = 8 ∨ z.i 1 + 1 < ↑L.length) ∧ (tx L (z.i 1)).length ≤ 1000000) fun y0 => (.an v0 (.at (z.i 6 ≠ 0 → z.i 6 ≠ 0))))) (.an v0 (.at (z.i 6 ≠ 0 → z.i 2 ≠ 0))))
theorem F25_e (L : List G) (z24 : Zf (S24 L)) (z : Sy) : F25 L z24 z F25_h = F25_t L z := by kernel_rfl
theorem F25_d (L : List G) (z : Sy) (hA : A25 L z) : (F25_t L z).den := by
  have hB : ((0 < L.length ∧ L.length ≤ 1000000) ∧ Ends L ∧ Txs L) ∧ 0 ≤ z.i 1 ∧ z.i 1 < ↑L.length := hA
  unfold F25_t
  try conv => zeta
  repeat' (with_reducible first | intro _ | apply fmA | apply fmT | apply fmN | apply fmL | apply fmE)
  all_goals first | omega | grind [symf_ne, symf_bstr, byteAt_lt, tok8, kd, tx, po]
theorem ok25 (L : List G) (hg : Toks L) (h24 : Ok Tryz.prog 24 (S24 L)) : Ok Tryz.prog 25 (S25 L) := by
  obtain ⟨z24, h24⟩ := h24
  exact call_ok (n := 1000) (tabOf_ok mN (eC h24 eN) lN) fun z hz => ⟨F25_h, by show (F25 L z24 z F25_h).den; rw [F25_e]; exact F25_d L z ⟨hg, hz⟩⟩
noncomputable def F62_h : Hn := (.both (.both .nil .nil) .nil)
noncomputable def F62_t (L : List G) (z : Sy) : Fm := let v0 := (z.i 5 = z.i 5 ∧ z.i 4 = z.i 4 ∧ z.i 3 = z.i 3 ∧ z.i 2 = z.i 2 ∧ z.i 1 = z.i 1 ∧ L = L ∧ True); let v1 := (false = true → z.i 1 + 1 < ↑L.length ∧ kd L (z.i 1) = z.i 6); let v2 := ((L = L ∧ True) ∧ 0 ≤ z.i 1 ∧ z.i 1 < ↑L.length); let v3 := (kd L (z.i 1) = 8 ∨ z.i 1 + 1 < ↑L.length); (.two (z.i 2 = 0) (.an v2 (.al (fun y0 => 0 ≤ z.i 1 ∧ z.i 1 < ↑L.length → v3 ∧ (tx L (z.i 1)).length ≤ 1000000) fun y0 => (.two (kd L (z.i 1) = z.i 6) (.an v2 (.al (fun y1 => 0 ≤ z.i 1 ∧ z.i 1 < ↑L.length → v3 ∧ (tx L (z.i 1)).length ≤ 1000000) fun y1 => (.an v0 (.at (tx L (z.i 1) = z.s 7 → z.i 1 + 1 < ↑L.length ∧ kd L (z.i 1) = z.i 6))))) (.an v0 (.at v1))))) (.an v0 (.at v1)))
theorem F62_e (L : List G) (z24 : Zf (S24 L)) (z : Sy) : F62 L z24 z F62_h = F62_t L z := by kernel_rfl
theorem F62_d (L : List G) (z : Sy) (hA : A62 L z) : (F62_t L z).den := by
  have hB : ((0 < L.length ∧ L.length ≤ 1000000) ∧ Ends L ∧ Txs L) ∧ (0 ≤ z.i 1 ∧ z.i 1 < ↑L.length) ∧ z.i 6 ≠ 8 := hA
  unfold F62_t
  try conv => zeta
  repeat' (with_reducible first | intro _ | apply fmA | apply fmT | apply fmN | apply fmL | apply fmE)
  all_goals first | omega | grind [symf_ne, symf_bstr, byteAt_lt, tok8, kd, tx, po]
theorem ok62 (L : List G) (hg : Toks L) (h24 : Ok Tryz.prog 24 (S24 L)) : Ok Tryz.prog 62 (S62 L) := by
  obtain ⟨z24, h24⟩ := h24
  exact call_ok (n := 1000) (tabOf_ok mN (eC h24 eN) lN) fun z hz => ⟨F62_h, by show (F62 L z24 z F62_h).den; rw [F62_e]; exact F62_d L z ⟨hg, hz⟩⟩
noncomputable def F54_h : Hn := .nil
noncomputable def F54_t (L : List G) (z : Sy) : Fm := let v0 := (0 ≤ z.i 1 ∧ z.i 1 < ↑L.length); (.an ((L = L ∧ True) ∧ v0 ∧ (2 : Int) ≠ 8) (.al (fun y0 => v0 ∧ (2 : Int) ≠ 8 → y0.p 10 → z.i 1 + 1 < ↑L.length ∧ kd L (z.i 1) = 2) fun y0 => (.an (z.i 5 = z.i 5 ∧ z.i 4 = z.i 4 ∧ z.i 3 = z.i 3 ∧ z.i 2 = z.i 2 ∧ z.i 1 = z.i 1 ∧ L = L ∧ True) (.at (y0.p 10 → z.i 1 + 1 < ↑L.length ∧ kd L (z.i 1) = 2)))))
theorem F54_e (L : List G) (z62 : Zf (S62 L)) (z : Sy) : F54 L z62 z F54_h = F54_t L z := by kernel_rfl
theorem F54_d (L : List G) (z : Sy) (hA : A54 L z) : (F54_t L z).den := by
  have hB : ((0 < L.length ∧ L.length ≤ 1000000) ∧ Ends L ∧ Txs L) ∧ 0 ≤ z.i 1 ∧ z.i 1 < ↑L.length := hA
  unfold F54_t
  try conv => zeta
  repeat' (with_reducible first | intro _ | apply fmA | apply fmT | apply fmN | apply fmL | apply fmE)
  all_goals first | omega | grind [symf_ne, symf_bstr, byteAt_lt, tok8, kd, tx, po]
theorem ok54 (L : List G) (hg : Toks L) (h62 : Ok Tryz.prog 62 (S62 L)) : Ok Tryz.prog 54 (S54 L) := by
  obtain ⟨z62, h62⟩ := h62
  exact call_ok (n := 1000) (tabOf_ok mN (eC h62 eN) lN) fun z hz => ⟨F54_h, by show (F54 L z62 z F54_h).den; rw [F54_e]; exact F54_d L z ⟨hg, hz⟩⟩
noncomputable def F23_h : Hn := .nil
noncomputable def F23_t (L : List G) (z : Sy) : Fm := let v0 := (0 ≤ z.i 1 ∧ z.i 1 < ↑L.length); (.an ((L = L ∧ True) ∧ v0 ∧ (6 : Int) ≠ 8) (.al (fun y0 => v0 ∧ (6 : Int) ≠ 8 → y0.p 10 → z.i 1 + 1 < ↑L.length ∧ kd L (z.i 1) = 6) fun y0 => (.an (z.i 5 = z.i 5 ∧ z.i 4 = z.i 4 ∧ z.i 3 = z.i 3 ∧ z.i 2 = z.i 2 ∧ z.i 1 = z.i 1 ∧ L = L ∧ True) (.at (y0.p 10 → z.i 1 + 1 < ↑L.length ∧ kd L (z.i 1) = 6)))))
theorem F23_e (L : List G) (z62 : Zf (S62 L)) (z : Sy) : F23 L z62 z F23_h = F23_t L z := by kernel_rfl
theorem F23_d (L : List G) (z : Sy) (hA : A23 L z) : (F23_t L z).den := by
  have hB : ((0 < L.length ∧ L.length ≤ 1000000) ∧ Ends L ∧ Txs L) ∧ 0 ≤ z.i 1 ∧ z.i 1 < ↑L.length := hA
  unfold F23_t
  try conv => zeta
  repeat' (with_reducible first | intro _ | apply fmA | apply fmT | apply fmN | apply fmL | apply fmE)
  all_goals first | omega | grind [symf_ne, symf_bstr, byteAt_lt, tok8, kd, tx, po]
theorem ok23 (L : List G) (hg : Toks L) (h62 : Ok Tryz.prog 62 (S62 L)) : Ok Tryz.prog 23 (S23 L) := by
  obtain ⟨z62, h62⟩ := h62
  exact call_ok (n := 1000) (tabOf_ok mN (eC h62 eN) lN) fun z hz => ⟨F23_h, by show (F23 L z62 z F23_h).den; rw [F23_e]; exact F23_d L z ⟨hg, hz⟩⟩
noncomputable def F56_h : Hn := (.both .nil (.yes .nil))
noncomputable def F56_t (L : List G) (z : Sy) : Fm := let v0 := (z.i 5 = z.i 5 ∧ z.i 4 = z.i 4 ∧ L = L ∧ True); let v1 := (0 ≤ z.i 1 ∧ z.i 1 < ↑L.length); (.an ((L = L ∧ True) ∧ v1 ∧ z.i 6 ≠ 8) (.al (fun y0 => v1 ∧ z.i 6 ≠ 8 → y0.p 10 → z.i 1 + 1 < ↑L.length ∧ kd L (z.i 1) = z.i 6) fun y0 => (.two (¬y0.p 10) (.an ((L = L ∧ True) ∧ 0 ≤ z.i 1 ∧ z.i 1 < ↑L.length) (.al (fun y1 => 0 ≤ z.i 1 ∧ z.i 1 < ↑L.length → (12 : Int) ≠ 0 → y1.i 2 ≠ 0) fun y1 => (.an v0 (.at (z.i 1 ≤ z.i 1 ∧ z.i 1 < ↑L.length))))) (.an ((-9223372036854775808) ≤ z.i 1 + 1 ∧ z.i 1 + 1 ≤ 9223372036854775807) (.an v0 (.at (z.i 1 ≤ z.i 1 + 1 ∧ z.i 1 + 1 < ↑L.length)))))))
theorem F56_e (L : List G) (z62 : Zf (S62 L)) (z25 : Zf (S25 L)) (z : Sy) : F56 L z62 z25 z F56_h = F56_t L z := by kernel_rfl
theorem F56_d (L : List G) (z : Sy) (hA : A56 L z) : (F56_t L z).den := by
  have hB : ((0 < L.length ∧ L.length ≤ 1000000) ∧ Ends L ∧ Txs L) ∧ (0 ≤ z.i 1 ∧ z.i 1 < ↑L.length) ∧ z.i 6 ≠ 8 := hA
  unfold F56_t
  try conv => zeta
  repeat' (with_reducible first | intro _ | apply fmA | apply fmT | apply fmN | apply fmL | apply fmE)
  all_goals first | omega | grind [symf_ne, symf_bstr, byteAt_lt, tok8, kd, tx, po]
theorem ok56 (L : List G) (hg : Toks L) (h62 : Ok Tryz.prog 62 (S62 L)) (h25 : Ok Tryz.prog 25 (S25 L)) : Ok Tryz.prog 56 (S56 L) := by
  obtain ⟨z62, h62⟩ := h62
  obtain ⟨z25, h25⟩ := h25
  exact call_ok (n := 1000) (tabOf_ok mN (eC h62 (eC h25 eN)) lN) fun z hz => ⟨F56_h, by show (F56 L z62 z25 z F56_h).den; rw [F56_e]; exact F56_d L z ⟨hg, hz⟩⟩
noncomputable def F57_h : Hn := (.both .nil (.both .nil (.yes .nil)))
noncomputable def F57_t (L : List G) (z : Sy) : Fm := let v0 := ((L = L ∧ True) ∧ 0 ≤ z.i 1 ∧ z.i 1 < ↑L.length); let v1 := (z.i 5 = z.i 5 ∧ z.i 4 = z.i 4 ∧ L = L ∧ True); let v2 := (kd L (z.i 1) = 8 ∨ z.i 1 + 1 < ↑L.length); let v3 := (z.i 1 ≤ z.i 1 ∧ z.i 1 < ↑L.length); (.two (z.i 2 ≠ 0) (.an v0 (.al (fun y0 => 0 ≤ z.i 1 ∧ z.i 1 < ↑L.length → (12 : Int) ≠ 0 → y0.i 2 ≠ 0) fun y0 => (.an v1 (.at v3)))) (.an v0 (.al (fun y1 => 0 ≤ z.i 1 ∧ z.i 1 < ↑L.length → v2 ∧ (tx L (z.i 1)).length ≤ 1000000) fun y1 => (.two (kd L (z.i 1) ≠ 1) (.an v0 (.al (fun y2 => 0 ≤ z.i 1 ∧ z.i 1 < ↑L.length → (12 : Int) ≠ 0 → y2.i 2 ≠ 0) fun y2 => (.an v1 (.at v3)))) (.an v0 (.al (fun y3 => 0 ≤ z.i 1 ∧ z.i 1 < ↑L.length → v2 ∧ (tx L (z.i 1)).length ≤ 1000000) fun y3 => (.an ((-9223372036854775808) ≤ z.i 1 + 1 ∧ z.i 1 + 1 ≤ 9223372036854775807) (.an v1 (.at (z.i 1 ≤ z.i 1 + 1 ∧ z.i 1 + 1 < ↑L.length))))))))))
theorem F57_e (L : List G) (z24 : Zf (S24 L)) (z25 : Zf (S25 L)) (z : Sy) : F57 L z24 z25 z F57_h = F57_t L z := by kernel_rfl
theorem F57_d (L : List G) (z : Sy) (hA : A57 L z) : (F57_t L z).den := by
  have hB : ((0 < L.length ∧ L.length ≤ 1000000) ∧ Ends L ∧ Txs L) ∧ 0 ≤ z.i 1 ∧ z.i 1 < ↑L.length := hA
  unfold F57_t
  try conv => zeta
  repeat' (with_reducible first | intro _ | apply fmA | apply fmT | apply fmN | apply fmL | apply fmE)
  all_goals first | omega | grind [symf_ne, symf_bstr, byteAt_lt, tok8, kd, tx, po]
theorem ok57 (L : List G) (hg : Toks L) (h24 : Ok Tryz.prog 24 (S24 L)) (h25 : Ok Tryz.prog 25 (S25 L)) : Ok Tryz.prog 57 (S57 L) := by
  obtain ⟨z24, h24⟩ := h24
  obtain ⟨z25, h25⟩ := h25
  exact call_ok (n := 1000) (tabOf_ok mN (eC h24 (eC h25 eN)) lN) fun z hz => ⟨F57_h, by show (F57 L z24 z25 z F57_h).den; rw [F57_e]; exact F57_d L z ⟨hg, hz⟩⟩
noncomputable def F106_h : Hn := (.both .nil .nil)
noncomputable def F106_t (L : List G) (z : Sy) : Fm := let v0 := (z.i 5 = z.i 5 ∧ z.i 4 = z.i 4 ∧ z.i 1 = z.i 1 ∧ L = L ∧ True); (.two (200 ≤ z.i 6) (.an ((L = L ∧ True) ∧ 0 ≤ z.i 1 ∧ z.i 1 < ↑L.length) (.al (fun y0 => 0 ≤ z.i 1 ∧ z.i 1 < ↑L.length → (5 : Int) ≠ 0 → y0.i 2 ≠ 0) fun y0 => (.an v0 (.at (True))))) (.an v0 (.at (True))))
theorem F106_e (L : List G) (z25 : Zf (S25 L)) (z : Sy) : F106 L z25 z F106_h = F106_t L z := by kernel_rfl
theorem F106_d (L : List G) (z : Sy) (hA : A106 L z) : (F106_t L z).den := by
  have hB : ((0 < L.length ∧ L.length ≤ 1000000) ∧ Ends L ∧ Txs L) ∧ 0 ≤ z.i 1 ∧ z.i 1 < ↑L.length := hA
  unfold F106_t
  try conv => zeta
  repeat' (with_reducible first | intro _ | apply fmA | apply fmT | apply fmN | apply fmL | apply fmE)
  all_goals first | omega | grind [symf_ne, symf_bstr, byteAt_lt, tok8, kd, tx, po]
theorem ok106 (L : List G) (hg : Toks L) (h25 : Ok Tryz.prog 25 (S25 L)) : Ok Tryz.prog 106 (S106 L) := by
  obtain ⟨z25, h25⟩ := h25
  exact call_ok (n := 1000) (tabOf_ok mN (eC h25 eN) lN) fun z hz => ⟨F106_h, by show (F106 L z25 z F106_h).den; rw [F106_e]; exact F106_d L z ⟨hg, hz⟩⟩
noncomputable def F108_h : Hn := (.both (.both (.yes .nil) (.no (.yes .nil))) (.yes .nil))
noncomputable def F108_t (L : List G) (z : Sy) : Fm := let v0 := (z.i 5 = z.i 5 ∧ z.i 1 = z.i 1 ∧ L = L ∧ True); let v1 := ((false = true → z.i 4 < 40 ∧ z.i 4 = z.i 4 + 1) ∧ (¬false = true → z.i 4 = z.i 4)); (.two (z.i 2 = 0) (.two (40 ≤ z.i 4) (.an ((L = L ∧ True) ∧ 0 ≤ z.i 1 ∧ z.i 1 < ↑L.length) (.al (fun y0 => 0 ≤ z.i 1 ∧ z.i 1 < ↑L.length → (9 : Int) ≠ 0 → y0.i 2 ≠ 0) fun y0 => (.an (y0.i 2 ≠ 0) (.an v0 (.at v1))))) (.an (¬ (z.i 2 ≠ 0)) (.an ((-9223372036854775808) ≤ z.i 4 + 1 ∧ z.i 4 + 1 ≤ 9223372036854775807) (.an v0 (.at ((true = true → z.i 4 < 40 ∧ z.i 4 + 1 = z.i 4 + 1) ∧ (¬true = true → z.i 4 + 1 = z.i 4))))))) (.an (z.i 2 ≠ 0) (.an v0 (.at v1))))
theorem F108_e (L : List G) (z25 : Zf (S25 L)) (z : Sy) : F108 L z25 z F108_h = F108_t L z := by kernel_rfl
theorem F108_d (L : List G) (z : Sy) (hA : A108 L z) : (F108_t L z).den := by
  have hB : ((0 < L.length ∧ L.length ≤ 1000000) ∧ Ends L ∧ Txs L) ∧ (0 ≤ z.i 1 ∧ z.i 1 < ↑L.length) ∧ 0 ≤ z.i 4 ∧ z.i 4 ≤ 40 := hA
  unfold F108_t
  try conv => zeta
  repeat' (with_reducible first | intro _ | apply fmA | apply fmT | apply fmN | apply fmL | apply fmE)
  all_goals first | omega | grind [symf_ne, symf_bstr, byteAt_lt, tok8, kd, tx, po]
theorem ok108 (L : List G) (hg : Toks L) (h25 : Ok Tryz.prog 25 (S25 L)) : Ok Tryz.prog 108 (S108 L) := by
  obtain ⟨z25, h25⟩ := h25
  exact call_ok (n := 1000) (tabOf_ok mN (eC h25 eN) lN) fun z hz => ⟨F108_h, by show (F108 L z25 z F108_h).den; rw [F108_e]; exact F108_d L z ⟨hg, hz⟩⟩
noncomputable def F168_h : Hn := .nil
noncomputable def F168_t (z : Sy) : Fm := (.an (True) (.at (True)))
theorem F168_e (z : Sy) : F168 z F168_h = F168_t z := by kernel_rfl
theorem F168_d (z : Sy) (hA : A168 z) : (F168_t z).den := by
  have hB : True ∧ True := hA
  unfold F168_t
  try conv => zeta
  repeat' (with_reducible first | intro _ | apply fmA | apply fmT | apply fmN | apply fmL | apply fmE)
  all_goals first | omega | grind [symf_ne, symf_bstr, byteAt_lt, tok8, kd, tx, po]
theorem ok168 : Ok Tryz.prog 168 S168 := by
  exact call_ok (n := 1000) (tabOf_ok mN eN lN) fun z hz => ⟨F168_h, by show (F168 z F168_h).den; rw [F168_e]; exact F168_d z ⟨trivial, hz⟩⟩
noncomputable def F295_h : Hn := .nil
noncomputable def F295_t (z : Sy) : Fm := (.an (True) (.at (True)))
theorem F295_e (z : Sy) : F295 z F295_h = F295_t z := by kernel_rfl
theorem F295_d (z : Sy) (hA : A295 z) : (F295_t z).den := by
  have hB : True ∧ True := hA
  unfold F295_t
  try conv => zeta
  repeat' (with_reducible first | intro _ | apply fmA | apply fmT | apply fmN | apply fmL | apply fmE)
  all_goals first | omega | grind [symf_ne, symf_bstr, byteAt_lt, tok8, kd, tx, po]
theorem ok295 : Ok Tryz.prog 295 S295 := by
  exact call_ok (n := 1000) (tabOf_ok mN eN lN) fun z hz => ⟨F295_h, by show (F295 z F295_h).den; rw [F295_e]; exact F295_d z ⟨trivial, hz⟩⟩
noncomputable def F164_h : Hn := (.both .nil (.both .nil .nil))
noncomputable def F164_t (z : Sy) : Fm := (.two (z.i 10 = 4) (.an (True) (.at (True))) (.two (z.i 10 = 3) (.an (True) (.at (True))) (.an (True) (.at (True)))))
theorem F164_e (z : Sy) : F164 z F164_h = F164_t z := by kernel_rfl
theorem F164_d (z : Sy) (hA : A164 z) : (F164_t z).den := by
  have hB : True ∧ True := hA
  unfold F164_t
  try conv => zeta
  repeat' (with_reducible first | intro _ | apply fmA | apply fmT | apply fmN | apply fmL | apply fmE)
  all_goals first | omega | grind [symf_ne, symf_bstr, byteAt_lt, tok8, kd, tx, po]
theorem ok164 : Ok Tryz.prog 164 S164 := by
  exact call_ok (n := 1000) (tabOf_ok mN eN lN) fun z hz => ⟨F164_h, by show (F164 z F164_h).den; rw [F164_e]; exact F164_d z ⟨trivial, hz⟩⟩
noncomputable def F165_h : Hn := (.both (.both .nil (.both .nil .nil)) .nil)
noncomputable def F165_t (z : Sy) : Fm := (.two (z.i 1 = 6) (.two (z.s 2 = bytesOf { data := #[(46 : UInt8)] }) (.an (True) (.at (True))) (.two (z.s 2 = bytesOf { data := #[(91 : UInt8)] }) (.an (True) (.at (True))) (.an (True) (.at (True))))) (.an (True) (.at (True))))
theorem F165_e (z : Sy) : F165 z F165_h = F165_t z := by kernel_rfl
theorem F165_d (z : Sy) (hA : A165 z) : (F165_t z).den := by
  have hB : True ∧ True := hA
  unfold F165_t
  try conv => zeta
  repeat' (with_reducible first | intro _ | apply fmA | apply fmT | apply fmN | apply fmL | apply fmE)
  all_goals first | omega | grind [symf_ne, symf_bstr, byteAt_lt, tok8, kd, tx, po]
theorem ok165 : Ok Tryz.prog 165 S165 := by
  exact call_ok (n := 1000) (tabOf_ok mN eN lN) fun z hz => ⟨F165_h, by show (F165 z F165_h).den; rw [F165_e]; exact F165_d z ⟨trivial, hz⟩⟩
end Go.Proofs.YtldnnonkobikdaaGreatDoor
