/-
  SIM, part V: the whole: a closed call that the interpreter runs to 'true'.
-/
import Derived.Test.YtkkjfdoiijippaaGreatDoorSimU
namespace Go.Sim
open Go.RowKit (Below)
set_option linter.unusedVariables false

theorem exec_ok (P : Program) (w0 : World) : ∀ n : Nat, ExOk P w0 (exec P n) ∧ LpOk P w0 (exec P n) := by
  intro n
  induction n with
  | zero => exact ⟨fun c env nt f df k σ K ρ w a Q hS hG hE hD h hQ => (nofail h).elim, fun c env nt f df k σ K ρ w a Q hS hG hE hD h hQ => (nofail h).elim⟩
  | succ n ih => exact ⟨text_of_text ih.1 ih.2, loop_of_text ih.1 ih.2⟩

/-- Nothing of ours lies in the world; the values that nobody looks into are v's. -/
def rhoV (v : Nat → Value) : Rho := ⟨fun _ _ => none, v⟩
theorem goodV (v : Nat → Value) (w : World) : Good w (rhoV v) .leaf w :=
  ⟨Below.refl _ _, (fun b x h => by simp [T.get] at h), (fun b g h hh => by cases hh), (fun b g h b' g' h' hh => by cases hh), (fun b g h x hh => by cases hh)⟩
theorem calls_args {P : Program} {fuel f : Nat} {avs : List AV} (h : runsTrue P fuel f avs .leaf 1 = true) (val : Nat → Value) {vs : List Value} (hl : LR (rhoV val) avs vs) (w : World) :
    Calls P f vs.toArray w fun e w' => e = .returned (.bool true) ∧ Below w.heap.size w w' := by
  refine callsIn_wide.1 ((callF_ok (exec_ok P w fuel).1 f avs vs .ret (start .leaf 1) _ (rhoV val) w _ ?_ (goodV val w) hl h ?_).2 : CallsIn Fence.wide 0 P f _ w _)
  · exact ⟨by decide, by decide, by decide, by simp, fun y hy => by simp [T.get] at hy⟩
  · intro av v σ' ρ' w' h1 h2 h3 h4 h5
    cases h5 with
    | bool b =>
      cases b with
      | true => exact ⟨rfl, h3.below⟩
      | false => exact absurd (show false = true from h1) (by decide)
    | _ => exact absurd (show false = true from h1) (by decide)
theorem calls_true {P : Program} {fuel f : Nat} (h : runsTrue P fuel f [] .leaf 1 = true) (w : World) :
    Calls P f #[] w fun e w' => e = .returned (.bool true) ∧ Below w.heap.size w w' :=
  calls_args h (fun _ => undef) (LR.nil _) w
/-- One argument, whatever it is. -/
theorem calls_one {P : Program} {fuel f : Nat} (h : runsTrue P fuel f [.opq 0] .leaf 1 = true) (v : Value) (w : World) :
    Calls P f #[v] w fun e w' => e = .returned (.bool true) ∧ Below w.heap.size w w' :=
  calls_args h (fun _ => v) (LR.cons (.opq 0) (LR.nil _)) w
#print axioms calls_one
end Go.Sim
