/- ExecOfNothing: for every text the law returns true, and its argument reads as before. No condition but the row's own (the library's tables, laid). Whatever the text parses to is never looked into: what the reference's parser, lexer, and reader and printer of values do at any text is told by contracts (Eon texts), each got by running the code with terms in place of values (Sym texts), and by induction over loops and nesting; the known thing's run is closed (EonK). -/
import Derived.Test.YtldnnonkobikdaaGreatDoorEon2
import Derived.Test.YtldnnonkobikdaaGreatDoorEon4
import Derived.Test.YtldnnonkobikdaaGreatDoorEon6
import Derived.Test.YtldnnonkobikdaaGreatDoorEon7
import Derived.Test.YtldnnonkobikdaaGreatDoorEon11
import Derived.Test.YtldnnonkobikdaaGreatDoorEonK
import Derived.Test.YtldnnonkobikdaaGreatDoorRows
import Derived.Test.YtldnnonkobikdaaGreatDoorTie
import Derived.Test.YtldnnonkobikdaaGreatDoorCards
import Derived.Test.YtldnnonkobikdaaGreatDoorClosed
import Derived.ProofKit
import Derived.Below
import Derived.ChangeSame
import Derived.ChangeMaps5
import Derived.LaidMore
import Derived.Lay
import Derived.OpenShut
import Derived.Stop.Joined
import Derived.SevenTiedAt
namespace Go.Proofs.YtldnnonkobikdaaGreatDoor
open Go.Sym
set_option linter.unusedVariables false
theorem wfs0 (l : List G) (n : Int) : ¬ Wfs 0 l n := by with_unfolding_all exact id
theorem o103 : Ok Tryz.prog 103 S103 := ok103 ok103a (ok103b (ok159 ok225) ok160) (ok161 (ok161a (ok228 ok288a ok288b)))
theorem lev162 : ∀ k, Ok Tryz.prog 162 (S162 k)
  | 0 => okV fun z h => by
    have h : (z.s 1).length ≤ 1000000 ∧ 1 ≤ z.i 5 ∧ z.i 5 ≤ 17 ∧ 17 - z.i 5 < ((0 : Nat) : Int) := h
    omega
  | k + 1 => ok162 k ok229 (ok230 ok229 (ok230a ok233 (ok232 ok231))) o103 (ok162a ok231 (ok232 ok231)) ok162b (ok162c k ok233 ok229 (lev162 k)) (ok162d k ok233 ok229 (ok230 ok229 (ok230a ok233 (ok232 ok231))) (lev162 k)) ok162e
theorem lev334 : ∀ k, Ok Tryz.prog 334 (S334 k)
  | 0 => okV fun z h => by
    have h : 1 ≤ z.i 7 ∧ z.i 7 ≤ 17 ∧ 17 - z.i 7 < ((0 : Nat) : Int) := h
    omega
  | k + 1 => ok334 k ok334a (ok334b k (lev334 k))
theorem lev290 : ∀ k, Ok Tryz.prog 290 (S290 k)
  | 0 => okV fun z h => wfs0 _ _ h.2.1
  | k + 1 => ok290 k (ok290a k (lev290 k))
theorem o335 : Ok Tryz.prog 335 S335 := ok335 ok335a
theorem lev291 : ∀ k, Ok Tryz.prog 291 (S291 k)
  | 0 => okV fun z h => wfs0 _ _ h.2.1
  | k + 1 => ok291 k ok336 o335 (ok337 o335) (ok291a k (ok337 o335) (lev291 k))
theorem o294 : Ok Tryz.prog 294 S294 := ok294 ok294a
theorem o293 : Ok Tryz.prog 293 S293 := ok293 ok293a
theorem lev235 : ∀ k, Ok Tryz.prog 235 (S235 k)
  | 0 => okV fun z h => wfs0 _ _ h.2.1
  | k + 1 => ok235 k o294 (ok292 ok338 ok339 o293 ok292a) o293 ok235a (ok235b k (lev235 k)) (ok235c k o294 (lev235 k))
theorem o104 : Ok Tryz.prog 104 S104 := ok104 (lev162 17) (ok163 (ok234 (ok289 (lev334 17)) (lev290 17) (lev291 17)) (lev235 17))
theorem o51 : Ok Tryz.prog 51 S51 := ok51 (ok51a ok48) (ok51b ok48) ok47 ok48 o103
theorem o21 : Ok Tryz.prog 21 S21 := ok21 (ok21a ok47 ok48 (ok49 ok49a) ok50 o51 (ok52 (ok52a o104)) ok53 ok21c (ok21d ok47 ok48) ok21e)
theorem o4 : Ok Tryz.prog 4 S4 := ok4 (ok10 o21 (ok22t o103 o104) (ok23t o103 o104) (ok24t o103 o104) (ok25t o103 o104))
end Go.Proofs.YtldnnonkobikdaaGreatDoor
namespace Go.Proofs.YtldnnonkobikdaaGreatDoor
open Go.Sym
set_option linter.unusedVariables false
noncomputable section
def S3 : FSpec := { args := [.c (.s 1)], blk := [], pre := fun _ => True, res := fun _ => .one (.c (.b 10)), out := fun _ => [], post := fun _ y => y.p 10 }
end
end Go.Proofs.YtldnnonkobikdaaGreatDoor
namespace Go.Proofs.YtldnnonkobikdaaGreatDoor
open Go.Sym
noncomputable section
def F3  (z4 : Zf S4) (z : Sy) (h : Hn) : Fm := S3.callFm Tryz.prog (tabOf [.mk 9 (some 0) [] (.bool true)] [⟨4, S4, z4, false⟩] []) 1000 3 z h
def A3  (z : Sy) : Prop := True ∧ S3.pre z
end
end Go.Proofs.YtldnnonkobikdaaGreatDoor
namespace Go.Proofs.YtldnnonkobikdaaGreatDoor
open Go.Sym
set_option linter.unusedVariables false
set_option maxRecDepth 100000
set_option maxHeartbeats 4000000
noncomputable def F3_h : Hn := (.both .nil .nil)
noncomputable def F3_t (z : Sy) : Fm := (.an (True ∧ True) (.al (fun y0 => True → True) fun y0 => (.two (¬y0.p 14) (.an (True) (.at (true = true))) (.an (True) (.at (true = true))))))
theorem F3_e (z4 : Zf S4) (z : Sy) : F3 z4 z F3_h = F3_t z := by kernel_rfl
theorem F3_d (z : Sy) (hA : A3 z) : (F3_t z).den := by
  have hB : True ∧ True := hA
  unfold F3_t
  try conv => zeta
  repeat' (with_reducible first | intro _ | apply fmA | apply fmT | apply fmN | apply fmL | apply fmE)
  all_goals first | omega | grind [symf_ne, symf_bstr, byteAt_lt]
theorem ok3 (h4 : Ok Tryz.prog 4 S4) : Ok Tryz.prog 3 S3 := by
  obtain ⟨z4, h4⟩ := h4
  exact call_ok (n := 1000) (tabOf_ok (fun m hm => by rw [List.mem_singleton.1 hm]; exact knownMemo) (eC h4 eN) lN) fun z hz => ⟨F3_h, by show (F3 z4 z F3_h).den; rw [F3_e]; exact F3_d z ⟨trivial, hz⟩⟩
end Go.Proofs.YtldnnonkobikdaaGreatDoor
namespace Go.Proofs.YtldnnonkobikdaaGreatDoor
open Go.ChangeShapes Go.WideShapes Go.ChangeAt Go.RowKit Go.Sym
section
variable {H : Type} {enc : TypeId × Value → H} {P : Program}
theorem post_of_below {f : Func} {s : ChangeSpec} {apart fresh handsOn again : Bool} {W W' : World} {args : Array Value} {v : Value} {ds gs : List (DataW H)} {before pa pv : List MemPlace}
    (hW : DataW.Whole enc P f.params.toList s.vars apart W args.toList ds gs before)
    (hres : ∀ (b : Nat) (sp : Nat → Bool) (hd : Bool), DataW.TrodAll enc P W' b sp hd f.resultTypes.toList (v.resultList f.resultTypes.size) (s.fn H (ds ++ gs)).results [])
    (hargs : ∀ sp : Nat → Bool, (∀ p ∈ before, sp p.block = true) → DataW.TrodAll enc P W' 0 sp true f.params.toList args.toList (s.fn H (ds ++ gs)).args pa)
    (hvars : ∀ sp : Nat → Bool, (∀ p ∈ before, sp p.block = true) → DataW.TrodVars enc P W' sp s.vars (s.fn H (ds ++ gs)).vars pv)
    (hps : before = pa ++ pv) (hb : Below W.heap.size W W')
    (hok : ∀ (j : Nat) (t : TypeId) (r : Value), f.resultTypes[j]? = some t → (v.resultList f.resultTypes.size)[j]? = some r → Value.okWide P W' .any 0 t r) :
    s.post enc P f apart fresh handsOn again W args v W' := by
  have hlt : ∀ p ∈ before, p.block < W.heap.size := fun p hp => hW.lt p hp
  have hold : ∀ p ∈ before, (fun b => decide (b < W.heap.size)) p.block = true := fun p hp => by simpa using hlt p hp
  refine ⟨ds, gs, before, [], pa, pv, hW, hres _ _ _, hargs _ hold, hvars _ hold, World.keptBut_mono (fun p hp => ⟨hp, ?_⟩) (hb.frame (· ∈ before)), fun _ => ?_⟩
  · rw [hps, List.mem_append] at hp
    exact Or.inr hp
  · obtain ⟨_, _, _, _, _, hz, hn⟩ := hW
    refine ⟨hok, _, _, ([] ++ pa) ++ pv, ⟨[] ++ pa, pv, trodAll_append (hargs _ (fun _ _ => rfl)) (hres _ _ _), hvars _ (fun _ _ => rfl), rfl, ?_, ?_⟩, ?_⟩
    · intro b off hp
      have hin : MemPlace.cell b off ∈ before := by rw [hps]; simpa using hp
      rw [hb.frozen (hlt _ hin)]
      exact hz b off hin
    · intro ha
      have := hn ha
      rw [hps] at this
      simpa using this
    · intro p hp _
      rw [hps]
      simpa using hp
end
theorem true_of {P : Program} {f : Nat} {S : FSpec} {zf : Zf S} (h : CallOk P f S zf) {z : Sy} (hz : S.pre z) (hr : S.res z = .one (.c (.b 10))) (ho : S.out z = []) (hp : ∀ y, S.post z y → y.p 10)
    {w : World} {ρ : Rho} {vs : List Value} (hG : Go.Sym.Good w ρ (S.heap z) w) (hl : LR ρ (S.argsA z) vs) (hown : ∀ x, ¬ ρ.own x) :
    Calls P f vs.toArray w fun e w' => e = .returned (.bool true) ∧ Below w.heap.size w w' := by
  obtain ⟨_, hc⟩ := h z hz w ρ vs hG hl
  refine (callsIn_wide.1 hc).mono fun e w' ⟨v, ρ', H', a, s, he, hG', hle, hv, hpull, hpr, hy⟩ => ?_
  subst he
  rw [hr, ho] at hpull
  have hq : ∃ q, propS a = some q ∧ s.tm = [(10, .p q)] := by
    unfold pullFin pullR pullA pullS at hpull
    cases e : propS a with
    | none => rw [e] at hpull; cases hpull
    | some q =>
      rw [e] at hpull
      injection hpull with hpull
      exact ⟨q, rfl, by rw [← hpull]⟩
  obtain ⟨q, h1, h2⟩ := hq
  obtain ⟨b, rfl, hb⟩ := propS_inv hv h1
  have h3 := hp _ ((zf z).2 hz)
  rw [hy, h2] at h3
  have h4 : b = true := hb.2 h3
  subst h4
  exact ⟨rfl, hG'.below.below fun x => by rw [hle.own]; exact hown x⟩
theorem own : ownKnob Tryz.prog.godebug = none := by kernel_rfl
theorem the_call (s : ByteArray) (W : World) : Calls Tryz.prog 3 #[.string s] W fun e W' => e = .returned (.bool true) ∧ Below W.heap.size W W' := by
  obtain ⟨zf, h⟩ := ok3 o4
  exact true_of (vs := [.string s]) (z := ⟨fun _ => 0, fun _ => bytesOf s, fun _ => False, fun _ => []⟩) h trivial rfl rfl (fun _ hy => hy) (goodV (fun _ => undef) W) (LR.cons (.sS s) (LR.nil _)) (fun _ h => h)
def theLaid : List (String × DataW Unit) := Rows.execOfNothingRow.laid
theorem door_met (os : Os) (args : Array Value) : laidMetH Tryz.prog theLaid ((World.laidAll Tryz.prog os theLaid).forCall (fun _ _ => 0) ⟨#[], args, []⟩).memory := by
  rw [MakeChecks.laidMetH_plain _ _ _ (by kernel_rfl)]; exact laidMet_laidAll _ (by kernel_rfl) (by kernel_rfl)
set_option maxRecDepth 100000 in
theorem lifted (os : Os) (started : os.Started) (H : Type) (enc : TypeId × Value → H) :
    ReturnsInHanded {} Tryz.checked os 3 .any (fun w args => (Rows.execOfNothingSpec.pre enc Tryz.prog Tryz.f3 [] false w args ∧ laidMetH Tryz.prog theLaid w) ∧ sizedMet enc Tryz.prog Tryz.f3 (OpenSpec.ofChange Rows.execOfNothingSpec) false w args)
      (Rows.execOfNothingSpec.post enc Tryz.prog Tryz.f3 false true false false) := by
  refine returnsInHanded_of_change_and (C := Tryz.checked) (X := fun w _ => laidMetH Tryz.prog theLaid w) (fun _ _ _ hh h => h.of_heap hh) own started (by kernel_rfl) Tryz.func3
    (ChangeSpec.witness_shaped (enc := enc) (C := Tryz.checked) (os := os) (X := fun w _ => laidMetH Tryz.prog theLaid w) false (World.laidAll Tryz.prog os theLaid) #[.string ⟨#[]⟩] 8 (World.laidAll_os _ _ _) (World.shaped_of_ZipB (by kernel_rfl) (by kernel_rfl)) (by kernel_rfl) (by kernel_rfl) (by kernel_rfl) (door_met os _)) ?_
  intro W base args ds gs before hval0 hW _ _ hL _
  have hval : ∀ (j : Nat) t v, Tryz.f3.params[j]? = some t → args[j]? = some v → Value.okWide Tryz.prog W .any base t v := hval0
  have hW' := hW
  obtain ⟨p, q, hA0, hV, rfl, hfz, hnd⟩ := hW
  have hA : DataW.TrodAll enc Tryz.prog W 0 (fun _ => true) true Tryz.f3.params.toList args.toList ds p := hA0
  rw [Tryz.params3] at hA hval
  obtain ⟨v0, d0, rfl, rfl, h0⟩ := trodAll_one hA
  obtain ⟨rfl, rfl⟩ := trodVars_none hV
  obtain ⟨s, rfl, rfl, rfl, hs⟩ := Go.ChangeMaps.open_string Tryz.underlying9 (hval 0 9 v0 rfl rfl) h0
  clear hA0 hval0
  simp only [List.append_nil] at hW'
  refine (the_call s W).mono fun e W' ⟨he, hw⟩ => ?_
  subst he
  exact ⟨_, rfl, post_of_below (pa := []) (pv := []) hW' (fun _ _ _ => trodAll_mk1 (shut_bool Tryz.underlying4 _)) (fun sp _ => trodAll_mk1 (Go.ChangeMaps.shut_string Tryz.underlying9 hs)) (fun _ _ => rfl) rfl hw (ok_one (by kernel_rfl) rfl (okWide_bool_mk Tryz.underlying4 _))⟩
theorem named3 : Tryz.prog.funcNamed Rows.execOfNothingRow.func = some 3 := by kernel_rfl
theorem inst3 : Tryz.f3.isInstance Tryz.prog Rows.execOfNothingRow.origin Rows.execOfNothingRow.targs := of_decide_eq_true (by kernel_rfl)
theorem wrap3 : Tryz.f3.isWrapper Tryz.prog Rows.execOfNothingRow.wrapper Rows.execOfNothingRow.mainSum := by unfold Func.isWrapper; first | (rw [if_pos (by decide +kernel)]; kernel_rfl) | (rw [if_neg (by decide +kernel)]; exact ⟨rfl, rfl⟩)
theorem row_holds : Rows.ExecOfNothingSaid :=
  OpenClaim.holds_of_wide 3 Tryz.f3 rfl rfl rfl rfl rfl rfl rfl ⟨rfl, rfl, rfl, rfl, rfl⟩ rfl rfl rfl rfl rfl named3 Tryz.func3 closed
    inst3 wrap3
    (fun os started H enc _ => lifted os started H enc)
theorem wf3 : Rows.execOfNothingRow.wfByText (OpenSpec.ofChange Rows.execOfNothingSpec) = true := by kernel_rfl
theorem main3 : Tryz.pinned.checked.prog.mainIs = some (true, "d64b24b9281097713be786138393a3025cf58f61457b78efed08d033b0fc89f7".toList) := by kernel_rfl
theorem looks3 : true = Tryz.pinned.checked.prog.looks [] := by kernel_rfl
theorem goes_of {P : Program} (h : P.funcs.any Func.goes = false) (c : OpenClaim) (hs : c.start = .entering) : false = c.goesBy P := by
  have hg : ∀ f, P.goes f = false := fun f => by
    unfold Program.goes
    rw [h, Bool.and_false, Bool.or_false, ← Bool.not_eq_true]
    intro hc
    obtain ⟨g, _, hg⟩ := List.any_eq_true.1 hc
    cases e : P.funcs[g]? with
    | none => rw [e] at hg; cases hg
    | some fn =>
      rw [e] at hg
      have : P.funcs.any Func.goes = true := Array.any_eq_true.2 (by
        obtain ⟨h1, h2⟩ := Array.getElem?_eq_some_iff.1 e
        exact ⟨g, h1, by rw [h2]; exact hg⟩)
      rw [h] at this; cases this
  unfold OpenClaim.goesBy Program.goesAt Program.goesFrom
  rw [hs]
  cases P.funcNamed c.func with
  | none => rfl
  | some f => simp [hg f]
theorem goes_none : Tryz.prog.funcs.any Func.goes = false := by kernel_rfl
theorem goes3 : false = Rows.execOfNothingRow.goesBy Tryz.pinned.checked.prog := goes_of goes_none _ rfl
theorem wants3 : ([9].all fun u => !Tryz.prog.wantsStandIn u) = true := by kernel_rfl
theorem card_holds : Rows.ExecOfNothingCardSaid :=
  Claim7.holds_tied_plain_at .later [] [.data, .data, .data, .data, .pinned, .pinned] true (true, "d64b24b9281097713be786138393a3025cf58f61457b78efed08d033b0fc89f7") true
    row_holds (fun _ h => by cases h) wf3 (fun _ h => by cases h) execOfNothing_row_tie rfl ⟨rfl, rfl⟩ main3 rfl
    (fun f fn hf hfn => by
      obtain rfl : f = 3 := Option.some.inj (named3.symm.trans hf) |>.symm
      obtain rfl : fn = Tryz.f3 := (Option.some.inj (Tryz.func3.symm.trans hfn)).symm
      exact ⟨looks3, fun j t ht => by
        rw [Tryz.params3] at ht
        have hm : t ∈ [9] := by simpa using Array.mem_of_getElem? ht
        exact (show Tryz.prog.wantsStandIn t = false by simpa using List.all_eq_true.1 wants3 t hm)⟩)
    goes3
#print axioms card_holds
end Go.Proofs.YtldnnonkobikdaaGreatDoor
