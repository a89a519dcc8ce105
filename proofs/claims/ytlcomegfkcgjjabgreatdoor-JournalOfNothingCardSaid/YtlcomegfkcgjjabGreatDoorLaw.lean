/- JournalOfNothing: for every block and every int the law returns true, and its arguments read as before. No condition but the row's own (the library's tables, laid). The run itself is closed: the arguments are never looked into; an interpreter proved right (the Sim texts) does it in the kernel; the sums that it asks for are run ahead (Memo texts). -/
import Derived.Test.YtlcomegfkcgjjabGreatDoorRows
import Derived.Test.YtlcomegfkcgjjabGreatDoorTie
import Derived.Test.YtlcomegfkcgjjabGreatDoorCards
import Derived.Test.YtlcomegfkcgjjabGreatDoorRun
import Derived.Test.YtlcomegfkcgjjabGreatDoorClosed
import Derived.ProofKit
import Derived.Below
import Derived.ChangeSame
import Derived.ChangeArms
import Derived.LaidMore
import Derived.LaidSub
import Derived.OpenShut
import Derived.Carry
import Derived.Stop.Joined
import Derived.SevenTiedAt
namespace Go.Proofs.YtlcomegfkcgjjabGreatDoor
open Go.ChangeShapes Go.WideShapes Go.ChangeAt Go.RowKit Go.Sim

section
variable {H : Type} {enc : TypeId × Value → H} {P : Program}
theorem post_of_below {f : Func} {s : ChangeSpec} {apart fresh handsOn again : Bool} {W W' : World} {args : Array Value} {v : Value} {ds gs : List (DataW H)} {before pa pv : List MemPlace}
    (hW : DataW.Whole enc P f.params.toList s.vars apart W args.toList ds gs before)
    (hres : ∀ (b : Nat) (sp : Nat → Bool) (hd : Bool), DataW.TrodAll enc P W' b sp hd f.resultTypes.toList (v.resultList f.resultTypes.size) (s.fn H (ds ++ gs)).results [])
    (hargs : ∀ sp : Nat → Bool, (∀ p ∈ before, sp p.block = true) → DataW.TrodAll enc P W' 0 sp true f.params.toList args.toList (s.fn H (ds ++ gs)).args pa)
    (hvars : ∀ sp : Nat → Bool, (∀ p ∈ before, sp p.block = true) → DataW.TrodVars enc P W' sp s.vars (s.fn H (ds ++ gs)).vars pv)
    (hps : before = pa ++ pv) (hb : Below W.heap.size W W')
    (hok : ∀ (j : Nat) (t : TypeId) (r : Value), f.resultTypes[j]? = some t → (v.resultList f.resultTypes.size)[j]? = some r → Value.okWide P W' .any 0 t r) :
    s.post enc P f apart fresh handsOn again W args v W' := by
  have hlt : ∀ p ∈ before, p.block < W.heap.size := fun p hp => hW.lt p hp
  have hold : ∀ p ∈ before, (fun b => decide (b < W.heap.size)) p.block = true := fun p hp => by simpa using hlt p hp
  refine ⟨ds, gs, before, [], pa, pv, hW, hres _ _ _, hargs _ hold, hvars _ hold, World.keptBut_mono (fun p hp => ⟨hp, ?_⟩) (hb.frame (· ∈ before)), fun _ => ?_⟩
  · rw [hps, List.mem_append] at hp
    exact Or.inr hp
  · obtain ⟨_, _, _, _, _, hz, hn⟩ := hW
    refine ⟨hok, _, _, ([] ++ pa) ++ pv, ⟨[] ++ pa, pv, trodAll_append (hargs _ (fun _ _ => rfl)) (hres _ _ _), hvars _ (fun _ _ => rfl), rfl, ?_, ?_⟩, ?_⟩
    · intro b off hp
      have hin : MemPlace.cell b off ∈ before := by rw [hps]; simpa using hp
      rw [hb.frozen (hlt _ hin)]
      exact hz b off hin
    · intro ha
      have := hn ha
      rw [hps] at this
      simpa using this
    · intro p hp _
      rw [hps]
      simpa using hp
end

/-! ### What the tables hold -/
theorem laid_mem {P : Program} {w : World} : ∀ {l : List (String × DataW Unit)} {ps : List MemPlace}, DataW.LaidVars P w l ps → ∀ n d, (n, d) ∈ l →
    ∃ g t cs fuel p, P.globalNamed n = some g ∧ (P.globals[g]?).map (·.type) = some t ∧ w.var? P n = some cs ∧ DataW.trod (fun _ => ()) P w 0 (fun _ => true) false fuel t cs.toList = some (d, p)
  | [], _, _, _, _, hm => by cases hm
  | (n, d) :: r, ps, ⟨g, t, cs, fuel, p, q, h1, h2, h3, h4, hr, _⟩, n', d', hm => by
    rcases List.mem_cons.1 hm with e | hm
    · cases e; exact ⟨g, t, cs, fuel, p, h1, h2, h3, h4⟩
    · exact laid_mem hr n' d' hm
theorem var_heap {P : Program} {w : World} {n : String} {g : Nat} {cs : Array Value} (hg : P.globalNamed n = some g) (h : w.var? P n = some cs) : ∃ t fr, w.heap[g]? = some (.cells cs t fr) := by
  simp only [World.var?, hg, Option.bind_some] at h
  split at h
  · rename_i c t fr e
    injection h with h
    subst h
    exact ⟨t, fr, e⟩
  · cases h

def theLaid : List (String × DataW Unit) := Rows.journalOfNothingRow.laid
set_option maxRecDepth 100000 in
theorem tab_lit : (Rows.laid_math_bits_deBruijn64tab : DataW Unit) = .agg (tab64.map fun n => .lit (.int .u8 (n : Nat))) := rfl
theorem laid_plain : (theLaid.filter fun x => x.2.handleName?.isSome) = [] := by kernel_rfl
theorem laid_get {W : World} (h : laidMetH Tryz.prog theLaid W) (n : String) (d : DataW Unit) (hm : (n, d) ∈ theLaid) :
    ∃ g t cs fuel p, Tryz.prog.globalNamed n = some g ∧ (Tryz.prog.globals[g]?).map (·.type) = some t ∧ W.var? Tryz.prog n = some cs ∧ DataW.trod (fun _ => ()) Tryz.prog W 0 (fun _ => true) false fuel t cs.toList = some (d, p) := by
  unfold laidMetH at h
  rw [laid_plain] at h
  obtain ⟨ps, hl, _⟩ := h
  exact laid_mem hl n d hm
theorem iface_one {H : Type} {enc : TypeId × Value → H} {P : Program} {w : World} {base : Nat} {sp : Nat → Bool} {fuel : Nat} {t : TypeId} {ms : Array (String × TypeId)} {cs : List Value} {x : DataW H × List MemPlace} (ht : P.underlying t = some (.interface ms))
    (h : DataW.trod enc P w base sp false fuel t cs = some x) : ∃ v, cs = [v] ∧ v.oneCell' = true := by
  cases fuel with
  | zero => simp [DataW.trod] at h
  | succ n =>
    unfold DataW.trod at h
    rw [ht] at h
    split at h <;> simp_all [Value.oneCell']

theorem u8_row {H : Type} {enc : TypeId × Value → H} {P : Program} {w : World} {base : Nat} {sp : Nat → Bool} {held : Bool} {fuel : Nat} {t e n : Nat} {cs : List Value} {l : List Nat} {p : List MemPlace} (ht : P.underlying t = some (.array n e)) (he : P.underlying e = some (.int .u8)) (hc : P.cellsOf e = 1)
    (hl : l.length = n) (h : DataW.trod enc P w base sp held fuel t cs = some (.agg (l.map fun n => .lit (.int .u8 (n : Nat))), p)) : cs.length = P.cellsOf t ∧ ∀ (i m : Nat), l[i]? = some m → cs[i]? = some (.int .u8 (m : Nat)) := by
  obtain ⟨xs, k, _, hx, hlen, hxl, hel⟩ := DataW.trod_array ht h
  simp only [Prod.mk.injEq, DataW.agg.injEq] at hx
  refine ⟨hlen, fun i m hi => ?_⟩
  have hin : i < n := by rw [← hl]; exact (List.getElem?_eq_some_iff.1 hi).1
  have e1 : (xs.map (·.1))[i]? = some (.lit (.int .u8 (m : Nat))) := by rw [← hx.1, List.getElem?_map, hi]; rfl
  rw [List.getElem?_map, Option.map_eq_some_iff] at e1
  obtain ⟨y, hy, hy1⟩ := e1
  have e2 := hel i hin
  rw [hy, hc, Nat.mul_one] at e2
  obtain ⟨q, hk, hyk, _⟩ := DataW.trod_int he e2
  rw [hyk] at hy1
  simp only [DataW.lit.injEq, Lit.int.injEq, true_and] at hy1
  subst hy1
  have e3 : ((cs.drop i).take 1)[0]? = some (.int .u8 (m : Nat)) := by rw [hk]; rfl
  rw [List.getElem?_take_of_lt (by decide), List.getElem?_drop] at e3
  simpa using e3
theorem cells267 : Tryz.prog.cellsOf 267 = 64 := by kernel_rfl
theorem cells5 : Tryz.prog.cellsOf 5 = 1 := by kernel_rfl
theorem tab_mem : ("math/bits.deBruijn64tab", (Rows.laid_math_bits_deBruijn64tab : DataW Unit)) ∈ theLaid := List.mem_of_getElem? (i := 1) (by kernel_rfl)
theorem tab_trod {W : World} (h : laidMetH Tryz.prog theLaid W) : ∃ cs fuel p, W.var? Tryz.prog "math/bits.deBruijn64tab" = some cs ∧ DataW.trod (fun _ => ()) Tryz.prog W 0 (fun _ => true) false fuel 267 cs.toList = some ((Rows.laid_math_bits_deBruijn64tab : DataW Unit), p) := by
  obtain ⟨g, t, cs, fuel, p, hg, ht, hv, hd⟩ := laid_get h _ _ tab_mem
  obtain rfl := Option.some.inj ((show Tryz.prog.globalNamed "math/bits.deBruijn64tab" = some 0 by kernel_rfl).symm.trans hg)
  obtain rfl := Option.some.inj ((show (Tryz.prog.globals[0]?).map (·.type) = some 267 by kernel_rfl).symm.trans ht)
  exact ⟨cs, fuel, p, hv, hd⟩
theorem tab_len : tab64.length = 64 := by kernel_rfl
theorem tab_trod' {W : World} (h : laidMetH Tryz.prog theLaid W) : ∃ cs fuel p, W.var? Tryz.prog "math/bits.deBruijn64tab" = some cs ∧ DataW.trod (fun _ => ()) Tryz.prog W 0 (fun _ => true) false fuel 267 cs.toList = some ((.agg (tab64.map fun n => .lit (.int .u8 (n : Nat))) : DataW Unit), p) := by
  have := tab_trod h
  rwa [tab_lit] at this
theorem tab_cells {W : World} (h : laidMetH Tryz.prog theLaid W) : ∃ cs t fr, W.heap[0]? = some (.cells cs t fr) ∧ cs.size = 64 ∧ ∀ (i n : Nat), tab64[i]? = some n → cs[i]? = some (.int .u8 (n : Nat)) := by
  obtain ⟨cs, fuel, p, hv, hd⟩ := tab_trod' h
  obtain ⟨bt, fr, hh⟩ := var_heap (show Tryz.prog.globalNamed "math/bits.deBruijn64tab" = some 0 by kernel_rfl) hv
  obtain ⟨hlen, hall⟩ := u8_row Tryz.underlying267 Tryz.underlying5 cells5 tab_len hd
  rw [cells267] at hlen
  exact ⟨cs, bt, fr, hh, by rw [← hlen, Array.length_toList], fun i n hi => by rw [← Array.getElem?_toList]; exact hall i n hi⟩

theorem err_cell {W : World} (h : laidMetH Tryz.prog theLaid W) : ∃ v t fr, W.heap[1]? = some (.cells #[v] t fr) ∧ v.oneCell' = true := by
  have hm : ("strconv.ErrSyntax", (Rows.laid_strconv_ErrSyntax : DataW Unit)) ∈ theLaid := List.mem_of_getElem? (i := 4) (by kernel_rfl)
  obtain ⟨g, t, cs, fuel, p, hg, ht, hv, hd⟩ := laid_get h _ _ hm
  obtain rfl := Option.some.inj ((show Tryz.prog.globalNamed "strconv.ErrSyntax" = some 1 by kernel_rfl).symm.trans hg)
  obtain rfl := Option.some.inj ((show (Tryz.prog.globals[1]?).map (·.type) = some 176 by kernel_rfl).symm.trans ht)
  obtain ⟨bt, fr, hh⟩ := var_heap hg hv
  obtain ⟨v, hv1, ho⟩ := iface_one Tryz.underlying176 hd
  have e : cs = #[v] := by apply Array.ext'; simpa using hv1
  subst e
  exact ⟨v, bt, fr, hh, ho⟩

/-! ### The interpreter's start fits the world -/
theorem tables_run {t0 t1 : Nat} {k : T ABlk → Bool} (h : tables t0 t1 k = true) : ∃ (H : T ABlk) (c0 c1 : T Sim.Cell), k H = true ∧ H.get 0 = some (.cells c0 0 0 64 0 0 true t0) ∧ H.get 1 = some (.cells c1 0 0 1 0 0 true t1) ∧
    (∀ b x, H.get b = some x → b = 0 ∨ b = 1) ∧ (∀ o x, c0.get o = some x → ∃ n, tab64[o]? = some n ∧ x = .mk 0 (.int .u8 (n : Nat))) ∧ (∀ o x, c1.get o = some x → o = 0 ∧ x = .mk 0 (.opc 37)) := by
  unfold tables at h
  obtain ⟨c, h, hc⟩ := byteRow_run tab64 0 .leaf h
  rw [T.setK_eq, T.setK_eq, T.setK_eq] at h
  refine ⟨_, c, _, h, ?_, T.get_set_same _ _ _ (by decide), fun b x hx => ?_, fun o x hx => ?_, fun o x hx => ?_⟩
  · rw [T.get_set_ne _ (by decide)]; exact T.get_set_same _ _ _ (by decide)
  · by_cases e1 : b = 1
    · exact .inr e1
    · rw [T.get_set_ne _ e1] at hx
      by_cases e0 : b = 0
      · exact .inl e0
      · rw [T.get_set_ne _ e0] at hx; simp [T.get] at hx
  · rcases hc o x hx with ⟨j, n, e, hj, hx'⟩ | ⟨hx', _⟩
    · rw [Nat.zero_add] at e
      subst e
      exact ⟨n, hj, hx'⟩
    · simp [T.get] at hx'
  · by_cases e0 : o = 0
    · subst e0
      exact ⟨rfl, T.get_set_some _ _ hx⟩
    · rw [T.get_set_ne _ e0] at hx; simp [T.get] at hx
def rhoJ (v : Nat → Value) : Rho := ⟨fun b g => if g = 0 then (if b = 0 then some ⟨0, 0, 64⟩ else if b = 1 then some ⟨1, 0, 1⟩ else none) else none, v⟩
theorem rhoJ_at {v : Nat → Value} {b g : Nat} {h : Home} (hh : (rhoJ v).at_ b g = some h) : g = 0 ∧ ((b = 0 ∧ h = ⟨0, 0, 64⟩) ∨ (b = 1 ∧ h = ⟨1, 0, 1⟩)) := by
  have hh : (if g = 0 then (if b = 0 then some (⟨0, 0, 64⟩ : Home) else if b = 1 then some ⟨1, 0, 1⟩ else none) else none) = some h := hh
  split at hh
  · rename_i e
    refine ⟨e, ?_⟩
    split at hh
    · rename_i e0; injection hh with hh; exact .inl ⟨e0, hh.symm⟩
    · split at hh
      · rename_i e1; injection hh with hh; exact .inr ⟨e1, hh.symm⟩
      · cases hh
  · cases hh
theorem goodJ {W : World} {v : Nat → Value} {cs : Array Value} {t0 t1 : Nat} {fr0 fr1 : Nat × Nat} {e : Value} (h0 : W.heap[0]? = some (.cells cs t0 fr0)) (hs : cs.size = 64) (hc : ∀ (i n : Nat), tab64[i]? = some n → cs[i]? = some (.int .u8 (n : Nat)))
    (h1 : W.heap[1]? = some (.cells #[e] t1 fr1)) (he : e.oneCell' = true) (hv : v 37 = e) {H : T ABlk} {c0 c1 : T Sim.Cell} (g0 : H.get 0 = some (.cells c0 0 0 64 0 0 true t0)) (g1 : H.get 1 = some (.cells c1 0 0 1 0 0 true t1))
    (g2 : ∀ b x, H.get b = some x → b = 0 ∨ b = 1) (g3 : ∀ o x, c0.get o = some x → ∃ n, tab64[o]? = some n ∧ x = .mk 0 (.int .u8 (n : Nat))) (g4 : ∀ o x, c1.get o = some x → o = 0 ∧ x = .mk 0 (.opc 37)) : Go.Sim.Good W (rhoJ v) H W := by
  have lt0 : 0 < W.heap.size := (Array.getElem?_eq_some_iff.1 h0).1
  have lt1 : 1 < W.heap.size := (Array.getElem?_eq_some_iff.1 h1).1
  refine ⟨Below.refl _ _, fun b x hx => ?_, fun b g h hh => ?_, fun b g h b' g' h' hh hh' eb => ?_, fun b g h x hh hx => ?_⟩
  · rcases g2 b x hx with rfl | rfl
    · rw [g0] at hx; injection hx with hx; subst hx
      refine ⟨fun o x hx => ?_, fun g hg => ?_⟩
      · obtain ⟨n, hn, rfl⟩ := g3 o x hx
        exact ⟨Nat.zero_le _, (List.getElem?_eq_some_iff.1 hn).1, Nat.le_refl _⟩
      · have : g = 0 := by omega
        subst this
        refine ⟨⟨0, 0, 64⟩, rfl, (fun h => by cases h), fun _ _ => ⟨rfl, rfl⟩, cs, fr0, h0, hs, (fun h => by cases h), fun o tag a ho _ => ?_⟩
        obtain ⟨n, hn, e⟩ := g3 o _ ho
        injection e with _ e
        subst e
        exact ⟨Nat.zero_le _, _, hc o n hn, .int _ _⟩
    · rw [g1] at hx; injection hx with hx; subst hx
      refine ⟨fun o x hx => ?_, fun g hg => ?_⟩
      · obtain ⟨rfl, rfl⟩ := g4 o x hx
        exact ⟨Nat.zero_le _, by decide, Nat.le_refl _⟩
      · have : g = 0 := by omega
        subst this
        refine ⟨⟨1, 0, 1⟩, rfl, (fun h => by cases h), fun _ _ => ⟨rfl, rfl⟩, #[e], fr1, h1, rfl, (fun h => by cases h), fun o tag a ho _ => ?_⟩
        obtain ⟨rfl, ea⟩ := g4 o _ ho
        injection ea with _ ea
        subst ea
        refine ⟨Nat.zero_le _, e, rfl, ?_⟩
        have := VR.opc (ρ := rhoJ v) 37 (by show (v 37).oneCell' = true; rw [hv]; exact he)
        have ev : (rhoJ v).val 37 = e := hv
        rwa [ev] at this
  · obtain ⟨_, ⟨rfl, rfl⟩ | ⟨rfl, rfl⟩⟩ := rhoJ_at hh
    · exact ⟨lt0, _, g0⟩
    · exact ⟨lt1, _, g1⟩
  · obtain ⟨_, ⟨rfl, rfl⟩ | ⟨rfl, rfl⟩⟩ := rhoJ_at hh <;> obtain ⟨_, ⟨rfl, rfl⟩ | ⟨rfl, rfl⟩⟩ := rhoJ_at hh' <;> first | exact ⟨rfl, rfl⟩ | exact absurd eb (by decide)
  · obtain ⟨rfl, ⟨rfl, _⟩ | ⟨rfl, _⟩⟩ := rhoJ_at hh
    · rw [g0] at hx; injection hx with hx; subst hx; exact Nat.le_refl _
    · rw [g1] at hx; injection hx with hx; subst hx; exact Nat.le_refl _

/-- The call, at whatever block and int. -/
theorem the_call {W : World} (hL : laidMetH Tryz.prog theLaid W) {cs : Array Value} (hs : cs.size = 36) {base : Option Addr} {len cap : Nat} (hsl : cs[35]? = some (.slice base len cap)) (v1 : Value) :
    Calls Tryz.prog 3 #[.agg cs, v1] W fun e W' => e = .returned (.bool true) ∧ Below W.heap.size W W' := by
  obtain ⟨tc, t0, fr0, h0, hs0, hc0⟩ := tab_cells hL
  obtain ⟨e, t1, fr1, h1, he⟩ := err_cell hL
  obtain ⟨H, c0, c1, hrun, g0, g1, g2, g3, g4⟩ := tables_run (run_all t0 t1)
  let val : Nat → Value := fun n => if n < 36 then cs.getD n undef else if n = 36 then v1 else e
  have hG : Go.Sim.Good W (rhoJ val) H W := goodJ h0 hs0 hc0 h1 he rfl g0 g1 g2 g3 g4
  have hval : ∀ i v, cs[i]? = some v → val i = v := fun i v hv => by
    have hi : i < cs.size := (Array.getElem?_eq_some_iff.1 hv).1
    show (if i < 36 then cs.getD i undef else if i = 36 then v1 else e) = v
    rw [if_pos (by omega), Array.getD_eq_getD_getElem?, hv]; rfl
  have hargs : LR (rhoJ val) args [.agg cs, v1] := by
    refine LR.cons (.agg _ cs (by rw [hs]; rfl) fun i a v ha hv => ?_) (LR.cons (.opq 36) (LR.nil _))
    have e0 := hval i v hv
    have hi : i < 36 := by have := (Array.getElem?_eq_some_iff.1 hv).1; omega
    rcases Nat.lt_or_ge i 35 with hi' | hi'
    · have ea : ((List.range 35).map AV.opq)[i]? = some a := by
        have ea : ((List.range 35).map AV.opq ++ [.osl 35])[i]? = some a := ha
        rwa [List.getElem?_append_left (by simpa using hi')] at ea
      rw [List.getElem?_map, List.getElem?_range hi'] at ea
      injection ea with ea
      subst ea
      have := VR.opq (ρ := rhoJ val) i
      have e1 : (rhoJ val).val i = v := e0
      rwa [e1] at this
    · have : i = 35 := by omega
      subst this
      have ea : some (AV.osl 35) = some a := ha
      injection ea with ea
      subst ea
      rw [hsl] at hv; injection hv with hv
      subst hv
      exact .osl 35 base len cap e0
  exact calls_true_at memos_ok hrun (by decide) (by decide) hG hargs

theorem own : ownKnob Tryz.prog.godebug = none := by kernel_rfl
/-- The door's own heap meets the condition. -/
theorem door_met (os : Os) (args : Array Value) : laidMetH Tryz.prog theLaid ((World.doorLaid Tryz.prog 62 os).forCall (fun _ _ => 0) ⟨#[], args, []⟩).memory :=
  laidMetH_of_parts3 (fuel := 8) (laidMet_of_run' 8 (by kernel_rfl) (by kernel_rfl)) (by kernel_rfl) (by kernel_rfl)

theorem cells26 : Tryz.prog.cellsOf 26 = 36 := by kernel_rfl
theorem cells24 : Tryz.prog.cellsOf 24 = 1 := by kernel_rfl
set_option maxRecDepth 100000 in
theorem open_block {H : Type} {enc : TypeId × Value → H} {W : World} {base : Nat} {sp : Nat → Bool} {held : Bool} {v0 : Value} {d0 : DataW H} {p0 : List MemPlace} (hv : Value.okWide Tryz.prog W .any base 26 v0) (h0 : DataW.Trod enc Tryz.prog W 0 sp held 26 v0 d0 p0) :
    ∃ cs b len cap, v0 = .agg cs ∧ cs.size = 36 ∧ cs[35]? = some (.slice b len cap) := by
  obtain ⟨cs, rfl, hs⟩ := okWide_struct Tryz.underlying26 hv
  rw [cells26] at hs
  obtain ⟨fuel, hf⟩ := h0
  obtain ⟨xs, n, _, _, _, hxl, hel⟩ := DataW.trod_struct Tryz.underlying26 hf
  have h4 := hel 4 _ rfl
  have hx : ∃ y, xs[4]? = some y := ⟨xs[4]'(by rw [hxl]; decide), List.getElem?_eq_getElem _⟩
  obtain ⟨y, hy⟩ := hx
  rw [hy] at h4
  have h4 : DataW.trod enc Tryz.prog W 0 sp held n 24 ((cs.toList.drop 35).take (Tryz.prog.cellsOf 24)) = some y := h4
  rw [cells24] at h4
  have get : ∀ v, (cs.toList.drop 35).take 1 = [v] → cs[35]? = some v := fun v e => by
    have e3 : ((cs.toList.drop 35).take 1)[0]? = some v := by rw [e]; rfl
    rw [List.getElem?_take_of_lt (by decide), List.getElem?_drop] at e3
    simpa using e3
  rcases DataW.trod_slice Tryz.underlying24 h4 with ⟨e, _⟩ | ⟨a, len, cap, _, _, _, _, e, _⟩
  · exact ⟨cs, none, 0, 0, rfl, hs, get _ e⟩
  · exact ⟨cs, some a, len, cap, rfl, hs, get _ e⟩

theorem laidOut : laidOutB Tryz.prog = true := by kernel_rfl
theorem readable26 : Tryz.prog.readableRec 26 = true := by kernel_rfl
set_option maxRecDepth 100000 in
theorem row26 : 26 < Tryz.prog.types.size := of_decide_eq_true (by kernel_rfl)

set_option maxRecDepth 100000 in
theorem lifted (os : Os) (started : os.Started) (H : Type) (enc : TypeId × Value → H) :
    ReturnsInHanded {} Tryz.checked os 3 .any (fun w args => (Rows.journalOfNothingSpec.pre enc Tryz.prog Tryz.f3 [] false w args ∧ laidMetH Tryz.prog theLaid w) ∧ sizedMet enc Tryz.prog Tryz.f3 (OpenSpec.ofChange Rows.journalOfNothingSpec) false w args)
      (Rows.journalOfNothingSpec.post enc Tryz.prog Tryz.f3 false true false false) := by
  refine returnsInHanded_of_change_and (C := Tryz.checked) (X := fun w _ => laidMetH Tryz.prog theLaid w) (fun _ _ _ hh h => h.of_heap hh) own started (by kernel_rfl) Tryz.func3
    (ChangeSpec.witness_shaped (enc := enc) (C := Tryz.checked) (os := os) (X := fun w _ => laidMetH Tryz.prog theLaid w) false (World.doorLaid Tryz.prog 62 os) #[.agg #[.int .i64 0, .int .i64 0, .int .i64 0, .int .u8 0, .int .u8 0, .int .u8 0, .int .u8 0, .int .u8 0, .int .u8 0, .int .u8 0, .int .u8 0, .int .u8 0, .int .u8 0, .int .u8 0, .int .u8 0, .int .u8 0, .int .u8 0, .int .u8 0, .int .u8 0, .int .u8 0, .int .u8 0, .int .u8 0, .int .u8 0, .int .u8 0, .int .u8 0, .int .u8 0, .int .u8 0, .int .u8 0, .int .u8 0, .int .u8 0, .int .u8 0, .int .u8 0, .int .u8 0, .int .u8 0, .int .u8 0, .slice none 0 0], .int .i64 0] 8 rfl (World.shaped_of_RefB (by kernel_rfl) (by kernel_rfl)) (by kernel_rfl) (by kernel_rfl) (by kernel_rfl) (door_met os _)) ?_
  intro W base args ds gs before hval0 hW _ _ hL _
  have hval : ∀ (j : Nat) t v, Tryz.f3.params[j]? = some t → args[j]? = some v → Value.okWide Tryz.prog W .any base t v := hval0
  have hW' := hW
  obtain ⟨p, q, hA0, hV, rfl, hfz, hnd⟩ := hW
  have hA : DataW.TrodAll enc Tryz.prog W 0 (fun _ => true) true Tryz.f3.params.toList args.toList ds p := hA0
  rw [Tryz.params3] at hA hval
  obtain ⟨v0, v1, d0, d1, p0, p1, rfl, rfl, rfl, h0, h1⟩ := trodAll_two hA
  obtain ⟨rfl, rfl⟩ := trodVars_none hV
  obtain ⟨n, rfl, rfl, rfl, hwn⟩ := open_int Tryz.underlying3 (hval 1 3 v1 rfl rfl) h1
  obtain ⟨cs, b, len, cap, rfl, hs, hsl⟩ := open_block (hval 0 26 v0 rfl rfl) h0
  clear hA0 hval0
  simp only [List.append_nil] at hW'
  have hlt : ∀ x ∈ p0, x.block < W.heap.size := fun x hx => hW'.lt x hx
  refine (the_call hL hs hsl (.int .i64 n)).mono fun e W' ⟨he, hw⟩ => ?_
  subst he
  exact ⟨_, rfl, post_of_below (pa := p0 ++ []) (pv := []) hW' (fun _ _ _ => trodAll_mk1 (shut_bool Tryz.underlying4 _))
    (fun sp hsp => trodAll_mk2 (WideElems.Trod_stays laidOut readable26 row26 h0 (fun x hx => hw.same (hlt x hx)) (fun x hx => hsp x hx)) (shut_int Tryz.underlying3 hwn))
    (fun _ _ => rfl) (by simp) hw (ok_one (by kernel_rfl) rfl (okWide_bool_mk Tryz.underlying4 _))⟩

theorem named3 : Tryz.prog.funcNamed Rows.journalOfNothingRow.func = some 3 := by kernel_rfl
theorem inst3 : Tryz.f3.isInstance Tryz.prog Rows.journalOfNothingRow.origin Rows.journalOfNothingRow.targs := of_decide_eq_true (by kernel_rfl)
theorem wrap3 : Tryz.f3.isWrapper Tryz.prog Rows.journalOfNothingRow.wrapper Rows.journalOfNothingRow.mainSum := by unfold Func.isWrapper; first | (rw [if_pos (by decide +kernel)]; kernel_rfl) | (rw [if_neg (by decide +kernel)]; exact ⟨rfl, rfl⟩)
theorem row_holds : Rows.JournalOfNothingSaid :=
  OpenClaim.holds_of_wide 3 Tryz.f3 rfl rfl rfl rfl rfl rfl rfl ⟨rfl, rfl, rfl, rfl, rfl⟩ rfl rfl rfl rfl rfl named3 Tryz.func3 closed
    inst3 wrap3
    (fun os started H enc _ => lifted os started H enc)

theorem card_holds : Rows.JournalOfNothingCardSaid :=
  Claim7.holds_tied_plain_at .later [] [.data, .data, .data, .sentinel, .sentinel] true (true, "3973b40a34ff731f7cd4a7c631bc186d9f3be9ea36426391de6716ad8da232c6") true
    row_holds (fun _ h => by cases h) (by kernel_rfl) (fun _ h => by cases h) journalOfNothing_row_tie rfl ⟨rfl, rfl⟩ (by kernel_rfl) rfl
    (fun f fn hf hfn => by
      obtain rfl : f = 3 := Option.some.inj (named3.symm.trans hf) |>.symm
      obtain rfl : fn = Tryz.f3 := (Option.some.inj (Tryz.func3.symm.trans hfn)).symm
      exact ⟨by kernel_rfl, fun j t ht => by
        rw [Tryz.params3] at ht
        have hm : t ∈ [26, 3] := by simpa using Array.mem_of_getElem? ht
        have hall : ([26, 3].all fun u => !Tryz.prog.wantsStandIn u) = true := by kernel_rfl
        exact (show Tryz.prog.wantsStandIn t = false by simpa using List.all_eq_true.1 hall t hm)⟩)
    (by kernel_rfl)
#print axioms card_holds
end Go.Proofs.YtlcomegfkcgjjabGreatDoor
