/-
  SIM, part U: calls; a function's text; the whole.
-/
import Derived.Test.YtkkjfdoiijippaaGreatDoorSimX
namespace Go.Sim
open Go.RowKit (Below)
set_option linter.unusedVariables false

/-- How a way out is called in the model. -/
def cvX : AEx → Exit
  | .normal => .normal
  | .exit id => .exit id
  | .goto l => .goto l
  | .ret => .ret
/-- What is to hold behind a text. -/
def XNxt (w0 : World) (ρ : Rho) (K : Fin) (nt : Nat) (k : XK) (Q : Exit → Act → World → Prop) : Prop :=
  ∀ ex env' df' σ' ρ' w' a', run (k ex env' df') σ' K = true → SI σ' → Good w0 ρ' σ'.h w' → ρ.le ρ' → ER ρ' nt env' a'.tmps → DR ρ' df' a'.defers → Q (cvX ex) a' w'
def ExOk (P : Program) (w0 : World) (x : X) : Prop :=
  ∀ (c : Code) (env : T AV) (nt f : Nat) (df : List Nat) (k : XK) (σ : St) (K : Fin) (ρ : Rho) (w : World) (a : Act) (Q : Exit → Act → World → Prop), SI σ → Good w0 ρ σ.h w → ER ρ nt env a.tmps → DR ρ df a.defers →
    run (x c env nt f none df k) σ K = true → XNxt w0 ρ K nt k Q → c.wpIn Fence.wide 0 P Q a w
/-- A loop, from its text on. -/
def LoopIn (P : Program) (c : Code) (Q : Exit → Act → World → Prop) (a : Act) (w : World) : Prop :=
  ∀ (b : Frame) (k : List Item) (cs : List Frame), b.roundOf = Fence.wide.round → Fence.wide.fn b.fn → Fence.wide.room (cs.length + 1 + 0) →
    ∃ e a' w', Q e a' w' ∧ ArrivesIn (Machine.fenced P Fence.wide) P (lone (b.atR a (.code c :: .inLoop c :: k)) cs w) b k cs e a' w'
def LpOk (P : Program) (w0 : World) (x : X) : Prop :=
  ∀ (c : Code) (env : T AV) (nt f : Nat) (df : List Nat) (k : XK) (σ : St) (K : Fin) (ρ : Rho) (w : World) (a : Act) (Q : Exit → Act → World → Prop), SI σ → Good w0 ρ σ.h w → ER ρ nt env a.tmps → DR ρ df a.defers →
    run (x (.loop c) env nt f none df k) σ K = true → XNxt w0 ρ K nt k Q → LoopIn P c Q a w

section
variable {P : Program} {w0 : World} {ρ : Rho} {w : World} {σ : St} {K : Fin} {nt : Nat} {env : T AV} {a : Act}

theorem argsT_run {k : T AV → Tr} : ∀ (l : List AV) (i : Nat) (t : T AV), run (argsT l i t k) σ K = true →
    ∃ c, run (k c) σ K = true ∧ ∀ o x, c.get o = some x → (∃ (j : Nat), o = i + j ∧ l[j]? = some x) ∨ (t.get o = some x ∧ (o < i ∨ i + l.length ≤ o)) := by
  intro l
  induction l with
  | nil => intro i t h; exact ⟨t, h, fun o x hx => .inr ⟨hx, by simp; omega⟩⟩
  | cons a l ih =>
    intro i t h
    have h : run (T.setK t i a fun t => fN (Nat.succ i) fun i => argsT l i t k) σ K = true := h
    rw [T.setK_eq] at h
    obtain ⟨c, h1, h2⟩ := ih _ _ (fNT h)
    refine ⟨c, h1, fun o x hx => ?_⟩
    rcases h2 o x hx with ⟨j, e, hb⟩ | ⟨hx', ho⟩
    · exact .inl ⟨j + 1, by omega, by simpa using hb⟩
    · by_cases e : o = i
      · subst e
        have := T.get_set_some _ _ hx'
        exact .inl ⟨0, by omega, by rw [this]; rfl⟩
      · rw [T.get_set_ne _ e] at hx'
        exact .inr ⟨hx', by simp at ho ⊢; omega⟩
theorem args_ER {l : List AV} {vs : List Value} {n : Nat} {c : T AV} (hl : LR ρ l vs) (hn : l.length ≤ n) (hc : ∀ o x, c.get o = some x → (∃ (j : Nat), o = 0 + j ∧ l[j]? = some x) ∨ ((T.leaf : T AV).get o = some x ∧ (o < 0 ∨ 0 + l.length ≤ o))) :
    ER ρ n c (vs.toArray ++ Array.replicate (n - vs.toArray.size) undef) := by
  refine ⟨by simp [hl.1]; omega, fun t x hx => ?_⟩
  rcases hc t x hx with ⟨j, e, hj⟩ | ⟨h, _⟩
  · have : t = j := by omega
    subst this
    obtain ⟨v, hv, hr⟩ := hl.get hj
    refine ⟨v, ?_, hr⟩
    have hlt : t < vs.length := by
      rcases Nat.lt_or_ge t vs.length with h' | h'
      · exact h'
      · rw [List.getElem?_eq_none h'] at hv; cases hv
    rw [Array.getElem?_append_left (by simpa using hlt)]
    simpa using hv
  · simp [T.get] at h
def retK (k : AV → Tr) : List AV → Tr
  | [v] => k v
  | l => k (.tup l)
theorem retVR {l : List AV} {vs : List Value} {k : AV → Tr} (hl : LR ρ l vs) (h : run (retK k l) σ K = true) : ∃ av, run (k av) σ K = true ∧ VR ρ av (retV vs) := by
  have tup : ∀ (l : List AV) (vs : List Value), LR ρ l vs → VR ρ (.tup l) (.tuple vs.toArray) := fun l vs hl => by
    have : LR ρ l vs.toArray.toList := by simpa using hl
    exact .tup _ _ this.arr.1 this.arr.2
  cases l with
  | nil => rw [hl.nil_inv]; exact ⟨_, h, tup _ _ (LR.nil ρ)⟩
  | cons a l =>
    obtain ⟨v, vs1, rfl, hv, hl1⟩ := hl.cons_inv
    cases l with
    | nil => rw [hl1.nil_inv]; exact ⟨_, h, hv⟩
    | cons b l =>
      obtain ⟨u, vs2, rfl, hu, hl2⟩ := hl1.cons_inv
      exact ⟨_, h, tup _ _ hl⟩

theorem callF_ok {x : X} (hx : ExOk P w0 x) : EnOk P w0 (callF P x) := by
  intro f l vs k σ K ρ w R hS hG hl h hR
  obtain ⟨fn, hf, h⟩ := oelT h
  obtain ⟨c, hb, h⟩ := oelT h
  obtain ⟨hname, h⟩ := bifF h
  have hname : ¬ fn.name = "runtime.NumGoroutine" := by simpa using hname
  obtain ⟨hlen, h⟩ := bifT h
  have hlen := bleT hlen
  obtain ⟨env, h, hc⟩ := argsT_run _ _ _ h
  have hE := args_ER hl hlen hc
  refine ⟨fun args => ?_, callsIn_of_wp_marks hf hb trivial ?_⟩
  · simp [callFunc, hf, hname, hb]
  · refine hx c env fn.ntmps f [] _ σ K ρ w _ _ hS hG hE trivial h fun ex env' df' σ' ρ' w' a' h1 h2 h3 h4 h5 h6 => ?_
    have main : run (leaveK df' (resK P env' fn.results.toList fun l => (match l with | [v] => k v | l => k (.tup l)))) σ' K = true → LeavesInM Fence.wide 0 P fn a'.tmps R a'.defers .returning w' := fun h => by
      refine leaveT (fun σ2 w2 g1 g2 g3 => ?_) _ _ _ _ h h2 h3 h6
      obtain ⟨avs, vs, σ3, q1, q2, q3, q4, q5⟩ := resT (P := P) h5 _ _ _ g1 g2 g3
      have q1 : run (retK k avs) σ3 K = true := q1
      obtain ⟨av, r1, r2⟩ := retVR q4 q1
      exact ⟨retV vs, results_run q5, hR av _ σ3 ρ' w2 r1 q2 q3 h4 r2⟩
    cases ex with
    | normal => exact main h1
    | ret => exact main h1
    | exit id => exact (nofail h1).elim
    | goto l => exact (nofail h1).elim

/-! ### Control -/
theorem loop_of_text {x : X} (hx : ExOk P w0 x) (hl : LpOk P w0 x) : LpOk P w0 (FX P x) := by
  intro c env nt f df k σ K ρ w a Q hS hG hE hD h hQ b kk cs hro hb hr
  have h : run (x c env nt f none df fun ex env df => (match ex with
    | .normal => x (.loop c) env nt f none df k
    | ex => k ex env df)) σ K = true := h
  have hc : c.wpIn Fence.wide 0 P (fun e a' w' => match e with | .normal => LoopIn P c Q a' w' | e => Q e a' w') a w := by
    refine hx c env nt f df _ σ K ρ w a _ hS hG hE hD h fun ex env' df' σ' ρ' w' a' h1 h2 h3 h4 h5 h6 => ?_
    cases ex with
    | normal => exact hl c env' nt f df' k σ' K ρ' w' a' Q h2 h3 h5 h6 h1 fun ex2 env2 df2 σ2 ρ2 w2 a2 g1 g2 g3 g4 g5 g6 => hQ ex2 env2 df2 σ2 ρ2 w2 a2 g1 g2 g3 (h4.trans g4) g5 g6
    | exit id => exact hQ (.exit id) env' df' σ' ρ' w' a' h1 h2 h3 h4 h5 h6
    | goto l => exact hQ (.goto l) env' df' σ' ρ' w' a' h1 h2 h3 h4 h5 h6
    | ret => exact hQ .ret env' df' σ' ρ' w' a' h1 h2 h3 h4 h5 h6
  obtain ⟨e, a₁, w₁, hq, harr⟩ := hc b (.inLoop c :: kk) cs hro hb hr
  cases e with
  | normal =>
    obtain ⟨e₂, a₂, w₂, hq₂, harr₂⟩ := hq b kk cs hro hb hr
    exact ⟨e₂, a₂, w₂, hq₂, .of_steps (StepsIn.trans harr (.one (fenced_calm hb hr rfl) stepR_inLoop)) harr₂⟩
  | exit id => exact ⟨_, a₁, w₁, hq, .pass (x := .inLoop c) rfl (fun _ _ => .inl (by simp)) harr⟩
  | goto l => exact ⟨_, a₁, w₁, hq, .pass (x := .inLoop c) rfl (fun _ _ => .inl (by simp)) harr⟩
  | ret => exact ⟨_, a₁, w₁, hq, .pass (x := .inLoop c) rfl (fun _ _ => .inl (by simp)) harr⟩
  | panic ch => exact ⟨_, a₁, w₁, hq, .pass (x := .inLoop c) rfl (fun _ _ => .inl (by simp)) harr⟩
  | outgrown => exact ⟨_, a₁, w₁, hq, .pass (x := .inLoop c) rfl (fun _ _ => .inl (by simp)) harr⟩
theorem loop_wp {c : Code} {Q : Exit → Act → World → Prop} (h : LoopIn P c Q a w) : (Code.loop c).wpIn Fence.wide 0 P Q a w := by
  intro b k cs hro hb hr
  obtain ⟨e, a', w', hq, harr⟩ := h b k cs hro hb hr
  exact ⟨e, a', w', hq, .of_steps (.one (fenced_calm hb hr rfl) stepR_loop) harr⟩

theorem endLoop_run {l : Nat} {r : Loop} (h : w.heap[l]? = some (.loop r)) (hb : r.state ≠ .busy) : (Instr.endLoop l).run P w = .ok r.pending { w with heap := w.heap.setIfInBounds l (.loop { r with state := .exhausted }) } := by
  have hb' : (r.state == .busy) = false := by
    cases hs : r.state <;> first | rfl | exact absurd hs hb
  simp only [Instr.endLoop, Instr.getLoop, Sem.run_bind, run_getObj' h (by simp), Result.andThen_ok, Sem.run_pure, hb', Bool.false_eq_true, if_false, run_setObj' h (by simp)]
def jumpK (z : Tr) (go : Code → Tr) : Option Code → Tr
  | none => z
  | some c => go c
theorem range_wp {x : X} (hx : ExOk P w0 x) {g : Operand} {ps : Array Tmp} {as bd : Code} {f : Nat} {df : List Nat} {k : XK} {Q : Exit → Act → World → Prop} (hS : SI σ) (hG : Good w0 ρ σ.h w) (hE : ER ρ nt env a.tmps) (hD : DR ρ df a.defers)
    (h : run (FX P x (.rangeFunc g ps as bd) env nt f none df k) σ K = true) (hQ : XNxt w0 ρ K nt k Q) : (Code.rangeFunc g ps as bd).wpIn Fence.wide 0 P Q a w := by
  have h : run (.new (.dfr true) fun d => .new (.loop .ready none f nt env ps.toList as bd d) fun l => evK env g fun g =>
      rangeF P x g l id (fun c => x c env nt f none (d :: df) k) (k .normal env (d :: df))) σ K = true := h
  obtain ⟨d, σ1, hn1, h641, e1, hS1, h⟩ := new_ok hS h
  obtain ⟨hle1, hG1⟩ := hG.alloc hn1 h641 (.dfr true) (.deferred (some [])) 0 0 (fun ρ' hle hat _ => ⟨_, hat, hG.below.size, by simp⟩)
  rw [← e1] at hG1
  obtain ⟨l, σ2, hn2, h642, e2, hS2, h⟩ := new_ok hS1 h
  refine wpIn_rangeFunc fun fn' _ => ?_
  obtain ⟨hle2, hG2⟩ := hG1.alloc hn2 h642 (.loop .ready none f nt env ps.toList as bd d) (.loop { state := .ready, pending := none, fn := fn', tmps := a.tmps, params := ps, assign := as, body := bd, defers := w.heap.size }) 0 0
    (fun ρ' hle hat _ => ⟨_, hat, by have := hG.below.size; simp; omega, a.tmps, _, fn', hE.mono (hle1.trans hle), hle.at_ _ _ _ (Rho.put_at _ _ _ _), Array.getElem?_push_size⟩)
  rw [← e2] at hG2
  obtain ⟨av, σ3, e3, hS3, h, hv⟩ := ev_ok (x := g) hS2 hG2 (hE.mono (hle1.trans hle2)) h
  rw [← e3] at hG2
  generalize hgv : a.eval g = gv at hv
  cases hv with
  | func fn l1 m1 first captured h1 h2 r1 r2 hf =>
    cases fn with
    | func i =>
      have q1 := LR.of_arr h1 r1
      have q2 := LR.of_arr h2 r2
      have hl := Rho.put_at (ρ.put d 0 ⟨w.heap.size, 0, 0⟩) l 0 ⟨(w.heap.push (.deferred (some []))).size, 0, 0⟩
      have hd := hle2.at_ _ _ _ (Rho.put_at ρ d 0 ⟨w.heap.size, 0, 0⟩)
      simp only [rangeF] at h
      have hargs := (q1.append (LR.cons (.yld l _ hl) (LR.nil _))).append q2
      obtain ⟨hcf, hci⟩ := callF_ok hx i _ _ _ σ3 K _ _ (rangePost Fence.wide 0 P (w.heap.push (.deferred (some []))).size Q { a with defers := [{ target := .collected w.heap.size, args := #[] }] ++ a.defers }) hS3 hG2 hargs h
        (fun av v σ' ρ' w' g1 g2 g3 g4 g5 => by
          obtain ⟨q, σ4, hq, e4, hS4, g1⟩ := rd_ok g2 g1
          have hG4 : Good w0 ρ' σ4.h w' := by rw [e4]; exact g3
          cases q with
          | loop st jump fn nt' tmps ps' as' bd' d' =>
            have hl' := g4.at_ _ _ _ hl
            obtain ⟨hm, hh, hB, tmps', hd', fn2, b1, b2, hheap⟩ := g3.blk _ _ hq
            rw [hl'] at hh; injection hh with hh; subst hh
            have fin : st ≠ .busy → run (.wr l (.loop .exhausted jump fn nt' tmps ps' as' bd' d') (jumpK (k .normal env (d :: df)) (fun c => x c env nt f none (d :: df) k) jump)) σ4 K = true →
                rangePost Fence.wide 0 P (w.heap.push (.deferred (some []))).size Q { a with defers := [{ target := .collected w.heap.size, args := #[] }] ++ a.defers } (.returned v) w' := fun hb g1 => by
              obtain ⟨x0, σ5, hx0, e5, hS5, h64, g1⟩ := wr_ok hS4 g1
              have hG5 := hG4.setObj (x := .loop .exhausted jump fn nt' tmps ps' as' bd' d') (o' := .loop { state := .exhausted, pending := jump, fn := fn2, tmps := tmps', params := ps'.toArray, assign := as', body := bd', defers := hd'.blk }) hx0 h64 hl' hB hheap
                ⟨_, hl', hB, tmps', hd', fn2, b1, b2, set_get hheap⟩
              rw [← e5] at hG5
              refine ⟨jump, _, endLoop_run hheap hb, ?_⟩
              have hDD : DR ρ' (d :: df) ([{ target := .collected w.heap.size, args := #[] }] ++ a.defers) := ⟨⟨_, g4.at_ _ _ _ hd, rfl⟩, hD.mono (hle1.trans (hle2.trans g4))⟩
              have hEE : ER ρ' nt env a.tmps := hE.mono (hle1.trans (hle2.trans g4))
              cases jump with
              | none => exact hQ .normal env (d :: df) σ5 ρ' _ { a with defers := [{ target := .collected w.heap.size, args := #[] }] ++ a.defers } g1 hS5 hG5 (hle1.trans (hle2.trans g4)) hEE hDD
              | some c =>
                exact hx c env nt f (d :: df) k σ5 K ρ' _ { a with defers := [{ target := .collected w.heap.size, args := #[] }] ++ a.defers } Q hS5 hG5 hEE hDD g1
                  fun ex2 env2 df2 σ2 ρ2 w2 a2 c1 c2 c3 c4 c5 c6 => hQ ex2 env2 df2 σ2 ρ2 w2 a2 c1 c2 c3 ((hle1.trans (hle2.trans g4)).trans c4) c5 c6
            cases st with
            | busy => exact (nofail g1).elim
            | ready => exact fin (by simp) (by cases jump <;> exact g1)
            | done => exact fin (by simp) (by cases jump <;> exact g1)
            | exhausted => exact fin (by simp) (by cases jump <;> exact g1)
          | _ => exact (nofail g1).elim)
      have ea : (first ++ #[Value.func (.yield (w.heap.push (.deferred (some []))).size) #[] #[]]) ++ captured = (first.toList ++ [Value.func (.yield (w.heap.push (.deferred (some []))).size) #[] #[]] ++ captured.toList).toArray := by apply Array.ext'; simp
      refine ⟨(w.heap.push (.deferred (some []))).size, [{ target := .collected w.heap.size, args := #[] }], { w with heap := (w.heap.push (.deferred (some []))).push (.loop { state := .ready, pending := none, fn := fn', tmps := a.tmps, params := ps, assign := as, body := bd, defers := w.heap.size }) }, { target := .fn (.func i) captured, args := first ++ #[.func (.yield (w.heap.push (.deferred (some []))).size) #[] #[]] }, { w with heap := (w.heap.push (.deferred (some []))).push (.loop { state := .ready, pending := none, fn := fn', tmps := a.tmps, params := ps, assign := as, body := bd, defers := w.heap.size }) }, i, _, _, ?_, ?_, fun _ _ => trivial, ?_, fun h => absurd h (by simp [Fence.wide]), hci⟩
      · simp only [Instr.enterLoop, Fence.wide, Sem.run_bind, run_newObj, Result.andThen_ok, Sem.run_pure]
      · have hcon : ∀ v, a.eval (.const v) = v := fun _ => rfl
        simp only [resolve, rangeCall, hgv, Deferred.ofValue, List.map_toArray, List.map_cons, List.map_nil, hcon, Sem.run_pure]
      · show (callFunc i ((first ++ #[Value.func (.yield (w.heap.push (.deferred (some []))).size) #[] #[]]) ++ captured)).run P _ = _
        rw [ea]
        exact hcf _
    | _ => exact (nofail h).elim
  | _ => exact (nofail h).elim
theorem text_of_text {x : X} (hx : ExOk P w0 x) (hl : LpOk P w0 x) : ExOk P w0 (FX P x) := by
  intro c env nt f df k σ K ρ w a Q hS hG hE hD h hQ
  have here : ∀ {ex : AEx}, run (k ex env df) σ K = true → Q (cvX ex) a w := fun h => hQ _ env df σ ρ w a h hS hG (Rho.le.refl ρ) hE hD
  cases c with
  | skip => exact wpIn_skip (here (ex := .normal) h)
  | label l => exact wpIn_label (here (ex := .normal) h)
  | ret => exact wpIn_ret (here (ex := .ret) h)
  | exit id => exact wpIn_exit (here (ex := .exit id) h)
  | goto l => exact wpIn_goto (here (ex := .goto l) h)
  | region id ops draw =>
    cases draw with
    | true =>
      obtain ⟨hm, h⟩ := bifT h
      obtain ⟨hnt, h⟩ := bifT h
      obtain ⟨htm, h⟩ := bifT h
      exact draw_ok (callF_ok hx) (bleT hnt) hm ρ a.defers (fun env' σ' ρ' a' w' h1 h2 h3 h4 h5 h6 => hQ .normal env' df σ' ρ' w' a' h1 h2 h3 h4 h5 (by rw [h6]; exact hD.mono h4)) htm h hS hG (Rho.le.refl ρ) hE rfl id
    | false =>
      refine wpIn_region_list (opsK_ok (callF_ok hx) ρ a.defers (fun env' σ' ρ' a' w' h1 h2 h3 h4 h5 h6 => ?_) _ env σ ρ a w h hS hG (Rho.le.refl ρ) hE rfl)
      exact hQ .normal env' df σ' ρ' w' a' h1 h2 h3 h4 h5 (by rw [h6]; exact hD.mono h4)
  | seq c d =>
    refine wpIn_seq (hx c env nt f df _ σ K ρ w a _ hS hG hE hD h fun ex env' df' σ' ρ' w' a' h1 h2 h3 h4 h5 h6 => ?_)
    cases ex with
    | normal => exact hx d env' nt f df' k σ' K ρ' w' a' Q h2 h3 h5 h6 h1 fun ex2 env2 df2 σ2 ρ2 w2 a2 g1 g2 g3 g4 g5 g6 => hQ ex2 env2 df2 σ2 ρ2 w2 a2 g1 g2 g3 (h4.trans g4) g5 g6
    | exit id => exact hQ (.exit id) env' df' σ' ρ' w' a' h1 h2 h3 h4 h5 h6
    | goto l => exact hQ (.goto l) env' df' σ' ρ' w' a' h1 h2 h3 h4 h5 h6
    | ret => exact hQ .ret env' df' σ' ρ' w' a' h1 h2 h3 h4 h5 h6
  | cond x c d =>
    obtain ⟨av, σ1, e1, hS1, h, hv⟩ := ev_ok hS hG hE h
    have hG1 : Good w0 ρ σ1.h w := by rw [e1]; exact hG
    obtain ⟨b, rfl, h⟩ := asBoolT h
    generalize hxv : a.eval x = xv at hv
    cases hv
    refine wpIn_cond hxv ?_
    rcases bif2 h with ⟨e, h⟩ | ⟨e, h⟩
    · subst e; exact hx c env nt f df k σ1 K ρ w a Q hS1 hG1 hE hD h hQ
    · subst e; exact hx d env nt f df k σ1 K ρ w a Q hS1 hG1 hE hD h hQ
  | block id c =>
    refine wpIn_block (hx c env nt f df _ σ K ρ w a _ hS hG hE hD h fun ex env' df' σ' ρ' w' a' h1 h2 h3 h4 h5 h6 => ?_)
    cases ex with
    | normal => exact hQ .normal env' df' σ' ρ' w' a' h1 h2 h3 h4 h5 h6
    | exit id' =>
      rcases bif2 h1 with ⟨e, h1'⟩ | ⟨e, h1'⟩
      · have e := beqT e
        show (if id' = id then Q .normal a' w' else Q (.exit id') a' w')
        rw [if_pos e]
        exact hQ .normal env' df' σ' ρ' w' a' h1' h2 h3 h4 h5 h6
      · show (if id' = id then Q .normal a' w' else Q (.exit id') a' w')
        rw [if_neg (fun e' => by subst e'; simp at e)]
        exact hQ (.exit id') env' df' σ' ρ' w' a' h1' h2 h3 h4 h5 h6
    | goto l => exact hQ (.goto l) env' df' σ' ρ' w' a' h1 h2 h3 h4 h5 h6
    | ret => exact hQ .ret env' df' σ' ρ' w' a' h1 h2 h3 h4 h5 h6
  | loop c => exact loop_wp (loop_of_text hx hl c env nt f df k σ K ρ w a Q hS hG hE hD h hQ)
  | rangeFunc g ps as bd => exact range_wp hx hS hG hE hD h hQ
  | _ => exact (nofail h).elim
end
end Go.Sim
