/-
  SIM, part S: an operation.
-/
import Derived.Test.YtlcomegfkcgjjaaGreatDoorSimR5
import Derived.CallsIn
namespace Go.Sim
open Go.RowKit (Below)
set_option linter.unusedVariables false

/-- Everything goes, within a round or not. -/
def fR (rd : Option Nat) : Fence := { Fence.wide with round := rd }
theorem fR_none : fR none = Fence.wide := rfl
/-- What a round is to do. -/
def RnOk (P : Program) (w0 : World) (rn : Enter) : Prop :=
  ∀ (l : Nat) (as : List AV) (vs : List Value) (k : AV → Tr) (σ : St) (K : Fin) (ρ : Rho) (w : World) (R : Ending → World → Prop), SI σ → Good w0 ρ σ.h w → LR ρ as vs → run (rn l as k) σ K = true →
    (∀ av v σ' ρ' w', run (k av) σ' K = true → SI σ' → Good w0 ρ' σ'.h w' → ρ.le ρ' → VR ρ' av v → R (.returned v) w') →
    ∃ h, ρ.at_ l 0 = some h ∧ ∃ f tmps as bd, (Instr.yield h.blk vs.toArray).run P w = .ok (.round h.blk f tmps as bd) w ∧ RoundIn Fence.wide 0 P h.blk f tmps as bd w R

/-- What a call is to do: it comes to the function's text, and hands back what the interpreter says. -/
def EnOk (P : Program) (w0 : World) (en : Enter) : Prop :=
  ∀ (f : Nat) (l : List AV) (vs : List Value) (k : AV → Tr) (σ : St) (K : Fin) (ρ : Rho) (w : World) (R : Ending → World → Prop), SI σ → Good w0 ρ σ.h w → LR ρ l vs → run (en f l k) σ K = true →
    (∀ av v σ' ρ' w', run (k av) σ' K = true → SI σ' → Good w0 ρ' σ'.h w' → ρ.le ρ' → VR ρ' av v → R (.returned v) w') →
    (∀ args : Array Value, (callFunc f args).run P w = .ok (.enter f args) w) ∧ CallsIn Fence.wide 0 P f vs.toArray w R

section
variable {P : Program} {w0 : World} {ρ : Rho} {w : World} {σ : St} {K : Fin} {k : AV → Tr} {nt : Nat} {env : T AV} {a : Act} {o : Oper} {next : Act → World → Prop} {Q : Exit → Act → World → Prop} {rd : Option Nat}

/-- What is to hold behind an operation. -/
def Nxt (w0 : World) (ρ : Rho) (K : Fin) (k : AV → Tr) (o : Oper) (a : Act) (next : Act → World → Prop) : Prop :=
  ∀ av v σ' ρ' w', run (k av) σ' K = true → SI σ' → Good w0 ρ' σ'.h w' → ρ.le ρ' → VR ρ' av v → next (a.put o.dst v) w'

theorem val_wp {s : Sem Value} (he : execOp a.eval o = (do pure (.value (← s)))) (hn : Nxt w0 ρ K k o a next) (hr : Res P w0 ρ w k K s) (hd : ∀ c, o.op ≠ .defer c := by assumption) : o.wpIn (fR rd) 0 P a w next Q := by
  obtain ⟨av, σ', ρ', v, w', h1, h2, h3, h4, h5, h6⟩ := hr
  refine ⟨fun _ _ => trivial, ?_⟩
  show o.uponIn (fR rd) 0 P a next Q ((o.semAt rd a.eval).run P w)
  rw [Oper.semAt_eq _ _ _ hd, he]
  simp only [Sem.run_bind, h6, Result.andThen_ok, Sem.run_pure, Oper.uponIn_value]
  exact hn av v σ' ρ' w' h1 h2 h3 h4 h5
theorem pure_wp {av : AV} {v : Value} (he : (execOp a.eval o).run P w = .ok (.value v) w) (hn : Nxt w0 ρ K k o a next) (hr : run (k av) σ K = true) (hS : SI σ) (hG : Good w0 ρ σ.h w) (hv : VR ρ av v) (hd : ∀ c, o.op ≠ .defer c := by assumption) : o.wpIn (fR rd) 0 P a w next Q := by
  refine ⟨fun _ _ => trivial, ?_⟩
  show o.uponIn (fR rd) 0 P a next Q ((o.semAt rd a.eval).run P w)
  rw [Oper.semAt_eq _ _ _ hd, he]
  exact hn av v σ ρ w hr hS hG (Rho.le.refl ρ) hv
theorem unit_wp {s : Sem Unit} (he : execOp a.eval o = (do s; pure .skip)) (hn : Nxt w0 ρ K k o a next) (hr : ResU P w0 ρ w (skipK k) K s) (hd : ∀ c, o.op ≠ .defer c := by assumption) : o.wpIn (fR rd) 0 P a w next Q := by
  obtain ⟨σ', w', h1, h2, h3, h4⟩ := hr
  refine ⟨fun _ _ => trivial, ?_⟩
  show o.uponIn (fR rd) 0 P a next Q ((o.semAt rd a.eval).run P w)
  rw [Oper.semAt_eq _ _ _ hd, he]
  simp only [Sem.run_bind, h4, Result.andThen_ok, Sem.run_pure, Oper.uponIn_skip]
  exact hn _ _ σ' ρ w' h1 h2 h3 (Rho.le.refl ρ) (.tup [] #[] rfl (by simp))

theorem opA_ok {en rn : Enter} (hen : EnOk P w0 en) (hrn : RnOk P w0 rn) (hS : SI σ) (hG : Good w0 ρ σ.h w) (hE : ER ρ nt env a.tmps) (h : run (opA P en rn env o.op k) σ K = true) (hn : Nxt w0 ρ K k o a next) : o.wpIn (fR rd) 0 P a w next Q := by
  have ev : ∀ {σ : St} {x : Operand} {f : AV → Tr}, SI σ → Good w0 ρ σ.h w → run (evK env x f) σ K = true → ∃ av σ', SI σ' ∧ Good w0 ρ σ'.h w ∧ run (f av) σ' K = true ∧ VR ρ av (a.eval x) := by
    intro σ x f hS hG h
    obtain ⟨av, σ', e, h1, h2, h3⟩ := ev_ok hS hG hE h
    exact ⟨av, σ', h1, by rw [e]; exact hG, h2, h3⟩
  have hd : ∀ c, o.op ≠ .defer c := fun c hc => by rw [hc] at h; exact nofail h
  cases ho : o.op with
  | move x =>
    rw [ho] at h
    obtain ⟨av, σ1, hS1, hG1, h, hv⟩ := ev hS hG h
    exact pure_wp (by simp only [execOp, ho]; rfl) hn h hS1 hG1 hv
  | assign x =>
    rw [ho] at h
    obtain ⟨av, σ1, hS1, hG1, h, hv⟩ := ev hS hG h
    exact pure_wp (by simp only [execOp, ho]; rfl) hn h hS1 hG1 hv
  | pick c x y =>
    rw [ho] at h
    obtain ⟨av, σ1, hS1, hG1, h, hv⟩ := ev hS hG h
    obtain ⟨b, rfl, h⟩ := asBoolT h
    generalize hc : a.eval c = cv at hv
    cases hv
    rcases bif2 h with ⟨e, h⟩ | ⟨e, h⟩
    · subst e
      obtain ⟨av, σ2, hS2, hG2, h, hv⟩ := ev hS1 hG1 h
      exact pure_wp (v := a.eval x) (by simp only [execOp, ho, hc]; rfl) hn h hS2 hG2 hv
    · subst e
      obtain ⟨av, σ2, hS2, hG2, h, hv⟩ := ev hS1 hG1 h
      exact pure_wp (v := a.eval y) (by simp only [execOp, ho, hc]; rfl) hn h hS2 hG2 hv
  | alloc t =>
    rw [ho] at h
    exact val_wp (by simp only [execOp, ho]) hn (alloc_ok hS hG h)
  | box t x =>
    rw [ho] at h
    obtain ⟨av, σ1, hS1, hG1, h, hv⟩ := ev hS hG h
    exact val_wp (by simp only [execOp, ho]) hn (box_ok (t := t) hS1 hG1 hv h)
  | build t ps =>
    rw [ho] at h
    obtain ⟨av, σ1, e, hS1, h, h1, h2⟩ := evParts_ok hS hG hE h
    have hG1 : Good w0 ρ σ1.h w := by rw [e]; exact hG
    exact val_wp (s := Instr.build t (ps.map fun x => (x.1, a.eval x.2))) (by simp only [execOp, ho]) hn (build_ok hS1 hG1 (by rw [h1]; simp [Function.comp_def]) (by simpa [Function.comp_def] using h2) h)
  | buildSlice t n ps =>
    rw [ho] at h
    obtain ⟨av, σ1, e, hS1, h, h1, h2⟩ := evParts_ok hS hG hE h
    have hG1 : Good w0 ρ σ1.h w := by rw [e]; exact hG
    exact val_wp (s := Instr.buildSlice t n (ps.map fun x => (x.1, a.eval x.2))) (by simp only [execOp, ho]) hn (buildSlice_ok hS1 hG1 (by rw [h1]; simp [Function.comp_def]) (by simpa [Function.comp_def] using h2) h)
  | load t x =>
    rw [ho] at h
    obtain ⟨av, σ1, hS1, hG1, h, hv⟩ := ev hS hG h
    exact val_wp (by simp only [execOp, ho]) hn (load_ok hS1 hG1 hv h)
  | store t x y =>
    rw [ho] at h
    obtain ⟨av, σ1, hS1, hG1, h, hv⟩ := ev hS hG h
    obtain ⟨au, σ2, hS2, hG2, h, hu⟩ := ev hS1 hG1 h
    exact unit_wp (by simp only [execOp, ho]) hn (store_ok hS2 hG2 hv hu h)
  | nilCheck x =>
    rw [ho] at h
    obtain ⟨av, σ1, hS1, hG1, h, hv⟩ := ev hS hG h
    obtain ⟨h, hc⟩ := nilCheckA_ok hv h
    refine pure_wp (v := a.eval x) ?_ hn h hS1 hG1 hv
    rcases hc with ⟨p, e⟩ | ⟨f, l, m, e⟩ | ⟨f, l, m, e⟩ <;> (simp only [execOp, ho, e]; rfl)
  | binOp op t x y z =>
    rw [ho] at h
    obtain ⟨av, σ1, hS1, hG1, h, hv⟩ := ev hS hG h
    obtain ⟨au, σ2, hS2, hG2, h, hu⟩ := ev hS1 hG1 h
    exact val_wp (by simp only [execOp, ho]) hn (binOp_ok (ox := x) (oy := y) hS2 hG2 hv hu h)
  | unOp op t x =>
    rw [ho] at h
    obtain ⟨av, σ1, hS1, hG1, h, hv⟩ := ev hS hG h
    exact val_wp (by simp only [execOp, ho]) hn (unOp_ok hS1 hG1 hv h)
  | convert s d x =>
    rw [ho] at h
    obtain ⟨av, σ1, hS1, hG1, h, hv⟩ := ev hS hG h
    exact val_wp (by simp only [execOp, ho]) hn (convA_ok hS1 hG1 hv h)
  | makeInterface t x =>
    rw [ho] at h
    obtain ⟨av, σ1, hS1, hG1, h, hv⟩ := ev hS hG h
    exact val_wp (by simp only [execOp, ho]) hn (mkIface_ok hS1 hG1 hv h)
  | makeFunc fn first cap =>
    rw [ho] at h
    obtain ⟨hf, h⟩ := bifT h
    obtain ⟨l1, σ1, e, hS1, h, hl1⟩ := evs_ok hS hG hE h
    have hG1 : Good w0 ρ σ1.h w := by rw [e]; exact hG
    obtain ⟨l2, σ2, e2, hS2, h, hl2⟩ := evs_ok hS1 hG1 hE h
    have hG2 : Good w0 ρ σ2.h w := by rw [e2]; exact hG1
    have q1 : LR ρ l1 (first.map a.eval).toList := by simpa using hl1
    have q2 : LR ρ l2 (cap.map a.eval).toList := by simpa using hl2
    exact pure_wp (v := .func fn (first.map a.eval) (cap.map a.eval)) (by simp only [execOp, ho]; rfl) hn h hS2 hG2 (.func fn l1 l2 _ _ q1.arr.1 q2.arr.1 q1.arr.2 q2.arr.2 hf)
  | makeMap t r =>
    rw [ho] at h
    cases r with
    | none => exact val_wp (s := Instr.makeMap t none) (by simp only [execOp, ho]; rfl) hn (makeMap_ok (fun v hv => by cases hv) hS hG h)
    | some x =>
      obtain ⟨d, hu, h⟩ := undT h
      cases d with
      | map kt e =>
        obtain ⟨av, σ1, hS1, hG1, h, hv⟩ := ev hS hG h
        obtain ⟨j, n, rfl, h⟩ := asIntT h
        generalize hc : a.eval x = cv at hv
        cases hv
        exact val_wp (s := Instr.makeMap t (some (a.eval x))) (by simp only [execOp, ho]; rfl) hn (makeMap_ok (fun v hv => by injection hv with hv; exact ⟨⟨kt, e, hu⟩, j, n, by rw [← hv, hc]⟩) hS1 hG1 h)
      | _ => exact (nofail h).elim
  | makeSlice t x y =>
    rw [ho] at h
    obtain ⟨av, σ1, hS1, hG1, h, hv⟩ := ev hS hG h
    obtain ⟨au, σ2, hS2, hG2, h, hu⟩ := ev hS1 hG1 h
    exact val_wp (by simp only [execOp, ho]) hn (makeSliceA_ok hS2 hG2 hv hu h)
  | typeAssert x xt t ok =>
    rw [ho] at h
    obtain ⟨av, σ1, hS1, hG1, h, hv⟩ := ev hS hG h
    exact val_wp (by simp only [execOp, ho]) hn (typeAssertA_ok (xt := xt) hS1 hG1 hv h)
  | slice t x lo hi mx =>
    rw [ho] at h
    obtain ⟨av, σ1, hS1, hG1, h, hv⟩ := ev hS hG h
    obtain ⟨o1, σ2, e2, hS2, h, h1⟩ := evo_ok hS1 hG1 hE h
    have hG2 : Good w0 ρ σ2.h w := by rw [e2]; exact hG1
    obtain ⟨o2, σ3, e3, hS3, h, h2⟩ := evo_ok hS2 hG2 hE h
    have hG3 : Good w0 ρ σ3.h w := by rw [e3]; exact hG2
    obtain ⟨o3, σ4, e4, hS4, h, h3⟩ := evo_ok hS3 hG3 hE h
    have hG4 : Good w0 ρ σ4.h w := by rw [e4]; exact hG3
    exact val_wp (by simp only [execOp, ho]) hn (sliceA_ok hS4 hG4 hv h1 h2 h3 h)
  | fieldAddr t x f =>
    rw [ho] at h
    obtain ⟨av, σ1, hS1, hG1, h, hv⟩ := ev hS hG h
    exact val_wp (by simp only [execOp, ho]) hn (fieldAddr_ok hS1 hG1 hv h)
  | field t x f =>
    rw [ho] at h
    obtain ⟨av, σ1, hS1, hG1, h, hv⟩ := ev hS hG h
    exact val_wp (by simp only [execOp, ho]) hn (field_ok hS1 hG1 hv h)
  | indexAddr t x i =>
    rw [ho] at h
    obtain ⟨av, σ1, hS1, hG1, h, hv⟩ := ev hS hG h
    obtain ⟨au, σ2, hS2, hG2, h, hu⟩ := ev hS1 hG1 h
    exact val_wp (by simp only [execOp, ho]) hn (indexAddr_ok hS2 hG2 hv hu h)
  | index t x i =>
    rw [ho] at h
    obtain ⟨av, σ1, hS1, hG1, h, hv⟩ := ev hS hG h
    obtain ⟨au, σ2, hS2, hG2, h, hu⟩ := ev hS1 hG1 h
    exact val_wp (by simp only [execOp, ho]) hn (index_ok hS2 hG2 hv hu h)
  | range t x =>
    rw [ho] at h
    obtain ⟨av, σ1, hS1, hG1, h, hv⟩ := ev hS hG h
    exact val_wp (by simp only [execOp, ho]) hn (rangeA_ok hS1 hG1 hv h)
  | next it s =>
    rw [ho] at h
    obtain ⟨av, σ1, hS1, hG1, h, hv⟩ := ev hS hG h
    exact val_wp (by simp only [execOp, ho]) hn (nextA_ok (ty := o.type) hS1 hG1 hv h)
  | lookup t x i ok =>
    rw [ho] at h
    obtain ⟨av, σ1, hS1, hG1, h, hv⟩ := ev hS hG h
    obtain ⟨au, σ2, hS2, hG2, h, hu⟩ := ev hS1 hG1 h
    exact val_wp (by simp only [execOp, ho]) hn (lookupA_ok hS2 hG2 hv hu h)
  | mapUpdate t m i v =>
    rw [ho] at h
    obtain ⟨av, σ1, hS1, hG1, h, hv⟩ := ev hS hG h
    obtain ⟨au, σ2, hS2, hG2, h, hu⟩ := ev hS1 hG1 h
    obtain ⟨aw, σ3, hS3, hG3, h, hw⟩ := ev hS2 hG2 h
    exact unit_wp (by simp only [execOp, ho]) hn (mapUpdateA_ok hS3 hG3 hv hu hw h)
  | insert t m i v =>
    rw [ho] at h
    obtain ⟨av, σ1, hS1, hG1, h, hv⟩ := ev hS hG h
    obtain ⟨au, σ2, hS2, hG2, h, hu⟩ := ev hS1 hG1 h
    obtain ⟨aw, σ3, hS3, hG3, h, hw⟩ := ev hS2 hG2 h
    exact unit_wp (by simp only [execOp, ho]) hn (mapUpdateA_ok hS3 hG3 hv hu hw h)
  | mapEntry t m i =>
    rw [ho] at h
    obtain ⟨av, σ1, hS1, hG1, h, hv⟩ := ev hS hG h
    obtain ⟨au, σ2, hS2, hG2, h, hu⟩ := ev hS1 hG1 h
    exact val_wp (by simp only [execOp, ho]) hn (mapEntryA_ok hS2 hG2 hv hu h)
  | entryStore t m i v =>
    rw [ho] at h
    obtain ⟨av, σ1, hS1, hG1, h, hv⟩ := ev hS hG h
    obtain ⟨au, σ2, hS2, hG2, h, hu⟩ := ev hS1 hG1 h
    obtain ⟨aw, σ3, hS3, hG3, h, hw⟩ := ev hS2 hG2 h
    exact unit_wp (by simp only [execOp, ho]) hn (entryStoreA_ok (t := t) hS3 hG3 hv hu hw h)
  | entry it =>
    rw [ho] at h
    obtain ⟨av, σ1, hS1, hG1, h, hv⟩ := ev hS hG h
    exact val_wp (by simp only [execOp, ho]) hn (entryA_ok hS1 hG1 hv h)
  | extract t i =>
    rw [ho] at h
    obtain ⟨av, σ1, hS1, hG1, h, hv⟩ := ev hS hG h
    exact val_wp (by simp only [execOp, ho]) hn (extract_ok hS1 hG1 hv h)
  | call c =>
    rw [ho] at h
    have hargs : c.args.map a.eval = (c.args.toList.map a.eval).toArray := by apply Array.ext'; simp
    have h : run (match c.callee with
      | .builtin b => evsK env c.args.toList fun l => builtinA P b c.argTypes l k
      | .value f => evK env f fun f => evsK env c.args.toList fun l => callA P en rn f l k
      | .invoke _ _ => .fail) σ K = true := h
    cases hc : c.callee with
    | builtin b =>
      rw [hc] at h
      obtain ⟨l, σ1, e, hS1, h, hl⟩ := evs_ok hS hG hE h
      have hG1 : Good w0 ρ σ1.h w := by rw [e]; exact hG
      cases b with
      | append => exact val_wp (s := Builtin.append_ c.argTypes o.type (c.args.toList.map a.eval).toArray) (by simp only [execOp, ho, resolve, hc, hargs, invoke, builtin]; rfl) hn (appendA_ok hS1 hG1 hl h)
      | unsafeString => exact val_wp (s := Builtin.unsafeString_ c.argTypes o.type (c.args.toList.map a.eval).toArray) (by simp only [execOp, ho, resolve, hc, hargs, invoke, builtin]; rfl) hn (ustr_ok hS1 hG1 hl h)
      | unsafeSliceData => exact val_wp (s := Builtin.unsafeSliceData_ c.argTypes o.type (c.args.toList.map a.eval).toArray) (by simp only [execOp, ho, resolve, hc, hargs, invoke, builtin]; rfl) hn (sliceData_ok hS1 hG1 hl h)
      | len => exact val_wp (s := Builtin.len_ c.argTypes o.type (c.args.toList.map a.eval).toArray) (by simp only [execOp, ho, resolve, hc, hargs, invoke, builtin]; rfl) hn (lenOfA_ok hS1 hG1 hl h)
      | copy => exact val_wp (s := Builtin.copy_ c.argTypes o.type (c.args.toList.map a.eval).toArray) (by simp only [execOp, ho, resolve, hc, hargs, invoke, builtin]; rfl) hn (copyA_ok hS1 hG1 hl h)
      | max => exact val_wp (s := Builtin.max_ c.argTypes o.type (c.args.toList.map a.eval).toArray) (by simp only [execOp, ho, resolve, hc, hargs, invoke, builtin]; rfl) hn (max_ok hS1 hG1 hl h)
      | min => exact val_wp (s := Builtin.min_ c.argTypes o.type (c.args.toList.map a.eval).toArray) (by simp only [execOp, ho, resolve, hc, hargs, invoke, builtin]; rfl) hn (min_ok hS1 hG1 hl h)
      | delete => exact val_wp (s := Builtin.delete_ c.argTypes o.type (c.args.toList.map a.eval).toArray) (by simp only [execOp, ho, resolve, hc, hargs, invoke, builtin]; rfl) hn (deleteA_ok hS1 hG1 hl h)
      | _ => exact (nofail h).elim
    | value f =>
      rw [hc] at h
      obtain ⟨av, σ1, hS1, hG1, h, hv⟩ := ev hS hG h
      obtain ⟨l, σ2, e, hS2, h, hl⟩ := evs_ok hS1 hG1 hE h
      have hG2 : Good w0 ρ σ2.h w := by rw [e]; exact hG1
      generalize hfv : a.eval f = fv at hv
      cases hv with
      | func fn l1 m1 first captured h1 h2 r1 r2 hf =>
        cases fn with
        | func i =>
          have q1 : LR ρ l1 first.toList := LR.of_arr h1 r1
          have q2 : LR ρ m1 captured.toList := LR.of_arr h2 r2
          have ea : (first ++ (c.args.toList.map a.eval).toArray ++ captured) = (first.toList ++ c.args.toList.map a.eval ++ captured.toList).toArray := by apply Array.ext'; simp
          have he0 : (execOp a.eval o).run P w = (callFunc i (first ++ (c.args.toList.map a.eval).toArray ++ captured)).run P w := by
            simp only [execOp, ho, resolve, hc, hfv, Deferred.ofValue, hargs, Sem.run_bind, Sem.run_pure, Result.andThen_ok, invoke]
          have h : run (bif' (isExt P i) (extA P i (l1 ++ l ++ m1) k) (en i (l1 ++ l ++ m1) k)) σ2 K = true := h
          rcases bif2 h with ⟨hne, h⟩ | ⟨_, h⟩
          · obtain ⟨av, v, q3, q4, q5⟩ := ext_run (w := w) hne ((q1.append hl).append q2) h
            refine pure_wp ?_ hn q3 hS2 hG2 q4
            rw [he0, ea]
            exact q5
          obtain ⟨hcf, hci⟩ := hen i (l1 ++ l ++ m1) _ k σ2 K ρ w (fun e w' => match e with
            | .returned v => next (a.put o.dst v) w'
            | .panicked chain => Q (.panic chain) a w'
            | .outgrown => LetsOut Q) hS2 hG2 ((q1.append hl).append q2) h (fun av v σ' ρ' w' g1 g2 g3 g4 g5 => hn av v σ' ρ' w' g1 g2 g3 g4 g5)
          refine ⟨fun _ _ => trivial, ?_⟩
          show o.uponIn (fR rd) 0 P a next Q ((o.semAt rd a.eval).run P w)
          have he : (execOp a.eval o).run P w = .ok (.enter i (first ++ (c.args.toList.map a.eval).toArray ++ captured)) w := by
            rw [he0]; exact hcf _
          rw [Oper.semAt_eq _ _ _ hd, he, Oper.uponIn_enter]
          refine ⟨fun h => absurd h (by simp [fR, Fence.wide]), ?_⟩
          rw [ea]
          exact hci.mono fun e w' hr => by cases e <;> exact hr
        | yield _ => exact absurd (show false = true from hf) (by decide)
        | _ => exact (nofail h).elim
      | yld b hb hh =>
        have h : run (rn b l k) σ2 K = true := h
        obtain ⟨hb', hh', f, tmps, as, bd, q1, q2⟩ := hrn b l _ k σ2 K ρ w (fun e w' => match e with
            | .returned v => next (a.put o.dst v) w'
            | .panicked chain => Q (.panic chain) a w'
            | .outgrown => LetsOut Q) hS2 hG2 hl h (fun av v σ' ρ' w' g1 g2 g3 g4 g5 => hn av v σ' ρ' w' g1 g2 g3 g4 g5)
        rw [hh] at hh'; injection hh' with hh'; subst hh'
        refine ⟨fun _ _ => trivial, ?_⟩
        show o.uponIn (fR rd) 0 P a next Q ((o.semAt rd a.eval).run P w)
        have he : (execOp a.eval o).run P w = .ok (.round hb.blk f tmps as bd) w := by
          have : (execOp a.eval o).run P w = (Instr.yield hb.blk (#[] ++ (c.args.toList.map a.eval).toArray)).run P w := by
            simp only [execOp, ho, resolve, hc, hfv, Deferred.ofValue, hargs, Sem.run_bind, Sem.run_pure, Result.andThen_ok, invoke]
          rw [this, Array.empty_append]; exact q1
        rw [Oper.semAt_eq _ _ _ hd, he, Oper.uponIn_round]
        refine ⟨fun h => absurd h (by simp [fR, Fence.wide]), ?_⟩
        exact RoundIn.mono (show RoundIn (fR rd) (0 - 1) P hb.blk f tmps as bd w _ from q2) fun e w' hr => by cases e <;> exact hr
      | _ => exact (nofail h).elim
    | invoke r m => rw [hc] at h; exact (nofail h).elim
  | _ => rw [ho] at h; exact (nofail h).elim
end
end Go.Sim
