/-
  SIM, part T: temporaries, guards, a region's operations, results, leaving.
-/
import Derived.Test.YtlcomegfkcgjjaaGreatDoorSimS
import Derived.RangeFuncLeaves
import Derived.TacticsIn
namespace Go.Sim
open Go.RowKit (Below)
set_option linter.unusedVariables false

section
variable {P : Program} {w0 : World} {ρ : Rho} {w : World} {σ : St} {K : Fin} {nt : Nat} {env : T AV} {a : Act}

theorem putT {dst : Option Nat} {av : AV} {v : Value} {k : T AV → Tr} (hv : VR ρ av v) (hE : ER ρ nt env a.tmps) (h : run (putK nt dst av env k) σ K = true) :
    ∃ env', run (k env') σ K = true ∧ ER ρ nt env' (a.put dst v).tmps ∧ (a.put dst v).defers = a.defers := by
  cases dst with
  | none => exact ⟨env, h, hE, rfl⟩
  | some d =>
    obtain ⟨hd, h⟩ := bifT h
    have hd := bleT hd
    rw [T.setK_eq] at h
    refine ⟨_, h, ⟨?_, fun t b hb => ?_⟩, rfl⟩
    · show (a.tmps.setIfInBounds d v).size = nt
      rw [Array.size_setIfInBounds]; exact hE.size
    · show ∃ u, (a.tmps.setIfInBounds d v)[t]? = some u ∧ VR ρ b u
      by_cases e : t = d
      · subst e
        have := T.get_set_some _ _ hb
        subst this
        refine ⟨v, ?_, hv⟩
        rw [Array.getElem?_setIfInBounds, if_pos rfl, if_pos (by rw [hE.size]; omega)]
      · rw [T.get_set_ne _ e] at hb
        obtain ⟨u, hu, hr⟩ := hE.val t b hb
        exact ⟨u, by rw [Array.getElem?_setIfInBounds, if_neg (fun e' => e e'.symm)]; exact hu, hr⟩
theorem wantedT {ops : Array Oper} {o : Oper} {yes no : Tr} (hE : ER ρ nt env a.tmps) (h : run (wantedK ops env o yes no) σ K = true) :
    (Region.wanted o (yielded ops a.tmps) = true ∧ run yes σ K = true) ∨ (Region.wanted o (yielded ops a.tmps) = false ∧ run no σ K = true) := by
  unfold wantedK at h
  unfold Region.wanted
  split at h
  · rename_i hg
    rw [hg]; exact .inl ⟨rfl, h⟩
  · rename_i j want hg
    rw [hg]
    split at h
    · rename_i oj hj
      split at h
      · rename_i d hd
        obtain ⟨v, hv, h⟩ := getT h
        obtain ⟨u, hu, hr⟩ := hE.val _ _ hv
        have hy : ∀ b, u = .bool b → yielded ops a.tmps j = some b := fun b e => by
          subst e; simp [yielded, hj, hd, hu]
        have hn : (∀ b, u ≠ .bool b) → yielded ops a.tmps j = none := fun hn => by
          simp only [yielded, hj, hd, hu, Option.bind_some]
          cases u <;> first | rfl | exact absurd rfl (hn _)
        cases hr with
        | bool b =>
          rcases bif2 h with ⟨e, h⟩ | ⟨e, h⟩
          · refine .inl ⟨?_, h⟩
            have : b = want := by simpa using e
            subst this
            simp [hy b rfl]
          · refine .inr ⟨?_, h⟩
            have : ¬ b = want := by simpa using e
            simp [hy b rfl, this]
        | tup l cs h1 h2 => exact .inr ⟨by simp [hn (fun b e => by cases e)], h⟩
        | _ => exact (nofail h).elim
      · exact (nofail h).elim
    · exact (nofail h).elim

theorem opsK_ok {rd : Option Nat} {ops : Array Oper} {en rn : Enter} (hen : EnOk P w0 en) (hrn : RnOk P w0 rn) {k : T AV → Tr} {Q : Exit → Act → World → Prop} (ρ0 : Rho) (ds : List Deferred)
    (hk : ∀ env' σ' ρ' a' w', run (k env') σ' K = true → SI σ' → Good w0 ρ' σ'.h w' → ρ0.le ρ' → ER ρ' nt env' a'.tmps → a'.defers = ds → Q .normal a' w') :
    ∀ (l : List Oper) (env : T AV) (σ : St) (ρ : Rho) (a : Act) (w : World), run (opsK P en rn nt ops l env k) σ K = true → SI σ → Good w0 ρ σ.h w → ρ0.le ρ → ER ρ nt env a.tmps → a.defers = ds → wpListIn (fR rd) 0 P ops Q l a w := by
  intro l
  induction l with
  | nil => intro env σ ρ a w h hS hG hle hE hd; exact hk _ _ _ _ _ h hS hG hle hE hd
  | cons o l ih =>
    intro env σ ρ a w h hS hG hle hE hd
    have h : run (wantedK ops env o (opA P en rn env o.op fun v => putK nt o.dst v env fun env => opsK P en rn nt ops l env k) (putK nt o.dst (.tup []) env fun env => opsK P en rn nt ops l env k)) σ K = true := h
    rcases wantedT hE h with ⟨hw, h⟩ | ⟨hw, h⟩
    · simp only [wpListIn, hw, if_true]
      refine opA_ok hen hrn hS hG hE h fun av v σ' ρ' w' h1 h2 h3 h4 h5 => ?_
      obtain ⟨env', h6, h7, h8⟩ := putT h5 (hE.mono h4) h1
      exact ih env' σ' ρ' _ w' h6 h2 h3 (hle.trans h4) h7 (h8.trans hd)
    · simp only [wpListIn, hw, Bool.false_eq_true, if_false]
      obtain ⟨env', h6, h7, h8⟩ := putT (v := undef) (.tup [] #[] rfl (by simp)) hE h
      exact ⟨fun _ _ => trivial, ih env' σ ρ _ w h6 hS hG hle h7 (h8.trans hd)⟩

/-! ### Leaving -/
def DR (ρ : Rho) : List Nat → List Deferred → Prop
  | [], [] => True
  | b :: df, d :: ds => (∃ h, ρ.at_ b 0 = some h ∧ d.target = .collected h.blk) ∧ DR ρ df ds
  | _, _ => False
theorem DR.mono {ρ ρ' : Rho} (hle : ρ.le ρ') : ∀ {df : List Nat} {ds : List Deferred}, DR ρ df ds → DR ρ' df ds
  | [], [], _ => trivial
  | _ :: _, _ :: _, ⟨⟨h, h1, h2⟩, h3⟩ => ⟨⟨h, hle.at_ _ _ _ h1, h2⟩, DR.mono hle h3⟩
  | [], _ :: _, h => h.elim
  | _ :: _, [], h => h.elim
theorem run_setObj' {r : Nat} {o o' : Obj} (h : w.heap[r]? = some o) (ho : ∀ c t f, o ≠ .cells c t f) : (setObj r o').run P w = .ok () { w with heap := w.heap.setIfInBounds r o' } := by
  cases o <;> first | (exact absurd rfl (ho _ _ _)) | (simp [setObj, Sem.run, h])
/-- One block that is no row of cells is written anew. -/
theorem Good.setObj {H : T ABlk} {b : Nat} {x0 x : ABlk} {h : Home} {o o' : Obj} (hG : Good w0 ρ H w) (hb : H.get b = some x0) (h64 : b + 1 < 2 ^ 64) (hh : ρ.at_ b 0 = some h) (hB : w0.heap.size ≤ h.blk) (hw : w.heap[h.blk]? = some o)
    (hx : BR ρ w0.heap.size { w with heap := w.heap.setIfInBounds h.blk o' } b x) (hgx : ∀ g, gOk g x := by intro g; trivial) : Good w0 ρ (H.set b x) { w with heap := w.heap.setIfInBounds h.blk o' } := by
  refine hG.turn hb h64 h.blk hB ⟨rfl, rfl, rfl, by simp, fun k hk => ?_⟩ (by simp) (fun k hk _ => ?_) (fun b' g h' hh' e => (hG.inj _ _ _ _ _ _ hh' hh e).1) hx (fun g _ => hgx g)
  · show (w.heap.setIfInBounds h.blk o')[k]? = _
    rw [Array.getElem?_setIfInBounds, if_neg (by omega)]
  · show (w.heap.setIfInBounds h.blk o')[k]? = _
    rw [Array.getElem?_setIfInBounds, if_neg (fun e => hk e.symm)]
theorem set_get {r : Nat} {o o' : Obj} (h : w.heap[r]? = some o) : (w.heap.setIfInBounds r o')[r]? = some o' := by
  have : r < w.heap.size := by
    rcases Nat.lt_or_ge r w.heap.size with h' | h'
    · exact h'
    · rw [Array.getElem?_eq_none h'] at h; cases h
  rw [Array.getElem?_setIfInBounds, if_pos rfl, if_pos this]

theorem leaveT {fn : Func} {tmps : Array Value} {R : Ending → World → Prop} {k : Tr} (hk : ∀ σ' w', run k σ' K = true → SI σ' → Good w0 ρ σ'.h w' → LeavesInM Fence.wide 0 P fn tmps R [] .returning w') :
    ∀ (df : List Nat) (ds : List Deferred) (σ : St) (w : World), run (leaveK df k) σ K = true → SI σ → Good w0 ρ σ.h w → DR ρ df ds → LeavesInM Fence.wide 0 P fn tmps R ds .returning w := by
  intro df
  induction df with
  | nil =>
    intro ds σ w h hS hG hd
    cases ds with
    | nil => exact hk _ _ h hS hG
    | cons _ _ => exact hd.elim
  | cons b df ih =>
    intro ds σ w h hS hG hd
    cases ds with
    | nil => exact hd.elim
    | cons d ds =>
      obtain ⟨⟨hm, hh, ht⟩, hd⟩ := hd
      have h : run (.rd b fun q => (match q with | .dfr true => .wr b (.dfr false) (leaveK df k) | _ => .fail)) σ K = true := h
      obtain ⟨q, σ1, hq, e1, hS1, h⟩ := rd_ok hS h
      cases q with
      | dfr live =>
        cases live with
        | false => exact (nofail h).elim
        | true =>
          obtain ⟨hm', hh', hB, hheap⟩ := hG.blk _ _ hq
          rw [hh] at hh'; injection hh' with hh'; subst hh'
          have hheap : w.heap[hm.blk]? = some (.deferred (some [])) := hheap
          obtain ⟨x0, σ2, hx0, e2, hS2, h64, h⟩ := wr_ok hS1 h
          have hG1 : Good w0 ρ σ1.h w := by rw [e1]; exact hG
          have hG2 := hG1.setObj (x := .dfr false) (o' := .deferred none) hx0 h64 hh hB hheap ⟨hm, hh, hB, set_get hheap⟩
          refine ⟨by simp, .inl ⟨hm.blk, _, ht, ?_, ih ds σ2 _ h hS2 (by rw [e2]; exact hG2) hd⟩⟩
          simp only [Instr.takeDeferred, Sem.run_bind, run_getObj' hheap (by simp), Result.andThen_ok, run_setObj' hheap (by simp), Sem.run_pure]
      | _ => exact (nofail h).elim

/-! ### Results -/
def resF (tmps : Array Value) : ResultVar → Sem Value
  | .tmp t => pure (tmps.getD t undef)
  | .cell a t => do loadVar t (← asAddr (tmps.getD a undef))
theorem results_eq (fn : Func) (tmps : Array Value) : results fn tmps = (do
    let vs ← fn.results.mapM (resF tmps)
    pure (if h : vs.size = 1 then vs[0] else .tuple vs)) := by
  unfold results
  congr 1
theorem getD_of {tmps : Array Value} {t : Nat} {v : Value} (h : tmps[t]? = some v) : tmps.getD t undef = v := by
  rw [Array.getD_eq_getD_getElem?, h]; rfl
theorem resT {tmps : Array Value} (hE : ER ρ nt env tmps) : ∀ (l : List ResultVar) (σ : St) (k : List AV → Tr), run (resK P env l k) σ K = true → SI σ → Good w0 ρ σ.h w →
    ∃ avs vs σ', run (k avs) σ' K = true ∧ SI σ' ∧ Good w0 ρ σ'.h w ∧ LR ρ avs vs ∧ (l.mapM (resF tmps)).run P w = .ok vs w := by
  intro l
  induction l with
  | nil => intro σ k h hS hG; exact ⟨[], [], σ, h, hS, hG, LR.nil ρ, by simp⟩
  | cons r l ih =>
    intro σ k h hS hG
    cases r with
    | tmp t =>
      have h : run (T.getK env t .fail fun v => resK P env l fun l => k (v :: l)) σ K = true := h
      obtain ⟨av, hv, h⟩ := getT h
      obtain ⟨v, hu, hr⟩ := hE.val _ _ hv
      obtain ⟨avs, vs, σ', h1, h2, h3, h5, h6⟩ := ih σ _ h hS hG
      refine ⟨av :: avs, v :: vs, σ', h1, h2, h3, LR.cons hr h5, ?_⟩
      simp [List.mapM_cons, resF, getD_of hu, h6]
    | cell c t =>
      have h : run (T.getK env c .fail fun p => loadK P t p fun v => resK P env l fun l => k (v :: l)) σ K = true := h
      obtain ⟨ap, hap, h⟩ := getT h
      obtain ⟨p, hp, hr⟩ := hE.val _ _ hap
      obtain ⟨av, σ1, v, hb, hS1, hG1, hv, hrun⟩ := load_okP (P := P) hS hG hr h
      obtain ⟨avs, vs, σ', h1, h2, h3, h5, h6⟩ := ih σ1 _ hb hS1 hG1
      refine ⟨av :: avs, v :: vs, σ', h1, h2, h3, LR.cons hv h5, ?_⟩
      have hload : (do loadVar t (← asAddr p) : Sem Value).run P w = .ok v w := by
        cases hr with
        | ptr b g o hm hh ho =>
          simp only [Instr.loadAt, Instr.sureAddr, Sem.run_bind, Sem.run_pure, Result.andThen_ok] at hrun
          simp only [asAddr, Sem.run_bind, Sem.run_pure, Result.andThen_ok]
          exact hrun
        | _ => exact (nofail h).elim
      have : (resF tmps (.cell c t)).run P w = .ok v w := by
        simp only [resF, getD_of hp]; exact hload
      simp [List.mapM_cons, this, h6]
def retV : List Value → Value
  | [v] => v
  | l => .tuple l.toArray
theorem results_run {fn : Func} {tmps : Array Value} {vs : List Value} {w' : World} (h : (fn.results.toList.mapM (resF tmps)).run P w = .ok vs w') : (results fn tmps).run P w = .ok (retV vs) w' := by
  rw [results_eq, Sem.run_bind, Array.mapM_eq_mapM_toList, Sem.run_map, h]
  cases vs with
  | nil => simp [retV]
  | cons v vs =>
    cases vs with
    | nil => simp [retV]
    | cons u vs => simp [retV]
end
end Go.Sim
