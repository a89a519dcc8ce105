/-
  SIM, part X: a region that draws its order: whichever order the tape says comes to what the text's order comes to.
-/
import Derived.Test.YtlcomegfkcgjjaaGreatDoorSimT
import Derived.OrdersIn
namespace Go.Sim
open Go.RowKit (Below)
set_option linter.unusedVariables false

/-! ### What hangs on temporaries -/
section
variable {env env' : T AV}
theorem evK_congr {x : Operand} {k k' : AV → Tr} (h : ∀ t, x = .tmp t → env.get t = env'.get t) (hk : ∀ a, k a = k' a) : evK env x k = evK env' x k' := by
  have e : k = k' := funext hk
  subst e
  cases x with
  | tmp t =>
    show T.getK env t .fail k = T.getK env' t .fail k
    rw [T.getK_eq, T.getK_eq, h t rfl]
  | _ => rfl
theorem evsK_congr : ∀ {l : List Operand} {k k' : List AV → Tr}, (∀ x ∈ l, ∀ t, x = .tmp t → env.get t = env'.get t) → (∀ a, k a = k' a) → evsK env l k = evsK env' l k' := by
  intro l
  induction l with
  | nil => intro k k' _ hk; exact hk []
  | cons x l ih =>
    intro k k' h hk
    exact evK_congr (h x (by simp)) fun a => ih (fun y hy => h y (by simp [hy])) fun l => hk (a :: l)
theorem evoK_congr {o : Option Operand} {k k' : Option AV → Tr} (h : ∀ x, o = some x → ∀ t, x = .tmp t → env.get t = env'.get t) (hk : ∀ a, k a = k' a) : evoK env o k = evoK env' o k' := by
  cases o with
  | none => exact hk none
  | some x => exact evK_congr (h x rfl) fun a => hk (some a)
theorem evPartsK_congr : ∀ {l : List (Nat × Operand)} {k k' : List (Nat × AV) → Tr}, (∀ x ∈ l, ∀ t, x.2 = .tmp t → env.get t = env'.get t) → (∀ a, k a = k' a) → evPartsK env l k = evPartsK env' l k' := by
  intro l
  induction l with
  | nil => intro k k' _ hk; exact hk []
  | cons x l ih =>
    intro k k' h hk
    exact evK_congr (h x (by simp)) fun a => ih (fun y hy => h y (by simp [hy])) fun l => hk ((x.1, a) :: l)
theorem undK_congr {P : Program} {t : TypeId} {k k' : TypeDesc → Tr} (hk : ∀ a, k a = k' a) : undK P t k = undK P t k' := by rw [show k = k' from funext hk]
theorem bif_congr {b : Bool} {x x' y y' : Tr} (h : x = x') (h' : y = y') : bif' b x y = bif' b x' y' := by rw [h, h']

theorem opA_congr {P : Program} {en rn : Enter} {op : Op} {k : AV → Tr} (h : ∀ t, Operand.tmp t ∈ op.operands → env.get t = env'.get t) : opA P en rn env op k = opA P en rn env' op k := by
  have one : ∀ x, x ∈ op.operands → ∀ t, x = .tmp t → env.get t = env'.get t := fun x hx t e => h t (by subst e; exact hx)
  cases op with
  | move x => exact evK_congr (one x (by simp [Op.operands])) fun _ => rfl
  | assign x => exact evK_congr (one x (by simp [Op.operands])) fun _ => rfl
  | pick c a b =>
    exact evK_congr (one c (by simp [Op.operands])) fun v => by
      cases v with
      | bool v => exact bif_congr (evK_congr (one a (by simp [Op.operands])) fun _ => rfl) (evK_congr (one b (by simp [Op.operands])) fun _ => rfl)
      | _ => rfl
  | box t x => exact evK_congr (one x (by simp [Op.operands])) fun _ => rfl
  | build t ps => exact evPartsK_congr (fun x hx => one x.2 (by simp only [Op.operands, List.mem_toArray]; exact List.mem_map.2 ⟨x, hx, rfl⟩)) fun _ => rfl
  | buildSlice t n ps => exact evPartsK_congr (fun x hx => one x.2 (by simp only [Op.operands, List.mem_toArray]; exact List.mem_map.2 ⟨x, hx, rfl⟩)) fun _ => rfl
  | load t x => exact evK_congr (one x (by simp [Op.operands])) fun _ => rfl
  | store t x y => exact evK_congr (one x (by simp [Op.operands])) fun _ => evK_congr (one y (by simp [Op.operands])) fun _ => rfl
  | nilCheck x => exact evK_congr (one x (by simp [Op.operands])) fun _ => rfl
  | binOp op t x y z => exact evK_congr (one x (by simp [Op.operands])) fun _ => evK_congr (one y (by simp [Op.operands])) fun _ => rfl
  | unOp op t x => exact evK_congr (one x (by simp [Op.operands])) fun _ => rfl
  | convert s d x => exact evK_congr (one x (by simp [Op.operands])) fun _ => rfl
  | makeInterface t x => exact evK_congr (one x (by simp [Op.operands])) fun _ => rfl
  | makeFunc fn first cap =>
    exact bif_congr (evsK_congr (fun x hx => one x (by simp only [Op.operands, Array.mem_append]; exact .inl (by simpa using hx))) fun _ =>
      evsK_congr (fun x hx => one x (by simp only [Op.operands, Array.mem_append]; exact .inr (by simpa using hx))) fun _ => rfl) rfl
  | makeMap t r =>
    cases r with
    | none => rfl
    | some x =>
      exact undK_congr fun d => by
        cases d with
        | map _ _ => exact evK_congr (one x (by simp [Op.operands])) fun _ => rfl
        | _ => rfl
  | slice t x lo hi mx =>
    exact evK_congr (one x (by simp [Op.operands])) fun _ => evoK_congr (fun y hy => one y (by subst hy; simp [Op.operands])) fun _ =>
      evoK_congr (fun y hy => one y (by subst hy; simp [Op.operands])) fun _ => evoK_congr (fun y hy => one y (by subst hy; simp [Op.operands])) fun _ => rfl
  | fieldAddr t x f => exact evK_congr (one x (by simp [Op.operands])) fun _ => rfl
  | field t x f => exact evK_congr (one x (by simp [Op.operands])) fun _ => rfl
  | indexAddr t x i => exact evK_congr (one x (by simp [Op.operands])) fun _ => evK_congr (one i (by simp [Op.operands])) fun _ => rfl
  | index t x i => exact evK_congr (one x (by simp [Op.operands])) fun _ => evK_congr (one i (by simp [Op.operands])) fun _ => rfl
  | lookup t x i ok => exact evK_congr (one x (by simp [Op.operands])) fun _ => evK_congr (one i (by simp [Op.operands])) fun _ => rfl
  | mapUpdate t x y z => exact evK_congr (one x (by simp [Op.operands])) fun _ => evK_congr (one y (by simp [Op.operands])) fun _ => evK_congr (one z (by simp [Op.operands])) fun _ => rfl
  | insert t x y z => exact evK_congr (one x (by simp [Op.operands])) fun _ => evK_congr (one y (by simp [Op.operands])) fun _ => evK_congr (one z (by simp [Op.operands])) fun _ => rfl
  | mapEntry t x i => exact evK_congr (one x (by simp [Op.operands])) fun _ => evK_congr (one i (by simp [Op.operands])) fun _ => rfl
  | entryStore t x y z => exact evK_congr (one x (by simp [Op.operands])) fun _ => evK_congr (one y (by simp [Op.operands])) fun _ => evK_congr (one z (by simp [Op.operands])) fun _ => rfl
  | makeSlice t x y => exact evK_congr (one x (by simp [Op.operands])) fun _ => evK_congr (one y (by simp [Op.operands])) fun _ => rfl
  | typeAssert x u t ok => exact evK_congr (one x (by simp [Op.operands])) fun _ => rfl
  | entry x => exact evK_congr (one x (by simp [Op.operands])) fun _ => rfl
  | range t x => exact evK_congr (one x (by simp [Op.operands])) fun _ => rfl
  | next x s => exact evK_congr (one x (by simp [Op.operands])) fun _ => rfl
  | extract x i => exact evK_congr (one x (by simp [Op.operands])) fun _ => rfl
  | call c =>
    have hargs : ∀ x ∈ c.args.toList, x ∈ (Op.call c).operands := fun x hx => by simp only [Op.operands, Call.operands, Array.mem_append]; exact .inr (by simpa using hx)
    show (match c.callee with
      | .builtin b => evsK env c.args.toList fun l => builtinA P b c.argTypes l k
      | .value f => evK env f fun f => evsK env c.args.toList fun l => callA P en rn f l k
      | .invoke _ _ => Tr.fail) = (match c.callee with
      | .builtin b => evsK env' c.args.toList fun l => builtinA P b c.argTypes l k
      | .value f => evK env' f fun f => evsK env' c.args.toList fun l => callA P en rn f l k
      | .invoke _ _ => Tr.fail)
    cases hc : c.callee with
    | builtin b => exact evsK_congr (fun x hx => one x (hargs x hx)) fun _ => rfl
    | value f => exact evK_congr (one f (by simp [Op.operands, Call.operands, hc])) fun _ => evsK_congr (fun x hx => one x (hargs x hx)) fun _ => rfl
    | invoke _ _ => rfl
  | _ => rfl
/-- An operation of a region, behind its guard. -/
noncomputable def tk (P : Program) (en rn : Enter) (ops : Array Oper) (env : T AV) (o : Oper) : Tr := wantedK ops env o (opA P en rn env o.op .ret) (.ret (.tup []))
theorem tk_congr {P : Program} {en rn : Enter} {ops : Array Oper} {o : Oper} (h : ∀ t ∈ looks ops o, env.get t = env'.get t) : tk P en rn ops env o = tk P en rn ops env' o := by
  have h1 : opA P en rn env o.op .ret = opA P en rn env' o.op .ret := opA_congr fun t ht => h t (by
    unfold looks
    refine List.mem_append_left _ (List.mem_filterMap.2 ⟨.tmp t, by simpa using ht, rfl⟩))
  unfold tk wantedK
  rw [h1]
  split
  · rfl
  · rename_i j want hg
    split
    · rename_i oj hj
      split
      · rename_i d hd
        rw [T.getK_eq, T.getK_eq, h d]
        unfold looks
        refine List.mem_append_right _ ?_
        rw [hg]
        simp [hj, hd]
      · rfl
    · rfl
end

/-! ### Layers -/
section
variable {X A : Type}
open Classical in
/-- What lies at x behind those of the first m steps that are in S: each step m turns what is in 'W m' into what 'H (m + 1)' says. -/
noncomputable def cur (H : Nat → X → A) (W : Nat → X → Prop) (S : Nat → Prop) (x : X) : Nat → A
  | 0 => H 0 x
  | m + 1 => if S m ∧ W m x then H (m + 1) x else cur H W S x m
variable {H : Nat → X → A} {W : Nat → X → Prop} {S S' : Nat → Prop} {x : X} {n : Nat}
theorem cur_all (same : ∀ m, m < n → ¬ W m x → H (m + 1) x = H m x) : ∀ m, m ≤ n → (∀ j, j < m → S j) → cur H W S x m = H m x := by
  intro m
  induction m with
  | zero => intro _ _; rfl
  | succ m ih =>
    intro hm hS
    unfold cur
    split
    · rfl
    · rename_i h
      rw [ih (by omega) (fun j hj => hS j (by omega)), same m (by omega) (fun hw => h ⟨hS m (by omega), hw⟩)]
theorem cur_congr : ∀ m, (∀ j, j < m → W j x → (S j ↔ S' j)) → cur H W S x m = cur H W S' x m := by
  intro m
  induction m with
  | zero => intro _; rfl
  | succ m ih =>
    intro h
    unfold cur
    rw [ih fun j hj => h j (by omega)]
    by_cases hw : W m x
    · by_cases hs : S m
      · rw [if_pos ⟨hs, hw⟩, if_pos ⟨(h m (by omega) hw).1 hs, hw⟩]
      · rw [if_neg (fun c => hs c.1), if_neg (fun c => hs ((h m (by omega) hw).2 c.1))]
    · rw [if_neg (fun c => hw c.2), if_neg (fun c => hw c.2)]
theorem cur_none {a : Nat} : ∀ m, a ≤ m → (∀ j, a ≤ j → j < m → S j → ¬ W j x) → cur H W S x m = cur H W S x a := by
  intro m
  induction m with
  | zero => intro ha _; have : a = 0 := by omega
            subst this; rfl
  | succ m ih =>
    intro ha h
    by_cases e : a = m + 1
    · subst e; rfl
    · conv => lhs; unfold cur
      rw [if_neg (fun c => h m (by omega) (by omega) c.1 c.2)]
      exact ih (by omega) fun j h1 h2 => h j h1 (by omega)
variable {i : Nat}
/-- A place that step i looks at: what lies there is what lay there in the text's order. -/
theorem cur_here (same : ∀ m, m < n → ¬ W m x → H (m + 1) x = H m x) (hi : i < n) (hS : ¬ S i) (h1 : ∀ j, j < i → ¬ S j → ¬ W j x) (h2 : ∀ j, i < j → j < n → S j → ¬ W j x) : cur H W S x n = H i x := by
  rw [cur_none (a := i) n (by omega) fun j a b c => by
    by_cases e : j = i
    · subst e; exact absurd c hS
    · exact h2 j (by omega) b c]
  rw [cur_congr (S' := fun _ => True) i fun j hj hw => ⟨fun _ => trivial, fun _ => Classical.byContradiction fun hn => h1 j hj hn hw⟩]
  exact cur_all same i (by omega) fun _ _ => trivial
/-- A place that step i turns. -/
theorem cur_turned (hi : i < n) (hS' : ∀ j, S' j ↔ S j ∨ j = i) (hw : W i x) (h2 : ∀ j, i < j → j < n → S j → ¬ W j x) : cur H W S' x n = H (i + 1) x := by
  rw [cur_none (a := i + 1) n (by omega) fun j a b c => by
    rcases (hS' j).1 c with c | c
    · exact h2 j (by omega) b c
    · omega]
  unfold cur
  rw [if_pos ⟨(hS' i).2 (.inr rfl), hw⟩]
/-- A place that it leaves alone. -/
theorem cur_left (hS' : ∀ j, S' j ↔ S j ∨ j = i) (hw : ¬ W i x) : cur H W S' x n = cur H W S x n :=
  cur_congr n fun j hj hwj => by
    rw [hS' j]
    exact ⟨fun c => c.elim id fun e => by subst e; exact absurd hwj hw, .inl⟩
end

/-! ### The text's order -/
structure Tape' where
  E : Nat → T AV
  H : Nat → T ABlk
  N : Nat → Nat
  V : Nat → AV
  TT : Nat → T Unit
  WW : Nat → List Nat
def Tape'.note (c : Tape') (j : Nat) : Note := .mk (c.N j) (c.N (j + 1)) (c.TT j) (c.WW j)
def Tape'.notes (c : Tape') (i : Nat) : Nat → List (Nat × Note)
  | 0 => []
  | m + 1 => (i + m, c.note (i + m)) :: c.notes i m
theorem Tape'.notes_first (c : Tape') (i : Nat) (ns : List (Nat × Note)) : ∀ m, c.notes i (m + 1) ++ ns = c.notes (i + 1) m ++ (i, c.note i) :: ns := by
  intro m
  induction m with
  | zero => rfl
  | succ m ih =>
    rw [Tape'.notes, List.cons_append, ih, show i + (m + 1) = i + 1 + m by omega]
    rfl
theorem Tape'.mem_notes (c : Tape') (i : Nat) : ∀ m p, p < m → (i + p, c.note (i + p)) ∈ c.notes i m := by
  intro m
  induction m with
  | zero => intro p hp; omega
  | succ m ih =>
    intro p hp
    by_cases e : p = m
    · subst e; exact List.mem_cons_self
    · exact List.mem_cons_of_mem _ (ih p (by omega))
theorem Tape'.notes_congr (c d : Tape') (i : Nat) : ∀ m, (∀ j, i ≤ j → j < i + m → c.note j = d.note j) → c.notes i m = d.notes i m := by
  intro m
  induction m with
  | zero => intro _; rfl
  | succ m ih =>
    intro h
    rw [Tape'.notes, Tape'.notes, ih (fun j a b => h j a (by omega)), h (i + m) (by omega) (by omega)]

def putE (dst : Option Nat) (v : AV) (env : T AV) : T AV := match dst with | none => env | some d => env.set d v
structure StepOk (P : Program) (en rn : Enter) (nt : Nat) (ops : Array Oper) (c : Tape') (j : Nat) (o : Oper) : Prop where
  loc : LocAt (tk P en rn ops (c.E j) o) (c.H j) (c.N j) (c.N j) .leaf [] (c.V j) (c.H (j + 1)) (c.N (j + 1)) (c.TT j) (c.WW j)
  env : c.E (j + 1) = putE o.dst (c.V j) (c.E j)
  dst : ∀ d, o.dst = some d → d < nt
  lo : 1 ≤ c.N j
  hi : c.N j ≤ 1000000001
def Tape'.before (c : Tape') (i : Nat) (env : T AV) (h : T ABlk) (n : Nat) (v : AV) (t : T Unit) (w : List Nat) : Tape' where
  E j := if j ≤ i then env else c.E j
  H j := if j ≤ i then h else c.H j
  N j := if j ≤ i then n else c.N j
  V j := if j ≤ i then v else c.V j
  TT j := if j ≤ i then t else c.TT j
  WW j := if j ≤ i then w else c.WW j
theorem StepOk.later {P : Program} {en rn : Enter} {nt : Nat} {ops : Array Oper} {c : Tape'} {j : Nat} {o : Oper} (h : StepOk P en rn nt ops c j o) {i : Nat} (hi : i < j) (env : T AV) (hh : T ABlk) (n : Nat) (v : AV) (t : T Unit) (w : List Nat) :
    StepOk P en rn nt ops (c.before i env hh n v t w) j o := by
  obtain ⟨h1, h2, h3, h4, h5⟩ := h
  have e1 : ¬ j ≤ i := by omega
  have e2 : ¬ j + 1 ≤ i := by omega
  refine ⟨?_, ?_, h3, ?_, ?_⟩ <;> simp only [Tape'.before, if_neg e1, if_neg e2] <;> assumption

section
variable {P : Program} {w0 : World} {ρ : Rho} {w : World} {σ : St} {K : Fin} {nt : Nat} {env : T AV} {a : Act}

theorem putE_run {dst : Option Nat} {v : AV} {k : T AV → Tr} (h : run (putK nt dst v env k) σ K = true) : run (k (putE dst v env)) σ K = true ∧ ∀ d, dst = some d → d < nt := by
  cases dst with
  | none => exact ⟨h, fun d hd => by cases hd⟩
  | some d =>
    obtain ⟨hd, h⟩ := bifT h
    rw [T.setK_eq] at h
    exact ⟨h, fun d' hd' => by injection hd' with hd'; subst hd'; exact bleT hd⟩

theorem sub_run {t : Tr} {k : AV → Nat → Nat → T Unit → List Nat → Tr} {h : T ABlk} {n fs : Nat} {tc : T Unit} {w : List Nat} (hS : SI (.mk h n fs tc w)) (hr : run (.sub t k) (.mk h n fs tc w) K = true) :
    ∃ a h' n' t' w', LocAt t h n n .leaf [] a h' n' t' w' ∧ ∃ tc2 w2, run (k a n n' t' w') (.mk h' n' fs tc2 w2) K = true ∧ SI (.mk h' n' fs tc2 w2) := by
  obtain ⟨h1, h2, h3, h4, h5⟩ := hS
  rw [run_sub] at hr
  rcases loc t h n n .leaf [] (by omega) (Nat.le_refl _) h2 (by simp) (fun b hb => by simp [T.get] at hb) with hf | ⟨a, h', n', t', w', L⟩
  · rw [hf] at hr; cases hr
  · rw [L.run] at hr
    have hle := L.le
    have hlid := L.lid
    refine ⟨a, h', n', t', w', L, ?_⟩
    simp only at hr
    split at hr
    · exact ⟨tc, w, hr, by omega, hlid, by omega, h4, h5⟩
    · refine ⟨_, _, hr, by omega, hlid, by omega, fun b hb => ?_, fun b hb => ?_⟩
      · have hk64 : ∀ b ∈ T.keys t' id [], b + 1 < 2 ^ 64 := fun b hb => by
          rcases small_all t' id [] b hb with hb | ⟨x, u, e, hx⟩
          · cases hb
          · have := L.low x hx
            have e' : b = x := e
            subst e'
            omega
        rcases mem_noteWAll _ _ _ hb with hb | ⟨hb, hlt⟩
        · exact noteAll_keeps _ _ _ hk64 (h4 b hb)
        · exact noteAll_has _ _ _ hk64 (by have := T.mem_keys t' id [] b () (L.sub b hb); simpa using this) hlt
      · have key : ∀ (l : List Nat) (t : T Unit), (∀ b, t.get b = some () → b < fs) → ∀ b, (noteAll fs l t).get b = some () → b < fs := by
          intro l
          induction l with
          | nil => intro t ht b hb; exact ht b hb
          | cons x l ih =>
            intro t ht b hb
            refine ih _ (fun y hy => ?_) b hb
            by_cases e : fs ≤ x
            · rw [Sim.note, if_pos e] at hy; exact ht y hy
            · by_cases ey : y = x
              · omega
              · rw [Sim.note, if_neg e, T.get_set_ne _ ey] at hy; exact ht y hy
        exact key _ _ h5 b hb

theorem drawT {ops : Array Oper} {en rn : Enter} {k : T AV → Tr} : ∀ (l : List Oper) (i : Nat) (env : T AV) (ns : List (Nat × Note)) (h : T ABlk) (n fs : Nat) (tc : T Unit) (w : List Nat), SI (.mk h n fs tc w) →
    run (drawK P en rn nt ops l i env ns k) (.mk h n fs tc w) K = true →
    ∃ c : Tape', c.E i = env ∧ c.H i = h ∧ c.N i = n ∧ (∀ j o, l[j]? = some o → StepOk P en rn nt ops c (i + j) o) ∧
      (∃ tc' w', run (k (c.E (i + l.length))) (.mk (c.H (i + l.length)) (c.N (i + l.length)) fs tc' w') K = true ∧ SI (.mk (c.H (i + l.length)) (c.N (i + l.length)) fs tc' w')) ∧
      confOk (befL ops.toList []) (c.notes i l.length ++ ns) = true := by
  intro l
  induction l with
  | nil =>
    intro i env ns h n fs tc w hS hr
    have hr : run (bif' (confOk (befL ops.toList []) ns) (k env) .fail) (.mk h n fs tc w) K = true := hr
    obtain ⟨hc, hr⟩ := bifT hr
    exact ⟨⟨fun _ => env, fun _ => h, fun _ => n, fun _ => .nilp, fun _ => .leaf, fun _ => []⟩, rfl, rfl, rfl, fun j o ho => by simp at ho, ⟨tc, w, hr, hS⟩, hc⟩
  | cons o l ih =>
    intro i env ns h n fs tc w hS hr
    have hr : run (.sub (tk P en rn ops env o) fun v c c' t w => putK nt o.dst v env fun env => fN (Nat.succ i) fun i' => drawK P en rn nt ops l i' env ((i, .mk c c' t w) :: ns) k) (.mk h n fs tc w) K = true := hr
    obtain ⟨v, h', n', t', w', L, tc2, w2, hr, hS2⟩ := sub_run hS hr
    obtain ⟨hr, hd⟩ := putE_run hr
    have hr := fNT hr
    obtain ⟨c, e1, e2, e3, hst, hend, hconf⟩ := ih _ _ _ _ _ _ _ _ hS2 hr
    have g1 : ∀ m, i + 1 + m = i + (m + 1) := fun m => by omega
    have g2 : ∀ m, ¬ i + (m + 1) ≤ i := fun m => by omega
    have g3 : ¬ i + 1 ≤ i := by omega
    refine ⟨c.before i env h n v t' w', by simp [Tape'.before], by simp [Tape'.before], by simp [Tape'.before], fun j o' ho => ?_, ?_, ?_⟩
    · cases j with
      | zero =>
        simp at ho; subst ho
        refine ⟨?_, ?_, hd, ?_, ?_⟩
        · simp only [Tape'.before, Nat.add_zero, Nat.le_refl, if_true, if_neg g3]
          have e2 : c.H (i + 1) = h' := e2
          have e3 : c.N (i + 1) = n' := e3
          rw [e2, e3]; exact L
        · simp only [Tape'.before, Nat.add_zero, Nat.le_refl, if_true, if_neg g3]
          exact e1
        · simp only [Tape'.before, Nat.add_zero, Nat.le_refl, if_true]; exact hS.1
        · simp only [Tape'.before, Nat.add_zero, Nat.le_refl, if_true]; exact hS.2.1
      | succ j =>
        simp at ho
        have := (hst j o' ho).later (i := i) (by omega) env h n v t' w'
        rw [g1] at this; exact this
    · obtain ⟨tc', w'', q1, q2⟩ := hend
      refine ⟨tc', w'', ?_⟩
      simp only [List.length_cons, Tape'.before, if_neg (g2 _)]
      have g1' : Nat.succ i + l.length = i + (l.length + 1) := by omega
      rw [g1'] at q1 q2
      exact ⟨q1, q2⟩
    · rw [List.length_cons, Tape'.notes_first]
      have e0 : (c.before i env h n v t' w').note i = .mk n n' t' w' := by
        have e3 : c.N (i + 1) = n' := e3
        simp only [Tape'.note, Tape'.before, Nat.le_refl, if_true, if_neg g3, e3]
      rw [e0, Tape'.notes_congr _ c (i + 1) l.length fun j a b => by
        have e4 : ¬ j ≤ i := by omega
        have e5 : ¬ j + 1 ≤ i := by omega
        simp only [Tape'.note, Tape'.before, if_neg e4, if_neg e5]]
      exact hconf
end

/-! ### Who is apart from whom -/
theorem noneIn_mem {t : T Unit} : ∀ {l : List Nat}, noneIn t l = true → ∀ b ∈ l, t.get b = none := by
  intro l
  induction l with
  | nil => intro _ b hb; cases hb
  | cons x l ih =>
    intro h b hb
    have h : T.getK t x (noneIn t l) (fun _ => false) = true := h
    rw [T.getK_eq] at h
    split at h
    · rename_i hx
      rcases List.mem_cons.mp hb with e | hb
      · subst e; exact hx
      · exact ih h b hb
    · cases h
theorem noneBetween_mem {c c' : Nat} : ∀ {l : List Nat}, noneBetween c c' l = true → ∀ b ∈ l, ¬ (c ≤ b ∧ b < c') := by
  intro l
  induction l with
  | nil => intro _ b hb; cases hb
  | cons x l ih =>
    intro h b hb hc
    have h : bif' (Nat.ble c x) (bif' (Nat.ble (Nat.succ x) c') false (noneBetween c c' l)) (noneBetween c c' l) = true := h
    rcases List.mem_cons.mp hb with e | hb
    · subst e
      rw [show Nat.ble c b = true from Nat.ble_eq.mpr hc.1, show Nat.ble (Nat.succ b) c' = true from Nat.ble_eq.mpr hc.2] at h
      cases h
    · refine ih ?_ b hb hc
      cases h1 : Nat.ble c x with
      | false => rw [h1] at h; exact h
      | true =>
        rw [h1] at h
        cases h2 : Nat.ble (Nat.succ x) c' with
        | false => rw [h2] at h; exact h
        | true => rw [h2] at h; cases h
theorem confOk_pair {bs : List Nat} {c : Tape'} : ∀ {m : Nat} {ns : List (Nat × Note)}, confOk bs (c.notes 0 m ++ ns) = true → ∀ p q, p < q → q < m → (bs.getD q 0).testBit p = true ∨ noConf (c.note p) (c.note q) = true := by
  intro m
  induction m with
  | zero => intro ns _ p q _ h; omega
  | succ m ih =>
    intro ns h p q hp hq
    have h : bif' ((c.notes 0 m ++ ns).all fun x => bif' ((bs.getD (0 + m) 0).testBit x.1) true (noConf x.2 (c.note (0 + m)))) (confOk bs (c.notes 0 m ++ ns)) false = true := h
    obtain ⟨h1, h2⟩ := bif'_true h
    by_cases e : q = m
    · subst e
      have hm := c.mem_notes 0 q p hp
      have := List.all_eq_true.mp h1 _ (List.mem_append_left _ hm)
      simp only [Nat.zero_add] at this
      rw [bif'_eq] at this
      split at this
      · rename_i hb; exact .inl hb
      · exact .inr this
    · exact ih h2 p q hp (by omega)

theorem befL_len : ∀ (l : List Oper) (acc : List Nat), (befL l acc).length = acc.length + l.length := by
  intro l
  induction l with
  | nil => intro acc; rfl
  | cons o l ih => intro acc; rw [befL, ih]; simp; omega
theorem befL_keeps : ∀ (l : List Oper) (acc : List Nat) (i : Nat), i < acc.length → (befL l acc).getD i 0 = acc.getD i 0 := by
  intro l
  induction l with
  | nil => intro acc i _; rfl
  | cons o l ih =>
    intro acc i hi
    rw [befL, ih _ _ (by simp; omega)]
    simp [List.getD_eq_getElem?_getD, List.getElem?_append_left hi]
def preds (acc : List Nat) (o : Oper) : Nat := o.after.toList.foldl (fun s e => if Region.binds .any e then s ||| 2 ^ e.on ||| acc.getD e.on 0 else s) 0
theorem befL_at : ∀ (l : List Oper) (acc : List Nat) (k : Nat) (o : Oper), l[k]? = some o → ∃ acc', acc'.length = acc.length + k ∧ (∀ i, i < acc'.length → (befL l acc).getD i 0 = acc'.getD i 0) ∧ (befL l acc).getD (acc.length + k) 0 = preds acc' o := by
  intro l
  induction l with
  | nil => intro acc k o h; simp at h
  | cons o l ih =>
    intro acc k o' h
    cases k with
    | zero =>
      simp at h; subst h
      refine ⟨acc, rfl, fun i hi => befL_keeps _ _ _ hi, ?_⟩
      rw [befL, befL_keeps _ _ _ (by simp)]
      simp [List.getD_eq_getElem?_getD, preds]
    | succ k =>
      simp at h
      obtain ⟨acc', h1, h2, h3⟩ := ih (acc ++ [preds acc o]) k o' h
      simp only [List.length_append, List.length_singleton] at h1 h3
      refine ⟨acc', by omega, h2, ?_⟩
      rw [← h3, show acc.length + (k + 1) = acc.length + 1 + k by omega]
      rfl
theorem preds_bit {acc : List Nat} {o : Oper} {i : Nat} (h : (preds acc o).testBit i = true) : ∃ e ∈ o.after, Region.binds .any e = true ∧ (e.on = i ∨ (acc.getD e.on 0).testBit i = true) := by
  have key : ∀ (l : List Edge) (s : Nat), (l.foldl (fun s e => if Region.binds .any e then s ||| 2 ^ e.on ||| acc.getD e.on 0 else s) s).testBit i = true →
      s.testBit i = true ∨ ∃ e ∈ l, Region.binds .any e = true ∧ (e.on = i ∨ (acc.getD e.on 0).testBit i = true) := by
    intro l
    induction l with
    | nil => intro s h; exact .inl h
    | cons e l ih =>
      intro s h
      rw [List.foldl_cons] at h
      rcases ih _ h with h | ⟨e', he, h⟩
      · split at h
        · rename_i hb
          rw [Nat.testBit_or, Nat.testBit_or, Bool.or_eq_true, Bool.or_eq_true, Nat.testBit_two_pow] at h
          rcases h with (h | h) | h
          · exact .inl h
          · exact .inr ⟨e, by simp, hb, .inl (by simpa using h)⟩
          · exact .inr ⟨e, by simp, hb, .inr h⟩
        · exact .inl h
      · exact .inr ⟨e', by simp [he], h⟩
  rcases key _ _ h with h | ⟨e, he, h⟩
  · simp at h
  · exact ⟨e, by simpa using he, h⟩
/-- Who must come ahead of whom: told by the edges, step by step. -/
theorem bef_bit {ops : Array Oper} {j i : Nat} {o : Oper} (ho : ops[j]? = some o) (h : ((befL ops.toList []).getD j 0).testBit i = true) :
    ∃ e ∈ o.after, Region.binds .any e = true ∧ (e.on = i ∨ ((befL ops.toList []).getD e.on 0).testBit i = true) := by
  obtain ⟨acc', h1, h2, h3⟩ := befL_at ops.toList [] j o (by simpa using ho)
  simp only [List.length_nil, Nat.zero_add] at h1 h3
  rw [h3] at h
  obtain ⟨e, he, hb, hc⟩ := preds_bit h
  refine ⟨e, he, hb, hc.imp id fun hc => ?_⟩
  rcases Nat.lt_or_ge e.on acc'.length with hl | hl
  · rw [h2 _ hl]; exact hc
  · rw [List.getD_eq_getElem?_getD, List.getElem?_eq_none hl] at hc; simp at hc
theorem tmpsOk_on {ops : Array Oper} (h : tmpsOk ops = true) {j : Nat} {o : Oper} (ho : ops[j]? = some o) : ∀ e ∈ o.after, Region.binds .any e = true → e.on < j := by
  intro e he hb
  unfold tmpsOk at h
  have hm : (o, j) ∈ ops.toList.zipIdx := by rw [List.mem_zipIdx_iff_getElem?]; simpa using ho
  have := List.all_eq_true.mp h _ hm
  simp only [Bool.and_eq_true] at this
  have := List.all_eq_true.mp this.1 e (by simpa using he)
  simpa [hb] using this
theorem tmpsOk_apart {ops : Array Oper} (h : tmpsOk ops = true) {i j : Nat} {p o : Oper} (hp : ops[i]? = some p) (ho : ops[j]? = some o) (hij : i < j) : ((befL ops.toList []).getD j 0).testBit i = true ∨ apartB ops p o = true := by
  unfold tmpsOk at h
  have hm : (o, j) ∈ ops.toList.zipIdx := by rw [List.mem_zipIdx_iff_getElem?]; simpa using ho
  have hm' : (p, i) ∈ ops.toList.zipIdx := by rw [List.mem_zipIdx_iff_getElem?]; simpa using hp
  have := List.all_eq_true.mp h _ hm
  simp only [Bool.and_eq_true] at this
  have := List.all_eq_true.mp this.2 _ hm'
  simp only [Bool.or_eq_true, Bool.not_eq_true', decide_eq_false_iff_not] at this
  rcases this with (c | c) | c
  · exact absurd hij c
  · exact .inl c
  · exact .inr c
theorem apartB_iff {ops : Array Oper} {a b : Oper} (h : apartB ops a b = true) : (∀ d, a.dst = some d → d ∉ looks ops b) ∧ (∀ d, b.dst = some d → d ∉ looks ops a) ∧ ∀ d, a.dst = some d → b.dst ≠ some d := by
  unfold apartB at h
  simp only [Bool.and_eq_true] at h
  obtain ⟨⟨h1, h2⟩, h3⟩ := h
  refine ⟨fun d hd => ?_, fun d hd => ?_, fun d hd he => ?_⟩
  · rw [hd] at h1; simpa using h1
  · rw [hd] at h2; simpa using h2
  · rw [hd, he] at h3; simp at h3

/-! ### Any order -/
section
variable {P : Program} {w0 : World} {ρ : Rho} {w : World} {σ : St} {K : Fin} {nt : Nat} {env : T AV} {a : Act}

theorem Good.like {H H' : T ABlk} (hG : Good w0 ρ H w) (h : ∀ b, H'.get b = H.get b) : Good w0 ρ H' w :=
  ⟨hG.below, fun b x hx => hG.blk b x (by rw [← h]; exact hx), fun b g x hx => by rw [h]; exact hG.dom b g x hx, hG.inj, fun b g y x hy hx => hG.gens b g y x hy (by rw [← h]; exact hx)⟩
theorem ER.like {env' : T AV} {tmps : Array Value} (hE : ER ρ nt env tmps) (h : ∀ d, env'.get d = env.get d) : ER ρ nt env' tmps :=
  ⟨hE.size, fun t x hx => hE.val t x (by rw [← h]; exact hx)⟩
theorem putE_ER {dst : Option Nat} {av : AV} {v : Value} (hv : VR ρ av v) (hE : ER ρ nt env a.tmps) (hd : ∀ d, dst = some d → d < nt) : ER ρ nt (putE dst av env) (a.put dst v).tmps := by
  cases dst with
  | none => exact hE
  | some d =>
    have hd := hd d rfl
    refine ⟨?_, fun t b hb => ?_⟩
    · show (a.tmps.setIfInBounds d v).size = nt
      rw [Array.size_setIfInBounds]; exact hE.size
    · show ∃ u, (a.tmps.setIfInBounds d v)[t]? = some u ∧ VR ρ b u
      by_cases e : t = d
      · subst e
        have := T.get_set_some _ _ hb
        subst this
        refine ⟨v, ?_, hv⟩
        rw [Array.getElem?_setIfInBounds, if_pos rfl, if_pos (by rw [hE.size]; omega)]
      · have hb : (env.set d av).get t = some b := hb
        rw [T.get_set_ne _ e] at hb
        obtain ⟨u, hu, hr⟩ := hE.val t b hb
        exact ⟨u, by rw [Array.getElem?_setIfInBounds, if_neg (fun e' => e e'.symm)]; exact hu, hr⟩
theorem putE_same {dst : Option Nat} {v : AV} {x : Nat} (h : dst ≠ some x) : (putE dst v env).get x = env.get x := by
  cases dst with
  | none => rfl
  | some d => exact T.get_set_ne _ (fun e => h (by rw [e])) _
theorem putE_at {dst : Option Nat} {v : AV} {x : Nat} (h : dst = some x) (hx : x + 1 < 2 ^ 64) : (putE dst v env).get x = some v := by
  subst h; exact T.get_set_same _ _ _ hx

/-- The steps that are done, as told. -/
def Done (listed : Array Bool) (j : Nat) : Prop := listed.getD j false = true
theorem done_set {listed : Array Bool} {i : Nat} (hi : i < listed.size) (j : Nat) : Done (listed.setIfInBounds i true) j ↔ Done listed j ∨ j = i := by
  unfold Done
  rw [Array.getD_eq_getD_getElem?, Array.getElem?_setIfInBounds, Array.getD_eq_getD_getElem?]
  by_cases e : i = j
  · subst e; simp [hi]
  · have e' : ¬ j = i := fun h => e h.symm
    rw [if_neg e, or_iff_left e']
theorem done_not {listed : Array Bool} {j : Nat} (h : listed.getD j true = false) : ¬ Done listed j ∧ j < listed.size := by
  rw [Array.getD_eq_getD_getElem?] at h
  cases hj : listed[j]? with
  | none => rw [hj] at h; cases h
  | some b =>
    rw [hj] at h
    refine ⟨fun c => ?_, (Array.getElem?_eq_some_iff.1 hj).1⟩
    unfold Done at c
    rw [Array.getD_eq_getD_getElem?, hj] at c
    have h : b = false := h
    have c : b = true := c
    rw [h] at c; cases c

def TchE (ops : Array Oper) (o : Oper) (x : Nat) : Prop := x ∈ looks ops o ∨ o.dst = some x
def WrE (ops : Array Oper) (j : Nat) (x : Nat) : Prop := ∃ o, ops[j]? = some o ∧ o.dst = some x
def WrH (c : Tape') (j : Nat) (b : Nat) : Prop := Wrt (c.N j) (c.N (j + 1)) (c.WW j) b
def TcH (c : Tape') (j : Nat) (b : Nat) : Prop := Tch (c.N j) (c.N (j + 1)) (c.TT j) b

open Classical in
theorem draw_ok {rd : Option Nat} {ops : Array Oper} {en rn : Enter} (hen : EnOk P w0 en) (hrn : RnOk P w0 rn) (hnt : nt ≤ 1000000000) (hm : P.follows .mixedOrders = true) {k : T AV → Tr} {Q : Exit → Act → World → Prop} (ρ0 : Rho) (ds : List Deferred)
    (hk : ∀ env' σ' ρ' a' w', run (k env') σ' K = true → SI σ' → Good w0 ρ' σ'.h w' → ρ0.le ρ' → ER ρ' nt env' a'.tmps → a'.defers = ds → Q .normal a' w')
    (htm : tmpsOk ops = true) (h : run (drawK P en rn nt ops ops.toList 0 env [] k) σ K = true) (hS : SI σ) (hG : Good w0 ρ σ.h w) (hle : ρ0.le ρ) (hE : ER ρ nt env a.tmps) (hd : a.defers = ds) (id : Nat) :
    (Code.region id ops true).wpIn (fR rd) 0 P Q a w := by
  cases σ with
  | mk h0 n0 fs tc ww =>
  obtain ⟨c, e1, e2, e3, hst, ⟨tc', w', hend, hSend⟩, hconf⟩ := drawT _ _ _ _ _ _ _ _ _ hS h
  rw [Array.length_toList, Nat.zero_add] at hend hSend
  rw [Array.length_toList] at hconf
  have hst : ∀ j o, ops[j]? = some o → StepOk P en rn nt ops c j o := fun j o ho => by
    have := hst j o (by simpa using ho)
    rwa [Nat.zero_add] at this
  have hlt : ∀ {j o}, ops[j]? = some o → j < ops.size := fun h => (Array.getElem?_eq_some_iff.1 h).1
  have hop : ∀ {j}, j < ops.size → ∃ o, ops[j]? = some o := fun h => ⟨_, Array.getElem?_eq_getElem h⟩
  -- the numbers grow
  have hN1 : ∀ j, j < ops.size → c.N j ≤ c.N (j + 1) := fun j hj => by
    obtain ⟨o, ho⟩ := hop hj
    exact (hst j o ho).loc.le
  have hN : ∀ i j, i ≤ j → j ≤ ops.size → c.N i ≤ c.N j := fun i j => by
    induction j with
    | zero => intro h1 _; rw [show i = 0 by omega]; exact Nat.le_refl _
    | succ j ih =>
      intro h1 h2
      by_cases e : i = j + 1
      · subst e; exact Nat.le_refl _
      · exact Nat.le_trans (ih (by omega) (by omega)) (hN1 j (by omega))
  have sameH : ∀ b m, m < ops.size → ¬ WrH c m b → (c.H (m + 1)).get b = (c.H m).get b := fun b m hm hw => by
    obtain ⟨o, ho⟩ := hop hm
    exact (hst m o ho).loc.same b hw
  have sameE : ∀ x m, m < ops.size → ¬ WrE ops m x → (c.E (m + 1)).get x = (c.E m).get x := fun x m hm hw => by
    obtain ⟨o, ho⟩ := hop hm
    rw [(hst m o ho).env]
    exact putE_same fun e => hw ⟨o, ho, e⟩
  have hsub : ∀ j b, j < ops.size → WrH c j b → TcH c j b := fun j b hj hw => by
    obtain ⟨o, ho⟩ := hop hj
    rcases hw with hw | hw
    · exact .inl ((hst j o ho).loc.sub b hw)
    · exact .inr hw
  -- two steps of which neither waits for the other
  have apH : ∀ i j b, i < j → j < ops.size → ¬ ((befL ops.toList []).getD j 0).testBit i = true → (¬ (TcH c i b ∧ WrH c j b)) ∧ ¬ (WrH c i b ∧ TcH c j b) := fun i j b hij hj hnb => by
    obtain ⟨p, hp⟩ := hop (show i < ops.size by omega)
    obtain ⟨o, ho⟩ := hop hj
    have hno := (confOk_pair hconf i j hij hj).resolve_left hnb
    have hno : bif' (noneIn (c.TT j) (c.WW i)) (bif' (noneIn (c.TT i) (c.WW j)) (bif' (noneBetween (c.N i) (c.N (i + 1)) (T.keys (c.TT j) _root_.id [])) (bif' (noneBetween (c.N i) (c.N (i + 1)) (c.WW j)) true false) false) false) false = true := hno
    obtain ⟨h1, hno⟩ := bif'_true hno
    obtain ⟨h2, hno⟩ := bif'_true hno
    obtain ⟨h3, hno⟩ := bif'_true hno
    obtain ⟨h4, _⟩ := bif'_true hno
    have Li := (hst i p hp).loc
    have Lj := (hst j o ho).loc
    have hNij := hN (i + 1) j (by omega) (by omega)
    have hNi := hN1 i (by omega)
    constructor
    · rintro ⟨ht, hw⟩
      rcases hw with hw | hw
      · rcases ht with ht | ht
        · rw [noneIn_mem h2 b hw] at ht; cases ht
        · exact noneBetween_mem h4 b hw ht
      · rcases ht with ht | ht
        · have := Li.low b ht; omega
        · omega
    · rintro ⟨hw, ht⟩
      rcases hw with hw | hw
      · rcases ht with ht | ht
        · rw [noneIn_mem h1 b hw] at ht; cases ht
        · have := Li.low b (Li.sub b hw); omega
      · rcases ht with ht | ht
        · exact noneBetween_mem h3 b (by have := T.mem_keys (c.TT j) _root_.id [] b () ht; simpa using this) hw
        · omega
  have apE : ∀ i j p o x, i < j → ops[i]? = some p → ops[j]? = some o → ¬ ((befL ops.toList []).getD j 0).testBit i = true → (¬ (TchE ops p x ∧ o.dst = some x)) ∧ ¬ (p.dst = some x ∧ TchE ops o x) := fun i j p o x hij hp ho hnb => by
    obtain ⟨h1, h2, h3⟩ := apartB_iff ((tmpsOk_apart htm hp ho hij).resolve_left hnb)
    constructor
    · rintro ⟨ht, hw⟩
      rcases ht with ht | ht
      · exact h2 x hw ht
      · exact h3 x ht hw
    · rintro ⟨hw, ht⟩
      rcases ht with ht | ht
      · exact h1 x hw ht
      · exact h3 x hw ht
  have main : ∀ (fuel : Nat) (listed : Array Bool) (g : T ABlk) (env' : T AV) (ρ' : Rho) (a' : Act) (w' : World), listed.size = ops.size → listed.toList.count false ≤ fuel →
      (∀ j, Done listed j → ∀ i, ((befL ops.toList []).getD j 0).testBit i = true → Done listed i) →
      (∀ b, g.get b = cur (fun m b => (c.H m).get b) (WrH c) (Done listed) b ops.size) → (∀ x, env'.get x = cur (fun m x => (c.E m).get x) (WrE ops) (Done listed) x ops.size) →
      Good w0 ρ' g w' → ρ0.le ρ' → ER ρ' nt env' a'.tmps → a'.defers = ds → wpAnyIn (fR rd) 0 P .any ops Q fuel listed a' w' := by
    intro fuel
    have fin : ∀ (listed : Array Bool) (g : T ABlk) (env' : T AV) (ρ' : Rho) (a' : Act) (w' : World), listed.size = ops.size → 
        (∀ b, g.get b = cur (fun m b => (c.H m).get b) (WrH c) (Done listed) b ops.size) → (∀ x, env'.get x = cur (fun m x => (c.E m).get x) (WrE ops) (Done listed) x ops.size) →
        Good w0 ρ' g w' → ρ0.le ρ' → ER ρ' nt env' a'.tmps → a'.defers = ds → Region.ready .any ops listed = [] → Q .normal a' w' := by
      intro listed g env' ρ' a' w' hsz hg he hG' hle' hE' hd' hr
      have hall : ∀ m, ∀ j, j < m → j < ops.size → Done listed j := by
        intro m
        induction m with
        | zero => intro j hj; omega
        | succ m ih =>
          intro j hj hjs
          by_cases e : j < m
          · exact ih j e hjs
          · have e : j = m := by omega
            subst e
            refine byContradiction fun hn => ?_
            obtain ⟨o, ho⟩ := hop hjs
            have : j ∈ Region.ready .any ops listed := mem_ready.2 ⟨?_, o, ho, fun e he hb => ih e.on (tmpsOk_on htm ho e he hb) (by have := tmpsOk_on htm ho e he hb; omega)⟩
            · rw [hr] at this; cases this
            · unfold Done at hn
              rw [Array.getD_eq_getD_getElem?, Array.getElem?_eq_getElem (by omega)] at hn ⊢
              simpa using hn
      have hH : ∀ b, (c.H ops.size).get b = g.get b := fun b => by
        rw [hg b, cur_all (sameH b) ops.size (Nat.le_refl _) fun j hj => hall (j + 1) j (by omega) hj]
      have hEE : ∀ x, (c.E ops.size).get x = env'.get x := fun x => by
        rw [he x, cur_all (sameE x) ops.size (Nat.le_refl _) fun j hj => hall (j + 1) j (by omega) hj]
      exact hk _ _ ρ' a' w' hend hSend (hG'.like hH) hle' (hE'.like hEE) hd'
    induction fuel with
    | zero =>
      intro listed g env' ρ' a' w' hsz hcnt hcl hg he hG' hle' hE' hd'
      have hr : Region.ready .any ops listed = [] := by
        rw [List.eq_nil_iff_forall_not_mem]
        intro j hj
        have := (mem_ready.1 hj).1
        have hn := done_not this
        have : false ∈ listed.toList := by
          rw [Array.getD_eq_getD_getElem?, Array.getElem?_eq_getElem hn.2] at this
          have this : listed[j]'hn.2 = false := this
          rw [← this]; simp
        have := List.count_pos_iff.2 this
        omega
      exact ⟨hr, fin listed g env' ρ' a' w' hsz hg he hG' hle' hE' hd' hr⟩
    | succ fuel ih =>
      intro listed g env' ρ' a' w' hsz hcnt hcl hg he hG' hle' hE' hd'
      refine ⟨fin listed g env' ρ' a' w' hsz hg he hG' hle' hE' hd', fun i hi => ?_⟩
      obtain ⟨hun, o, ho, hpre⟩ := mem_ready.1 hi
      obtain ⟨hnd, hil⟩ := done_not hun
      have his := hlt ho
      have st := hst i o ho
      have L := st.loc
      -- whoever i waits for is done
      have hbef : ∀ j, ((befL ops.toList []).getD i 0).testBit j = true → Done listed j := fun j hj => by
        obtain ⟨e, he, hb, hc⟩ := bef_bit ho hj
        rcases hc with hc | hc
        · subst hc; exact hpre e he hb
        · exact hcl _ (hpre e he hb) j hc
      have later : ∀ j, i < j → j < ops.size → Done listed j → ¬ ((befL ops.toList []).getD j 0).testBit i = true := fun j _ _ hj hb => hnd (hcl j hj i hb)
      have sooner : ∀ j, j < i → ¬ Done listed j → ¬ ((befL ops.toList []).getD i 0).testBit j = true := fun j _ hj hb => hj (hbef j hb)
      have hereH : ∀ b, TcH c i b → g.get b = (c.H i).get b := fun b hb => by
        rw [hg b]
        exact cur_here (sameH b) his hnd (fun j h1 h2 h3 => (apH j i b h1 his (sooner j h1 h2)).2 ⟨h3, hb⟩) fun j h1 h2 h3 h4 => (apH i j b h1 h2 (later j h1 h2 h3)).1 ⟨hb, h4⟩
      have hereE : ∀ x, TchE ops o x → env'.get x = (c.E i).get x := fun x hx => by
        rw [he x]
        refine cur_here (sameE x) his hnd (fun j h1 h2 h3 => ?_) fun j h1 h2 h3 h4 => ?_
        · obtain ⟨p, hp, hpx⟩ := h3
          exact (apE j i p o x h1 hp ho (sooner j h1 h2)).2 ⟨hpx, hx⟩
        · obtain ⟨p, hp, hpx⟩ := h4
          exact (apE i j o p x h1 ho hp (later j h1 h2 h3)).1 ⟨hx, hpx⟩
      obtain ⟨g', r1, r2, r3⟩ := L.like g hereH
      have hrun : run (tk P en rn ops env' o) (.mk g (c.N i) (c.N i) .leaf []) (fun x s => decide (x = c.V i ∧ s = .mk g' (c.N (i + 1)) (c.N i) (c.TT i) (c.WW i))) = true := by
        rw [tk_congr (env' := c.E i) (fun t ht => hereE t (.inl ht)), r1]
        simp
      have hSi : SI (.mk g (c.N i) (c.N i) .leaf []) := ⟨st.lo, st.hi, Nat.le_refl _, by simp, fun b hb => by simp [T.get] at hb⟩
      -- what holds behind it
      have next : ∀ (ρ2 : Rho) (v : Value) (w2 : World), Good w0 ρ2 g' w2 → ρ'.le ρ2 → VR ρ2 (c.V i) v → wpAnyIn (fR rd) 0 P .any ops Q fuel (listed.setIfInBounds i true) (a'.put o.dst v) w2 := by
        intro ρ2 v w2 hG2 hle2 hv
        have hds := done_set (listed := listed) (i := i) hil
        refine ih (listed.setIfInBounds i true) g' (putE o.dst (c.V i) env') ρ2 (a'.put o.dst v) w2 (by simp [hsz]) ?_ (fun j hj q hq => ?_) (fun b => ?_) (fun x => ?_) hG2 (hle'.trans hle2) (putE_ER hv (hE'.mono hle2) st.dst) (by cases hdst : o.dst <;> exact hd')
        · rw [Array.toList_setIfInBounds, List.count_set (by simpa using hil)]
          have e1 : listed.toList[i]'(by simpa using hil) = false := by
            rw [Array.getD_eq_getD_getElem?, Array.getElem?_eq_getElem hil] at hun
            have hun : listed[i]'hil = false := hun
            simpa using hun
          have : 0 < listed.toList.count false := List.count_pos_iff.2 (by rw [← e1]; exact List.getElem_mem _)
          rw [e1, if_pos (by rfl), if_neg (by decide)]; omega
        · rcases (hds j).1 hj with hj | hj
          · exact (hds q).2 (.inl (hcl j hj q hq))
          · subst hj; exact (hds q).2 (.inl (hbef q hq))
        · by_cases hw : WrH c i b
          · rw [r2 b (hsub i b his hw)]
            exact (cur_turned (H := fun m b => (c.H m).get b) his hds hw fun j h1 h2 h3 h4 => (apH i j b h1 h2 (later j h1 h2 h3)).1 ⟨hsub i b his hw, h4⟩).symm
          · rw [r3 b hw, hg b]
            exact (cur_left (H := fun m b => (c.H m).get b) hds hw).symm
        · by_cases hw : WrE ops i x
          · have hx : o.dst = some x := by
              obtain ⟨o', ho', hx⟩ := hw
              rw [ho] at ho'; injection ho' with ho'; rw [ho']; exact hx
            have hx64 : x + 1 < 2 ^ 64 := by have : x < nt := st.dst x hx; omega
            have q1 : (putE o.dst (c.V i) env').get x = (c.E (i + 1)).get x := by rw [st.env, putE_at hx hx64, putE_at hx hx64]
            rw [q1]
            refine (cur_turned (H := fun m x => (c.E m).get x) his hds hw fun j h1 h2 h3 h4 => ?_).symm
            obtain ⟨p, hp, hpx⟩ := h4
            exact (apE i j o p x h1 ho hp (later j h1 h2 h3)).1 ⟨.inr hx, hpx⟩
          · rw [putE_same (fun e => hw ⟨o, ho, e⟩), he x]
            exact (cur_left (H := fun m x => (c.E m).get x) hds hw).symm
      unfold wpOpIn
      simp only [ho]
      rcases wantedT hE' hrun with ⟨hw, hr⟩ | ⟨hw, hr⟩
      · rw [if_pos hw]
        refine opA_ok hen hrn hSi hG' hE' hr fun av v σ' ρ2 w2 q1 q2 q3 q4 q5 => ?_
        obtain ⟨z1, z2⟩ := of_decide_eq_true (show decide (av = c.V i ∧ σ' = .mk g' (c.N (i + 1)) (c.N i) (c.TT i) (c.WW i)) = true from q1)
        subst z1; subst z2
        exact next ρ2 v w2 q3 q4 q5
      · rw [if_neg (by rw [hw]; simp)]
        obtain ⟨z1, z2⟩ := of_decide_eq_true (show decide (AV.tup [] = c.V i ∧ St.mk g (c.N i) (c.N i) .leaf [] = .mk g' (c.N (i + 1)) (c.N i) (c.TT i) (c.WW i)) = true from hr)
        injection z2 with z2
        refine ⟨fun _ _ => trivial, next ρ' undef w' (by rw [← z2]; exact hG') (Rho.le.refl _) (by rw [← z1]; exact .tup [] #[] rfl (by simp))⟩
  refine wpIn_region_any hm (main ops.size (Array.replicate ops.size false) h0 env ρ a _ (by simp) (by simp) (fun j hj => ?_) (fun b => ?_) (fun x => ?_) (hG.drawn _) hle hE hd)
  · unfold Done at hj
    rw [Array.getD_eq_getD_getElem?, Array.getElem?_replicate] at hj
    split at hj <;> simp at hj
  · have hn : ∀ j, ¬ Done (Array.replicate ops.size false) j := fun j hj => by
      unfold Done at hj
      rw [Array.getD_eq_getD_getElem?, Array.getElem?_replicate] at hj
      split at hj <;> simp at hj
    rw [cur_none (a := 0) ops.size (Nat.zero_le _) fun j _ _ hj => absurd hj (hn j)]
    show h0.get b = (c.H 0).get b
    rw [e2]
  · have hn : ∀ j, ¬ Done (Array.replicate ops.size false) j := fun j hj => by
      unfold Done at hj
      rw [Array.getD_eq_getD_getElem?, Array.getElem?_replicate] at hj
      split at hj <;> simp at hj
    rw [cur_none (a := 0) ops.size (Nat.zero_le _) fun j _ _ hj => absurd hj (hn j)]
    show env.get x = (c.E 0).get x
    rw [e1]
end
end Go.Sim
