/- SYM, part X: a region that draws its order: whichever order the tape says comes to what the text's order comes to; SYM, part U: calls; a function's text; the whole; SYM, part V: the whole: a call that the interpreter runs to 'true'; calls told ahead, each run by itself; SYM, part W: what a run evaluates to. -/
import Derived.Test.YtldnnonkobikdaaGreatDoorSymR5
import Derived.OrdersIn
namespace Go.Sym
open Go.RowKit (Below)
set_option linter.unusedVariables false
section
variable {env env' : T AV}
theorem evK_congr {x : Operand} {k k' : AV → Tr} (h : ∀ t, x = .tmp t → env.get t = env'.get t) (hk : ∀ a, k a = k' a) : evK env x k = evK env' x k' := by
  have e : k = k' := funext hk
  subst e
  cases x with
  | tmp t =>
    show T.getK env t .fail k = T.getK env' t .fail k
    rw [T.getK_eq, T.getK_eq, h t rfl]
  | _ => rfl
theorem evsK_congr : ∀ {l : List Operand} {k k' : List AV → Tr}, (∀ x ∈ l, ∀ t, x = .tmp t → env.get t = env'.get t) → (∀ a, k a = k' a) → evsK env l k = evsK env' l k' := by
  intro l
  induction l with
  | nil => intro k k' _ hk; exact hk []
  | cons x l ih =>
    intro k k' h hk
    exact evK_congr (h x (by simp)) fun a => ih (fun y hy => h y (by simp [hy])) fun l => hk (a :: l)
theorem evoK_congr {o : Option Operand} {k k' : Option AV → Tr} (h : ∀ x, o = some x → ∀ t, x = .tmp t → env.get t = env'.get t) (hk : ∀ a, k a = k' a) : evoK env o k = evoK env' o k' := by
  cases o with
  | none => exact hk none
  | some x => exact evK_congr (h x rfl) fun a => hk (some a)
theorem evPartsK_congr : ∀ {l : List (Nat × Operand)} {k k' : List (Nat × AV) → Tr}, (∀ x ∈ l, ∀ t, x.2 = .tmp t → env.get t = env'.get t) → (∀ a, k a = k' a) → evPartsK env l k = evPartsK env' l k' := by
  intro l
  induction l with
  | nil => intro k k' _ hk; exact hk []
  | cons x l ih =>
    intro k k' h hk
    exact evK_congr (h x (by simp)) fun a => ih (fun y hy => h y (by simp [hy])) fun l => hk ((x.1, a) :: l)
theorem undK_congr {P : Program} {t : TypeId} {k k' : TypeDesc → Tr} (hk : ∀ a, k a = k' a) : undK P t k = undK P t k' := by rw [show k = k' from funext hk]
theorem bif_congr {b : Bool} {x x' y y' : Tr} (h : x = x') (h' : y = y') : bif' b x y = bif' b x' y' := by rw [h, h']
theorem opA_congr {P : Program} {en rn : Enter} {op : Op} {k : AV → Tr} (h : ∀ t, Operand.tmp t ∈ op.operands → env.get t = env'.get t) : opA P en rn env op k = opA P en rn env' op k := by
  have one : ∀ x, x ∈ op.operands → ∀ t, x = .tmp t → env.get t = env'.get t := fun x hx t e => h t (by subst e; exact hx)
  cases op with
  | move x => exact evK_congr (one x (by simp [Op.operands])) fun _ => rfl
  | assign x => exact evK_congr (one x (by simp [Op.operands])) fun _ => rfl
  | pick c a b =>
    exact evK_congr (one c (by simp [Op.operands])) fun v => by
      cases v with
      | bool v => exact bif_congr (evK_congr (one a (by simp [Op.operands])) fun _ => rfl) (evK_congr (one b (by simp [Op.operands])) fun _ => rfl)
      | sB p =>
        show Tr.ask p (bif' true (evK env a k) (evK env b k)) (bif' false (evK env a k) (evK env b k)) = Tr.ask p (bif' true (evK env' a k) (evK env' b k)) (bif' false (evK env' a k) (evK env' b k))
        rw [evK_congr (one a (by simp [Op.operands])) (fun _ => rfl : ∀ x, k x = k x), evK_congr (one b (by simp [Op.operands])) (fun _ => rfl : ∀ x, k x = k x)]
      | _ => rfl
  | box t x => exact evK_congr (one x (by simp [Op.operands])) fun _ => rfl
  | build t ps => exact evPartsK_congr (fun x hx => one x.2 (by simp only [Op.operands, List.mem_toArray]; exact List.mem_map.2 ⟨x, hx, rfl⟩)) fun _ => rfl
  | buildSlice t n ps => exact evPartsK_congr (fun x hx => one x.2 (by simp only [Op.operands, List.mem_toArray]; exact List.mem_map.2 ⟨x, hx, rfl⟩)) fun _ => rfl
  | load t x => exact evK_congr (one x (by simp [Op.operands])) fun _ => rfl
  | store t x y => exact evK_congr (one x (by simp [Op.operands])) fun _ => evK_congr (one y (by simp [Op.operands])) fun _ => rfl
  | nilCheck x => exact evK_congr (one x (by simp [Op.operands])) fun _ => rfl
  | binOp op t x y z => exact evK_congr (one x (by simp [Op.operands])) fun _ => evK_congr (one y (by simp [Op.operands])) fun _ => rfl
  | unOp op t x => exact evK_congr (one x (by simp [Op.operands])) fun _ => rfl
  | convert s d x => exact evK_congr (one x (by simp [Op.operands])) fun _ => rfl
  | makeInterface t x => exact evK_congr (one x (by simp [Op.operands])) fun _ => rfl
  | makeFunc fn first cap =>
    exact bif_congr (evsK_congr (fun x hx => one x (by simp only [Op.operands, Array.mem_append]; exact .inl (by simpa using hx))) fun _ =>
      evsK_congr (fun x hx => one x (by simp only [Op.operands, Array.mem_append]; exact .inr (by simpa using hx))) fun _ => rfl) rfl
  | makeMap t r =>
    cases r with
    | none => rfl
    | some x =>
      exact undK_congr fun d => by
        cases d with
        | map _ _ => exact evK_congr (one x (by simp [Op.operands])) fun _ => rfl
        | _ => rfl
  | slice t x lo hi mx =>
    exact evK_congr (one x (by simp [Op.operands])) fun _ => evoK_congr (fun y hy => one y (by subst hy; simp [Op.operands])) fun _ =>
      evoK_congr (fun y hy => one y (by subst hy; simp [Op.operands])) fun _ => evoK_congr (fun y hy => one y (by subst hy; simp [Op.operands])) fun _ => rfl
  | fieldAddr t x f => exact evK_congr (one x (by simp [Op.operands])) fun _ => rfl
  | field t x f => exact evK_congr (one x (by simp [Op.operands])) fun _ => rfl
  | indexAddr t x i => exact evK_congr (one x (by simp [Op.operands])) fun _ => evK_congr (one i (by simp [Op.operands])) fun _ => rfl
  | index t x i => exact evK_congr (one x (by simp [Op.operands])) fun _ => evK_congr (one i (by simp [Op.operands])) fun _ => rfl
  | lookup t x i ok => exact evK_congr (one x (by simp [Op.operands])) fun _ => evK_congr (one i (by simp [Op.operands])) fun _ => rfl
  | mapUpdate t x y z => exact evK_congr (one x (by simp [Op.operands])) fun _ => evK_congr (one y (by simp [Op.operands])) fun _ => evK_congr (one z (by simp [Op.operands])) fun _ => rfl
  | insert t x y z => exact evK_congr (one x (by simp [Op.operands])) fun _ => evK_congr (one y (by simp [Op.operands])) fun _ => evK_congr (one z (by simp [Op.operands])) fun _ => rfl
  | mapEntry t x i => exact evK_congr (one x (by simp [Op.operands])) fun _ => evK_congr (one i (by simp [Op.operands])) fun _ => rfl
  | entryStore t x y z => exact evK_congr (one x (by simp [Op.operands])) fun _ => evK_congr (one y (by simp [Op.operands])) fun _ => evK_congr (one z (by simp [Op.operands])) fun _ => rfl
  | makeSlice t x y => exact evK_congr (one x (by simp [Op.operands])) fun _ => evK_congr (one y (by simp [Op.operands])) fun _ => rfl
  | typeAssert x u t ok => exact evK_congr (one x (by simp [Op.operands])) fun _ => rfl
  | entry x => exact evK_congr (one x (by simp [Op.operands])) fun _ => rfl
  | range t x => exact evK_congr (one x (by simp [Op.operands])) fun _ => rfl
  | next x s => exact evK_congr (one x (by simp [Op.operands])) fun _ => rfl
  | extract x i => exact evK_congr (one x (by simp [Op.operands])) fun _ => rfl
  | call c =>
    have hargs : ∀ x ∈ c.args.toList, x ∈ (Op.call c).operands := fun x hx => by simp only [Op.operands, Call.operands, Array.mem_append]; exact .inr (by simpa using hx)
    show (match c.callee with
      | .builtin b => evsK env c.args.toList fun l => builtinA P b c.argTypes l k
      | .value f => evK env f fun f => evsK env c.args.toList fun l => callA P en rn f l k
      | .invoke _ _ => Tr.fail) = (match c.callee with
      | .builtin b => evsK env' c.args.toList fun l => builtinA P b c.argTypes l k
      | .value f => evK env' f fun f => evsK env' c.args.toList fun l => callA P en rn f l k
      | .invoke _ _ => Tr.fail)
    cases hc : c.callee with
    | builtin b => exact evsK_congr (fun x hx => one x (hargs x hx)) fun _ => rfl
    | value f => exact evK_congr (one f (by simp [Op.operands, Call.operands, hc])) fun _ => evsK_congr (fun x hx => one x (hargs x hx)) fun _ => rfl
    | invoke _ _ => rfl
  | _ => rfl
noncomputable def tk (P : Program) (en rn : Enter) (ops : Array Oper) (env : T AV) (o : Oper) : Tr := wanted0K ops env o (opA P en rn env o.op .ret) (.ret (.tup []))
theorem tk_congr {P : Program} {en rn : Enter} {ops : Array Oper} {o : Oper} (h : ∀ t ∈ looks ops o, env.get t = env'.get t) : tk P en rn ops env o = tk P en rn ops env' o := by
  have h1 : opA P en rn env o.op .ret = opA P en rn env' o.op .ret := opA_congr fun t ht => h t (by
    unfold looks
    refine List.mem_append_left _ (List.mem_filterMap.2 ⟨.tmp t, by simpa using ht, rfl⟩))
  unfold tk wanted0K
  rw [h1]
  split
  · rfl
  · rename_i j want hg
    split
    · rename_i oj hj
      split
      · rename_i d hd
        rw [T.getK_eq, T.getK_eq, h d]
        unfold looks
        refine List.mem_append_right _ ?_
        rw [hg]
        simp [hj, hd]
      · rfl
    · rfl
end
section
variable {X A : Type}
open Classical in
noncomputable def cur (H : Nat → X → A) (W : Nat → X → Prop) (S : Nat → Prop) (x : X) : Nat → A
  | 0 => H 0 x
  | m + 1 => if S m ∧ W m x then H (m + 1) x else cur H W S x m
variable {H : Nat → X → A} {W : Nat → X → Prop} {S S' : Nat → Prop} {x : X} {n : Nat}
theorem cur_all (same : ∀ m, m < n → ¬ W m x → H (m + 1) x = H m x) : ∀ m, m ≤ n → (∀ j, j < m → S j) → cur H W S x m = H m x := by
  intro m
  induction m with
  | zero => intro _ _; rfl
  | succ m ih =>
    intro hm hS
    unfold cur
    split
    · rfl
    · rename_i h
      rw [ih (by omega) (fun j hj => hS j (by omega)), same m (by omega) (fun hw => h ⟨hS m (by omega), hw⟩)]
theorem cur_congr : ∀ m, (∀ j, j < m → W j x → (S j ↔ S' j)) → cur H W S x m = cur H W S' x m := by
  intro m
  induction m with
  | zero => intro _; rfl
  | succ m ih =>
    intro h
    unfold cur
    rw [ih fun j hj => h j (by omega)]
    by_cases hw : W m x
    · by_cases hs : S m
      · rw [if_pos ⟨hs, hw⟩, if_pos ⟨(h m (by omega) hw).1 hs, hw⟩]
      · rw [if_neg (fun c => hs c.1), if_neg (fun c => hs ((h m (by omega) hw).2 c.1))]
    · rw [if_neg (fun c => hw c.2), if_neg (fun c => hw c.2)]
theorem cur_none {a : Nat} : ∀ m, a ≤ m → (∀ j, a ≤ j → j < m → S j → ¬ W j x) → cur H W S x m = cur H W S x a := by
  intro m
  induction m with
  | zero => intro ha _; have : a = 0 := by omega
            subst this; rfl
  | succ m ih =>
    intro ha h
    by_cases e : a = m + 1
    · subst e; rfl
    · conv => lhs; unfold cur
      rw [if_neg (fun c => h m (by omega) (by omega) c.1 c.2)]
      exact ih (by omega) fun j h1 h2 => h j h1 (by omega)
variable {i : Nat}
theorem cur_here (same : ∀ m, m < n → ¬ W m x → H (m + 1) x = H m x) (hi : i < n) (hS : ¬ S i) (h1 : ∀ j, j < i → ¬ S j → ¬ W j x) (h2 : ∀ j, i < j → j < n → S j → ¬ W j x) : cur H W S x n = H i x := by
  rw [cur_none (a := i) n (by omega) fun j a b c => by
    by_cases e : j = i
    · subst e; exact absurd c hS
    · exact h2 j (by omega) b c]
  rw [cur_congr (S' := fun _ => True) i fun j hj hw => ⟨fun _ => trivial, fun _ => Classical.byContradiction fun hn => h1 j hj hn hw⟩]
  exact cur_all same i (by omega) fun _ _ => trivial
theorem cur_turned (hi : i < n) (hS' : ∀ j, S' j ↔ S j ∨ j = i) (hw : W i x) (h2 : ∀ j, i < j → j < n → S j → ¬ W j x) : cur H W S' x n = H (i + 1) x := by
  rw [cur_none (a := i + 1) n (by omega) fun j a b c => by
    rcases (hS' j).1 c with c | c
    · exact h2 j (by omega) b c
    · omega]
  unfold cur
  rw [if_pos ⟨(hS' i).2 (.inr rfl), hw⟩]
theorem cur_left (hS' : ∀ j, S' j ↔ S j ∨ j = i) (hw : ¬ W i x) : cur H W S' x n = cur H W S x n :=
  cur_congr n fun j hj hwj => by
    rw [hS' j]
    exact ⟨fun c => c.elim id fun e => by subst e; exact absurd hwj hw, .inl⟩
end
structure Tape' where
  E : Nat → T AV
  H : Nat → T ABlk
  N : Nat → Nat
  V : Nat → AV
  TT : Nat → T Unit
  WW : Nat → List Nat
def Tape'.note (c : Tape') (j : Nat) : Note := .mk (c.N j) (c.N (j + 1)) (c.TT j) (c.WW j)
def Tape'.notes (c : Tape') (i : Nat) : Nat → List (Nat × Note)
  | 0 => []
  | m + 1 => (i + m, c.note (i + m)) :: c.notes i m
theorem Tape'.notes_first (c : Tape') (i : Nat) (ns : List (Nat × Note)) : ∀ m, c.notes i (m + 1) ++ ns = c.notes (i + 1) m ++ (i, c.note i) :: ns := by
  intro m
  induction m with
  | zero => rfl
  | succ m ih =>
    rw [Tape'.notes, List.cons_append, ih, show i + (m + 1) = i + 1 + m by omega]
    rfl
theorem Tape'.mem_notes (c : Tape') (i : Nat) : ∀ m p, p < m → (i + p, c.note (i + p)) ∈ c.notes i m := by
  intro m
  induction m with
  | zero => intro p hp; omega
  | succ m ih =>
    intro p hp
    by_cases e : p = m
    · subst e; exact List.mem_cons_self
    · exact List.mem_cons_of_mem _ (ih p (by omega))
theorem Tape'.notes_congr (c d : Tape') (i : Nat) : ∀ m, (∀ j, i ≤ j → j < i + m → c.note j = d.note j) → c.notes i m = d.notes i m := by
  intro m
  induction m with
  | zero => intro _; rfl
  | succ m ih =>
    intro h
    rw [Tape'.notes, Tape'.notes, ih (fun j a b => h j a (by omega)), h (i + m) (by omega) (by omega)]
def putE (dst : Option Nat) (v : AV) (env : T AV) : T AV := match dst with | none => env | some d => env.set d v
structure StepOk (P : Program) (en rn : Enter) (nt : Nat) (ops : Array Oper) (c : Tape') (j : Nat) (o : Oper) : Prop where
  loc : LocAt (tk P en rn ops (c.E j) o) (c.H j) (c.N j) (c.N j) .leaf [] (c.V j) (c.H (j + 1)) (c.N (j + 1)) (c.TT j) (c.WW j)
  env : c.E (j + 1) = putE o.dst (c.V j) (c.E j)
  dst : ∀ d, o.dst = some d → d < nt
  lo : 1 ≤ c.N j
  hi : c.N j ≤ 1000000001
def Tape'.before (c : Tape') (i : Nat) (env : T AV) (h : T ABlk) (n : Nat) (v : AV) (t : T Unit) (w : List Nat) : Tape' where
  E j := if j ≤ i then env else c.E j
  H j := if j ≤ i then h else c.H j
  N j := if j ≤ i then n else c.N j
  V j := if j ≤ i then v else c.V j
  TT j := if j ≤ i then t else c.TT j
  WW j := if j ≤ i then w else c.WW j
theorem StepOk.later {P : Program} {en rn : Enter} {nt : Nat} {ops : Array Oper} {c : Tape'} {j : Nat} {o : Oper} (h : StepOk P en rn nt ops c j o) {i : Nat} (hi : i < j) (env : T AV) (hh : T ABlk) (n : Nat) (v : AV) (t : T Unit) (w : List Nat) :
    StepOk P en rn nt ops (c.before i env hh n v t w) j o := by
  obtain ⟨h1, h2, h3, h4, h5⟩ := h
  have e1 : ¬ j ≤ i := by omega
  have e2 : ¬ j + 1 ≤ i := by omega
  refine ⟨?_, ?_, h3, ?_, ?_⟩ <;> simp only [Tape'.before, if_neg e1, if_neg e2] <;> assumption
section
variable {P : Program} {w0 : World} {ρ : Rho} {w : World} {σ : St} {K : Fin} {nt : Nat} {env : T AV} {a : Act}
theorem putE_run {dst : Option Nat} {v : AV} {k : T AV → Tr} (h : run (putK nt dst v env k) σ K = true) : run (k (putE dst v env)) σ K = true ∧ ∀ d, dst = some d → d < nt := by
  cases dst with
  | none => exact ⟨h, fun d hd => by cases hd⟩
  | some d =>
    obtain ⟨hd, h⟩ := bifT h
    rw [T.setK_eq] at h
    exact ⟨h, fun d' hd' => by injection hd' with hd'; subst hd'; exact bleT hd⟩
theorem sub_run {t : Tr} {k : AV → Nat → Nat → T Unit → List Nat → Tr} {h : T ABlk} {n fs : Nat} {tc : T Unit} {w : List Nat} (hS : SI (.mk h n fs tc w)) (hr : run (.sub t k) (.mk h n fs tc w) K = true) :
    ∃ a h' n' t' w', LocAt t h n n .leaf [] a h' n' t' w' ∧ ∃ tc2 w2, run (k a n n' t' w') (.mk h' n' fs tc2 w2) K = true ∧ SI (.mk h' n' fs tc2 w2) := by
  obtain ⟨h1, h2, h3, h4, h5⟩ := hS
  rw [run_sub] at hr
  rcases loc t h n n .leaf [] (by omega) (Nat.le_refl _) h2 (by simp) (fun b hb => by simp [T.get] at hb) with hf | ⟨a, h', n', t', w', L⟩
  · rw [hf] at hr; cases hr
  · rw [L.run] at hr
    have hle := L.le
    have hlid := L.lid
    refine ⟨a, h', n', t', w', L, ?_⟩
    simp only at hr
    split at hr
    · exact ⟨tc, w, hr, by omega, hlid, by omega, h4, h5⟩
    · refine ⟨_, _, hr, by omega, hlid, by omega, fun b hb => ?_, fun b hb => ?_⟩
      · have hk64 : ∀ b ∈ T.keys t' id [], b + 1 < 2 ^ 64 := fun b hb => by
          rcases small_all t' id [] b hb with hb | ⟨x, u, e, hx⟩
          · cases hb
          · have := L.low x hx
            have e' : b = x := e
            subst e'
            omega
        rcases mem_noteWAll _ _ _ hb with hb | ⟨hb, hlt⟩
        · exact noteAll_keeps _ _ _ hk64 (h4 b hb)
        · exact noteAll_has _ _ _ hk64 (by have := T.mem_keys t' id [] b () (L.sub b hb); simpa using this) hlt
      · have key : ∀ (l : List Nat) (t : T Unit), (∀ b, t.get b = some () → b < fs) → ∀ b, (noteAll fs l t).get b = some () → b < fs := by
          intro l
          induction l with
          | nil => intro t ht b hb; exact ht b hb
          | cons x l ih =>
            intro t ht b hb
            refine ih _ (fun y hy => ?_) b hb
            by_cases e : fs ≤ x
            · rw [Sym.note, if_pos e] at hy; exact ht y hy
            · by_cases ey : y = x
              · omega
              · rw [Sym.note, if_neg e, T.get_set_ne _ ey] at hy; exact ht y hy
        exact key _ _ h5 b hb
theorem drawT {ops : Array Oper} {en rn : Enter} {k : T AV → Tr} : ∀ (l : List Oper) (i : Nat) (env : T AV) (ns : List (Nat × Note)) (h : T ABlk) (n fs : Nat) (tc : T Unit) (w : List Nat), SI (.mk h n fs tc w) →
    run (drawK P en rn nt ops l i env ns k) (.mk h n fs tc w) K = true →
    ∃ c : Tape', c.E i = env ∧ c.H i = h ∧ c.N i = n ∧ (∀ j o, l[j]? = some o → StepOk P en rn nt ops c (i + j) o) ∧
      (∃ tc' w', run (k (c.E (i + l.length))) (.mk (c.H (i + l.length)) (c.N (i + l.length)) fs tc' w') K = true ∧ SI (.mk (c.H (i + l.length)) (c.N (i + l.length)) fs tc' w')) ∧
      confOk (befL ops.toList []) (c.notes i l.length ++ ns) = true := by
  intro l
  induction l with
  | nil =>
    intro i env ns h n fs tc w hS hr
    have hr : run (bif' (confOk (befL ops.toList []) ns) (k env) .fail) (.mk h n fs tc w) K = true := hr
    obtain ⟨hc, hr⟩ := bifT hr
    exact ⟨⟨fun _ => env, fun _ => h, fun _ => n, fun _ => .nilp, fun _ => .leaf, fun _ => []⟩, rfl, rfl, rfl, fun j o ho => by simp at ho, ⟨tc, w, hr, hS⟩, hc⟩
  | cons o l ih =>
    intro i env ns h n fs tc w hS hr
    have hr : run (.sub (tk P en rn ops env o) fun v c c' t w => putK nt o.dst v env fun env => fN (Nat.succ i) fun i' => drawK P en rn nt ops l i' env ((i, .mk c c' t w) :: ns) k) (.mk h n fs tc w) K = true := hr
    obtain ⟨v, h', n', t', w', L, tc2, w2, hr, hS2⟩ := sub_run hS hr
    obtain ⟨hr, hd⟩ := putE_run hr
    have hr := fNT hr
    obtain ⟨c, e1, e2, e3, hst, hend, hconf⟩ := ih _ _ _ _ _ _ _ _ hS2 hr
    have g1 : ∀ m, i + 1 + m = i + (m + 1) := fun m => by omega
    have g2 : ∀ m, ¬ i + (m + 1) ≤ i := fun m => by omega
    have g3 : ¬ i + 1 ≤ i := by omega
    refine ⟨c.before i env h n v t' w', by simp [Tape'.before], by simp [Tape'.before], by simp [Tape'.before], fun j o' ho => ?_, ?_, ?_⟩
    · cases j with
      | zero =>
        simp at ho; subst ho
        refine ⟨?_, ?_, hd, ?_, ?_⟩
        · simp only [Tape'.before, Nat.add_zero, Nat.le_refl, if_true, if_neg g3]
          have e2 : c.H (i + 1) = h' := e2
          have e3 : c.N (i + 1) = n' := e3
          rw [e2, e3]; exact L
        · simp only [Tape'.before, Nat.add_zero, Nat.le_refl, if_true, if_neg g3]
          exact e1
        · simp only [Tape'.before, Nat.add_zero, Nat.le_refl, if_true]; exact hS.1
        · simp only [Tape'.before, Nat.add_zero, Nat.le_refl, if_true]; exact hS.2.1
      | succ j =>
        simp at ho
        have := (hst j o' ho).later (i := i) (by omega) env h n v t' w'
        rw [g1] at this; exact this
    · obtain ⟨tc', w'', q1, q2⟩ := hend
      refine ⟨tc', w'', ?_⟩
      simp only [List.length_cons, Tape'.before, if_neg (g2 _)]
      have g1' : Nat.succ i + l.length = i + (l.length + 1) := by omega
      rw [g1'] at q1 q2
      exact ⟨q1, q2⟩
    · rw [List.length_cons, Tape'.notes_first]
      have e0 : (c.before i env h n v t' w').note i = .mk n n' t' w' := by
        have e3 : c.N (i + 1) = n' := e3
        simp only [Tape'.note, Tape'.before, Nat.le_refl, if_true, if_neg g3, e3]
      rw [e0, Tape'.notes_congr _ c (i + 1) l.length fun j a b => by
        have e4 : ¬ j ≤ i := by omega
        have e5 : ¬ j + 1 ≤ i := by omega
        simp only [Tape'.note, Tape'.before, if_neg e4, if_neg e5]]
      exact hconf
end
theorem noneIn_mem {t : T Unit} : ∀ {l : List Nat}, noneIn t l = true → ∀ b ∈ l, t.get b = none := by
  intro l
  induction l with
  | nil => intro _ b hb; cases hb
  | cons x l ih =>
    intro h b hb
    have h : T.getK t x (noneIn t l) (fun _ => false) = true := h
    rw [T.getK_eq] at h
    split at h
    · rename_i hx
      rcases List.mem_cons.mp hb with e | hb
      · subst e; exact hx
      · exact ih h b hb
    · cases h
theorem noneBetween_mem {c c' : Nat} : ∀ {l : List Nat}, noneBetween c c' l = true → ∀ b ∈ l, ¬ (c ≤ b ∧ b < c') := by
  intro l
  induction l with
  | nil => intro _ b hb; cases hb
  | cons x l ih =>
    intro h b hb hc
    have h : bif' (Nat.ble c x) (bif' (Nat.ble (Nat.succ x) c') false (noneBetween c c' l)) (noneBetween c c' l) = true := h
    rcases List.mem_cons.mp hb with e | hb
    · subst e
      rw [show Nat.ble c b = true from Nat.ble_eq.mpr hc.1, show Nat.ble (Nat.succ b) c' = true from Nat.ble_eq.mpr hc.2] at h
      cases h
    · refine ih ?_ b hb hc
      cases h1 : Nat.ble c x with
      | false => rw [h1] at h; exact h
      | true =>
        rw [h1] at h
        cases h2 : Nat.ble (Nat.succ x) c' with
        | false => rw [h2] at h; exact h
        | true => rw [h2] at h; cases h
theorem confOk_pair {bs : List Nat} {c : Tape'} : ∀ {m : Nat} {ns : List (Nat × Note)}, confOk bs (c.notes 0 m ++ ns) = true → ∀ p q, p < q → q < m → (bs.getD q 0).testBit p = true ∨ noConf (c.note p) (c.note q) = true := by
  intro m
  induction m with
  | zero => intro ns _ p q _ h; omega
  | succ m ih =>
    intro ns h p q hp hq
    have h : bif' ((c.notes 0 m ++ ns).all fun x => bif' ((bs.getD (0 + m) 0).testBit x.1) true (noConf x.2 (c.note (0 + m)))) (confOk bs (c.notes 0 m ++ ns)) false = true := h
    obtain ⟨h1, h2⟩ := bif'_true h
    by_cases e : q = m
    · subst e
      have hm := c.mem_notes 0 q p hp
      have := List.all_eq_true.mp h1 _ (List.mem_append_left _ hm)
      simp only [Nat.zero_add] at this
      rw [bif'_eq] at this
      split at this
      · rename_i hb; exact .inl hb
      · exact .inr this
    · exact ih h2 p q hp (by omega)
theorem befL_keeps : ∀ (l : List Oper) (acc : List Nat) (i : Nat), i < acc.length → (befL l acc).getD i 0 = acc.getD i 0 := by
  intro l
  induction l with
  | nil => intro acc i _; rfl
  | cons o l ih =>
    intro acc i hi
    rw [befL, ih _ _ (by simp; omega)]
    simp [List.getD_eq_getElem?_getD, List.getElem?_append_left hi]
def preds (acc : List Nat) (o : Oper) : Nat := o.after.toList.foldl (fun s e => if Region.binds .any e then s ||| 2 ^ e.on ||| acc.getD e.on 0 else s) 0
theorem befL_at : ∀ (l : List Oper) (acc : List Nat) (k : Nat) (o : Oper), l[k]? = some o → ∃ acc', acc'.length = acc.length + k ∧ (∀ i, i < acc'.length → (befL l acc).getD i 0 = acc'.getD i 0) ∧ (befL l acc).getD (acc.length + k) 0 = preds acc' o := by
  intro l
  induction l with
  | nil => intro acc k o h; simp at h
  | cons o l ih =>
    intro acc k o' h
    cases k with
    | zero =>
      simp at h; subst h
      refine ⟨acc, rfl, fun i hi => befL_keeps _ _ _ hi, ?_⟩
      rw [befL, befL_keeps _ _ _ (by simp)]
      simp [List.getD_eq_getElem?_getD, preds]
    | succ k =>
      simp at h
      obtain ⟨acc', h1, h2, h3⟩ := ih (acc ++ [preds acc o]) k o' h
      simp only [List.length_append, List.length_singleton] at h1 h3
      refine ⟨acc', by omega, h2, ?_⟩
      rw [← h3, show acc.length + (k + 1) = acc.length + 1 + k by omega]
      rfl
theorem preds_bit {acc : List Nat} {o : Oper} {i : Nat} (h : (preds acc o).testBit i = true) : ∃ e ∈ o.after, Region.binds .any e = true ∧ (e.on = i ∨ (acc.getD e.on 0).testBit i = true) := by
  have key : ∀ (l : List Edge) (s : Nat), (l.foldl (fun s e => if Region.binds .any e then s ||| 2 ^ e.on ||| acc.getD e.on 0 else s) s).testBit i = true →
      s.testBit i = true ∨ ∃ e ∈ l, Region.binds .any e = true ∧ (e.on = i ∨ (acc.getD e.on 0).testBit i = true) := by
    intro l
    induction l with
    | nil => intro s h; exact .inl h
    | cons e l ih =>
      intro s h
      rw [List.foldl_cons] at h
      rcases ih _ h with h | ⟨e', he, h⟩
      · split at h
        · rename_i hb
          rw [Nat.testBit_or, Nat.testBit_or, Bool.or_eq_true, Bool.or_eq_true, Nat.testBit_two_pow] at h
          rcases h with (h | h) | h
          · exact .inl h
          · exact .inr ⟨e, by simp, hb, .inl (by simpa using h)⟩
          · exact .inr ⟨e, by simp, hb, .inr h⟩
        · exact .inl h
      · exact .inr ⟨e', by simp [he], h⟩
  rcases key _ _ h with h | ⟨e, he, h⟩
  · simp at h
  · exact ⟨e, by simpa using he, h⟩
theorem bef_bit {ops : Array Oper} {j i : Nat} {o : Oper} (ho : ops[j]? = some o) (h : ((befL ops.toList []).getD j 0).testBit i = true) :
    ∃ e ∈ o.after, Region.binds .any e = true ∧ (e.on = i ∨ ((befL ops.toList []).getD e.on 0).testBit i = true) := by
  obtain ⟨acc', h1, h2, h3⟩ := befL_at ops.toList [] j o (by simpa using ho)
  simp only [List.length_nil, Nat.zero_add] at h1 h3
  rw [h3] at h
  obtain ⟨e, he, hb, hc⟩ := preds_bit h
  refine ⟨e, he, hb, hc.imp id fun hc => ?_⟩
  rcases Nat.lt_or_ge e.on acc'.length with hl | hl
  · rw [h2 _ hl]; exact hc
  · rw [List.getD_eq_getElem?_getD, List.getElem?_eq_none hl] at hc; simp at hc
theorem tmpsOk_on {ops : Array Oper} (h : tmpsOk ops = true) {j : Nat} {o : Oper} (ho : ops[j]? = some o) : ∀ e ∈ o.after, Region.binds .any e = true → e.on < j := by
  intro e he hb
  unfold tmpsOk at h
  have hm : (o, j) ∈ ops.toList.zipIdx := by rw [List.mem_zipIdx_iff_getElem?]; simpa using ho
  have := List.all_eq_true.mp h _ hm
  simp only [Bool.and_eq_true] at this
  have := List.all_eq_true.mp this.1 e (by simpa using he)
  simpa [hb] using this
theorem tmpsOk_apart {ops : Array Oper} (h : tmpsOk ops = true) {i j : Nat} {p o : Oper} (hp : ops[i]? = some p) (ho : ops[j]? = some o) (hij : i < j) : ((befL ops.toList []).getD j 0).testBit i = true ∨ apartB ops p o = true := by
  unfold tmpsOk at h
  have hm : (o, j) ∈ ops.toList.zipIdx := by rw [List.mem_zipIdx_iff_getElem?]; simpa using ho
  have hm' : (p, i) ∈ ops.toList.zipIdx := by rw [List.mem_zipIdx_iff_getElem?]; simpa using hp
  have := List.all_eq_true.mp h _ hm
  simp only [Bool.and_eq_true] at this
  have := List.all_eq_true.mp this.2 _ hm'
  simp only [Bool.or_eq_true, Bool.not_eq_true', decide_eq_false_iff_not] at this
  rcases this with (c | c) | c
  · exact absurd hij c
  · exact .inl c
  · exact .inr c
theorem apartB_iff {ops : Array Oper} {a b : Oper} (h : apartB ops a b = true) : (∀ d, a.dst = some d → d ∉ looks ops b) ∧ (∀ d, b.dst = some d → d ∉ looks ops a) ∧ ∀ d, a.dst = some d → b.dst ≠ some d := by
  unfold apartB at h
  simp only [Bool.and_eq_true] at h
  obtain ⟨⟨h1, h2⟩, h3⟩ := h
  refine ⟨fun d hd => ?_, fun d hd => ?_, fun d hd he => ?_⟩
  · rw [hd] at h1; simpa using h1
  · rw [hd] at h2; simpa using h2
  · rw [hd, he] at h3; simp at h3
section
variable {P : Program} {w0 : World} {ρ : Rho} {w : World} {σ : St} {K : Fin} {nt : Nat} {env : T AV} {a : Act}
theorem Good.like {H H' : T ABlk} (hG : Good w0 ρ H w) (h : ∀ b, H'.get b = H.get b) : Good w0 ρ H' w :=
  ⟨hG.below, fun b x hx => hG.blk b x (by rw [← h]; exact hx), fun b g x hx => by rw [h]; exact hG.dom b g x hx, hG.inj, fun b g y x hy hx => hG.gens b g y x hy (by rw [← h]; exact hx), hG.frz, hG.frzB⟩
theorem ER.like {env' : T AV} {tmps : Array Value} (hE : ER ρ nt env tmps) (h : ∀ d, env'.get d = env.get d) : ER ρ nt env' tmps :=
  ⟨hE.size, fun t x hx => hE.val t x (by rw [← h]; exact hx)⟩
theorem putE_ER {dst : Option Nat} {av : AV} {v : Value} (hv : VR ρ av v) (hE : ER ρ nt env a.tmps) (hd : ∀ d, dst = some d → d < nt) : ER ρ nt (putE dst av env) (a.put dst v).tmps := by
  cases dst with
  | none => exact hE
  | some d =>
    have hd := hd d rfl
    refine ⟨?_, fun t b hb => ?_⟩
    · show (a.tmps.setIfInBounds d v).size = nt
      rw [Array.size_setIfInBounds]; exact hE.size
    · show ∃ u, (a.tmps.setIfInBounds d v)[t]? = some u ∧ VR ρ b u
      by_cases e : t = d
      · subst e
        have := T.get_set_some _ _ hb
        subst this
        refine ⟨v, ?_, hv⟩
        rw [Array.getElem?_setIfInBounds, if_pos rfl, if_pos (by rw [hE.size]; omega)]
      · have hb : (env.set d av).get t = some b := hb
        rw [T.get_set_ne _ e] at hb
        obtain ⟨u, hu, hr⟩ := hE.val t b hb
        exact ⟨u, by rw [Array.getElem?_setIfInBounds, if_neg (fun e' => e e'.symm)]; exact hu, hr⟩
theorem putE_same {dst : Option Nat} {v : AV} {x : Nat} (h : dst ≠ some x) : (putE dst v env).get x = env.get x := by
  cases dst with
  | none => rfl
  | some d => exact T.get_set_ne _ (fun e => h (by rw [e])) _
theorem putE_at {dst : Option Nat} {v : AV} {x : Nat} (h : dst = some x) (hx : x + 1 < 2 ^ 64) : (putE dst v env).get x = some v := by
  subst h; exact T.get_set_same _ _ _ hx
def Done (listed : Array Bool) (j : Nat) : Prop := listed.getD j false = true
theorem done_set {listed : Array Bool} {i : Nat} (hi : i < listed.size) (j : Nat) : Done (listed.setIfInBounds i true) j ↔ Done listed j ∨ j = i := by
  unfold Done
  rw [Array.getD_eq_getD_getElem?, Array.getElem?_setIfInBounds, Array.getD_eq_getD_getElem?]
  by_cases e : i = j
  · subst e; simp [hi]
  · have e' : ¬ j = i := fun h => e h.symm
    rw [if_neg e, or_iff_left e']
theorem done_not {listed : Array Bool} {j : Nat} (h : listed.getD j true = false) : ¬ Done listed j ∧ j < listed.size := by
  rw [Array.getD_eq_getD_getElem?] at h
  cases hj : listed[j]? with
  | none => rw [hj] at h; cases h
  | some b =>
    rw [hj] at h
    refine ⟨fun c => ?_, (Array.getElem?_eq_some_iff.1 hj).1⟩
    unfold Done at c
    rw [Array.getD_eq_getD_getElem?, hj] at c
    have h : b = false := h
    have c : b = true := c
    rw [h] at c; cases c
def TchE (ops : Array Oper) (o : Oper) (x : Nat) : Prop := x ∈ looks ops o ∨ o.dst = some x
def WrE (ops : Array Oper) (j : Nat) (x : Nat) : Prop := ∃ o, ops[j]? = some o ∧ o.dst = some x
def WrH (c : Tape') (j : Nat) (b : Nat) : Prop := Wrt (c.N j) (c.N (j + 1)) (c.WW j) b
def TcH (c : Tape') (j : Nat) (b : Nat) : Prop := Tch (c.N j) (c.N (j + 1)) (c.TT j) b
open Classical in
theorem draw_ok {rd : Option Nat} {ops : Array Oper} {en rn : Enter} (hen : EnOk P w0 en) (hrn : RnOk P w0 rn) (hnt : nt ≤ 1000000000) (hm : P.follows .mixedOrders = true) {k : T AV → Tr} {Q : Exit → Act → World → Prop} (ρ0 : Rho) (ds : List Deferred)
    (hk : ∀ env' σ' ρ' a' w', run (k env') σ' K = true → SI σ' → Good w0 ρ' σ'.h w' → ρ0.le ρ' → ER ρ' nt env' a'.tmps → a'.defers = ds → Q .normal a' w')
    (htm : tmpsOk ops = true) (h : run (drawK P en rn nt ops ops.toList 0 env [] k) σ K = true) (hS : SI σ) (hG : Good w0 ρ σ.h w) (hle : ρ0.le ρ) (hE : ER ρ nt env a.tmps) (hd : a.defers = ds) (id : Nat) :
    (Code.region id ops true).wpIn (fR rd) 0 P Q a w := by
  cases σ with
  | mk h0 n0 fs tc ww =>
  obtain ⟨c, e1, e2, e3, hst, ⟨tc', w', hend, hSend⟩, hconf⟩ := drawT _ _ _ _ _ _ _ _ _ hS h
  rw [Array.length_toList, Nat.zero_add] at hend hSend
  rw [Array.length_toList] at hconf
  have hst : ∀ j o, ops[j]? = some o → StepOk P en rn nt ops c j o := fun j o ho => by
    have := hst j o (by simpa using ho)
    rwa [Nat.zero_add] at this
  have hlt : ∀ {j o}, ops[j]? = some o → j < ops.size := fun h => (Array.getElem?_eq_some_iff.1 h).1
  have hop : ∀ {j}, j < ops.size → ∃ o, ops[j]? = some o := fun h => ⟨_, Array.getElem?_eq_getElem h⟩
  have hN1 : ∀ j, j < ops.size → c.N j ≤ c.N (j + 1) := fun j hj => by
    obtain ⟨o, ho⟩ := hop hj
    exact (hst j o ho).loc.le
  have hN : ∀ i j, i ≤ j → j ≤ ops.size → c.N i ≤ c.N j := fun i j => by
    induction j with
    | zero => intro h1 _; rw [show i = 0 by omega]; exact Nat.le_refl _
    | succ j ih =>
      intro h1 h2
      by_cases e : i = j + 1
      · subst e; exact Nat.le_refl _
      · exact Nat.le_trans (ih (by omega) (by omega)) (hN1 j (by omega))
  have sameH : ∀ b m, m < ops.size → ¬ WrH c m b → (c.H (m + 1)).get b = (c.H m).get b := fun b m hm hw => by
    obtain ⟨o, ho⟩ := hop hm
    exact (hst m o ho).loc.same b hw
  have sameE : ∀ x m, m < ops.size → ¬ WrE ops m x → (c.E (m + 1)).get x = (c.E m).get x := fun x m hm hw => by
    obtain ⟨o, ho⟩ := hop hm
    rw [(hst m o ho).env]
    exact putE_same fun e => hw ⟨o, ho, e⟩
  have hsub : ∀ j b, j < ops.size → WrH c j b → TcH c j b := fun j b hj hw => by
    obtain ⟨o, ho⟩ := hop hj
    rcases hw with hw | hw
    · exact .inl ((hst j o ho).loc.sub b hw)
    · exact .inr hw
  have apH : ∀ i j b, i < j → j < ops.size → ¬ ((befL ops.toList []).getD j 0).testBit i = true → (¬ (TcH c i b ∧ WrH c j b)) ∧ ¬ (WrH c i b ∧ TcH c j b) := fun i j b hij hj hnb => by
    obtain ⟨p, hp⟩ := hop (show i < ops.size by omega)
    obtain ⟨o, ho⟩ := hop hj
    have hno := (confOk_pair hconf i j hij hj).resolve_left hnb
    have hno : bif' (noneIn (c.TT j) (c.WW i)) (bif' (noneIn (c.TT i) (c.WW j)) (bif' (noneBetween (c.N i) (c.N (i + 1)) (T.keys (c.TT j) _root_.id [])) (bif' (noneBetween (c.N i) (c.N (i + 1)) (c.WW j)) true false) false) false) false = true := hno
    obtain ⟨h1, hno⟩ := bif'_true hno
    obtain ⟨h2, hno⟩ := bif'_true hno
    obtain ⟨h3, hno⟩ := bif'_true hno
    obtain ⟨h4, _⟩ := bif'_true hno
    have Li := (hst i p hp).loc
    have Lj := (hst j o ho).loc
    have hNij := hN (i + 1) j (by omega) (by omega)
    have hNi := hN1 i (by omega)
    constructor
    · rintro ⟨ht, hw⟩
      rcases hw with hw | hw
      · rcases ht with ht | ht
        · rw [noneIn_mem h2 b hw] at ht; cases ht
        · exact noneBetween_mem h4 b hw ht
      · rcases ht with ht | ht
        · have := Li.low b ht; omega
        · omega
    · rintro ⟨hw, ht⟩
      rcases hw with hw | hw
      · rcases ht with ht | ht
        · rw [noneIn_mem h1 b hw] at ht; cases ht
        · have := Li.low b (Li.sub b hw); omega
      · rcases ht with ht | ht
        · exact noneBetween_mem h3 b (by have := T.mem_keys (c.TT j) _root_.id [] b () ht; simpa using this) hw
        · omega
  have apE : ∀ i j p o x, i < j → ops[i]? = some p → ops[j]? = some o → ¬ ((befL ops.toList []).getD j 0).testBit i = true → (¬ (TchE ops p x ∧ o.dst = some x)) ∧ ¬ (p.dst = some x ∧ TchE ops o x) := fun i j p o x hij hp ho hnb => by
    obtain ⟨h1, h2, h3⟩ := apartB_iff ((tmpsOk_apart htm hp ho hij).resolve_left hnb)
    constructor
    · rintro ⟨ht, hw⟩
      rcases ht with ht | ht
      · exact h2 x hw ht
      · exact h3 x ht hw
    · rintro ⟨hw, ht⟩
      rcases ht with ht | ht
      · exact h1 x hw ht
      · exact h3 x hw ht
  have main : ∀ (fuel : Nat) (listed : Array Bool) (g : T ABlk) (env' : T AV) (ρ' : Rho) (a' : Act) (w' : World), listed.size = ops.size → listed.toList.count false ≤ fuel →
      (∀ j, Done listed j → ∀ i, ((befL ops.toList []).getD j 0).testBit i = true → Done listed i) →
      (∀ b, g.get b = cur (fun m b => (c.H m).get b) (WrH c) (Done listed) b ops.size) → (∀ x, env'.get x = cur (fun m x => (c.E m).get x) (WrE ops) (Done listed) x ops.size) →
      Good w0 ρ' g w' → ρ0.le ρ' → ER ρ' nt env' a'.tmps → a'.defers = ds → wpAnyIn (fR rd) 0 P .any ops Q fuel listed a' w' := by
    intro fuel
    have fin : ∀ (listed : Array Bool) (g : T ABlk) (env' : T AV) (ρ' : Rho) (a' : Act) (w' : World), listed.size = ops.size → 
        (∀ b, g.get b = cur (fun m b => (c.H m).get b) (WrH c) (Done listed) b ops.size) → (∀ x, env'.get x = cur (fun m x => (c.E m).get x) (WrE ops) (Done listed) x ops.size) →
        Good w0 ρ' g w' → ρ0.le ρ' → ER ρ' nt env' a'.tmps → a'.defers = ds → Region.ready .any ops listed = [] → Q .normal a' w' := by
      intro listed g env' ρ' a' w' hsz hg he hG' hle' hE' hd' hr
      have hall : ∀ m, ∀ j, j < m → j < ops.size → Done listed j := by
        intro m
        induction m with
        | zero => intro j hj; omega
        | succ m ih =>
          intro j hj hjs
          by_cases e : j < m
          · exact ih j e hjs
          · have e : j = m := by omega
            subst e
            refine byContradiction fun hn => ?_
            obtain ⟨o, ho⟩ := hop hjs
            have : j ∈ Region.ready .any ops listed := mem_ready.2 ⟨?_, o, ho, fun e he hb => ih e.on (tmpsOk_on htm ho e he hb) (by have := tmpsOk_on htm ho e he hb; omega)⟩
            · rw [hr] at this; cases this
            · unfold Done at hn
              rw [Array.getD_eq_getD_getElem?, Array.getElem?_eq_getElem (by omega)] at hn ⊢
              simpa using hn
      have hH : ∀ b, (c.H ops.size).get b = g.get b := fun b => by
        rw [hg b, cur_all (sameH b) ops.size (Nat.le_refl _) fun j hj => hall (j + 1) j (by omega) hj]
      have hEE : ∀ x, (c.E ops.size).get x = env'.get x := fun x => by
        rw [he x, cur_all (sameE x) ops.size (Nat.le_refl _) fun j hj => hall (j + 1) j (by omega) hj]
      exact hk _ _ ρ' a' w' hend hSend (hG'.like hH) hle' (hE'.like hEE) hd'
    induction fuel with
    | zero =>
      intro listed g env' ρ' a' w' hsz hcnt hcl hg he hG' hle' hE' hd'
      have hr : Region.ready .any ops listed = [] := by
        rw [List.eq_nil_iff_forall_not_mem]
        intro j hj
        have := (mem_ready.1 hj).1
        have hn := done_not this
        have : false ∈ listed.toList := by
          rw [Array.getD_eq_getD_getElem?, Array.getElem?_eq_getElem hn.2] at this
          have this : listed[j]'hn.2 = false := this
          rw [← this]; simp
        have := List.count_pos_iff.2 this
        omega
      exact ⟨hr, fin listed g env' ρ' a' w' hsz hg he hG' hle' hE' hd' hr⟩
    | succ fuel ih =>
      intro listed g env' ρ' a' w' hsz hcnt hcl hg he hG' hle' hE' hd'
      refine ⟨fin listed g env' ρ' a' w' hsz hg he hG' hle' hE' hd', fun i hi => ?_⟩
      obtain ⟨hun, o, ho, hpre⟩ := mem_ready.1 hi
      obtain ⟨hnd, hil⟩ := done_not hun
      have his := hlt ho
      have st := hst i o ho
      have L := st.loc
      have hbef : ∀ j, ((befL ops.toList []).getD i 0).testBit j = true → Done listed j := fun j hj => by
        obtain ⟨e, he, hb, hc⟩ := bef_bit ho hj
        rcases hc with hc | hc
        · subst hc; exact hpre e he hb
        · exact hcl _ (hpre e he hb) j hc
      have later : ∀ j, i < j → j < ops.size → Done listed j → ¬ ((befL ops.toList []).getD j 0).testBit i = true := fun j _ _ hj hb => hnd (hcl j hj i hb)
      have sooner : ∀ j, j < i → ¬ Done listed j → ¬ ((befL ops.toList []).getD i 0).testBit j = true := fun j _ hj hb => hj (hbef j hb)
      have hereH : ∀ b, TcH c i b → g.get b = (c.H i).get b := fun b hb => by
        rw [hg b]
        exact cur_here (sameH b) his hnd (fun j h1 h2 h3 => (apH j i b h1 his (sooner j h1 h2)).2 ⟨h3, hb⟩) fun j h1 h2 h3 h4 => (apH i j b h1 h2 (later j h1 h2 h3)).1 ⟨hb, h4⟩
      have hereE : ∀ x, TchE ops o x → env'.get x = (c.E i).get x := fun x hx => by
        rw [he x]
        refine cur_here (sameE x) his hnd (fun j h1 h2 h3 => ?_) fun j h1 h2 h3 h4 => ?_
        · obtain ⟨p, hp, hpx⟩ := h3
          exact (apE j i p o x h1 hp ho (sooner j h1 h2)).2 ⟨hpx, hx⟩
        · obtain ⟨p, hp, hpx⟩ := h4
          exact (apE i j o p x h1 ho hp (later j h1 h2 h3)).1 ⟨hx, hpx⟩
      obtain ⟨g', r1, r2, r3⟩ := L.like g hereH
      have hrun : run (tk P en rn ops env' o) (.mk g (c.N i) (c.N i) .leaf []) (fun x s => decide (x = c.V i ∧ s = .mk g' (c.N (i + 1)) (c.N i) (c.TT i) (c.WW i))) = true := by
        rw [tk_congr (env' := c.E i) (fun t ht => hereE t (.inl ht)), r1]
        simp
      have hSi : SI (.mk g (c.N i) (c.N i) .leaf []) := ⟨st.lo, st.hi, Nat.le_refl _, by simp, fun b hb => by simp [T.get] at hb⟩
      have next : ∀ (ρ2 : Rho) (v : Value) (w2 : World), Good w0 ρ2 g' w2 → ρ'.le ρ2 → VR ρ2 (c.V i) v → wpAnyIn (fR rd) 0 P .any ops Q fuel (listed.setIfInBounds i true) (a'.put o.dst v) w2 := by
        intro ρ2 v w2 hG2 hle2 hv
        have hds := done_set (listed := listed) (i := i) hil
        refine ih (listed.setIfInBounds i true) g' (putE o.dst (c.V i) env') ρ2 (a'.put o.dst v) w2 (by simp [hsz]) ?_ (fun j hj q hq => ?_) (fun b => ?_) (fun x => ?_) hG2 (hle'.trans hle2) (putE_ER hv (hE'.mono hle2) st.dst) (by cases hdst : o.dst <;> exact hd')
        · rw [Array.toList_setIfInBounds, List.count_set (by simpa using hil)]
          have e1 : listed.toList[i]'(by simpa using hil) = false := by
            rw [Array.getD_eq_getD_getElem?, Array.getElem?_eq_getElem hil] at hun
            have hun : listed[i]'hil = false := hun
            simpa using hun
          have : 0 < listed.toList.count false := List.count_pos_iff.2 (by rw [← e1]; exact List.getElem_mem _)
          rw [e1, if_pos (by rfl), if_neg (by decide)]; omega
        · rcases (hds j).1 hj with hj | hj
          · exact (hds q).2 (.inl (hcl j hj q hq))
          · subst hj; exact (hds q).2 (.inl (hbef q hq))
        · by_cases hw : WrH c i b
          · rw [r2 b (hsub i b his hw)]
            exact (cur_turned (H := fun m b => (c.H m).get b) his hds hw fun j h1 h2 h3 h4 => (apH i j b h1 h2 (later j h1 h2 h3)).1 ⟨hsub i b his hw, h4⟩).symm
          · rw [r3 b hw, hg b]
            exact (cur_left (H := fun m b => (c.H m).get b) hds hw).symm
        · by_cases hw : WrE ops i x
          · have hx : o.dst = some x := by
              obtain ⟨o', ho', hx⟩ := hw
              rw [ho] at ho'; injection ho' with ho'; rw [ho']; exact hx
            have hx64 : x + 1 < 2 ^ 64 := by have : x < nt := st.dst x hx; omega
            have q1 : (putE o.dst (c.V i) env').get x = (c.E (i + 1)).get x := by rw [st.env, putE_at hx hx64, putE_at hx hx64]
            rw [q1]
            refine (cur_turned (H := fun m x => (c.E m).get x) his hds hw fun j h1 h2 h3 h4 => ?_).symm
            obtain ⟨p, hp, hpx⟩ := h4
            exact (apE i j o p x h1 ho hp (later j h1 h2 h3)).1 ⟨.inr hx, hpx⟩
          · rw [putE_same (fun e => hw ⟨o, ho, e⟩), he x]
            exact (cur_left (H := fun m x => (c.E m).get x) hds hw).symm
      unfold wpOpIn
      simp only [ho]
      rcases wanted0T hE' hrun with ⟨hw, hr⟩ | ⟨hw, hr⟩
      · rw [if_pos hw]
        refine opA_ok hen hrn hSi hG' hE' hr fun av v σ' ρ2 w2 q1 q2 q3 q4 q5 => ?_
        obtain ⟨z1, z2⟩ := of_decide_eq_true (show decide (av = c.V i ∧ σ' = .mk g' (c.N (i + 1)) (c.N i) (c.TT i) (c.WW i)) = true from q1)
        subst z1; subst z2
        exact next ρ2 v w2 q3 q4 q5
      · rw [if_neg (by rw [hw]; simp)]
        obtain ⟨z1, z2⟩ := of_decide_eq_true (show decide (AV.tup [] = c.V i ∧ St.mk g (c.N i) (c.N i) .leaf [] = .mk g' (c.N (i + 1)) (c.N i) (c.TT i) (c.WW i)) = true from hr)
        injection z2 with z2
        refine ⟨fun _ _ => trivial, next ρ' undef w' (by rw [← z2]; exact hG') (Rho.le.refl _) (by rw [← z1]; exact .tup [] #[] rfl (by simp))⟩
  refine wpIn_region_any hm (main ops.size (Array.replicate ops.size false) h0 env ρ a _ (by simp) (by simp) (fun j hj => ?_) (fun b => ?_) (fun x => ?_) (hG.drawn _) hle hE hd)
  · unfold Done at hj
    rw [Array.getD_eq_getD_getElem?, Array.getElem?_replicate] at hj
    split at hj <;> simp at hj
  · have hn : ∀ j, ¬ Done (Array.replicate ops.size false) j := fun j hj => by
      unfold Done at hj
      rw [Array.getD_eq_getD_getElem?, Array.getElem?_replicate] at hj
      split at hj <;> simp at hj
    rw [cur_none (a := 0) ops.size (Nat.zero_le _) fun j _ _ hj => absurd hj (hn j)]
    show h0.get b = (c.H 0).get b
    rw [e2]
  · have hn : ∀ j, ¬ Done (Array.replicate ops.size false) j := fun j hj => by
      unfold Done at hj
      rw [Array.getD_eq_getD_getElem?, Array.getElem?_replicate] at hj
      split at hj <;> simp at hj
    rw [cur_none (a := 0) ops.size (Nat.zero_le _) fun j _ _ hj => absurd hj (hn j)]
    show env.get x = (c.E 0).get x
    rw [e1]
end
end Go.Sym
namespace Go.Sym
open Go.RowKit (Below)
set_option linter.unusedVariables false
def cvX : AEx → Exit
  | .normal => .normal
  | .exit id => .exit id
  | .goto l => .goto l
  | .ret => .ret
def XNxt (w0 : World) (ρ : Rho) (K : Fin) (nt : Nat) (k : XK) (Q : Exit → Act → World → Prop) : Prop :=
  ∀ ex env' df' σ' ρ' w' a', run (k ex env' df') σ' K = true → SI σ' → Good w0 ρ' σ'.h w' → ρ.le ρ' → ER ρ' nt env' a'.tmps → DR ρ' df' a'.defers → Q (cvX ex) a' w'
def RW (ρ : Rho) : Option Nat → Option Nat → Prop
  | none, r => r = none
  | some l, r => ∃ h, ρ.at_ l 0 = some h ∧ r = some h.blk
theorem RW.mono {ρ ρ' : Rho} (hle : ρ.le ρ') {rnd rd : Option Nat} (h : RW ρ rnd rd) : RW ρ' rnd rd := by
  cases rnd with
  | none => exact h
  | some l => obtain ⟨x, h1, h2⟩ := h; exact ⟨x, hle.at_ _ _ _ h1, h2⟩
inductive SubC : Code → Code → Prop where
  | refl (c : Code) : SubC c c
  | seqL {a b c : Code} (h : SubC (.seq a b) c) : SubC a c
  | seqR {a b c : Code} (h : SubC (.seq a b) c) : SubC b c
  | condL {x : Operand} {a b c : Code} (h : SubC (.cond x a b) c) : SubC a c
  | condR {x : Operand} {a b c : Code} (h : SubC (.cond x a b) c) : SubC b c
  | block {id : Nat} {a c : Code} (h : SubC (.block id a) c) : SubC a c
  | loop {a c : Code} (h : SubC (.loop a) c) : SubC a c
def InF (P : Program) (f : Nat) (rnd : Option Nat) (c : Code) : Prop := rnd = none → jumpC c = true ∨ ∃ fn b, P.funcs[f]? = some fn ∧ fn.body = some b ∧ SubC c b
theorem InF.sub {P : Program} {f : Nat} {rnd : Option Nat} {c d : Code} (h : InF P f rnd c) (hs : ∀ b, SubC c b → SubC d b) (hj : jumpC c = false) : InF P f rnd d := fun hr => by
  rcases h hr with h | ⟨fn, b, h1, h2, h3⟩
  · rw [hj] at h; cases h
  · exact .inr ⟨fn, b, h1, h2, hs b h3⟩
theorem InF.round {P : Program} {f l : Nat} {c : Code} : InF P f (some l) c := fun h => by cases h
def ExOk (P : Program) (w0 : World) (x : X) : Prop :=
  ∀ (c : Code) (env : T AV) (nt f : Nat) (df : List Nat) (k : XK) (σ : St) (K : Fin) (ρ : Rho) (w : World) (a : Act) (Q : Exit → Act → World → Prop) (rnd rd : Option Nat), RW ρ rnd rd → SI σ → Good w0 ρ σ.h w → ER ρ nt env a.tmps → DR ρ df a.defers →
    run (x c env nt f rnd df k) σ K = true → XNxt w0 ρ K nt k Q → InF P f rnd c → c.wpIn (fR rd) 0 P Q a w
def LoopIn (P : Program) (rd : Option Nat) (c : Code) (Q : Exit → Act → World → Prop) (a : Act) (w : World) : Prop :=
  ∀ (b : Frame) (k : List Item) (cs : List Frame), b.roundOf = (fR rd).round → (fR rd).fn b.fn → (fR rd).room (cs.length + 1 + 0) →
    ∃ e a' w', Q e a' w' ∧ ArrivesIn (Machine.fenced P (fR rd)) P (lone (b.atR a (.code c :: .inLoop c :: k)) cs w) b k cs e a' w'
def LpOk (P : Program) (w0 : World) (x : X) : Prop :=
  ∀ (c : Code) (env : T AV) (nt f : Nat) (df : List Nat) (k : XK) (σ : St) (K : Fin) (ρ : Rho) (w : World) (a : Act) (Q : Exit → Act → World → Prop) (rnd rd : Option Nat), RW ρ rnd rd → SI σ → Good w0 ρ σ.h w → ER ρ nt env a.tmps → DR ρ df a.defers →
    run (x (.loop c) env nt f rnd df k) σ K = true → XNxt w0 ρ K nt k Q → InF P f rnd (.loop c) → LoopIn P rd c Q a w
section
variable {P : Program} {w0 : World} {ρ : Rho} {w : World} {σ : St} {K : Fin} {nt : Nat} {env : T AV} {a : Act}
theorem argsT_run {k : T AV → Tr} : ∀ (l : List AV) (i : Nat) (t : T AV), run (argsT l i t k) σ K = true →
    ∃ c, run (k c) σ K = true ∧ ∀ o x, c.get o = some x → (∃ (j : Nat), o = i + j ∧ l[j]? = some x) ∨ (t.get o = some x ∧ (o < i ∨ i + l.length ≤ o)) := by
  intro l
  induction l with
  | nil => intro i t h; exact ⟨t, h, fun o x hx => .inr ⟨hx, by simp; omega⟩⟩
  | cons a l ih =>
    intro i t h
    have h : run (T.setK t i a fun t => fN (Nat.succ i) fun i => argsT l i t k) σ K = true := h
    rw [T.setK_eq] at h
    obtain ⟨c, h1, h2⟩ := ih _ _ (fNT h)
    refine ⟨c, h1, fun o x hx => ?_⟩
    rcases h2 o x hx with ⟨j, e, hb⟩ | ⟨hx', ho⟩
    · exact .inl ⟨j + 1, by omega, by simpa using hb⟩
    · by_cases e : o = i
      · subst e
        have := T.get_set_some _ _ hx'
        exact .inl ⟨0, by omega, by rw [this]; rfl⟩
      · rw [T.get_set_ne _ e] at hx'
        exact .inr ⟨hx', by simp at ho ⊢; omega⟩
theorem args_ER {l : List AV} {vs : List Value} {n : Nat} {c : T AV} (hl : LR ρ l vs) (hn : l.length ≤ n) (hc : ∀ o x, c.get o = some x → (∃ (j : Nat), o = 0 + j ∧ l[j]? = some x) ∨ ((T.leaf : T AV).get o = some x ∧ (o < 0 ∨ 0 + l.length ≤ o))) :
    ER ρ n c (vs.toArray ++ Array.replicate (n - vs.toArray.size) undef) := by
  refine ⟨by simp [hl.1]; omega, fun t x hx => ?_⟩
  rcases hc t x hx with ⟨j, e, hj⟩ | ⟨h, _⟩
  · have : t = j := by omega
    subst this
    obtain ⟨v, hv, hr⟩ := hl.get hj
    refine ⟨v, ?_, hr⟩
    have hlt : t < vs.length := by
      rcases Nat.lt_or_ge t vs.length with h' | h'
      · exact h'
      · rw [List.getElem?_eq_none h'] at hv; cases hv
    rw [Array.getElem?_append_left (by simpa using hlt)]
    simpa using hv
  · simp [T.get] at h
def retK (k : AV → Tr) : List AV → Tr
  | [v] => k v
  | l => k (.tup l)
theorem retVR {l : List AV} {vs : List Value} {k : AV → Tr} (hl : LR ρ l vs) (h : run (retK k l) σ K = true) : ∃ av, run (k av) σ K = true ∧ VR ρ av (retV vs) := by
  have tup : ∀ (l : List AV) (vs : List Value), LR ρ l vs → VR ρ (.tup l) (.tuple vs.toArray) := fun l vs hl => by
    have : LR ρ l vs.toArray.toList := by simpa using hl
    exact .tup _ _ this.arr.1 this.arr.2
  cases l with
  | nil => rw [hl.nil_inv]; exact ⟨_, h, tup _ _ (LR.nil ρ)⟩
  | cons a l =>
    obtain ⟨v, vs1, rfl, hv, hl1⟩ := hl.cons_inv
    cases l with
    | nil => rw [hl1.nil_inv]; exact ⟨_, h, hv⟩
    | cons b l =>
      obtain ⟨u, vs2, rfl, hu, hl2⟩ := hl1.cons_inv
      exact ⟨_, h, tup _ _ hl⟩
theorem callF_ok {x : X} (hx : ExOk P w0 x) : EnOk P w0 (callF P x) := by
  intro f l vs k σ K ρ w R hS hG hl h hR
  obtain ⟨fn, hf, h⟩ := oelT h
  obtain ⟨c, hb, h⟩ := oelT h
  obtain ⟨hname, h⟩ := bifF h
  have hname : ¬ fn.name = "runtime.NumGoroutine" := by simpa using hname
  obtain ⟨hlen, h⟩ := bifT h
  have hlen := bleT hlen
  obtain ⟨env, h, hc⟩ := argsT_run _ _ _ h
  have hE := args_ER hl hlen hc
  refine ⟨fun args => ?_, callsIn_of_wp_marks hf hb trivial ?_⟩
  · simp [callFunc, hf, hname, hb]
  · refine hx c env fn.ntmps f [] _ σ K ρ w _ _ none none rfl hS hG hE trivial h (fun ex env' df' σ' ρ' w' a' h1 h2 h3 h4 h5 h6 => ?_) (fun _ => .inr ⟨fn, c, hf, hb, .refl c⟩)
    have main : run (leaveK df' (resK P env' fn.results.toList fun l => (match l with | [v] => k v | l => k (.tup l)))) σ' K = true → LeavesInM Fence.wide 0 P fn a'.tmps R a'.defers .returning w' := fun h => by
      refine leaveT (fun σ2 w2 g1 g2 g3 => ?_) _ _ _ _ h h2 h3 h6
      obtain ⟨avs, vs, σ3, q1, q2, q3, q4, q5⟩ := resT (P := P) h5 _ _ _ g1 g2 g3
      have q1 : run (retK k avs) σ3 K = true := q1
      obtain ⟨av, r1, r2⟩ := retVR q4 q1
      exact ⟨retV vs, results_run q5, hR av _ σ3 ρ' w2 r1 q2 q3 h4 r2⟩
    cases ex with
    | normal => exact main h1
    | ret => exact main h1
    | exit id => exact (nofail h1).elim
    | goto l => exact (nofail h1).elim
def MemoS (P : Program) (f : Nat) (arg : List Nat) (res : AV) : Prop :=
  ∀ (s : ByteArray) (w : World), bytesOf s = arg → Calls P f #[.string s] w fun e w' => ∃ v, e = .returned v ∧ (∀ ρ, VR ρ res v) ∧ Below w.heap.size w w'
def MemoB (P : Program) (f ty : Nat) (arg : List Nat) (res : AV) : Prop :=
  ∀ (blk : Nat) (arr : Array Value) (fr : Nat × Nat) (c : Nat) (w : World), w.heap[blk]? = some (.cells arr ty fr) → (∀ (i n : Nat), arg[i]? = some n → arr[i]? = some (Value.int .u8 (n : Nat))) → arg.length ≤ c → c ≤ arr.size →
    Calls P f #[.slice (some ⟨blk, 0, none⟩) arg.length c] w fun e w' => ∃ v, e = .returned v ∧ (∀ ρ, VR ρ res v) ∧ Below w.heap.size w w'
def Memo0 (P : Program) (f : Nat) (res : AV) : Prop :=
  ∀ (w : World), Calls P f #[] w fun e w' => ∃ v, e = .returned v ∧ (∀ ρ, VR ρ res v) ∧ Below w.heap.size w w'
def MemoOk (P : Program) : Memo → Prop
  | .mk f none arg res => MemoS P f arg res
  | .mk f (some _) [] res => Memo0 P f res
  | .mk f (some ty) (a :: arg) res => MemoB P f ty (a :: arg) res
theorem sameTy_eq {a b : Option Nat} (h : sameTy a b = true) : a = b := by
  cases a <;> cases b <;> first | rfl | (cases h; done) | (have := beqT h; subst this; rfl)
theorem memGet_mem {f : Nat} {ty : Option Nat} {arg : List Nat} {r : AV} : ∀ {l : List Memo}, memGet f ty arg l = some r → Memo.mk f ty arg r ∈ l := by
  intro l
  induction l with
  | nil => intro h; cases h
  | cons m l ih =>
    intro h
    cases m with
    | mk g u a q =>
      have h : bif' (Nat.beq f g) (bif' (sameTy ty u) (bif' (eqL arg a) (some q) (memGet f ty arg l)) (memGet f ty arg l)) (memGet f ty arg l) = some r := h
      rw [bif'_eq, bif'_eq, bif'_eq] at h
      split at h
      · rename_i h1
        split at h
        · rename_i h2
          split at h
          · rename_i h3
            injection h with h5
            have e1 := beqT h1
            have e2 := sameTy_eq h2
            have e3 := (eqL_iff _ _).1 h3
            rw [e1, e2, e3, h5]
            exact List.mem_cons_self
          · exact List.mem_cons_of_mem _ (ih h)
        · exact List.mem_cons_of_mem _ (ih h)
      · exact List.mem_cons_of_mem _ (ih h)
theorem textF_run {f : Nat} (h : textF P f = true) (args : Array Value) : (callFunc f args).run P w = .ok (.enter f args) w := by
  unfold textF at h
  split at h
  · rename_i fn hf
    split at h
    · rename_i c hb
      have hn : ¬ fn.name = "runtime.NumGoroutine" := by simpa using h
      simp [callFunc, hf, hn, hb]
    · cases h
  · cases h
theorem Good.later {H : T ABlk} {w' : World} (hG : Good w0 ρ H w) (hb : Below w.heap.size w w') : Good w0 ρ H w' :=
  ⟨hG.below.trans (Kept.of (hb.mono hG.below.size)), fun b x hx => (hG.blk b x hx).keep (Rho.le.refl ρ) fun g h hh => hb.block _ (hG.dom _ _ _ hh).1, fun b g h hh => by
    obtain ⟨q1, q2⟩ := hG.dom b g h hh
    exact ⟨Nat.lt_of_lt_of_le q1 hb.size, q2⟩, hG.inj, hG.gens, fun b arr ty hf => by
    obtain ⟨⟨fr, q1⟩, q2⟩ := hG.frz b arr ty hf
    have hlt : b < w.heap.size := by
      rcases Nat.lt_or_ge b w.heap.size with h' | h'
      · exact h'
      · rw [Array.getElem?_eq_none h'] at q1; cases q1
    exact ⟨⟨fr, by rw [hb.block b hlt]; exact q1⟩, q2⟩, hG.frzB⟩
theorem callM_ok {M : List Memo} (hM : ∀ m ∈ M, MemoOk P m) {en : Enter} (hen : EnOk P w0 en) : EnOk P w0 (callM P M en) := by
  intro f l vs k σ K ρ w R hS hG hl h hR
  have hit : ∀ (σ1 : St) (r : AV), run (bif' (textF P f) (k r) .fail) σ1 K = true → SI σ1 → Good w0 ρ σ1.h w → (Calls P f vs.toArray w fun e w' => ∃ v, e = .returned v ∧ (∀ ρ, VR ρ r v) ∧ Below w.heap.size w w') →
      (∀ args : Array Value, (callFunc f args).run P w = .ok (.enter f args) w) ∧ CallsIn Fence.wide 0 P f vs.toArray w R := by
    intro σ1 r h hS1 hG1 hc
    obtain ⟨ht, h⟩ := bifT h
    refine ⟨textF_run ht, (callsIn_wide.2 hc).mono fun e w' he => ?_⟩
    obtain ⟨v, rfl, hv, hb⟩ := he
    exact hR r v σ1 ρ w' h hS1 (hG1.later hb) (Rho.le.refl ρ) (hv ρ)
  rcases bif2 h with ⟨_, h⟩ | ⟨_, h⟩
  case inr => exact hen f l vs k σ K ρ w R hS hG hl h hR
  have other : ∀ σ1, SI σ1 → σ1.h = σ.h → run (en f l k) σ1 K = true → (∀ args : Array Value, (callFunc f args).run P w = .ok (.enter f args) w) ∧ CallsIn Fence.wide 0 P f vs.toArray w R := fun σ1 hS1 e1 h =>
    hen f l vs k σ1 K ρ w R hS1 (by rw [e1]; exact hG) hl h hR
  cases l with
  | nil =>
    have hv := hl.nil_inv
    subst hv
    have h : run (oel (memGet f (some 0) [] M) (en f [] k) fun r => bif' (textF P f) (k r) .fail) σ K = true := h
    cases hr : memGet f (some 0) [] M with
    | none => rw [hr] at h; exact other σ hS rfl h
    | some r =>
      rw [hr] at h
      have hm : Memo0 P f r := hM _ (memGet_mem hr)
      exact hit σ r h hS hG (hm w)
  | cons a l =>
    cases l with
    | cons a2 l => exact other σ hS rfl h
    | nil =>
      have h : run (memA P M f a k (en f [a] k)) σ K = true := h
      obtain ⟨v, vs', rfl, hv, hl'⟩ := hl.cons_inv
      have := hl'.nil_inv
      subst this
      cases hv with
      | str s =>
        have h : run (oel (memGet f none (bytesOf s) M) (en f [.str (bytesOf s)] k) fun r => bif' (textF P f) (k r) .fail) σ K = true := h
        cases hr : memGet f none (bytesOf s) M with
        | none => rw [hr] at h; exact other σ hS rfl h
        | some r =>
          rw [hr] at h
          have hm : MemoS P f (bytesOf s) r := hM _ (memGet_mem hr)
          exact hit σ r h hS hG (hm s w rfl)
      | slc b g o n cap es a cc hsl =>
        cases cap with
        | some _ => exact other σ hS rfl h
        | none =>
          rcases bif2 h with ⟨ho, h⟩ | ⟨_, h⟩
          case inr => exact other σ hS rfl h
          rcases bif2 h with ⟨hes, h⟩ | ⟨_, h⟩
          case inr => exact other σ hS rfl h
          have ho := beqT ho
          have hes := beqT hes
          obtain ⟨q, σ1, hq, e1, hS1, h⟩ := rd_ok hS h
          have hG1 : Good w0 ρ σ1.h w := by rw [e1]; exact hG
          cases q with
          | cells c gen lo hi fl fh ro ty =>
            obtain ⟨k1, z1⟩ := bifT h
            obtain ⟨k2, z2⟩ := bifT z1
            obtain ⟨k3, z3⟩ := bifT z2
            have k1 := beqT k1
            have k2 := bleT k2
            have k3 := bleT k3
            obtain ⟨av, z4, hlen, hget⟩ := ldsT z3
            obtain ⟨bs, hbs, z5⟩ := oelT z4
            cases hr : memGet f (some ty) bs M with
            | none =>
              have z6 : run (oel (memGet f (some ty) bs M) (en f [.slc b g o n none es] k) fun r => bif' (textF P f) (k r) .fail) σ1 K = true := z5
              rw [hr] at z6
              exact other σ1 hS1 e1 z6
            | some r =>
              have z6 : run (oel (memGet f (some ty) bs M) (en f [.slc b g o n none es] k) fun r => bif' (textF P f) (k r) .fail) σ1 K = true := z5
              rw [hr] at z6
              obtain ⟨hlc, hsl2⟩ := hsl
              obtain ⟨hm, hh, hos, ea, hfit⟩ := hsl2.resolve_left (fun hc => by omega)
              subst ho; subst hes
              have hs0 : hm.shift = 0 := by omega
              have hB := hG.blk _ _ hq
              obtain ⟨hm', q1, _, _, arr, fr, q3, q4, q5, q6⟩ := hB.2 g k2
              rw [hh] at q1; injection q1 with q1; subst q1
              obtain ⟨hbl, hcells⟩ := u8L_cells (o0 := 0) hbs hget (fun o tag a ho ht => q6 o tag a ho ht) hs0
              rw [hlen] at hbl
              have hm2 : MemoB P f ty bs r := by
                have hm3 := hM _ (memGet_mem hr)
                cases bs with
                | nil => simp at hbl; omega
                | cons _ _ => exact hm3
              refine hit σ1 r z6 hS1 hG1 ?_
              have := hm2 hm.blk arr fr cc w q3 (fun i m hi => by have := hcells i m hi; rwa [Nat.zero_add] at this) (by rw [hbl]; exact hlc) (by rw [hs0] at hfit; omega)
              rw [hbl] at this
              rw [ea, hs0]; exact this
          | _ => exact (nofail h).elim
      | _ => exact other σ hS rfl h
theorem loop_of_text {M : Tab} {x : X} (hx : ExOk P w0 x) (hl : LpOk P w0 x) : LpOk P w0 (FX P M x) := by
  intro c env nt f df k σ K ρ w a Q rnd rd hW hS hG hE hD h hQ hC b kk cs hro hb hr
  have h : run (x c env nt f rnd df fun ex env df => (match ex with
    | .normal => x (.loop c) env nt f rnd df k
    | ex => k ex env df)) σ K = true := h
  have hc : c.wpIn (fR rd) 0 P (fun e a' w' => match e with | .normal => LoopIn P rd c Q a' w' | e => Q e a' w') a w := by
    refine hx c env nt f df _ σ K ρ w a _ rnd rd hW hS hG hE hD h (fun ex env' df' σ' ρ' w' a' h1 h2 h3 h4 h5 h6 => ?_) (hC.sub (fun _ => .loop) rfl)
    cases ex with
    | normal => exact hl c env' nt f df' k σ' K ρ' w' a' Q rnd rd (hW.mono h4) h2 h3 h5 h6 h1 (fun ex2 env2 df2 σ2 ρ2 w2 a2 g1 g2 g3 g4 g5 g6 => hQ ex2 env2 df2 σ2 ρ2 w2 a2 g1 g2 g3 (h4.trans g4) g5 g6) hC
    | exit id => exact hQ (.exit id) env' df' σ' ρ' w' a' h1 h2 h3 h4 h5 h6
    | goto l => exact hQ (.goto l) env' df' σ' ρ' w' a' h1 h2 h3 h4 h5 h6
    | ret => exact hQ .ret env' df' σ' ρ' w' a' h1 h2 h3 h4 h5 h6
  obtain ⟨e, a₁, w₁, hq, harr⟩ := hc b (.inLoop c :: kk) cs hro hb hr
  cases e with
  | normal =>
    obtain ⟨e₂, a₂, w₂, hq₂, harr₂⟩ := hq b kk cs hro hb hr
    exact ⟨e₂, a₂, w₂, hq₂, .of_steps (StepsIn.trans harr (.one (fenced_calm hb hr rfl) stepR_inLoop)) harr₂⟩
  | exit id => exact ⟨_, a₁, w₁, hq, .pass (x := .inLoop c) rfl (fun _ _ => .inl (by simp)) harr⟩
  | goto l => exact ⟨_, a₁, w₁, hq, .pass (x := .inLoop c) rfl (fun _ _ => .inl (by simp)) harr⟩
  | ret => exact ⟨_, a₁, w₁, hq, .pass (x := .inLoop c) rfl (fun _ _ => .inl (by simp)) harr⟩
  | panic ch => exact ⟨_, a₁, w₁, hq, .pass (x := .inLoop c) rfl (fun _ _ => .inl (by simp)) harr⟩
  | outgrown => exact ⟨_, a₁, w₁, hq, .pass (x := .inLoop c) rfl (fun _ _ => .inl (by simp)) harr⟩
theorem condT {av : AV} {v : Value} {t e : Tr} (hv : VR ρ av v) (h : run (condK av t e) σ K = true) : ∃ b, v = .bool b ∧ (b = true → run t σ K = true) ∧ (b = false → run e σ K = true) := by
  cases hv with
  | bool b =>
    rcases bif2 h with ⟨e1, h⟩ | ⟨e1, h⟩
    · subst e1; exact ⟨true, rfl, fun _ => h, (fun e => by cases e)⟩
    · subst e1; exact ⟨false, rfl, (fun e => by cases e), fun _ => h⟩
  | anyB b =>
    have hp := pick_ok (n := 2) h
    exact ⟨b, rfl, fun _ => hp 0 (.inl rfl) (fun _ => rfl), fun _ => hp 1 (.inr (by omega)) (fun h => absurd h (by omega))⟩
  | sB p b hb =>
    refine ⟨b, rfl, fun e1 => ?_, fun e1 => ?_⟩
    · rcases ask_ok h with ⟨_, h⟩ | ⟨hp, _⟩
      · exact h
      · exact absurd (hb.1 e1) hp
    · rcases ask_ok h with ⟨hp, _⟩ | ⟨_, h⟩
      · exact absurd (hb.2 hp) (by rw [e1]; simp)
      · exact h
  | _ => exact (nofail h).elim
theorem loopIn_of {rd : Option Nat} {c : Code} {Q : Exit → Act → World → Prop} (hc : c.wpIn (fR rd) 0 P (fun e a' w' => match e with | .normal => LoopIn P rd c Q a' w' | e => Q e a' w') a w) : LoopIn P rd c Q a w := by
  intro b kk cs hro hb hr
  obtain ⟨e, a₁, w₁, hq, harr⟩ := hc b (.inLoop c :: kk) cs hro hb hr
  cases e with
  | normal =>
    obtain ⟨e₂, a₂, w₂, hq₂, harr₂⟩ := hq b kk cs hro hb hr
    exact ⟨e₂, a₂, w₂, hq₂, .of_steps (StepsIn.trans harr (.one (fenced_calm hb hr rfl) stepR_inLoop)) harr₂⟩
  | exit id => exact ⟨_, a₁, w₁, hq, .pass (x := .inLoop c) rfl (fun _ _ => .inl (by simp)) harr⟩
  | goto l => exact ⟨_, a₁, w₁, hq, .pass (x := .inLoop c) rfl (fun _ _ => .inl (by simp)) harr⟩
  | ret => exact ⟨_, a₁, w₁, hq, .pass (x := .inLoop c) rfl (fun _ _ => .inl (by simp)) harr⟩
  | panic ch => exact ⟨_, a₁, w₁, hq, .pass (x := .inLoop c) rfl (fun _ _ => .inl (by simp)) harr⟩
  | outgrown => exact ⟨_, a₁, w₁, hq, .pass (x := .inLoop c) rfl (fun _ _ => .inl (by simp)) harr⟩
theorem loop_wp {rd : Option Nat} {c : Code} {Q : Exit → Act → World → Prop} (h : LoopIn P rd c Q a w) : (Code.loop c).wpIn (fR rd) 0 P Q a w := by
  intro b k cs hro hb hr
  obtain ⟨e, a', w', hq, harr⟩ := h b k cs hro hb hr
  exact ⟨e, a', w', hq, .of_steps (.one (fenced_calm hb hr rfl) stepR_loop) harr⟩
theorem endLoop_run {l : Nat} {r : Loop} (h : w.heap[l]? = some (.loop r)) (hb : r.state ≠ .busy) : (Instr.endLoop l).run P w = .ok r.pending { w with heap := w.heap.setIfInBounds l (.loop { r with state := .exhausted }) } := by
  have hb' : (r.state == .busy) = false := by
    cases hs : r.state <;> first | rfl | exact absurd hs hb
  simp only [Instr.endLoop, Instr.getLoop, Sem.run_bind, run_getObj' h (by simp), Result.andThen_ok, Sem.run_pure, hb', Bool.false_eq_true, if_false, run_setObj' h (by simp)]
def jumpK (z : Tr) (go : Code → Tr) : Option Code → Tr
  | none => z
  | some c => go c
theorem range_wp {M : Tab} {x : X} (hx : ExOk P w0 x) {g : Operand} {ps : Array Tmp} {as bd : Code} {f : Nat} {df : List Nat} {k : XK} {Q : Exit → Act → World → Prop} {rnd rd : Option Nat} (hW : RW ρ rnd rd) (hS : SI σ) (hG : Good w0 ρ σ.h w) (hE : ER ρ nt env a.tmps) (hD : DR ρ df a.defers)
    (h : run (FX P M x (.rangeFunc g ps as bd) env nt f rnd df k) σ K = true) (hQ : XNxt w0 ρ K nt k Q) : (Code.rangeFunc g ps as bd).wpIn (fR rd) 0 P Q a w := by
  cases rnd with
  | some _ => exact (nofail h).elim
  | none =>
  have hW : rd = none := hW
  subst hW
  show (Code.rangeFunc g ps as bd).wpIn Fence.wide 0 P Q a w
  have h : run (.new (.dfr true) fun d => .new (.loop .ready none f nt env ps.toList as bd d) fun l => evK env g fun g =>
      rangeF P x g l id (fun c => bif' (jumpC c) (x c env nt f none (d :: df) k) .fail) (k .normal env (d :: df))) σ K = true := h
  obtain ⟨d, σ1, hn1, h641, e1, hS1, h⟩ := new_ok hS h
  obtain ⟨hle1, hG1⟩ := hG.alloc hn1 h641 (.dfr true) (.deferred (some [])) 0 0 (fun ρ' hle hat _ => ⟨_, hat, .new hG.below.size, by simp⟩)
  rw [← e1] at hG1
  obtain ⟨l, σ2, hn2, h642, e2, hS2, h⟩ := new_ok hS1 h
  refine wpIn_rangeFunc fun fn' _ => ?_
  obtain ⟨hle2, hG2⟩ := hG1.alloc hn2 h642 (.loop .ready none f nt env ps.toList as bd d) (.loop { state := .ready, pending := none, fn := fn', tmps := a.tmps, params := ps, assign := as, body := bd, defers := w.heap.size }) 0 0
    (fun ρ' hle hat _ => ⟨_, hat, .new (by have := hG.below.size; simp; omega), a.tmps, _, fn', hE.mono (hle1.trans hle), hle.at_ _ _ _ (Rho.put_at _ _ _ _), Array.getElem?_push_size⟩)
  rw [← e2] at hG2
  obtain ⟨av, σ3, e3, hS3, h, hv⟩ := ev_ok (x := g) hS2 hG2 (hE.mono (hle1.trans hle2)) h
  rw [← e3] at hG2
  generalize hgv : a.eval g = gv at hv
  cases hv with
  | func fn l1 m1 first captured h1 h2 r1 r2 hf =>
    cases fn with
    | func i =>
      have q1 := LR.of_arr h1 r1
      have q2 := LR.of_arr h2 r2
      have hl := Rho.put_at (ρ.put d 0 ⟨w.heap.size, 0, 0⟩) l 0 ⟨(w.heap.push (.deferred (some []))).size, 0, 0⟩
      have hd := hle2.at_ _ _ _ (Rho.put_at ρ d 0 ⟨w.heap.size, 0, 0⟩)
      simp only [rangeF] at h
      have hargs := (q1.append (LR.cons (.yld l _ hl) (LR.nil _))).append q2
      obtain ⟨hcf, hci⟩ := callF_ok hx i _ _ _ σ3 K _ _ (rangePost Fence.wide 0 P (w.heap.push (.deferred (some []))).size Q { a with defers := [{ target := .collected w.heap.size, args := #[] }] ++ a.defers }) hS3 hG2 hargs h
        (fun av v σ' ρ' w' g1 g2 g3 g4 g5 => by
          obtain ⟨q, σ4, hq, e4, hS4, g1⟩ := rd_ok g2 g1
          have hG4 : Good w0 ρ' σ4.h w' := by rw [e4]; exact g3
          cases q with
          | loop st jump fn nt' tmps ps' as' bd' d' =>
            have hl' := g4.at_ _ _ _ hl
            obtain ⟨hm, hh, hB, tmps', hd', fn2, b1, b2, hheap⟩ := g3.blk _ _ hq
            rw [hl'] at hh; injection hh with hh; subst hh
            have fin : st ≠ .busy → run (.wr l (.loop .exhausted jump fn nt' tmps ps' as' bd' d') (jumpK (k .normal env (d :: df)) (fun c => bif' (jumpC c) (x c env nt f none (d :: df) k) .fail) jump)) σ4 K = true →
                rangePost Fence.wide 0 P (w.heap.push (.deferred (some []))).size Q { a with defers := [{ target := .collected w.heap.size, args := #[] }] ++ a.defers } (.returned v) w' := fun hb g1 => by
              obtain ⟨x0, σ5, hx0, e5, hS5, h64, g1⟩ := wr_ok hS4 g1
              have hG5 := hG4.setObj (x := .loop .exhausted jump fn nt' tmps ps' as' bd' d') (o' := .loop { state := .exhausted, pending := jump, fn := fn2, tmps := tmps', params := ps'.toArray, assign := as', body := bd', defers := hd'.blk }) hx0 h64 hl' hB hheap
                ⟨_, hl', hB, tmps', hd', fn2, b1, b2, set_get hheap⟩
              rw [← e5] at hG5
              refine ⟨jump, _, endLoop_run hheap hb, ?_⟩
              have hDD : DR ρ' (d :: df) ([{ target := .collected w.heap.size, args := #[] }] ++ a.defers) := ⟨⟨_, g4.at_ _ _ _ hd, rfl⟩, hD.mono (hle1.trans (hle2.trans g4))⟩
              have hEE : ER ρ' nt env a.tmps := hE.mono (hle1.trans (hle2.trans g4))
              cases jump with
              | none => exact hQ .normal env (d :: df) σ5 ρ' _ { a with defers := [{ target := .collected w.heap.size, args := #[] }] ++ a.defers } g1 hS5 hG5 (hle1.trans (hle2.trans g4)) hEE hDD
              | some c =>
                obtain ⟨hj, g1⟩ := bifT g1
                exact hx c env nt f (d :: df) k σ5 K ρ' _ { a with defers := [{ target := .collected w.heap.size, args := #[] }] ++ a.defers } Q none none rfl hS5 hG5 hEE hDD g1
                  (fun ex2 env2 df2 σ2 ρ2 w2 a2 c1 c2 c3 c4 c5 c6 => hQ ex2 env2 df2 σ2 ρ2 w2 a2 c1 c2 c3 ((hle1.trans (hle2.trans g4)).trans c4) c5 c6) (fun _ => .inl hj)
            cases st with
            | busy => exact (nofail g1).elim
            | ready => exact fin (by simp) (by cases jump <;> exact g1)
            | done => exact fin (by simp) (by cases jump <;> exact g1)
            | exhausted => exact fin (by simp) (by cases jump <;> exact g1)
          | _ => exact (nofail g1).elim)
      have ea : (first ++ #[Value.func (.yield (w.heap.push (.deferred (some []))).size) #[] #[]]) ++ captured = (first.toList ++ [Value.func (.yield (w.heap.push (.deferred (some []))).size) #[] #[]] ++ captured.toList).toArray := by apply Array.ext'; simp
      refine ⟨(w.heap.push (.deferred (some []))).size, [{ target := .collected w.heap.size, args := #[] }], { w with heap := (w.heap.push (.deferred (some []))).push (.loop { state := .ready, pending := none, fn := fn', tmps := a.tmps, params := ps, assign := as, body := bd, defers := w.heap.size }) }, { target := .fn (.func i) captured, args := first ++ #[.func (.yield (w.heap.push (.deferred (some []))).size) #[] #[]] }, { w with heap := (w.heap.push (.deferred (some []))).push (.loop { state := .ready, pending := none, fn := fn', tmps := a.tmps, params := ps, assign := as, body := bd, defers := w.heap.size }) }, i, _, _, ?_, ?_, fun _ _ => trivial, ?_, fun h => absurd h (by simp [Fence.wide]), hci⟩
      · simp only [Instr.enterLoop, Fence.wide, Sem.run_bind, run_newObj, Result.andThen_ok, Sem.run_pure]
      · have hcon : ∀ v, a.eval (.const v) = v := fun _ => rfl
        simp only [resolve, hgv, Deferred.ofValue, List.map_toArray, List.map_cons, List.map_nil, hcon, Sem.run_pure]
      · show (callFunc i ((first ++ #[Value.func (.yield (w.heap.push (.deferred (some []))).size) #[] #[]]) ++ captured)).run P _ = _
        rw [ea]
        exact hcf _
    | _ => exact (nofail h).elim
  | _ => exact (nofail h).elim
theorem setPs_ok {k : T AV → Tr} : ∀ (ps : List Nat) (as : List AV) (vs : List Value) (t : T AV) (tmps : Array Value), LR ρ as vs → ER ρ nt t tmps → run (setPs ps as nt t k) σ K = true →
    ∃ t', run (k t') σ K = true ∧ ps.length = vs.length ∧ ER ρ nt t' ((ps.zip vs).foldl (fun tmps x => tmps.setIfInBounds x.1 x.2) tmps) := by
  intro ps
  induction ps with
  | nil =>
    intro as vs t tmps hl hE h
    cases as with
    | nil => rw [hl.nil_inv]; exact ⟨t, h, rfl, hE⟩
    | cons _ _ => exact (nofail h).elim
  | cons p ps ih =>
    intro as vs t tmps hl hE h
    cases as with
    | nil => exact (nofail h).elim
    | cons av as =>
      obtain ⟨v, vs', rfl, hv, hl'⟩ := hl.cons_inv
      have h : run (bif' (Nat.ble (Nat.succ p) nt) (T.setK t p av fun t => setPs ps as nt t k) .fail) σ K = true := h
      obtain ⟨hp, h⟩ := bifT h
      have hp := bleT hp
      rw [T.setK_eq] at h
      have hE' : ER ρ nt (t.set p av) (tmps.setIfInBounds p v) := by
        refine ⟨by rw [Array.size_setIfInBounds]; exact hE.size, fun i b hb => ?_⟩
        by_cases e : i = p
        · subst e
          have := T.get_set_some _ _ hb
          subst this
          exact ⟨v, by rw [Array.getElem?_setIfInBounds, if_pos rfl, if_pos (by rw [hE.size]; omega)], hv⟩
        · rw [T.get_set_ne _ e] at hb
          obtain ⟨u, hu, hr⟩ := hE.val i b hb
          exact ⟨u, by rw [Array.getElem?_setIfInBounds, if_neg (fun e' => e e'.symm)]; exact hu, hr⟩
      obtain ⟨t', q1, q2, q3⟩ := ih as vs' _ _ hl' hE' h
      exact ⟨t', q1, by simp [q2], q3⟩
theorem yield_run {l : Nat} {r : Loop} {vs : List Value} (h : w.heap[l]? = some (.loop r)) (hn : r.params.size = vs.length) : (Instr.yield l vs.toArray).run P w = .ok (.round l r.fn ((r.params.toList.zip vs).foldl (fun tmps x => tmps.setIfInBounds x.1 x.2) r.tmps) r.assign r.body) w := by
  have e : r.params.zip vs.toArray = (r.params.toList.zip vs).toArray := by
    apply Array.ext'; simp
  simp only [Instr.yield, Instr.getLoop, Sem.run_bind, run_getObj' h (by simp), Result.andThen_ok, Sem.run_pure, List.size_toArray, hn, ne_eq, not_true_eq_false, if_false, e, List.foldl_toArray']
theorem beginRound_run {l : Nat} {r : Loop} (h : w.heap[l]? = some (.loop r)) (hb : r.state = .ready) : (Instr.beginRound l).run P w = .ok () { w with heap := w.heap.setIfInBounds l (.loop { r with state := .busy }) } := by
  simp only [Instr.beginRound, Instr.getLoop, Sem.run_bind, run_getObj' h (by simp), Result.andThen_ok, Sem.run_pure, run_setObj' h (by simp), hb]
theorem endRound_run {l : Nat} {r : Loop} (jump : Option Code) (h : w.heap[l]? = some (.loop r)) : (Instr.endRound l jump).run P w = .ok (.bool jump.isNone) { w with heap := w.heap.setIfInBounds l (.loop { r with state := if jump.isNone then .ready else .done, pending := jump }) } := by
  simp only [Instr.endRound, Instr.getLoop, Sem.run_bind, run_getObj' h (by simp), Result.andThen_ok, Sem.run_pure, run_setObj' h (by simp)]
theorem roundF_ok {x : X} (hx : ExOk P w0 x) : RnOk P w0 (roundF x) := by
  intro l as vs k σ K ρ w R hS hG hl h hR
  obtain ⟨q, σ1, hq, e1, hS1, h⟩ := rd_ok hS h
  have hG1 : Good w0 ρ σ1.h w := by rw [e1]; exact hG
  cases q with
  | loop st jump fn nt tmps ps asg bd d =>
    obtain ⟨hm, hh, hB, tmps', hd, fn', b1, b2, hheap⟩ := hG.blk _ _ hq
    obtain ⟨env, h, hlen, hE⟩ := setPs_ok _ _ _ _ _ hl b1 h
    refine ⟨hm, hh, _, _, _, _, yield_run hheap (by simpa using hlen), roundIn_of_wpIn trivial ?_⟩
    refine hx asg env nt fn [] _ σ1 K ρ w _ _ (some l) (some hm.blk) ⟨hm, hh, rfl⟩ hS1 hG1 hE trivial h (fun ex env' df' σ' ρ' w' a' g1 g2 g3 g4 g5 g6 => ?_) .round
    cases ex with
    | normal =>
      cases df' with
      | cons _ _ => exact (nofail g1).elim
      | nil =>
        obtain ⟨q2, σ2, hq2, e2, hS2, g1⟩ := rd_ok g2 g1
        have hG2 : Good w0 ρ' σ2.h w' := by rw [e2]; exact g3
        cases q2 with
        | loop st2 jump2 fn2 nt2 tmps2 ps2 as2 bd2 d2 =>
          cases st2 with
          | ready =>
            have hh' := g4.at_ _ _ _ hh
            obtain ⟨hm2, hh2, hB2, tmps2', hd2, fn2', c1, c2, hheap2⟩ := g3.blk _ _ hq2
            rw [hh'] at hh2; injection hh2 with hh2; subst hh2
            obtain ⟨x0, σ3, hx0, e3, hS3, h64, g1⟩ := wr_ok hS2 g1
            have hG3 := hG2.setObj (x := .loop .busy jump2 fn2 nt2 tmps2 ps2 as2 bd2 d2) (o' := .loop { state := .busy, pending := jump2, fn := fn2', tmps := tmps2', params := ps2.toArray, assign := as2, body := bd2, defers := hd2.blk }) hx0 h64 hh' hB2 hheap2
              ⟨_, hh', hB2, tmps2', hd2, fn2', c1, c2, set_get hheap2⟩
            rw [← e3] at hG3
            refine ⟨_, beginRound_run hheap2 rfl, ?_⟩
            refine hx bd env' nt fn2 [] _ σ3 K ρ' _ a' _ (some l) (some hm.blk) ⟨hm, hh', rfl⟩ hS3 hG3 g5 g6 g1 (fun ex3 env3 df3 σ4 ρ4 w4 a4 k1 k2 k3 k4 k5 k6 => ?_) .round
            have fin : ∀ jp, run (endRoundK l jp k) σ4 K = true → ∃ v w5, (Instr.endRound hm.blk jp).run P w4 = .ok v w5 ∧ R (.returned v) w5 := fun jp k1 => by
              obtain ⟨q3, σ5, hq3, e5, hS5, k1⟩ := rd_ok k2 k1
              have hG5 : Good w0 ρ4 σ5.h w4 := by rw [e5]; exact k3
              cases q3 with
              | loop st3 jump3 fn3 nt3 tmps3 ps3 as3 bd3 d3 =>
                have hh4 := k4.at_ _ _ _ hh'
                obtain ⟨hm3, hh3, hB3, tmps3', hd3, fn3', c3, c4, hheap3⟩ := k3.blk _ _ hq3
                rw [hh4] at hh3; injection hh3 with hh3; subst hh3
                obtain ⟨x1, σ6, hx1, e6, hS6, h64', k1⟩ := wr_ok hS5 k1
                refine ⟨_, _, endRound_run jp hheap3, ?_⟩
                cases jp with
                | none =>
                  have hG6 := hG5.setObj (x := .loop .ready none fn3 nt3 tmps3 ps3 as3 bd3 d3) (o' := .loop { state := .ready, pending := none, fn := fn3', tmps := tmps3', params := ps3.toArray, assign := as3, body := bd3, defers := hd3.blk }) hx1 h64' hh4 hB3 hheap3
                    ⟨_, hh4, hB3, tmps3', hd3, fn3', c3, c4, set_get hheap3⟩
                  have e6 : σ6.h = σ5.h.set l (.loop .ready none fn3 nt3 tmps3 ps3 as3 bd3 d3) := e6
                  rw [← e6] at hG6
                  exact hR (.bool true) _ σ6 ρ4 _ k1 hS6 hG6 (g4.trans k4) (.bool true)
                | some jc =>
                  have hG6 := hG5.setObj (x := .loop .done (some jc) fn3 nt3 tmps3 ps3 as3 bd3 d3) (o' := .loop { state := .done, pending := some jc, fn := fn3', tmps := tmps3', params := ps3.toArray, assign := as3, body := bd3, defers := hd3.blk }) hx1 h64' hh4 hB3 hheap3
                    ⟨_, hh4, hB3, tmps3', hd3, fn3', c3, c4, set_get hheap3⟩
                  have e6 : σ6.h = σ5.h.set l (.loop .done (some jc) fn3 nt3 tmps3 ps3 as3 bd3 d3) := e6
                  rw [← e6] at hG6
                  exact hR (.bool false) _ σ6 ρ4 _ k1 hS6 hG6 (g4.trans k4) (.bool false)
              | _ => exact (nofail k1).elim
            cases df3 with
            | cons _ _ => exact (nofail k1).elim
            | nil =>
              cases ex3 with
              | normal => exact fin none k1
              | ret => exact fin (some .ret) k1
              | exit id => exact fin (some (.exit id)) k1
              | goto t => exact fin (some (.goto t)) k1
          | _ => exact (nofail g1).elim
        | _ => exact (nofail g1).elim
    | _ => exact (nofail g1).elim
  | _ => exact (nofail h).elim
def EnAt (P : Program) (w0 : World) (f : Nat) (l : List AV) (t : (AV → Tr) → Tr) : Prop :=
  ∀ (vs : List Value) (k : AV → Tr) (σ : St) (K : Fin) (ρ : Rho) (w : World) (R : Ending → World → Prop), SI σ → Good w0 ρ σ.h w → LR ρ l vs → run (t k) σ K = true →
    (∀ av v σ' ρ' w', run (k av) σ' K = true → SI σ' → Good w0 ρ' σ'.h w' → ρ.le ρ' → VR ρ' av v → R (.returned v) w') →
    (∀ args : Array Value, (callFunc f args).run P w = .ok (.enter f args) w) ∧ CallsIn Fence.wide 0 P f vs.toArray w R
def BlkAt (P : Program) (w0 : World) (fn id : Nat) (t : Nat → T AV → (AEx → T AV → Tr) → Tr) : Prop :=
  ∀ (c : Code) (env : T AV) (nt : Nat) (k : XK) (σ : St) (K : Fin) (ρ : Rho) (w : World) (a : Act) (Q : Exit → Act → World → Prop), SI σ → Good w0 ρ σ.h w → ER ρ nt env a.tmps → a.defers = [] →
    run (t nt env fun ex env => k ex env []) σ K = true → XNxt w0 ρ K nt k Q → (∃ f b, P.funcs[fn]? = some f ∧ f.body = some b ∧ SubC (.block id c) b) → (Code.block id c).wpIn (fR none) 0 P Q a w
structure TabOk (P : Program) (M : Tab) : Prop where
  memos : ∀ m ∈ M.memos, MemoOk P m
  con : ∀ w0 f l t, M.con f l = some t → EnAt P w0 f l t
  blk : ∀ w0 fn id t, M.blk fn id = some t → BlkAt P w0 fn id t
theorem tab_of {P : Program} {l : List Memo} (h : ∀ m ∈ l, MemoOk P m) : TabOk P (Tab.of l) where
  memos := h
  con := fun _ _ _ _ e => by cases e
  blk := fun _ _ _ _ e => by cases e
theorem callT_ok {M : Tab} (hM : TabOk P M) {en : Enter} (hen : EnOk P w0 en) : EnOk P w0 (callT P M en) := by
  intro f l vs k σ K ρ w R hS hG hl h hR
  have h : run (oel (M.con f l) (callM P M.memos en f l k) fun t => t k) σ K = true := h
  cases hc : M.con f l with
  | none => rw [hc] at h; exact callM_ok hM.memos hen f l vs k σ K ρ w R hS hG hl h hR
  | some t => rw [hc] at h; exact hM.con w0 f l t hc vs k σ K ρ w R hS hG hl h hR
theorem text_of_text {M : Tab} (hM : TabOk P M) {x : X} (hx : ExOk P w0 x) (hl : LpOk P w0 x) : ExOk P w0 (FX P M x) := by
  intro c env nt f df k σ K ρ w a Q rnd rd hW hS hG hE hD h hQ hC
  have here : ∀ {ex : AEx}, run (k ex env df) σ K = true → Q (cvX ex) a w := fun h => hQ _ env df σ ρ w a h hS hG (Rho.le.refl ρ) hE hD
  cases c with
  | skip => exact wpIn_skip (here (ex := .normal) h)
  | label l => exact wpIn_label (here (ex := .normal) h)
  | ret => exact wpIn_ret (here (ex := .ret) h)
  | exit id => exact wpIn_exit (here (ex := .exit id) h)
  | goto l => exact wpIn_goto (here (ex := .goto l) h)
  | region id ops draw =>
    cases draw with
    | true =>
      obtain ⟨hm, h⟩ := bifT h
      obtain ⟨hnt, h⟩ := bifT h
      obtain ⟨htm, h⟩ := bifT h
      exact draw_ok (callT_ok hM (callF_ok hx)) (roundF_ok hx) (bleT hnt) hm ρ a.defers (fun env' σ' ρ' a' w' h1 h2 h3 h4 h5 h6 => hQ .normal env' df σ' ρ' w' a' h1 h2 h3 h4 h5 (by rw [h6]; exact hD.mono h4)) htm h hS hG (Rho.le.refl ρ) hE rfl id
    | false =>
      refine wpIn_region_list (opsK_ok (callT_ok hM (callF_ok hx)) (roundF_ok hx) ρ a.defers (fun env' σ' ρ' a' w' h1 h2 h3 h4 h5 h6 => ?_) _ env σ ρ a w h hS hG (Rho.le.refl ρ) hE rfl)
      exact hQ .normal env' df σ' ρ' w' a' h1 h2 h3 h4 h5 (by rw [h6]; exact hD.mono h4)
  | seq c d =>
    refine wpIn_seq (hx c env nt f df _ σ K ρ w a _ rnd rd hW hS hG hE hD h (fun ex env' df' σ' ρ' w' a' h1 h2 h3 h4 h5 h6 => ?_) (hC.sub (fun _ => .seqL) rfl))
    cases ex with
    | normal => exact hx d env' nt f df' k σ' K ρ' w' a' Q rnd rd (hW.mono h4) h2 h3 h5 h6 h1 (fun ex2 env2 df2 σ2 ρ2 w2 a2 g1 g2 g3 g4 g5 g6 => hQ ex2 env2 df2 σ2 ρ2 w2 a2 g1 g2 g3 (h4.trans g4) g5 g6) (hC.sub (fun _ => .seqR) rfl)
    | exit id => exact hQ (.exit id) env' df' σ' ρ' w' a' h1 h2 h3 h4 h5 h6
    | goto l => exact hQ (.goto l) env' df' σ' ρ' w' a' h1 h2 h3 h4 h5 h6
    | ret => exact hQ .ret env' df' σ' ρ' w' a' h1 h2 h3 h4 h5 h6
  | cond x c d =>
    obtain ⟨av, σ1, e1, hS1, h, hv⟩ := ev_ok hS hG hE h
    have hG1 : Good w0 ρ σ1.h w := by rw [e1]; exact hG
    obtain ⟨b, hxv, ht, he⟩ := condT hv h
    refine wpIn_cond hxv ?_
    cases b with
    | true => exact hx c env nt f df k σ1 K ρ w a Q rnd rd hW hS1 hG1 hE hD (ht rfl) hQ (hC.sub (fun _ => .condL) rfl)
    | false => exact hx d env nt f df k σ1 K ρ w a Q rnd rd hW hS1 hG1 hE hD (he rfl) hQ (hC.sub (fun _ => .condR) rfl)
  | block id c =>
    cases hc : (match rnd, df with | none, [] => M.blk f id | _, _ => none) with
    | some t =>
      have h : run (oel (match rnd, df with | none, [] => M.blk f id | _, _ => none) (x c env nt f rnd df fun ex env df => (match ex with
        | .exit id' => bif' (Nat.beq id' id) (k .normal env df) (k (.exit id') env df)
        | ex => k ex env df)) fun t => t nt env fun ex env => k ex env df) σ K = true := h
      rw [hc] at h
      cases rnd with
      | some _ => cases hc
      | none =>
        cases df with
        | cons _ _ => cases hc
        | nil =>
          have hd0 : a.defers = [] := by
            cases hd : a.defers with
            | nil => rfl
            | cons _ _ => rw [hd] at hD; exact hD.elim
          have hW : rd = none := hW
          subst hW
          refine hM.blk w0 f id t hc c env nt k σ K ρ w a Q hS hG hE hd0 h hQ ?_
          rcases hC rfl with hj | hj
          · cases hj
          · exact hj
    | none =>
    have h : run (oel (match rnd, df with | none, [] => M.blk f id | _, _ => none) (x c env nt f rnd df fun ex env df => (match ex with
      | .exit id' => bif' (Nat.beq id' id) (k .normal env df) (k (.exit id') env df)
      | ex => k ex env df)) fun t => t nt env fun ex env => k ex env df) σ K = true := h
    rw [hc] at h
    refine wpIn_block (hx c env nt f df _ σ K ρ w a _ rnd rd hW hS hG hE hD h (fun ex env' df' σ' ρ' w' a' h1 h2 h3 h4 h5 h6 => ?_) (hC.sub (fun _ => .block) rfl))
    cases ex with
    | normal => exact hQ .normal env' df' σ' ρ' w' a' h1 h2 h3 h4 h5 h6
    | exit id' =>
      rcases bif2 h1 with ⟨e, h1'⟩ | ⟨e, h1'⟩
      · have e := beqT e
        show (if id' = id then Q .normal a' w' else Q (.exit id') a' w')
        rw [if_pos e]
        exact hQ .normal env' df' σ' ρ' w' a' h1' h2 h3 h4 h5 h6
      · show (if id' = id then Q .normal a' w' else Q (.exit id') a' w')
        rw [if_neg (fun e' => by subst e'; simp at e)]
        exact hQ (.exit id') env' df' σ' ρ' w' a' h1' h2 h3 h4 h5 h6
    | goto l => exact hQ (.goto l) env' df' σ' ρ' w' a' h1 h2 h3 h4 h5 h6
    | ret => exact hQ .ret env' df' σ' ρ' w' a' h1 h2 h3 h4 h5 h6
  | loop c => exact loop_wp (loop_of_text hx hl c env nt f df k σ K ρ w a Q rnd rd hW hS hG hE hD h hQ hC)
  | rangeFunc g ps as bd => exact range_wp hx hW hS hG hE hD h hQ
  | _ => exact (nofail h).elim
end
end Go.Sym
namespace Go.Sym
open Go.RowKit (Below)
set_option linter.unusedVariables false
theorem exec_ok (P : Program) {M : Tab} (hM : TabOk P M) (w0 : World) : ∀ n : Nat, ExOk P w0 (exec P M n) ∧ LpOk P w0 (exec P M n) := by
  intro n
  induction n with
  | zero => exact ⟨fun c env nt f df k σ K ρ w a Q rnd rd hW hS hG hE hD h hQ hC => (nofail h).elim, fun c env nt f df k σ K ρ w a Q rnd rd hW hS hG hE hD h hQ hC => (nofail h).elim⟩
  | succ n ih => exact ⟨text_of_text hM ih.1 ih.2, loop_of_text ih.1 ih.2⟩
theorem start_SI {H : T ABlk} {next : Nat} (h1 : 1 ≤ next) (h2 : next ≤ 1000000001) : SI (start H next) :=
  ⟨h1, h2, Nat.zero_le _, by simp, fun y hy => by simp [T.get] at hy⟩
def rhoV (v : Nat → Value) : Rho := ⟨fun _ _ => none, v, fun _ => False, fun _ => none, fun _ => none⟩
theorem goodV (v : Nat → Value) (w : World) : Good w (rhoV v) .leaf w :=
  ⟨Kept.refl _ _ _, (fun b x h => by simp [T.get] at h), (fun b g h hh => by cases hh), (fun b g h b' g' h' hh => by cases hh), (fun b g h x hh => by cases hh), (fun b arr ty hh => by cases hh), (fun b x hh => by cases hh)⟩
theorem calls_any {P : Program} {M : Tab} (hM : TabOk P M) {fuel f next : Nat} {H : T ABlk} {avs : List AV} {K : Fin} {ρ : Rho} {w : World} {vs : List Value} {R : Ending → World → Prop} (h : run (callF P (exec P M fuel) f avs .ret) (start H next) K = true) (h1 : 1 ≤ next) (h2 : next ≤ 1000000001)
    (hG : Good w ρ H w) (hown : ∀ x, ¬ ρ.own x) (hl : LR ρ avs vs) (hR : ∀ av v σ' ρ' w', K av σ' = true → Below w.heap.size w w' → VR ρ' av v → R (.returned v) w') : Calls P f vs.toArray w R :=
  callsIn_wide.1 ((callF_ok (exec_ok P hM w fuel).1 f avs vs .ret (start H next) K ρ w R (start_SI h1 h2) hG hl h fun av v σ' ρ' w' q1 q2 q3 q4 q5 => hR av v σ' ρ' w' q1 (q3.below.below fun x => by rw [q4.own]; exact hown x) q5).2)
theorem noTab (P : Program) : TabOk P (Tab.of []) := tab_of fun m h => by cases h
theorem sameA_VR : ∀ (f : Nat) (x y : AV), sameA f x y = true → ∀ (ρ ρ' : Rho) (v : Value), VR ρ x v → VR ρ' y v := by
  intro f
  induction f with
  | zero => intro x y h; simp [sameA] at h
  | succ f ih =>
    intro x y h ρ ρ' v hv
    unfold sameA at h
    split at h
    · cases hv
      have e := of_decide_eq_true (show decide (_ = _) = true by simpa using h)
      rw [e]; exact .bool _
    · rename_i j a j' b
      cases hv
      obtain ⟨h1, h2⟩ := bif'_true h
      have h1 := of_decide_eq_true h1
      have h2 : a = b := by simpa using h2
      subst h1; subst h2
      exact .int _ _
    · cases hv
      have e := (eqL_iff _ _).1 h
      rw [← e]; exact .str _
    · rename_i a b
      cases hv with
      | agg _ cs h1 h2 =>
        have key : ∀ (a b : List AV) (vs : List Value), sameA.sameAll (sameA f) a b = true → LR ρ a vs → LR ρ' b vs := by
          intro a
          induction a with
          | nil =>
            intro b vs h hl
            cases b with
            | nil => rw [hl.nil_inv]; exact LR.nil _
            | cons _ _ => simp [sameA.sameAll] at h
          | cons x a iha =>
            intro b vs h hl
            cases b with
            | nil => simp [sameA.sameAll] at h
            | cons y b =>
              obtain ⟨u, vs', rfl, hu, hl'⟩ := hl.cons_inv
              have h : bif' (sameA f x y) (sameA.sameAll (sameA f) a b) false = true := h
              obtain ⟨g1, g2⟩ := bif'_true h
              exact LR.cons (ih x y g1 ρ ρ' u hu) (iha b vs' g2 hl')
        obtain ⟨q1, q2⟩ := (key a b cs.toList h (LR.of_arr h1 h2)).arr
        exact .agg _ _ q1 q2
    · cases h
theorem memo0_ok {P : Program} {M : Tab} (hM : TabOk P M) {fuel f : Nat} {res : AV} (h : runsMemo0 P M fuel f res = true) : MemoOk P (.mk f (some 0) [] res) := by
  intro w
  exact calls_any (avs := []) (vs := []) hM h (by decide) (by decide) (goodV (fun _ => undef) w) (fun _ h => h) (LR.nil _) fun av v σ' ρ' w' q1 q3 q5 =>
    ⟨v, rfl, fun ρ => sameA_VR 8 av res q1 ρ' ρ v q5, q3⟩
end Go.Sym
namespace Go.Sym
open Go.RowKit (Below)
set_option linter.unusedVariables false
def EvTo (r : Fin → Bool) (Φ : AV → St → Prop) : Prop := ∃ a σ, (∀ K, r K = K a σ) ∧ Φ a σ
def Stop (p : Prop) : Prop := p
theorem EvTo.done {Φ : AV → St → Prop} {a : AV} {σ : St} (h : Stop (Φ a σ)) : EvTo (fun K => K a σ) Φ := ⟨a, σ, fun _ => rfl, h⟩
theorem EvTo.ask {p : Prop} {f g : Fin → Bool} {Φ : AV → St → Prop} (h1 : p → EvTo f Φ) (h2 : ¬ p → EvTo g Φ) : EvTo (fun K => dP ((p → f K = true) ∧ (¬ p → g K = true))) Φ := by
  by_cases hp : p
  · obtain ⟨a, σ, e, h⟩ := h1 hp
    refine ⟨a, σ, fun K => ?_, h⟩
    rw [← e K, Bool.eq_iff_iff, dP_iff]
    exact ⟨fun q => q.1 hp, fun q => ⟨fun _ => q, fun n => absurd hp n⟩⟩
  · obtain ⟨a, σ, e, h⟩ := h2 hp
    refine ⟨a, σ, fun K => ?_, h⟩
    rw [← e K, Bool.eq_iff_iff, dP_iff]
    exact ⟨fun q => q.2 hp, fun q => ⟨fun n => absurd n hp, fun _ => q⟩⟩
theorem EvTo.yes {p : Prop} {f g : Fin → Bool} {Φ : AV → St → Prop} (hp : p) (h : EvTo f Φ) : EvTo (fun K => dP ((p → f K = true) ∧ (¬ p → g K = true))) Φ := EvTo.ask (fun _ => h) fun n => absurd hp n
theorem EvTo.no {p : Prop} {f g : Fin → Bool} {Φ : AV → St → Prop} (hp : ¬ p) (h : EvTo g Φ) : EvTo (fun K => dP ((p → f K = true) ∧ (¬ p → g K = true))) Φ := EvTo.ask (fun n => absurd n hp) fun _ => h
theorem EvTo.req {p : Prop} {f : Fin → Bool} {Φ : AV → St → Prop} (hp : p) (h : EvTo f Φ) : EvTo (fun K => dP (p ∧ f K = true)) Φ := by
  obtain ⟨a, σ, e, h⟩ := h
  refine ⟨a, σ, fun K => ?_, h⟩
  rw [← e K, Bool.eq_iff_iff, dP_iff]
  exact ⟨fun q => q.2, fun q => ⟨hp, q⟩⟩
theorem EvTo.mono {r : Fin → Bool} {Φ Ψ : AV → St → Prop} (h : EvTo r Φ) (hi : ∀ a σ, Φ a σ → Ψ a σ) : EvTo r Ψ := by
  obtain ⟨a, σ, e, q⟩ := h
  exact ⟨a, σ, e, hi a σ q⟩
end Go.Sym
