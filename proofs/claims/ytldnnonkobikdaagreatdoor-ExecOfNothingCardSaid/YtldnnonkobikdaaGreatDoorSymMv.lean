/- SYM, part Mv: from the blocks of one state to those of another one; SYM, part Co: what a call does, told ahead: handed on wherever what it asks is there. -/
import Derived.Test.YtldnnonkobikdaaGreatDoorSymSh
namespace Go.Sym
open Go.RowKit (Below)
set_option linter.unusedVariables false
def hl : AV → Bool
  | .bool _ => true | .int _ _ => true | .str _ => true | .nilp => true | .nils => true | .sI _ _ => true | .sB _ => true | .sS _ => true | .any1 => true | .cv _ => true
  | _ => false
theorem hl_mono {ρ ρ' : Rho} {a : AV} {v : Value} (hf : ∀ b x, ρ.frz b = some x → ρ'.frz b = some x) (h : VR ρ a v) : hl a = true → VR ρ' a v := by
  induction h with
  | bool b => intro _; exact .bool b
  | int k n => intro _; exact .int k n
  | str s => intro _; exact .str s
  | nilp => intro _; exact .nilp
  | nils => intro _; exact .nils
  | sI k n => intro _; exact .sI k n
  | sB p b h => intro _; exact .sB p b h
  | sS s => intro _; exact .sS s
  | any1 v h => intro _; exact .any1 v h
  | cv c blk off cp arr ty hfz hc hb r ih =>
    intro _
    refine .cv c blk off cp arr ty (hf _ _ hfz) hc hb fun i j a v hi ha hv => ih i j a v hi ha hv ?_
    cases c with
    | bytes s =>
      cases j with
      | zero => simp [Ct.row] at ha; subst ha; rfl
      | succ j => simp [Ct.row] at ha
    | rows m l =>
      have key : ∀ (xs : List Sc) (g : G) (q : Nat), ∀ a ∈ dcells xs g q, hl a = true := by
        intro xs
        induction xs with
        | nil => intro g q a h; cases h
        | cons x xs ihx =>
          intro g q a h
          rcases List.mem_append.1 h with h | h
          · cases x <;> simp [scCells] at h
            case h n => obtain ⟨i, _, e⟩ := h; rw [← e]; rfl
            all_goals (subst h; rfl)
          · exact ihx _ _ a h
      exact key _ _ _ a (List.mem_of_getElem? ha)
  | cvnil c h => intro _; exact .cvnil c h
  | cvempty c a h => intro _; exact .cvempty c a h
  | _ => intro h; cases h
theorem row_hl {c : Ct} {i j : Nat} {a : AV} (ha : (c.row i)[j]? = some a) : hl a = true := by
  cases c with
  | bytes s =>
    cases j with
    | zero => simp [Ct.row] at ha; subst ha; rfl
    | succ j => simp [Ct.row] at ha
  | rows m l =>
    have key : ∀ (xs : List Sc) (g : G) (q : Nat), ∀ a ∈ dcells xs g q, hl a = true := by
      intro xs
      induction xs with
      | nil => intro g q a h; cases h
      | cons x xs ihx =>
        intro g q a h
        rcases List.mem_append.1 h with h | h
        · cases x <;> simp [scCells] at h
          case h n => obtain ⟨i, _, e⟩ := h; rw [← e]; rfl
          all_goals (subst h; rfl)
        · exact ihx _ _ a h
    exact key _ _ _ a (List.mem_of_getElem? ha)
theorem VR.into {ρ ρ' : Rho} (h1 : ∀ b g h, ρ.at_ b g = some h → ρ'.at_ b g = some h) (h2 : ρ'.val = ρ.val) (h3 : ∀ b x, ρ.frz b = some x → ρ'.frz b = some x) {a : AV} {v : Value} (h : VR ρ a v) : VR ρ' a v := by
  have sl : ∀ {b g o len : Nat} {cap : Option Nat} {es : Nat} {a : Addr} {c : Nat}, SlOk ρ b g o len cap es a c → SlOk ρ' b g o len cap es a c := by
    intro b g o len cap es a c h
    refine ⟨h.1, ?_⟩
    have h2 := h.2
    cases cap with
    | some k => obtain ⟨e, x, hx, r⟩ := h2; exact ⟨e, x, h1 _ _ _ hx, r⟩
    | none =>
      rcases h2 with h2 | ⟨x, hx, r⟩
      · exact .inl h2
      · exact .inr ⟨x, h1 _ _ _ hx, r⟩
  induction h with
  | bool b => exact .bool b
  | int k n => exact .int k n
  | str s => exact .str s
  | nilp => exact .nilp
  | ptr b g o h hh ho => exact .ptr b g o h (h1 _ _ _ hh) ho
  | nils => exact .nils
  | slc b g o len cap es a c h => exact .slc b g o len cap es a c (sl h)
  | nilm => exact .nilm
  | map b h hh => exact .map b h (h1 _ _ _ hh)
  | func fn l m first captured e1 e2 r1 r2 hf i1 i2 => exact .func fn l m first captured e1 e2 i1 i2 hf
  | yld b h hh => exact .yld b h (h1 _ _ _ hh)
  | nilf => exact .nilf
  | iface t x v h ih => exact .iface t x v ih
  | nili => exact .nili
  | agg l cs h r ih => exact .agg l cs h ih
  | tup l cs h r ih => exact .tup l cs h ih
  | opq n => rw [← h2]; exact .opq n
  | opc n h => rw [← h2]; exact .opc n (by rw [h2]; exact h)
  | anyB b => exact .anyB b
  | anyI k n => exact .anyI k n
  | osl n base len cap h => exact .osl n base len cap (by rw [h2]; exact h)
  | sI k n => exact .sI k n
  | sB p b h => exact .sB p b h
  | sS s => exact .sS s
  | any1 v h => exact .any1 v h
  | cptr l blk off arr ty hf hb r ih => exact .cptr l blk off arr ty (h3 _ _ hf) hb ih
  | cv c blk off cp arr ty hf hc hb r ih => exact .cv c blk off cp arr ty (h3 _ _ hf) hc hb ih
  | cvnil c h => exact .cvnil c h
  | cvempty c a h => exact .cvempty c a h
  | gsl b g n es h c hn hh hs hc hz => exact .gsl b g n es h c hn (h1 _ _ _ hh) hs hc hz
  | gnil b g es => exact .gnil b g es
  | gempty b g es a => exact .gempty b g es a
  | gptr b g i o es h hh hs => exact .gptr b g i o es h (h1 _ _ _ hh) hs
theorem puts_get (γ : Loc) (y : Sy) : ∀ (l : List Sh) (i : Nat), (puts γ y l)[i]? = (l[i]?).map (put γ y) := by
  intro l
  induction l with
  | nil => intro i; rfl
  | cons x l ih => intro i; cases i with
    | zero => rfl
    | succ i => exact ih i
theorem puts_len (γ : Loc) (y : Sy) : ∀ (l : List Sh), (puts γ y l).length = l.length := by
  intro l
  induction l with
  | nil => rfl
  | cons x l ih => show (put γ y x :: puts γ y l).length = _; simp [ih]
theorem rowOf_get : ∀ (l : List AV) (i : Nat) (t : T Cell) (o : Nat) (x : Cell), (rowOf l i t).get o = some x →
    (∃ (j : Nat) (a : AV), o = i + j ∧ l[j]? = some a ∧ x = .mk 0 a) ∨ (t.get o = some x ∧ (o < i ∨ i + l.length ≤ o)) := by
  intro l
  induction l with
  | nil => intro i t o x h; exact .inr ⟨h, by simp; omega⟩
  | cons a l ih =>
    intro i t o x h
    rcases ih (i + 1) (t.set i (.mk 0 a)) o x h with ⟨j, b, e, hb, hx⟩ | ⟨hx, ho⟩
    · exact .inl ⟨j + 1, b, by omega, by simpa using hb, hx⟩
    · by_cases e : o = i
      · subst e
        have := T.get_set_some _ _ hx
        exact .inl ⟨0, a, by omega, rfl, this⟩
      · rw [T.get_set_ne _ e] at hx
        exact .inr ⟨hx, by simp at ho ⊢; omega⟩
theorem putH_get {γ : Loc} {y : Sy} : ∀ (l : List BSh) (j : Nat) (H : T ABlk) (b : Nat) (X : ABlk), (putH γ y l j H).get b = some X →
    (∃ i x, l[i]? = some x ∧ b = (γ (j + i)).1 ∧ X = putB γ y (j + i) x) ∨ (H.get b = some X ∧ ∀ i, i < l.length → b ≠ (γ (j + i)).1) := by
  intro l
  induction l with
  | nil => intro j H b X h; exact .inr ⟨h, fun i hi => by simp at hi⟩
  | cons x l ih =>
    intro j H b X h
    rcases ih (j + 1) _ b X h with ⟨i, x', h1, h2, h3⟩ | ⟨h1, h2⟩
    · exact .inl ⟨i + 1, x', by simpa using h1, by rw [h2]; congr 2; omega, by rw [h3]; congr 1; omega⟩
    · by_cases e : b = (γ j).1
      · subst e
        have := T.get_set_some _ _ h1
        exact .inl ⟨0, x, rfl, rfl, this⟩
      · rw [T.get_set_ne _ e] at h1
        refine .inr ⟨h1, fun i hi => ?_⟩
        cases i with
        | zero => exact e
        | succ i => have := h2 i (by simpa using hi); rwa [show j + 1 + i = j + (i + 1) by omega] at this
theorem putH_has {γ : Loc} {y : Sy} : ∀ (l : List BSh) (j : Nat) (H : T ABlk) (i : Nat) (x : BSh), l[i]? = some x → (∀ i, i < l.length → (γ (j + i)).1 + 1 < 2 ^ 64) →
    (∀ a b, a < l.length → b < l.length → (γ (j + a)).1 = (γ (j + b)).1 → a = b) → (putH γ y l j H).get (γ (j + i)).1 = some (putB γ y (j + i) x) := by
  intro l
  induction l with
  | nil => intro j H i x h; simp at h
  | cons z l ih =>
    intro j H i x h h64 hinj
    cases i with
    | zero =>
      simp at h; subst h
      have keep : ∀ (l : List BSh) (j' : Nat) (H : T ABlk), (∀ i, i < l.length → (γ (j' + i)).1 ≠ (γ j).1) → (putH γ y l j' H).get (γ j).1 = H.get (γ j).1 := by
        intro l
        induction l with
        | nil => intro j' H _; rfl
        | cons q l ihl =>
          intro j' H hne
          show (putH γ y l (j' + 1) (H.set (γ j').1 (putB γ y j' q))).get (γ j).1 = _
          rw [ihl (j' + 1) _ (fun i hi => by have := hne (i + 1) (by simpa using hi); rwa [show j' + (i + 1) = j' + 1 + i by omega] at this), T.get_set_ne _ (Ne.symm (show (γ j').1 ≠ (γ j).1 from hne 0 (by simp)))]
      show (putH γ y l (j + 1) (H.set (γ j).1 (putB γ y j z))).get (γ j).1 = _
      rw [keep l (j + 1) _ (fun i hi e => by
        have := hinj (i + 1) 0 (by simpa using hi) (by simp) (by rw [show j + (i + 1) = j + 1 + i by omega]; exact e)
        omega), T.get_set_same _ _ _ (show (γ j).1 + 1 < 2 ^ 64 from h64 0 (by simp))]
      rfl
    | succ i =>
      have := ih (j + 1) (H.set (γ j).1 (putB γ y j z)) i x (by simpa using h) (fun i hi => by have := h64 (i + 1) (by simpa using hi); rwa [show j + (i + 1) = j + 1 + i by omega] at this) (fun a b ha hb e => by
        have := hinj (a + 1) (b + 1) (by simpa using ha) (by simpa using hb) (by rw [show j + (a + 1) = j + 1 + a by omega, show j + (b + 1) = j + 1 + b by omega]; exact e)
        omega)
      rw [show j + (i + 1) = j + 1 + i by omega]
      exact this
section
variable (ρ : Rho) (H : T ABlk) (w wf : World) (L : Nat → Option (Nat × Nat)) (γ : Loc) (n : Nat) (own : Nat → Prop) (frz0 : Nat → Option (Array Value × TypeId))
def homeJ (j : Nat) : Option Home := match L j with
  | some (b, g) => (match H.get b with
    | some (.grow c _ _) => if c.len = 0 then none else ρ.at_ b g
    | _ => ρ.at_ b g)
  | none => none
open Classical in
noncomputable def atT (b' g' : Nat) : Option Home := if h : ∃ j, j < n ∧ (γ j).1 = b' ∧ (γ j).2 = g' then homeJ ρ H L (Classical.choose h) else none
open Classical in
noncomputable def frzT (blk : Nat) : Option (Array Value × TypeId) := match ρ.frz blk with
  | some x => some x
  | none => if wf.heap.size ≤ blk ∧ ∀ j h, homeJ ρ H L j = some h → h.blk ≠ blk then (match w.heap[blk]? with | some (.cells arr ty _) => some (arr, ty) | _ => none) else none
noncomputable def rhoT : Rho := ⟨atT ρ H L γ n, ρ.val, own, frzT ρ H w wf L, frz0⟩
end
structure MvHyp (w0 : World) (ρ : Rho) (H F : T ABlk) (w wf wb : World) (L : Nat → Option (Nat × Nat)) (γ : Loc) (blk : List BSh) (y : Sy) (own : Nat → Prop) (frz0 : Nat → Option (Array Value × TypeId)) : Prop where
  good : Good w0 ρ H w
  hb : ∀ j x, blk[j]? = some x → ∃ b g, L j = some (b, g) ∧ ∃ q, H.get b = some q ∧ BT ρ F blk L y x q g
  dom : ∀ j p, L j = some p → j < blk.length
  linj : ∀ j j' b g g', L j = some (b, g) → L j' = some (b, g') → j = j'
  ginj : ∀ a b, a < blk.length → b < blk.length → (γ a).1 = (γ b).1 → a = b
  g64 : ∀ j, j < blk.length → (γ j).1 + 1 < 2 ^ 64
  g0 : ∀ j ty l, blk[j]? = some (.cells ty l) → (γ j).2 = 0
  kept : Kept own wb.heap.size wb w
  owns : ∀ j h, homeJ ρ H L j = some h → Own ρ w0.heap.size h.blk → wb.heap.size ≤ h.blk ∨ own h.blk
  frF : ∀ b x, base + 64 ≤ b → F.get b = some x → H.get b = some x ∧ (∀ j g, L j ≠ some (b, g)) ∧ ∀ g h, ρ.at_ b g = some h → Own ρ w0.heap.size h.blk → wf.heap.size ≤ h.blk
  frz : ∀ b x, frzT ρ H w wf L b = some x → b < wb.heap.size → frz0 b = some x
section
variable {w0 : World} {ρ : Rho} {H F : T ABlk} {w wf wb : World} {L : Nat → Option (Nat × Nat)} {γ : Loc} {blk : List BSh} {y : Sy} {own : Nat → Prop} {frz0 : Nat → Option (Array Value × TypeId)}
theorem homeJ_at {j : Nat} {h : Home} (hh : homeJ ρ H L j = some h) : ∃ b g, L j = some (b, g) ∧ ρ.at_ b g = some h := by
  unfold homeJ at hh
  split at hh
  · rename_i b g e
    split at hh
    · split at hh
      · cases hh
      · exact ⟨b, g, e, hh⟩
    · exact ⟨b, g, e, hh⟩
  · cases hh
theorem atT_of (hm : MvHyp w0 ρ H F w wf wb L γ blk y own frz0) {j : Nat} (hj : j < blk.length) : atT ρ H L γ blk.length (γ j).1 (γ j).2 = homeJ ρ H L j := by
  unfold atT
  have he : ∃ j', j' < blk.length ∧ (γ j').1 = (γ j).1 ∧ (γ j').2 = (γ j).2 := ⟨j, hj, rfl, rfl⟩
  rw [dif_pos he]
  obtain ⟨h1, h2, h3⟩ := Classical.choose_spec he
  rw [hm.ginj _ _ h1 hj h2]
theorem atT_inv {b g : Nat} {h : Home} (hh : atT ρ H L γ blk.length b g = some h) : ∃ j, j < blk.length ∧ (γ j).1 = b ∧ (γ j).2 = g ∧ homeJ ρ H L j = some h := by
  unfold atT at hh
  split at hh
  · rename_i he
    obtain ⟨h1, h2, h3⟩ := Classical.choose_spec he
    exact ⟨_, h1, h2, h3, hh⟩
  · cases hh
theorem frzT_old {b : Nat} {x : Array Value × TypeId} (h : ρ.frz b = some x) : frzT ρ H w wf L b = some x := by unfold frzT; rw [h]
theorem frzT_new (hm : MvHyp w0 ρ H F w wf wb L γ blk y own frz0) {b g : Nat} {h : Home} {arr : Array Value} {ty : TypeId} {fr : Nat × Nat} (hh : ρ.at_ b g = some h) (hL : ∀ j g, L j ≠ some (b, g)) (hb : wf.heap.size ≤ h.blk)
    (hw : w.heap[h.blk]? = some (.cells arr ty fr)) : frzT ρ H w wf L h.blk = some (arr, ty) := by
  unfold frzT
  cases hf : ρ.frz h.blk with
  | some x => exact absurd rfl ((hm.good.frz h.blk x.1 x.2 hf).2 b g h hh)
  | none =>
    have : wf.heap.size ≤ h.blk ∧ ∀ j h', homeJ ρ H L j = some h' → h'.blk ≠ h.blk := ⟨hb, fun j h' hj e => by
      obtain ⟨b', g', e1, e2⟩ := homeJ_at hj
      have := (hm.good.inj _ _ _ _ _ _ e2 hh e).1
      subst this
      exact hL _ _ e1⟩
    simp only [if_pos this, hw]
theorem isCells_get {j : Nat} (h : isCells blk j = true) : ∃ ty l, blk[j]? = some (.cells ty l) := by
  unfold isCells at h
  split at h
  · exact ⟨_, _, by assumption⟩
  · cases h
theorem RdC.vr (hm : MvHyp w0 ρ H F w wf wb L γ blk y own frz0) {ct : Ct} {a : AV} {v : Value} (h : RdC F ct a) (hv : VR ρ a v) : VR (rhoT ρ H w wf L γ blk.length own frz0) (.cv ct) v := by
  have hfm : ∀ b x, ρ.frz b = some x → (rhoT ρ H w wf L γ blk.length own frz0).frz b = some x := fun b x h => frzT_old h
  rcases h with ⟨e, h0⟩ | e | ⟨b, g, es, ty, e, hb, hF⟩ | ⟨b, g, o, cap, c, gen, lo, hi, fl, fh, ty, as, e, hb, hF, hg, h1, h2, hl, hr⟩
  · subst e
    cases hv
    exact .cvnil _ h0
  · subst e
    exact hl_mono hfm hv rfl
  · subst e
    obtain ⟨q1, q2, q3⟩ := hm.frF _ _ hb hF
    generalize hnn : ct.len = nn at hv
    cases hv with
    | gnil _ _ _ => exact .cvnil _ hnn
    | gempty _ _ _ a => exact .cvempty _ a hnn
    | gsl _ _ _ _ h c hn hh hs hc hz =>
      subst hnn
      rcases hm.good.blk _ _ q1 with h0 | ⟨h', r1, r2, r3, arr, fr, r4, r5, r6, r7, r8⟩
      · omega
      rw [hh] at r1; injection r1 with r1; subst r1
      refine .cv ct h.blk 0 c arr ty (frzT_new hm hh q2 (q3 _ _ hh r3) r4) hc (by omega) fun i j a v hi ha hv => ?_
      obtain ⟨u, u1, u2⟩ := r8 i hi j a ha
      rw [Nat.zero_add, u1] at hv
      injection hv with hv
      subst hv
      exact hl_mono hfm u2 (row_hl ha)
  · subst e
    obtain ⟨q1, q2, q3⟩ := hm.frF _ _ hb hF
    cases hv with
    | slc _ _ _ _ _ _ ad cp hsl =>
      obtain ⟨hmm, r1, r2, _, arr, fr, r3, r4, r5, r6⟩ := (hm.good.blk _ _ q1).2 g hg
      obtain ⟨hlc, hsl2⟩ := hsl
      have hhome : ∃ h, ρ.at_ b g = some h ∧ h.shift ≤ o ∧ ad = ⟨h.blk, o - h.shift, none⟩ := by
        cases cap with
        | some k => obtain ⟨_, h, x1, x2, x3⟩ := hsl2; exact ⟨h, x1, x2, x3⟩
        | none =>
          rcases hsl2 with hsl2 | ⟨h, x1, x2, x3, _⟩
          · omega
          · exact ⟨h, x1, x2, x3⟩
      obtain ⟨h, x1, x2, x3⟩ := hhome
      rw [x1] at r1; injection r1 with r1; subst r1
      subst x3
      obtain ⟨l1, l2⟩ := lds_ok hl
      have hcell : ∀ j, j < ct.len * ct.es → ∃ a u, as[j]? = some a ∧ arr[o - h.shift + j]? = some u ∧ VR ρ a u := fun j hj => by
        have ha : as[j]? = some (as[j]'(by omega)) := List.getElem?_eq_getElem (by omega)
        obtain ⟨tag, t1, t2⟩ := l2 j _ ha
        obtain ⟨s1, u, s2, s3⟩ := r6 _ _ _ t1 (Nat.le_trans t2 (Nat.le_refl _))
        exact ⟨_, u, ha, by rw [show o - h.shift + j = o + j - h.shift by omega]; exact s2, s3⟩
      have hend : o - h.shift + ct.len * ct.es ≤ arr.size := by
        have hpos : 1 ≤ ct.len * ct.es := Nat.mul_pos h1 h2
        obtain ⟨a, u, _, hu, _⟩ := hcell (ct.len * ct.es - 1) (by omega)
        rcases Nat.lt_or_ge (o - h.shift + (ct.len * ct.es - 1)) arr.size with h' | h'
        · omega
        · rw [Array.getElem?_eq_none h'] at hu; cases hu
      refine .cv ct h.blk (o - h.shift) cp arr ty (frzT_new hm x1 q2 (q3 _ _ x1 (r2 rfl)) r3) hlc hend fun i j a v hi ha hv => ?_
      have hrl := ct.row_len i
      have hj : j < ct.es := by
        rcases Nat.lt_or_ge j ct.es with h' | h'
        · exact h'
        · rw [List.getElem?_eq_none (by omega)] at ha; cases ha
      have hrow : i * ct.es + ct.es ≤ ct.len * ct.es := by rw [← Nat.succ_mul]; exact Nat.mul_le_mul_right _ hi
      have hsrc : ∀ q a0, ((as.drop (i * ct.es)).take ct.es)[q]? = some a0 → ∃ u, arr[o - h.shift + (i * ct.es + q)]? = some u ∧ VR ρ a0 u := fun q a0 hq => by
        rw [List.getElem?_take] at hq
        split at hq
        · rw [List.getElem?_drop] at hq
          obtain ⟨a1, u, e1, e2, e3⟩ := hcell (i * ct.es + q) (by omega)
          rw [hq] at e1
          injection e1 with e1
          subst e1
          exact ⟨u, e2, e3⟩
        · cases hq
      obtain ⟨u, u1, u2⟩ := rows_to (A := fun q => arr[o - h.shift + (i * ct.es + q)]?) hsrc (fun vs => hr i hi ρ vs) j a ha
      rw [Nat.add_assoc] at hv
      have u1 : arr[o - h.shift + (i * ct.es + j)]? = some u := u1
      rw [u1] at hv
      injection hv with hv
      subst hv
      exact hl_mono hfm u2 (row_hl ha)
theorem gslT (hm : MvHyp w0 ρ H F w wf wb L γ blk y own frz0) {j b g n es : Nat} {v : Value} (hL : L j = some (b, g)) (hq : ∀ q, H.get b = some q → ∃ c ty, q = .grow c g ty ∧ c.len = n) (hv : VR ρ (.gsl b g n es) v) :
    VR (rhoT ρ H w wf L γ blk.length own frz0) (.gsl (γ j).1 (γ j).2 n es) v := by
  have hj := hm.dom _ _ hL
  cases hv with
  | gnil _ _ _ => exact .gnil _ _ _
  | gempty _ _ _ a => exact .gempty _ _ _ a
  | gsl _ _ _ _ h c hn hh hs hc hz =>
    refine .gsl _ _ _ _ h c hn ?_ hs hc hz
    show atT ρ H L γ blk.length (γ j).1 (γ j).2 = some h
    rw [atT_of hm hj]
    unfold homeJ
    rw [hL]
    simp only
    split
    · rename_i c' g' ty' e
      obtain ⟨c2, ty2, e2, e3⟩ := hq _ e
      injection e2 with e2
      subst e2
      rw [if_neg (by omega)]; exact hh
    · exact hh
theorem Tv.vr (hm : MvHyp w0 ρ H F w wf wb L γ blk y own frz0) {x : Sh} {a : AV} {v : Value} (h : Tv F blk L y x a) (hv : VR ρ a v) : VR (rhoT ρ H w wf L γ blk.length own frz0) (put γ y x) v := by
  cases x with
  | i k t => have h : numS a = some (k, y.i t) := h; rw [numS_inv hv h]; exact .sI _ _
  | b t =>
    have h : propS a = some (y.p t) := h
    obtain ⟨b, e, hb⟩ := propS_inv hv h
    rw [e]; exact .sB _ b hb
  | s t =>
    have h : strS a = some (y.s t) := h
    obtain ⟨s, e, hs⟩ := strS_inv hv h
    rw [e]
    show VR _ (.sS (y.s t)) _
    rw [hs]; exact .sS s
  | o => exact .any1 v (oneA_ok hv h)
  | v m t => exact RdC.vr hm h hv
  | vb t => exact RdC.vr hm h hv
  | pi k n => have h : numS a = some (k, n) := h; rw [numS_inv hv h]; exact .sI _ _
  | pb q =>
    obtain ⟨q', h1, h2⟩ := h
    obtain ⟨b, e, hb⟩ := propS_inv hv h1
    rw [e]; exact .sB _ b (hb.trans h2)
  | ps l =>
    have h : strS a = some l := h
    obtain ⟨s, e, hs⟩ := strS_inv hv h
    rw [e]
    show VR _ (.sS l) _
    rw [hs]; exact .sS s
  | pv m l => exact RdC.vr hm h hv
  | pvb l => exact RdC.vr hm h hv
  | np =>
    have h : a = .nilp := h
    subst h
    cases hv
    exact .nilp
  | p j =>
    obtain ⟨b, hL, e, hc⟩ := h
    subst e
    cases hv with
    | ptr _ _ _ h hh ho =>
      obtain ⟨ty, l, hx⟩ := isCells_get hc
      have hj := hm.dom _ _ hL
      obtain ⟨b', g', q1, q, q2, q3⟩ := hm.hb j _ hx
      rw [hL] at q1; injection q1 with q1; injection q1 with q1 q1'
      subst q1; subst q1'
      have hJ : homeJ ρ H L j = some h := by
        obtain ⟨_, c, as, e, _⟩ := q3
        unfold homeJ
        rw [hL]
        simp only [q2, e, hh]
      refine .ptr _ _ _ h ?_ ho
      have := atT_of hm hj
      rw [hm.g0 j ty l hx] at this
      show atT ρ H L γ blk.length (γ j).1 0 = _
      rw [this]; exact hJ
  | g j es t =>
    obtain ⟨b, g, hL, e, m, ty, hx⟩ := h
    subst e
    show VR _ (.gsl (γ j).1 (γ j).2 (y.g t).length es) v
    exact gslT hm hL (fun q hq => by
      obtain ⟨b', g', q1, q', q2, q3⟩ := hm.hb j _ hx
      rw [hL] at q1; injection q1 with q1; injection q1 with q1 q1'
      subst q1; subst q1'
      rw [hq] at q2; injection q2 with q2
      subst q2
      exact ⟨_, _, q3, rfl⟩) hv
  | gb j t =>
    obtain ⟨b, g, hL, e, ty, hx⟩ := h
    subst e
    show VR _ (.gsl (γ j).1 (γ j).2 (y.s t).length 1) v
    exact gslT hm hL (fun q hq => by
      obtain ⟨b', g', q1, q', q2, q3⟩ := hm.hb j _ hx
      rw [hL] at q1; injection q1 with q1; injection q1 with q1 q1'
      subst q1; subst q1'
      rw [hq] at q2; injection q2 with q2
      subst q2
      exact ⟨_, _, q3, rfl⟩) hv
theorem all2_LR {ρ ρ' : Rho} {α : Type} {R : α → AV → Prop} {f : α → AV} {fs : List α → List AV} (hf0 : fs [] = []) (hfs : ∀ x l, fs (x :: l) = f x :: fs l) (hR : ∀ x a v, R x a → VR ρ a v → VR ρ' (f x) v) :
    ∀ {l : List α} {as : List AV} {vs : List Value}, All2 R l as → LR ρ as vs → LR ρ' (fs l) vs
  | [], [], vs, _, h => by rw [hf0, h.nil_inv]; exact LR.nil _
  | x :: l, a :: as, vs, ⟨h1, h2⟩, h => by
    obtain ⟨v, vs', rfl, hv, h'⟩ := h.cons_inv
    rw [hfs]
    exact LR.cons (hR x a v h1 hv) (all2_LR hf0 hfs hR h2 h')
  | [], _ :: _, _, h, _ => h.elim
  | _ :: _, [], _, h, _ => h.elim
theorem Tvs.lr (hm : MvHyp w0 ρ H F w wf wb L γ blk y own frz0) {l : List Sh} {as : List AV} {vs : List Value} (h : All2 (Tv F blk L y) l as) (hv : LR ρ as vs) : LR (rhoT ρ H w wf L γ blk.length own frz0) (puts γ y l) vs :=
  all2_LR rfl (fun _ _ => rfl) (fun _ _ _ h hv => Tv.vr hm h hv) h hv
theorem TvA.vr (hm : MvHyp w0 ρ H F w wf wb L γ blk y own frz0) {x : Sa} {a : AV} {v : Value} (h : TvA F blk L y x a) (hv : VR ρ a v) : VR (rhoT ρ H w wf L γ blk.length own frz0) (putA γ y x) v := by
  cases x with
  | c x => exact Tv.vr hm h hv
  | ag l =>
    obtain ⟨as, e, ha⟩ := h
    subst e
    cases hv with
    | agg _ cs h1 h2 =>
      obtain ⟨q1, q2⟩ := (Tvs.lr hm ha (LR.of_arr h1 h2)).arr
      exact .agg _ cs q1 q2
theorem TvAs.lr (hm : MvHyp w0 ρ H F w wf wb L γ blk y own frz0) {l : List Sa} {as : List AV} {vs : List Value} (h : All2 (TvA F blk L y) l as) (hv : LR ρ as vs) : LR (rhoT ρ H w wf L γ blk.length own frz0) (putAs γ y l) vs :=
  all2_LR rfl (fun _ _ => rfl) (fun _ _ _ h hv => TvA.vr hm h hv) h hv
theorem TvR.vr (hm : MvHyp w0 ρ H F w wf wb L γ blk y own frz0) {x : Sr} {a : AV} {v : Value} (h : TvR F blk L y x a) (hv : VR ρ a v) : VR (rhoT ρ H w wf L γ blk.length own frz0) (putR γ y x) v := by
  cases x with
  | one x => exact TvA.vr hm h hv
  | tu l =>
    obtain ⟨as, e, ha⟩ := h
    subst e
    cases hv with
    | tup _ cs h1 h2 =>
      obtain ⟨q1, q2⟩ := (TvAs.lr hm ha (LR.of_arr h1 h2)).arr
      exact .tup _ cs q1 q2
theorem putB_gOk {j : Nat} {x : BSh} (hg : ∀ ty l, x = .cells ty l → (γ j).2 = 0) : gOk (γ j).2 (putB γ y j x) := by
  cases x with
  | cells ty l => show (γ j).2 ≤ 0; rw [hg ty l rfl]; exact Nat.le_refl _
  | grow m ty t => exact Nat.le_refl _
  | growb ty t => exact Nat.le_refl _
theorem MvHyp.to (hm : MvHyp w0 ρ H F w wf wb L γ blk y own frz0) : Good wb (rhoT ρ H w wf L γ blk.length own frz0) (putH γ y blk 0 .leaf) w := by
  have hfm : ∀ b x, ρ.frz b = some x → (rhoT ρ H w wf L γ blk.length own frz0).frz b = some x := fun b x h => frzT_old h
  have hhas : ∀ j x, blk[j]? = some x → (putH γ y blk 0 .leaf).get (γ j).1 = some (putB γ y j x) := fun j x hx => by
    have := putH_has (γ := γ) (y := y) blk 0 .leaf j x hx (fun i hi => by rw [Nat.zero_add]; exact hm.g64 i hi) (fun a b ha hb e => hm.ginj a b ha hb (by simpa using e))
    simpa using this
  refine ⟨hm.kept, fun b X hX => ?_, fun b' g' h hh => ?_, fun b1 g1 h1 b2 g2 h2 q1 q2 e => ?_, fun b' g' h X hh hX => ?_, fun b arr ty hf => ?_, fun b x hf hlt => ?_⟩
  · rcases putH_get blk 0 .leaf b X hX with ⟨j, x, hx, e1, e2⟩ | ⟨h, _⟩
    case inr => simp [T.get] at h
    rw [Nat.zero_add] at e1 e2
    subst e1; subst e2
    have hj : j < blk.length := by
      rcases Nat.lt_or_ge j blk.length with h' | h'
      · exact h'
      · rw [List.getElem?_eq_none h'] at hx; cases hx
    obtain ⟨b, g, hL, q, hq, hbt⟩ := hm.hb j x hx
    have hat := atT_of hm hj
    have own' : ∀ h, homeJ ρ H L j = some h → Own ρ w0.heap.size h.blk → Own (rhoT ρ H w wf L γ blk.length own frz0) wb.heap.size h.blk := fun h h1 h2 => hm.owns j h h1 h2
    cases x with
    | cells ty l =>
      obtain ⟨eg, c, as, eq, hlen, hcell, hall⟩ := hbt
      subst eg; subst eq
      obtain ⟨hmm, r1, r2, _, arr, fr, r3, r4, r5, r6⟩ := (hm.good.blk _ _ hq).2 0 (Nat.le_refl _)
      have hJ : homeJ ρ H L j = some hmm := by unfold homeJ; rw [hL]; simp only [hq, r1]
      have hz := hm.g0 j ty l hx
      refine ⟨fun o x ho => ?_, fun g hg => ?_⟩
      · rcases rowOf_get _ _ _ _ _ ho with ⟨i, a, e, ha, ex⟩ | ⟨h, _⟩
        · have : i < l.length := by
            rcases Nat.lt_or_ge i l.length with h' | h'
            · exact h'
            · rw [List.getElem?_eq_none (by rw [puts_len]; exact h')] at ha; cases ha
          subst ex
          exact ⟨Nat.zero_le _, by omega, Nat.le_refl _⟩
        · simp [T.get] at h
      · have : g = 0 := by omega
        subst this
        refine ⟨hmm, ?_, fun _ => own' hmm hJ (r2 rfl), (fun h => by cases h), arr, fr, r3, r4, r5, fun o tag a ho _ => ?_⟩
        · rw [hz] at hat
          show atT ρ H L γ blk.length (γ j).1 0 = _
          rw [hat]; exact hJ
        · rcases rowOf_get _ _ _ _ _ ho with ⟨i, a', e, ha, ex⟩ | ⟨h, _⟩
          · injection ex with ex1 ex2
            subst ex1; subst ex2
            rw [puts_get] at ha
            have e : o = i := by omega
            subst e
            cases hli : l[o]? with
            | none => rw [hli] at ha; cases ha
            | some xs =>
              rw [hli] at ha
              injection ha with ha
              subst ha
              have hpair : ∀ {l : List Sh} {as : List AV}, All2 (Tv F blk L y) l as → ∀ (i : Nat) (xs : Sh), l[i]? = some xs → ∃ a, as[i]? = some a ∧ Tv F blk L y xs a := by
                intro l
                induction l with
                | nil => intro as _ i xs h; simp at h
                | cons x l ih =>
                  intro as h i xs hi
                  cases as with
                  | nil => exact h.elim
                  | cons a as => cases i with
                    | zero => simp at hi; subst hi; exact ⟨a, rfl, h.1⟩
                    | succ i => simp at hi; obtain ⟨b, h1, h2⟩ := ih h.2 i xs hi; exact ⟨b, by simpa using h1, h2⟩
              obtain ⟨a1, ha1, ht⟩ := hpair hall o xs hli
              obtain ⟨a0, hc0, hwk⟩ := hcell o a1 ha1
              obtain ⟨s1, u, s2, s3⟩ := r6 o 0 a0 hc0 (Nat.le_refl _)
              exact ⟨s1, u, s2, Tv.vr hm ht (hwk _ s3)⟩
          · simp [T.get] at h
    | grow m ty t =>
      have hbt : q = .grow (.rows m (y.g t)) g ty := hbt
      subst hbt
      rcases Nat.eq_zero_or_pos (Ct.rows m (y.g t)).len with h0 | hpos
      · exact .inl h0
      · rcases hm.good.blk _ _ hq with h0 | ⟨hmm, r1, r2, r3, arr, fr, r4, r5, r6, r7, r8⟩
        · omega
        have hJ : homeJ ρ H L j = some hmm := by unfold homeJ; rw [hL]; simp only [hq]; rw [if_neg (by omega)]; exact r1
        refine .inr ⟨hmm, ?_, r2, own' hmm hJ r3, arr, fr, r4, r5, r6, r7, fun i hi j' a ha => ?_⟩
        · show atT ρ H L γ blk.length (γ j).1 (γ j).2 = _
          rw [hat]; exact hJ
        · obtain ⟨u, u1, u2⟩ := r8 i hi j' a ha
          exact ⟨u, u1, hl_mono hfm u2 (row_hl ha)⟩
    | growb ty t =>
      have hbt : q = .grow (.bytes (y.s t)) g ty := hbt
      subst hbt
      rcases Nat.eq_zero_or_pos (Ct.bytes (y.s t)).len with h0 | hpos
      · exact .inl h0
      · rcases hm.good.blk _ _ hq with h0 | ⟨hmm, r1, r2, r3, arr, fr, r4, r5, r6, r7, r8⟩
        · omega
        have hJ : homeJ ρ H L j = some hmm := by unfold homeJ; rw [hL]; simp only [hq]; rw [if_neg (by omega)]; exact r1
        refine .inr ⟨hmm, ?_, r2, own' hmm hJ r3, arr, fr, r4, r5, r6, r7, fun i hi j' a ha => ?_⟩
        · show atT ρ H L γ blk.length (γ j).1 (γ j).2 = _
          rw [hat]; exact hJ
        · obtain ⟨u, u1, u2⟩ := r8 i hi j' a ha
          exact ⟨u, u1, hl_mono hfm u2 (row_hl ha)⟩
  · obtain ⟨j, hj, e1, e2, hJ⟩ := atT_inv hh
    obtain ⟨b, g, _, hat⟩ := homeJ_at hJ
    refine ⟨(hm.good.dom _ _ _ hat).1, putB γ y j blk[j], ?_⟩
    rw [← e1]
    exact hhas j blk[j] (List.getElem?_eq_getElem hj)
  · obtain ⟨j1, hj1, e1, e2, hJ1⟩ := atT_inv q1
    obtain ⟨j2, hj2, e3, e4, hJ2⟩ := atT_inv q2
    obtain ⟨b1', g1', hL1, hat1⟩ := homeJ_at hJ1
    obtain ⟨b2', g2', hL2, hat2⟩ := homeJ_at hJ2
    obtain ⟨r1, r2⟩ := hm.good.inj _ _ _ _ _ _ hat1 hat2 e
    subst r1
    have := hm.linj _ _ _ _ _ hL1 hL2
    subst this
    exact ⟨by rw [← e1, ← e3], r2⟩
  · obtain ⟨j, hj, e1, e2, hJ⟩ := atT_inv hh
    have := hhas j blk[j] (List.getElem?_eq_getElem hj)
    rw [e1, hX] at this
    injection this with this
    subst this
    rw [← e2]
    exact putB_gOk fun ty l e => hm.g0 j ty l (by rw [← e]; exact List.getElem?_eq_getElem hj)
  · have hf : frzT ρ H w wf L b = some (arr, ty) := hf
    unfold frzT at hf
    split at hf
    · rename_i x hx
      injection hf with hf
      subst hf
      refine ⟨(hm.good.frz _ _ _ hx).1, fun b' g' h hh => ?_⟩
      obtain ⟨j, hj, e1, e2, hJ⟩ := atT_inv hh
      obtain ⟨b2, g2, _, hat⟩ := homeJ_at hJ
      exact (hm.good.frz _ _ _ hx).2 _ _ _ hat
    · split at hf
      · rename_i hc
        split at hf
        · rename_i arr' ty' fr' hw
          injection hf with hf
          injection hf with e1 e2
          subst e1; subst e2
          refine ⟨⟨fr', hw⟩, fun b' g' h hh => ?_⟩
          obtain ⟨j, hj, e1, e2, hJ⟩ := atT_inv hh
          exact hc.2 j h hJ
        · cases hf
      · cases hf
  · exact hm.frz b x hf hlt
end
end Go.Sym
namespace Go.Sym
open Go.RowKit (Below)
set_option linter.unusedVariables false
theorem merge {w0 w w' : World} {ρ ρp : Rho} {H Hp H2 : T ABlk} (hG : Good w0 ρ H w) (hP : Good w ρp Hp w')
    (hH2 : ∀ b, H2.get b = match Hp.get b with | some X => some X | none => H.get b)
    (hown : ∀ x, ρp.own x → Own ρ w0.heap.size x) (hval : ρp.val = ρ.val) (hfrz : ∀ b x, ρ.frz b = some x → ρp.frz b = some x) (hf0 : ρp.frz0 = ρ.frz)
    (hq : ∀ b g h, ρp.at_ b g = some h → ρ.at_ b g = some h ∨ (ρ.at_ b g = none ∧ ∀ b' g' h', ρ.at_ b' g' = some h' → h'.blk = h.blk → b' = b ∧ h' = h))
    (hgen : ∀ b g h X, ρ.at_ b g = some h → Hp.get b = some X → gOk g X) (hex : ∀ b X, Hp.get b = some X → ∃ X0, H.get b = some X0)
    (hoth : ∀ b g h, ρ.at_ b g = some h → Hp.get b = none → ¬ ρp.own h.blk)
    (hshape : ∀ b X, Hp.get b = some X → (∃ c n ty, X = .cells c 0 0 n 0 0 false ty) ∨ ∃ c g ty, X = .grow c g ty) :
    ∃ ρ2 : Rho, Good w0 ρ2 H2 w' ∧ ρ.le ρ2 ∧ (∀ b g h, ρp.at_ b g = some h → ρ2.at_ b g = some h) ∧ ρ2.val = ρp.val ∧ ρ2.frz = ρp.frz := by
  let ρ2 : Rho := ⟨fun b g => match ρ.at_ b g with | some h => some h | none => ρp.at_ b g, ρp.val, ρ.own, ρp.frz, ρ.frz0⟩
  have h21 : ∀ b g h, ρ.at_ b g = some h → ρ2.at_ b g = some h := fun b g h hh => by
    show (match ρ.at_ b g with | some h => some h | none => ρp.at_ b g) = some h
    rw [hh]
  have h22 : ∀ b g h, ρp.at_ b g = some h → ρ2.at_ b g = some h := fun b g h hh => by
    show (match ρ.at_ b g with | some h => some h | none => ρp.at_ b g) = some h
    rcases hq b g h hh with h' | ⟨h', _⟩
    · rw [h']
    · rw [h']; exact hh
  have h23 : ∀ b g h, ρ2.at_ b g = some h → ρ.at_ b g = some h ∨ (ρ.at_ b g = none ∧ ρp.at_ b g = some h) := fun b g h hh => by
    have hh : (match ρ.at_ b g with | some h => some h | none => ρp.at_ b g) = some h := hh
    cases hr : ρ.at_ b g with
    | some h' => rw [hr] at hh; exact .inl hh
    | none => rw [hr] at hh; exact .inr ⟨rfl, hh⟩
  have hle : ρ.le ρ2 := ⟨h21, hval, rfl, hfrz, rfl⟩
  have hvp : ∀ a v, VR ρp a v → VR ρ2 a v := fun a v h => h.into h22 rfl fun _ _ h => h
  have hsz := hG.below.size
  have hszp := hP.below.size
  have hnew : ∀ b g h, ρp.at_ b g = some h → ρ.at_ b g = none → ∀ b' g' h', ρ.at_ b' g' = some h' → h'.blk = h.blk → b' = b ∧ h' = h := fun b g h hh hn => by
    rcases hq b g h hh with h' | ⟨_, h'⟩
    · rw [hn] at h'; cases h'
    · exact h'
  have hownp : ∀ x, Own ρp w.heap.size x → Own ρ2 w0.heap.size x := fun x hx => by
    rcases hx with hx | hx
    · exact .inl (by omega)
    · exact hown x hx
  refine ⟨ρ2, ⟨?_, fun b X hX => ?_, fun b g h hh => ?_, fun b g h b' g' h' q1 q2 e => ?_, fun b g h X hh hX => ?_, fun b arr ty hf => ?_, fun b x hf hlt => ?_⟩, hle, h22, rfl, rfl⟩
  · refine hG.below.trans ⟨hP.below.os, hP.below.tape, hP.below.output, hszp, fun x hx ho => hP.below.block x (by omega) fun hpo => ?_⟩
    rcases hown x hpo with h | h
    · omega
    · exact ho h
  · rw [hH2] at hX
    cases hp : Hp.get b with
    | some X' =>
      rw [hp] at hX
      injection hX with hX
      subst hX
      have hB := hP.blk _ _ hp
      rcases hshape _ _ hp with ⟨c, n, ty, e⟩ | ⟨c, g, ty, e⟩
      · subst e
        refine ⟨hB.1, fun g hg => ?_⟩
        obtain ⟨hm, r1, r2, r3, arr, fr, r4, r5, r6, r7⟩ := hB.2 g hg
        refine ⟨hm, h22 _ _ _ r1, fun h => hownp _ (r2 h), r3, arr, fr, r4, r5, r6, fun o tag a ho ht => ?_⟩
        obtain ⟨s1, u, s2, s3⟩ := r7 o tag a ho ht
        exact ⟨s1, u, s2, hvp _ _ s3⟩
      · subst e
        rcases hB with h0 | ⟨hm, r1, r2, r3, arr, fr, r4, r5, r6, r7, r8⟩
        · exact .inl h0
        · refine .inr ⟨hm, h22 _ _ _ r1, r2, hownp _ r3, arr, fr, r4, r5, r6, r7, fun i hi j a ha => ?_⟩
          obtain ⟨u, u1, u2⟩ := r8 i hi j a ha
          exact ⟨u, u1, hvp _ _ u2⟩
    | none =>
      rw [hp] at hX
      exact (hG.blk _ _ hX).keep hle fun g h hh => hP.below.block _ (hG.dom _ _ _ hh).1 (hoth b g h hh hp)
  · rcases h23 b g h hh with hh | ⟨hn, hh⟩
    · obtain ⟨q1, X, q2⟩ := hG.dom _ _ _ hh
      refine ⟨by omega, ?_⟩
      rw [hH2]
      cases hp : Hp.get b with
      | some X' => exact ⟨_, rfl⟩
      | none => exact ⟨X, q2⟩
    · obtain ⟨q1, X, q2⟩ := hP.dom _ _ _ hh
      exact ⟨q1, X, by rw [hH2, q2]⟩
  · rcases h23 b g h q1 with q1 | ⟨hn1, q1⟩ <;> rcases h23 b' g' h' q2 with q2 | ⟨hn2, q2⟩
    · exact hG.inj _ _ _ _ _ _ q1 q2 e
    · exact hnew _ _ _ q2 hn2 _ _ _ q1 e
    · obtain ⟨r1, r2⟩ := hnew _ _ _ q1 hn1 _ _ _ q2 e.symm
      exact ⟨r1.symm, r2.symm⟩
    · exact hP.inj _ _ _ _ _ _ q1 q2 e
  · rw [hH2] at hX
    cases hp : Hp.get b with
    | some X' =>
      rw [hp] at hX
      injection hX with hX
      subst hX
      rcases h23 b g h hh with hh | ⟨hn, hh⟩
      · exact hgen _ _ _ _ hh hp
      · exact hP.gens _ _ _ _ hh hp
    | none =>
      rw [hp] at hX
      rcases h23 b g h hh with hh | ⟨hn, hh⟩
      · exact hG.gens _ _ _ _ hh hX
      · obtain ⟨_, X2, q2⟩ := hP.dom _ _ _ hh
        rw [hp] at q2; cases q2
  · have hf : ρp.frz b = some (arr, ty) := hf
    obtain ⟨q1, q2⟩ := hP.frz _ _ _ hf
    refine ⟨q1, fun b' g h hh => ?_⟩
    rcases h23 b' g h hh with hh | ⟨hn, hh⟩
    · have hlt := (hG.dom _ _ _ hh).1
      intro e
      have h1 := hP.frzB b _ hf (by omega)
      rw [hf0] at h1
      exact (hG.frz _ _ _ h1).2 _ _ _ hh e
    · exact q2 _ _ _ hh
  · have hf : ρp.frz b = some x := hf
    have h1 := hP.frzB b x hf (by omega)
    rw [hf0] at h1
    exact hG.frzB _ _ h1 hlt
section
variable {P : Program} {w0 : World} {ρ : Rho} {w : World} {σ : St} {K : Fin}
theorem Good.none_new {H : T ABlk} (hG : Good w0 ρ H w) {n : Nat} (hn : H.get n = none) (h64 : n + 1 < 2 ^ 64) {ct : Ct} {g ty : Nat} (h0 : ct.len = 0) : Good w0 ρ (H.set n (.grow ct g ty)) w := by
  have hno : ∀ g h, ρ.at_ n g ≠ some h := fun g h hh => by
    obtain ⟨_, X, hX⟩ := hG.dom _ _ _ hh
    rw [hn] at hX; cases hX
  refine ⟨hG.below, fun b X hX => ?_, fun b g h hh => ?_, hG.inj, fun b g h X hh hX => ?_, hG.frz, hG.frzB⟩
  · by_cases e : b = n
    · subst e
      rw [T.get_set_same _ _ _ h64] at hX
      injection hX with hX
      subst hX
      exact .inl h0
    · rw [T.get_set_ne _ e] at hX
      exact hG.blk _ _ hX
  · obtain ⟨q1, X, q2⟩ := hG.dom _ _ _ hh
    refine ⟨q1, X, ?_⟩
    rw [T.get_set_ne _ (fun e => by subst e; exact hno _ _ hh)]
    exact q2
  · rw [T.get_set_ne _ (fun e => by subst e; exact hno _ _ hh)] at hX
    exact hG.gens _ _ _ _ hh hX
theorem freeB_mem {b : Nat} : ∀ {loc : List (Nat × Nat × Nat)} {x : Nat × Nat × Nat}, x ∈ loc → x.2.1 = b → freeB b loc = false := by
  intro loc
  induction loc with
  | nil => intro x h; cases h
  | cons z l ih =>
    intro x h e
    show bif' (Nat.beq z.2.1 b) false (freeB b l) = false
    rw [bif'_eq]
    split
    · rfl
    · rename_i hz
      rcases List.mem_cons.1 h with h | h
      · subst h; exact absurd (by rw [e]; exact Nat.beq_refl _) hz
      · exact ih h e
theorem assoc_mem {α : Type} {j : Nat} {p : α} : ∀ {loc : List (Nat × α)}, assoc j loc = some p → (j, p) ∈ loc := by
  intro loc
  induction loc with
  | nil => intro h; cases h
  | cons z l ih =>
    intro h
    rw [assoc_cons] at h
    split at h
    · rename_i e
      injection h with h
      have : z = (j, p) := by rw [← e, ← h]
      rw [this]; exact List.mem_cons_self
    · exact List.mem_cons_of_mem _ (ih h)
def Stays (loc : List (Nat × Nat × Nat)) (H H' : T ABlk) : Prop := ∀ b X, (∃ x, x ∈ loc ∧ x.2.1 = b) → H.get b = some X → H'.get b = some X
theorem Stays.refl (loc : List (Nat × Nat × Nat)) (H : T ABlk) : Stays loc H H := fun _ _ _ h => h
theorem Stays.trans {loc : List (Nat × Nat × Nat)} {a b c : T ABlk} (h : Stays loc a b) (h' : Stays loc b c) : Stays loc a c := fun x X q r => h' x X q (h x X q r)
theorem slcK_ok {loc : List (Nat × Nat × Nat)} {b g o len es : Nat} {cap : Option Nat} {rows : List AV → (Ct → Nat → Tr) → Tr} {k : AV → Tr} (hS : SI σ) (hG : Good w0 ρ σ.h w)
    (hrows : ∀ (as : List AV) (kk : Ct → Nat → Tr) (σ' : St), run (rows as kk) σ' K = true → ∃ ct ty, run (kk ct ty) σ' K = true ∧ (as.length = ct.len * ct.es → ∀ i, i < ct.len → ∀ (ρ : Rho) (vs : List Value), LR ρ ((as.drop (i * ct.es)).take ct.es) vs → LR ρ (ct.row i) vs))
    (h : run (slcK loc b g o len cap es rows k) σ K = true) :
    ∃ σ', run (k (.gsl b 0 len es)) σ' K = true ∧ SI σ' ∧ Good w0 ρ σ'.h w ∧ Stays loc σ.h σ'.h ∧ ∀ v, VR ρ (.slc b g o len cap es) v → VR ρ (.gsl b 0 len es) v := by
  have h64 := rd_small hS h
  obtain ⟨q, σ1, hq, e1, hS1, z0⟩ := rd_ok hS h
  cases q with
  | cells c gen lo hi fl fh ro ty =>
    obtain ⟨k0, z1⟩ := bifF z0
    obtain ⟨k1, z2⟩ := bifT z1
    obtain ⟨k2, z3⟩ := bifT z2
    obtain ⟨k3, z4⟩ := bifT z3
    obtain ⟨k4, z5⟩ := bifT z4
    obtain ⟨k5, z6⟩ := bifT z5
    obtain ⟨k6, z7⟩ := bifT z6
    obtain ⟨k7, z8⟩ := bifT z7
    obtain ⟨k8, z9⟩ := bifT z8
    clear z0 z1 z2 z3 z4 z5 z6 z7 z8 h
    obtain ⟨as, hl, za⟩ := oelT z9
    obtain ⟨ct, ty', zb, hct⟩ := hrows _ _ _ za
    obtain ⟨k9, zc⟩ := bifT zb
    obtain ⟨k10, zd⟩ := bifT zc
    obtain ⟨k11, ze⟩ := req_ok zd
    obtain ⟨x0, σ2, hx0, e2, hS2, _, z⟩ := wr_ok hS1 ze
    clear za zb zc zd ze z9
    have k1 := beqT k1
    have k2 := beqT k2
    have k3 := beqT k3
    have k4 := beqT k4
    have k5 := beqT k5
    have k6 := beqT k6
    have k7 := bleT k7
    obtain ⟨k8a, k8⟩ := bif'_true k8
    obtain ⟨k8c, k8b⟩ := bif'_true k8
    have k8c := bleT k8c
    have k8b := bleT k8b
    have k9 := beqT k9
    have k10 := beqT k10
    subst k0 k1 k2 k3 k4 k5 k6 k9
    obtain ⟨hm, r1, r2, _, arr, fr, r3, r4, r5, r6⟩ := (hG.blk _ _ hq).2 0 (Nat.le_refl _)
    obtain ⟨l1, l2⟩ := lds_ok hl
    have hcell : ∀ j, j < capOr cap len * es → ∃ a u, as[j]? = some a ∧ arr[j - hm.shift]? = some u ∧ VR ρ a u ∧ hm.shift ≤ j := fun j hj => by
      have ha : as[j]? = some (as[j]'(by omega)) := List.getElem?_eq_getElem (by omega)
      obtain ⟨tag, t1, t2⟩ := l2 j _ ha
      rw [Nat.zero_add] at t1
      obtain ⟨s1, u, s2, s3⟩ := r6 _ _ _ t1 t2
      exact ⟨_, u, ha, s2, s3, s1⟩
    have hle : len * es ≤ capOr cap len * es := Nat.mul_le_mul_right _ k8b
    have hlen2 : (as.take (len * es)).length = ct.len * ct.es := by rw [List.length_take, l1, k10, k11]; omega
    have hzp : 0 < capOr cap len * es := Nat.mul_pos (by omega) k8c
    have hsh : hm.shift = 0 := by
      obtain ⟨a, u, _, _, _, q⟩ := hcell 0 hzp
      omega
    have hG2 : Good w0 ρ (σ1.h.set b (.grow ct 0 ty)) w := by
      have hq1 : σ1.h.get b = some (.cells c 0 0 hi 0 0 false ty) := by rw [e1]; exact hq
      have hG1 : Good w0 ρ σ1.h w := by rw [e1]; exact hG
      refine hG1.turn (hrs := ⟨b, 0, hm, r1, rfl⟩) hq1 h64 hm.blk (r2 rfl) (Kept.refl _ _ _) (Nat.le_refl _) (fun _ _ _ => rfl) (fun b' g' h' hh' e' => (hG.inj _ _ _ _ _ _ hh' r1 e').1) (.inr ⟨hm, r1, hsh, r2 rfl, arr, fr, r3, r4, ?_, fun x hx h1 h2 => ?_, fun i hi j a ha => ?_⟩)
      · rw [k10, k11]
        obtain ⟨a, u, _, hu, _⟩ := hcell (capOr cap len * es - 1) (by omega)
        rcases Nat.lt_or_ge (capOr cap len * es - 1 - hm.shift) arr.size with h' | h'
        · omega
        · rw [Array.getElem?_eq_none h'] at hu; cases hu
      · have := (r5 rfl).2 x (.inl hx) h1 h2
        omega
      · have hrow : i * ct.es + ct.es ≤ ct.len * ct.es := by rw [← Nat.succ_mul]; exact Nat.mul_le_mul_right _ hi
        rw [k10, k11] at hrow
        have hsrc : ∀ q a0, (((as.take (len * es)).drop (i * ct.es)).take ct.es)[q]? = some a0 → ∃ u, arr[i * ct.es + q]? = some u ∧ VR ρ a0 u := fun q a0 hq => by
          rw [List.getElem?_take] at hq
          split at hq
          · rename_i hqe
            rw [List.getElem?_drop, List.getElem?_take_of_lt (by rw [k10] at hqe ⊢; omega)] at hq
            obtain ⟨a1, u, f1, f2, f3, _⟩ := hcell (i * ct.es + q) (by rw [k10] at hqe ⊢; omega)
            rw [hq] at f1
            injection f1 with f1
            subst f1
            rw [hsh, Nat.sub_zero] at f2
            exact ⟨u, f2, f3⟩
          · cases hq
        exact rows_to (A := fun q => arr[i * ct.es + q]?) hsrc (fun vs => hct hlen2 i hi ρ vs) j a ha
    refine ⟨σ2, z, hS2, by rw [e2]; exact hG2, fun b' X hf hX => ?_, fun v hv => ?_⟩
    · obtain ⟨x, hx1, hx2⟩ := hf
      rw [e2, T.get_set_ne _ (fun e => by subst e; rw [freeB_mem hx1 hx2] at k8a; cases k8a), e1]; exact hX
    · cases hv with
      | slc _ _ _ _ _ _ ad cp hsl =>
        obtain ⟨hlc, hsl2⟩ := hsl
        cases cap with
        | some kc =>
          obtain ⟨ek, h', x1, x2, x3⟩ := hsl2
          rw [r1] at x1; injection x1 with x1; subst x1
          subst x3
          rw [hsh]
          refine .gsl _ _ _ _ hm cp (by omega) r1 hsh hlc ?_
          rw [ek]
          obtain ⟨a, u, _, hu, _⟩ := hcell (capOr (some kc) len * es - 1) (by omega)
          rw [← r4]
          rcases Nat.lt_or_ge (capOr (some kc) len * es - 1 - hm.shift) arr.size with h' | h'
          · show kc * es ≤ arr.size
            have : capOr (some kc) len = kc := rfl
            rw [this] at h' hzp; omega
          · rw [Array.getElem?_eq_none h'] at hu; cases hu
        | none =>
          rcases hsl2 with hsl2 | ⟨h', x1, x2, x3, x4⟩
          · omega
          · rw [r1] at x1; injection x1 with x1; subst x1
            subst x3
            rw [hsh]
            exact .gsl _ _ _ _ hm cp (by omega) r1 hsh hlc (by omega)
  | _ => exact (nofail z0).elim
theorem prepS_ok {loc : List (Nat × Nat × Nat)} {blk : List BSh} {x : Sh} {a : AV} {k : AV → Tr} (hS : SI σ) (hG : Good w0 ρ σ.h w) (h : run (prepS loc blk x a k) σ K = true) :
    ∃ a' σ', run (k a') σ' K = true ∧ SI σ' ∧ Good w0 ρ σ'.h w ∧ Stays loc σ.h σ'.h ∧ ∀ v, VR ρ a v → VR ρ a' v := by
  have same : run (k a) σ K = true → ∃ a' σ', run (k a') σ' K = true ∧ SI σ' ∧ Good w0 ρ σ'.h w ∧ Stays loc σ.h σ'.h ∧ ∀ v, VR ρ a v → VR ρ a' v := fun h => ⟨a, σ, h, hS, hG, .refl _ _, fun _ h => h⟩
  have fresh : ∀ (ct : Ct) (ty es : Nat), ct.len = 0 → a = .nils → run (.new (.grow ct 0 ty) fun b => k (.gsl b 0 0 es)) σ K = true → ∃ a' σ', run (k a') σ' K = true ∧ SI σ' ∧ Good w0 ρ σ'.h w ∧ Stays loc σ.h σ'.h ∧ ∀ v, VR ρ a v → VR ρ a' v := by
    intro ct ty es h0 ea h
    obtain ⟨n, σ', hn, h64, e, hS', h⟩ := new_ok hS h
    refine ⟨_, σ', h, hS', by rw [e]; exact hG.none_new hn h64 h0, fun b X _ hX => ?_, fun v hv => ?_⟩
    · rw [e, T.get_set_ne _ (fun e' => by subst e'; rw [hn] at hX; cases hX)]; exact hX
    · subst ea; cases hv; exact .gnil _ _ _
  unfold prepS at h
  cases x with
  | g j es t =>
    simp only at h
    split at h
    · split at h
      · exact fresh _ _ _ rfl rfl h
      · exact (nofail h).elim
    · rename_i b g o len cap es'
      split at h
      · rename_i m ty t' _
        replace h := bifT h; obtain ⟨e, h⟩ := h
        have e := beqT e
        subst e
        obtain ⟨σ', h1, h2, h3, h4, h5⟩ := slcK_ok hS hG (fun as kk σ' h => by
          obtain ⟨q, hq, h⟩ := oelT h
          split at h
          · rename_i gs
            obtain ⟨c1, f1, f2, f3, f4⟩ := pullMany_ok _ _ _ _ hq
            have f1 : as = c1 := by simpa using f1
            subst f1
            exact ⟨_, _, h, fun hlen i hi ρ vs => f4 i (by rw [← f3]; exact hi) ρ vs⟩
          · exact (nofail h).elim) h
        exact ⟨_, σ', h1, h2, h3, h4, h5⟩
      · exact (nofail h).elim
    · exact same h
  | gb j t =>
    simp only at h
    split at h
    · split at h
      · exact fresh _ _ _ rfl rfl h
      · exact (nofail h).elim
    · rename_i b g o len cap es'
      split at h
      · rename_i ty t' _
        replace h := bifT h; obtain ⟨e, h⟩ := h
        have e := beqT e
        subst e
        obtain ⟨σ', h1, h2, h3, h4, h5⟩ := slcK_ok hS hG (fun as kk σ' h => by
          obtain ⟨ns, hq, h⟩ := oelT h
          obtain ⟨hnn, h⟩ := req_ok h
          obtain ⟨f1, f2⟩ := pullB_ok _ _ hq
          refine ⟨_, _, h, fun hlen i hi ρ vs hvs => ?_⟩
          have hal : as.length = (toNats ns).length := by rw [toNats_len, f1]
          have hi : i < (toNats ns).length := hi
          have hia : i < as.length := by omega
          have hd : (as.drop (i * 1)).take 1 = [as[i]] := by
            rw [Nat.mul_one, List.drop_eq_getElem_cons hia]; rfl
          have hvs : LR ρ ((as.drop (i * 1)).take 1) vs := hvs
          rw [hd] at hvs
          refine hvs.one fun v hv => ?_
          obtain ⟨n', q1, q2⟩ := f2 i as[i] (List.getElem?_eq_getElem hia)
          obtain ⟨q3, q4⟩ := toNats_get _ _ _ hnn q1
          rw [numS_inv hv q2, List.getD_eq_getElem?_getD, q3]
          show VR ρ (.sI .u8 ((n'.toNat : Nat) : Int)) _
          rw [show ((n'.toNat : Nat) : Int) = n' by omega]
          exact .sI _ _) h
        exact ⟨_, σ', h1, h2, h3, h4, h5⟩
      · exact (nofail h).elim
    · exact same h
  | _ => exact same h
def To2 (ρ : Rho) : List AV → List AV → Prop := All2 fun a a' => ∀ v, VR ρ a v → VR ρ a' v
theorem To2.lr {ρ : Rho} : ∀ {as as' : List AV} {vs : List Value}, To2 ρ as as' → LR ρ as vs → LR ρ as' vs
  | [], [], vs, _, h => h
  | a :: as, a' :: as', vs, ⟨h1, h2⟩, h => by
    obtain ⟨v, vs', rfl, hv, h'⟩ := h.cons_inv
    exact LR.cons (h1 v hv) (To2.lr h2 h')
  | [], _ :: _, _, h, _ => h.elim
  | _ :: _, [], _, h, _ => h.elim
theorem To2.get {ρ : Rho} : ∀ {as as' : List AV} {i : Nat} {a' : AV}, To2 ρ as as' → as'[i]? = some a' → ∃ a, as[i]? = some a ∧ ∀ v, VR ρ a v → VR ρ a' v
  | [], [], i, a', _, h => by simp at h
  | a :: as, b :: as', 0, a', ⟨h1, h2⟩, h => by simp at h; subst h; exact ⟨a, rfl, h1⟩
  | a :: as, b :: as', i + 1, a', ⟨h1, h2⟩, h => by simp at h; obtain ⟨x, q1, q2⟩ := To2.get h2 h; exact ⟨x, by simpa using q1, q2⟩
  | [], _ :: _, _, _, h, _ => h.elim
  | _ :: _, [], _, _, h, _ => h.elim
theorem prepSs_ok {loc : List (Nat × Nat × Nat)} {blk : List BSh} : ∀ {l : List Sh} {as : List AV} {k : List AV → Tr} {σ : St}, SI σ → Good w0 ρ σ.h w → run (prepSs loc blk l as k) σ K = true →
    ∃ as' σ', run (k as') σ' K = true ∧ SI σ' ∧ Good w0 ρ σ'.h w ∧ Stays loc σ.h σ'.h ∧ (as.length = l.length → To2 ρ as as') := by
  intro l
  induction l with
  | nil => intro as k σ hS hG h; exact ⟨as, σ, h, hS, hG, .refl _ _, fun e => by cases as with | nil => exact trivial | cons _ _ => simp at e⟩
  | cons x l ih =>
    intro as k σ hS hG h
    cases as with
    | nil => exact ⟨[], σ, h, hS, hG, .refl _ _, fun e => by simp at e⟩
    | cons a as =>
      have h : run (prepS loc blk x a fun a => prepSs loc blk l as fun as => k (a :: as)) σ K = true := h
      obtain ⟨a', σ1, h1, h2, h3, h4, h5⟩ := prepS_ok hS hG h
      obtain ⟨as', σ2, q1, q2, q3, q4, q5⟩ := ih h2 h3 h1
      exact ⟨a' :: as', σ2, q1, q2, q3, h4.trans q4, fun e => ⟨h5, q5 (by simpa using e)⟩⟩
theorem prepAs_ok {loc : List (Nat × Nat × Nat)} {blk : List BSh} : ∀ {l : List Sa} {as : List AV} {k : List AV → Tr} {σ : St} {vs : List Value}, SI σ → Good w0 ρ σ.h w → LR ρ as vs → run (prepAs loc blk l as k) σ K = true →
    ∃ as' σ', run (k as') σ' K = true ∧ SI σ' ∧ Good w0 ρ σ'.h w ∧ as'.length = as.length ∧ (l.length = as.length → LR ρ as' vs) := by
  intro l
  induction l with
  | nil => intro as k σ vs hS hG hl h; exact ⟨as, σ, h, hS, hG, rfl, fun _ => hl⟩
  | cons x l ih =>
    intro as k σ vs hS hG hl h
    cases as with
    | nil => exact ⟨[], σ, h, hS, hG, rfl, fun _ => hl⟩
    | cons a as =>
      obtain ⟨v, vs', rfl, hv, hl'⟩ := hl.cons_inv
      have h : run (prepA loc blk x a fun a => prepAs loc blk l as fun as => k (a :: as)) σ K = true := h
      have : ∃ a' σ', run (prepAs loc blk l as fun as => k (a' :: as)) σ' K = true ∧ SI σ' ∧ Good w0 ρ σ'.h w ∧ VR ρ a' v := by
        cases x with
        | c x =>
          have h : run (prepS loc blk x a fun a => prepAs loc blk l as fun as => k (a :: as)) σ K = true := h
          obtain ⟨a', σ1, h1, h2, h3, _, h5⟩ := prepS_ok hS hG h
          exact ⟨a', σ1, h1, h2, h3, h5 v hv⟩
        | ag l => exact ⟨a, σ, h, hS, hG, hv⟩
      obtain ⟨a', σ1, h1, h2, h3, h5⟩ := this
      obtain ⟨as', σ2, q1, q2, q3, q5, q4⟩ := ih h2 h3 hl' h1
      exact ⟨a' :: as', σ2, q1, q2, q3, by simp [q5], fun e => LR.cons h5 (q4 (by simpa using e))⟩
theorem pullAs_len {F : T ABlk} {blk : List BSh} : ∀ {l : List Sa} {as : List AV} {s s' : PS}, pullAs F blk l as s = some s' → l.length = as.length := by
  intro l
  induction l with
  | nil => intro as s s' h; cases as with | nil => rfl | cons _ _ => cases h
  | cons x l ih =>
    intro as s s' h
    cases as with
    | nil => cases h
    | cons a as =>
      obtain ⟨s1, _, h2⟩ := obind_some (show obind (pullA F blk x a s) (fun s => pullAs F blk l as s) = some s' from h)
      simp [ih h2]
theorem pulls_len {F : T ABlk} {blk : List BSh} : ∀ {l : List Sh} {as : List AV} {s s' : PS}, pulls F blk l as s = some s' → l.length = as.length := by
  intro l
  induction l with
  | nil => intro as s s' h; cases as with | nil => rfl | cons _ _ => cases h
  | cons x l ih =>
    intro as s s' h
    cases as with
    | nil => cases h
    | cons a as =>
      obtain ⟨s1, _, h2⟩ := obind_some (show obind (pullS F blk x a s) (fun s => pulls F blk l as s) = some s' from h)
      simp [ih h2]
def BlkHas (ρ : Rho) (blk : List BSh) (H : T ABlk) (s' : PS) (l : List BSh) (j : Nat) : Prop :=
  ∀ i x, l[i]? = some x → ∃ b g, assoc (j + i) s'.loc = some (b, g) ∧ ∃ q, H.get b = some q ∧ ∀ sF, s'.Le sF → sF.pr → LnOk blk sF → BT ρ .leaf blk sF.L (syOf sF.tm) x q g
theorem blksK_ok {blk : List BSh} {k : PS → Tr} : ∀ {l : List BSh} {j : Nat} {s : PS} {σ : St}, SI σ → Good w0 ρ σ.h w → run (blksK blk l j s k) σ K = true →
    ∃ s' σ', run (k s') σ' K = true ∧ SI σ' ∧ Good w0 ρ σ'.h w ∧ s.Le s' ∧ Stays s.loc σ.h σ'.h ∧ BlkHas ρ blk σ'.h s' l j := by
  intro l
  induction l with
  | nil => intro j s σ hS hG h; exact ⟨s, σ, h, hS, hG, .refl _, .refl _ _, fun i x hx => by simp at hx⟩
  | cons x l ih =>
    intro j s σ hS hG h
    have h : run (oel (assoc j s.loc) .fail fun bg => .rd bg.1 fun q => blkK blk x q bg.2 s fun s => blksK blk l (Nat.succ j) s k) σ K = true := h
    obtain ⟨bg, hbg, h⟩ := oelT h
    obtain ⟨b, g⟩ := bg
    obtain ⟨q, σ1, hq, e1, hS1, h⟩ := rd_ok hS h
    have hG1 : Good w0 ρ σ1.h w := by rw [e1]; exact hG
    have hqs : σ.h.get b = some q := hq
    have fin : ∀ (s1 : PS) (σ2 : St), s.Le s1 → SI σ2 → Good w0 ρ σ2.h w → Stays s.loc σ1.h σ2.h → (∀ sF, s1.Le sF → sF.pr → LnOk blk sF → BT ρ .leaf blk sF.L (syOf sF.tm) x q g) → run (blksK blk l (Nat.succ j) s1 k) σ2 K = true →
        ∃ s' σ', run (k s') σ' K = true ∧ SI σ' ∧ Good w0 ρ σ'.h w ∧ s.Le s' ∧ Stays s.loc σ.h σ'.h ∧ BlkHas ρ blk σ'.h s' (x :: l) j := by
      intro s1 σ2 hle hS2 hG2 hst hbt h
      obtain ⟨s', σ', q1, q2, q3, q4, q5, q6⟩ := ih hS2 hG2 h
      have hst2 : ∀ b X, (∃ x, x ∈ s.loc ∧ x.2.1 = b) → σ1.h.get b = some X → σ'.h.get b = some X := fun b X ⟨x, hx1, hx2⟩ hX =>
        q5 b X ⟨x, hle.mem _ hx1, hx2⟩ (hst b X ⟨x, hx1, hx2⟩ hX)
      refine ⟨s', σ', q1, q2, q3, hle.trans q4, fun b' X hf hX => ?_, fun i y hy => ?_⟩
      · exact hst2 b' X hf (by rw [e1]; exact hX)
      · cases i with
        | zero =>
          simp at hy; subst hy
          exact ⟨b, g, (hle.trans q4).loc _ _ hbg, q, hst2 b q ⟨_, assoc_mem hbg, rfl⟩ (by rw [e1]; exact hqs), fun sF hF hp hl => hbt sF (q4.trans hF) hp hl⟩
        | succ i =>
          obtain ⟨b', g', r1, r2⟩ := q6 i y (by simpa using hy)
          exact ⟨b', g', by rw [show j + (i + 1) = Nat.succ j + i by omega]; exact r1, r2⟩
    cases x with
    | cells ty l' =>
      obtain ⟨as, has, h⟩ := oelT h
      obtain ⟨as', σ2, h1, h2, h3, h4, h5⟩ := prepSs_ok hS1 hG1 h
      obtain ⟨s1, hs1, h⟩ := oelT h1
      obtain ⟨p1, p2⟩ := pulls_ok (blk := blk) hs1
      obtain ⟨eg, c, eq, hl⟩ := cellsHd_ok has
      obtain ⟨r1, r2⟩ := lds_ok hl
      refine fin s1 σ2 p1 h2 h3 h4 (fun sF hF hp hln => ⟨eg, c, as', eq, (pulls_len hs1).symm, fun j' a' ha' => ?_, p2 sF hF hp hln⟩) h
      obtain ⟨a, ha, hto⟩ := (h5 r1).get ha'
      obtain ⟨tag, t1, t2⟩ := r2 _ a ha
      have : tag = 0 := by omega
      subst this
      exact ⟨a, by rw [← t1]; congr 1; omega, hto⟩
    | grow m ty t =>
      obtain ⟨s1, hs1, h⟩ := oelT h
      obtain ⟨p1, p2⟩ := growHd_ok (ρ := ρ) (F := .leaf) (blk := blk) hs1
      exact fin s1 σ1 p1 hS1 hG1 (.refl _ _) (fun sF hF _ _ => p2 sF hF) h
    | growb ty t =>
      obtain ⟨s1, hs1, h⟩ := oelT h
      obtain ⟨p1, p2⟩ := growHd_ok (ρ := ρ) (F := .leaf) (blk := blk) hs1
      exact fin s1 σ1 p1 hS1 hG1 (.refl _ _) (fun sF hF _ _ => p2 sF hF) h
theorem wrK_ok {γ : Loc} {y : Sy} {k : Tr} : ∀ {l : List BSh} {j : Nat} {σ : St}, SI σ → run (wrK γ y l j k) σ K = true →
    ∃ σ', run k σ' K = true ∧ SI σ' ∧ σ'.h = putH γ y l j σ.h ∧ ∀ i, i < l.length → (γ (j + i)).1 + 1 < 2 ^ 64 := by
  intro l
  induction l with
  | nil => intro j σ hS h; exact ⟨σ, h, hS, rfl, fun i hi => by simp at hi⟩
  | cons x l ih =>
    intro j σ hS h
    obtain ⟨x0, σ1, _, e1, hS1, h64, h1⟩ := wr_ok hS (show run (.wr (γ j).1 (putB γ y j x) (wrK γ y l (Nat.succ j) k)) σ K = true from h)
    obtain ⟨σ2, q1, q2, q3, q4⟩ := ih hS1 h1
    refine ⟨σ2, q1, q2, by rw [q3, e1]; rfl, fun i hi => ?_⟩
    cases i with
    | zero => exact h64
    | succ i => have := q4 i (by simpa using hi); rwa [show Nat.succ j + i = j + (i + 1) by omega] at this
theorem putH_other {γ : Loc} {y : Sy} : ∀ (l : List BSh) (j : Nat) (H : T ABlk) (b : Nat), (∀ i, i < l.length → b ≠ (γ (j + i)).1) → (putH γ y l j H).get b = H.get b := by
  intro l
  induction l with
  | nil => intro j H b _; rfl
  | cons x l ih =>
    intro j H b hne
    show (putH γ y l (j + 1) (H.set (γ j).1 (putB γ y j x))).get b = _
    rw [ih (j + 1) _ b (fun i hi => by have := hne (i + 1) (by simpa using hi); rwa [show j + (i + 1) = j + 1 + i by omega] at this), T.get_set_ne _ (show b ≠ (γ j).1 from hne 0 (by simp))]
theorem locOk_dom {n : Nat} : ∀ {l : List (Nat × Nat × Nat)}, locOk n l = true → ∀ x ∈ l, x.1 < n := by
  intro l
  induction l with
  | nil => intro _ x hx; cases hx
  | cons z l ih =>
    intro h x hx
    obtain ⟨h1, h2⟩ := bif'_true (show bif' (Nat.ble (Nat.succ z.1) n) (bif' (freeB z.2.1 l) (locOk n l) false) false = true from h)
    obtain ⟨h3, h4⟩ := bif'_true h2
    rcases List.mem_cons.1 hx with e | hx
    · subst e; exact Nat.le_of_ble_eq_true h1
    · exact ih h4 x hx
theorem locOk_inj {n : Nat} : ∀ {l : List (Nat × Nat × Nat)}, locOk n l = true → ∀ x ∈ l, ∀ z ∈ l, x.2.1 = z.2.1 → x = z := by
  intro l
  induction l with
  | nil => intro _ x hx; cases hx
  | cons a l ih =>
    intro h x hx z hz e
    obtain ⟨h1, h2⟩ := bif'_true (show bif' (Nat.ble (Nat.succ a.1) n) (bif' (freeB a.2.1 l) (locOk n l) false) false = true from h)
    obtain ⟨h3, h4⟩ := bif'_true h2
    replace hx := List.mem_cons.1 hx
    replace hz := List.mem_cons.1 hz
    rcases hx with e1 | hx <;> rcases hz with e2 | hz
    · rw [e1, e2]
    · subst e1; rw [freeB_mem hz e.symm] at h3; cases h3
    · subst e2; rw [freeB_mem hx e] at h3; cases h3
    · exact ih h4 x hx z hz e
theorem homesOk_mem : ∀ {l : List (Nat × Nat × Nat)}, homesOk l = true → ∀ x ∈ l, x.2.1 = base + x.1 := by
  intro l
  induction l with
  | nil => intro _ x hx; cases hx
  | cons a l ih =>
    intro h x hx
    obtain ⟨h1, h2⟩ := bif'_true (show bif' (Nat.beq a.2.1 (base + a.1)) (homesOk l) false = true from h)
    rcases List.mem_cons.1 hx with e | hx
    · subst e; exact Nat.eq_of_beq_eq_true h1
    · exact ih h2 x hx
theorem sameK_at : ∀ {l m : List BSh}, sameK l m = true → l.length = m.length ∧ ∀ (j : Nat) (x y : BSh), l[j]? = some x → m[j]? = some y → ((∃ ty c, x = .cells ty c) ↔ ∃ ty c, y = .cells ty c) := by
  intro l
  induction l with
  | nil => intro m h; cases m with | nil => exact ⟨rfl, fun j x y hx => by simp at hx⟩ | cons _ _ => cases h
  | cons a l ih =>
    intro m h
    cases m with
    | nil => cases a <;> cases h
    | cons b m =>
      have : ((∃ ty c, a = .cells ty c) ↔ ∃ ty c, b = .cells ty c) ∧ sameK l m = true := by
        cases a <;> cases b <;> first | cases h | (refine ⟨⟨fun ⟨_, _, e⟩ => ?_, fun ⟨_, _, e⟩ => ?_⟩, h⟩ <;> first | exact ⟨_, _, rfl⟩ | cases e)
      obtain ⟨h1, h2⟩ := ih this.2
      refine ⟨by simp [h1], fun j x y hx hy => ?_⟩
      cases j with
      | zero => simp at hx hy; subst hx; subst hy; exact this.1
      | succ j => exact h2 j x y (by simpa using hx) (by simpa using hy)
theorem stay_ok {H : T ABlk} : ∀ {l : List BSh} {j : Nat} {s s' : PS}, stay H l j s = some s' → s.Le s' ∧ s'.ln = s.ln ∧ s'.tm = s.tm := by
  intro l
  induction l with
  | nil => intro j s s' h; injection h with h; subst h; exact ⟨.refl _, rfl, rfl⟩
  | cons x l ih =>
    intro j s s' h
    have h : (match assoc j s.loc with
      | some _ => stay H l (Nat.succ j) s
      | none => T.getK H (base + j) none fun q => stay H l (Nat.succ j) (s.name (j, base + j, genQ q))) = some s' := h
    split at h
    · exact ih h
    · rename_i hn
      obtain ⟨q, hq, h⟩ := getKS h
      obtain ⟨h1, h2, h3⟩ := ih h
      cases s with
      | mk tm loc ln pr =>
      have h1 : PS.Le ⟨tm, (j, base + j, genQ q) :: loc, ln, pr⟩ s' := h1
      refine ⟨PS.Le.trans (b := ⟨tm, (j, base + j, genQ q) :: loc, ln, pr⟩) ⟨fun _ _ h => h, fun j' p h' => ?_, fun _ h => h, fun h => h, fun _ h => List.mem_cons_of_mem _ h⟩ h1, h2, h3⟩
      rw [assoc_cons]
      split
      · rename_i e
        simp only at e
        subst e
        have h' : assoc j loc = some p := h'
        rw [show assoc j loc = none from hn] at h'; cases h'
      · exact h'
theorem finB_ok {ρ : Rho} {H : T ABlk} {blk : List BSh} : ∀ {l : List BSh} {j : Nat} {s s' : PS}, finB H blk l j s = some s' →
    s.Le s' ∧ ∀ sF, s'.Le sF → sF.pr → LnOk blk sF → ∀ i x, l[i]? = some x → ∃ b g, sF.L (j + i) = some (b, g) ∧ ∃ q, H.get b = some q ∧ BT ρ H blk sF.L (syOf sF.tm) x q g := by
  intro l
  induction l with
  | nil => intro j s s' h; injection h with h; subst h; exact ⟨.refl _, fun sF _ _ _ i x hx => by simp at hx⟩
  | cons x l ih =>
    intro j s s' h
    obtain ⟨bg, hbg, h⟩ := obind_some (show obind (assoc j s.loc) (fun bg => T.getK H bg.1 none fun q => obind (pullB1 H blk x q bg.2 s) fun s => finB H blk l (Nat.succ j) s) = some s' from h)
    obtain ⟨q, hq, h⟩ := getKS h
    obtain ⟨s1, h1, h⟩ := obind_some h
    obtain ⟨p1, p2⟩ := pullB1_ok (ρ := ρ) (blk := blk) h1
    obtain ⟨r1, r2⟩ := ih h
    refine ⟨p1.trans r1, fun sF hF hp hl i y hy => ?_⟩
    cases i with
    | zero =>
      simp at hy; subst hy
      exact ⟨bg.1, bg.2, hF.loc _ _ (r1.loc _ _ (p1.loc _ _ hbg)), q, hq, p2 sF (r1.trans hF) hp hl⟩
    | succ i =>
      obtain ⟨b, g, q1, q2⟩ := r2 sF hF hp hl i y (by simpa using hy)
      exact ⟨b, g, by rw [show j + (i + 1) = Nat.succ j + i by omega]; exact q1, q2⟩
theorem pullFin_ok {ρ : Rho} {H : T ABlk} {r : Sr} {l : List BSh} {a : AV} {s : PS} (h : pullFin H r l a = some s) (hp : s.pr) :
    TvR H l s.L (syOf s.tm) r a ∧ (∀ j x, l[j]? = some x → ∃ b g, s.L j = some (b, g) ∧ ∃ q, H.get b = some q ∧ BT ρ H l s.L (syOf s.tm) x q g) ∧ ∀ j b g, s.L j = some (b, g) → b = base + j ∧ j < l.length := by
  obtain ⟨s1, h1, h⟩ := obind_some h
  obtain ⟨s2, h2, h⟩ := obind_some h
  obtain ⟨s3, h3, h⟩ := obind_some h
  obtain ⟨s4, h4, h⟩ := obind_some h
  obtain ⟨h5, h⟩ := bifS h
  obtain ⟨h6, h⟩ := bifS h
  injection h with h
  subst h
  have hln := lnOk_of h4 hp
  obtain ⟨f1, _, _, _, _⟩ := finLn_ok h4
  obtain ⟨p1, p2⟩ := pullR_ok (blk := l) h1
  obtain ⟨st, _, _⟩ := stay_ok h2
  obtain ⟨b1, b2⟩ := finB_ok (ρ := ρ) h3
  refine ⟨p2 s4 (st.trans (b1.trans f1)) hp hln, fun j x hx => ?_, fun j b g hL => ?_⟩
  · obtain ⟨b, g, q1, q2⟩ := b2 s4 f1 hp hln j x hx
    exact ⟨b, g, by rw [Nat.zero_add] at q1; exact q1, q2⟩
  · have hm := assoc_mem hL
    exact ⟨homesOk_mem h5 _ hm, locOk_dom h6 _ hm⟩
structure FinRel (cellsAt : Nat → Prop) (ρ : Rho) (w : World) (ρ' : Rho) (wx : World) : Prop where
  kept : Kept ρ.own w.heap.size w wx
  val : ρ'.val = ρ.val
  frz : ∀ b x, ρ.frz b = some x → ρ'.frz b = some x
  frzB : ∀ b x, ρ'.frz0 b = some x → b < w.heap.size → ρ.frz b = some x
  ownx : ∀ x, ρ'.own x → ∃ j h, h.blk = x ∧ ρ'.at_ (base + j) 0 = some h ∧ j < 64 ∧ (w.heap.size ≤ x ∨ (ρ.own x ∧ ρ.at_ (base + j) 0 = some h))
  cells : ∀ j h, cellsAt j → ρ.at_ (base + j) 0 = some h → ρ'.at_ (base + j) 0 = some h
def OwnOk (ρ : Rho) : Prop := ∀ x, ρ.own x → ∃ j h, h.blk = x ∧ ρ.at_ (base + j) 0 = some h ∧ j < 64
theorem FinRel.of_le {cellsAt : Nat → Prop} {ρ ρ' : Rho} {w : World} (hle : ρ.le ρ') (ho : OwnOk ρ) (hf : ρ.frz0 = ρ.frz) : FinRel cellsAt ρ w ρ' w where
  kept := Kept.refl _ _ _
  val := hle.val
  frz := hle.frz
  frzB := fun b x h _ => by rw [hle.frz0, hf] at h; exact h
  ownx := fun x hx => by
    rw [hle.own] at hx
    obtain ⟨j, h, q1, q2, q3⟩ := ho x hx
    exact ⟨j, h, q1, hle.at_ _ _ _ q2, q3, .inr ⟨hx, q2⟩⟩
  cells := fun j h _ hh => hle.at_ _ _ _ hh
def isC (blk : List BSh) (j : Nat) : Prop := isCells blk j = true
theorem base_lt : base + 64 + 1 < 2 ^ 64 := by decide
def ownT (w0 : World) (ρ : Rho) (H : T ABlk) (L : Nat → Option (Nat × Nat)) : Nat → Prop := fun x => ∃ j h, homeJ ρ H L j = some h ∧ h.blk = x ∧ Own ρ w0.heap.size x
theorem frzE0 (ρ : Rho) (H : T ABlk) (w : World) (L : Nat → Option (Nat × Nat)) (b : Nat) : frzT ρ H w w L b = ρ.frz b := by
  unfold frzT
  split
  · rename_i x hx; exact hx.symm
  · rename_i hx
    rw [hx]
    split
    · rename_i hc
      rw [Array.getElem?_eq_none hc.1]
    · rfl
structure Lent (w0 : World) (ρ : Rho) (H : T ABlk) (w : World) (L : Nat → Option (Nat × Nat)) (blk : List BSh) (z : Sy) : Prop where
  good : Good w0 ρ H w
  hb : ∀ j x, blk[j]? = some x → ∃ b g, L j = some (b, g) ∧ ∃ q, H.get b = some q ∧ BT ρ .leaf blk L z x q g
  dom : ∀ j p, L j = some p → j < blk.length
  inj : ∀ j j' b g g', L j = some (b, g) → L j' = some (b, g') → j = j'
  n64 : blk.length ≤ 64
noncomputable def rhoE (w0 : World) (ρ : Rho) (H : T ABlk) (w : World) (L : Nat → Option (Nat × Nat)) (blk : List BSh) : Rho := rhoT ρ H w w L loc0 blk.length (ownT w0 ρ H L) ρ.frz
theorem Lent.mv {w0 w : World} {ρ : Rho} {H : T ABlk} {L : Nat → Option (Nat × Nat)} {blk : List BSh} {z : Sy} (hL : Lent w0 ρ H w L blk z) : MvHyp w0 ρ H .leaf w w w L loc0 blk z (ownT w0 ρ H L) ρ.frz :=
  { good := hL.good, hb := hL.hb, dom := hL.dom, linj := hL.inj, ginj := fun a b _ _ e => by have e : base + a = base + b := e; omega, g64 := fun j hj => by have := base_lt; have := hL.n64; show base + j + 1 < _; omega,
    g0 := fun _ _ _ _ => rfl, kept := Kept.refl _ _ _, owns := fun j h h1 h2 => .inr ⟨j, h, h1, rfl, h2⟩, frF := fun b x _ hF => by simp [T.get] at hF, frz := fun b x h _ => by rw [frzE0] at h; exact h }
theorem Lent.at0 {w0 w : World} {ρ : Rho} {H : T ABlk} {L : Nat → Option (Nat × Nat)} {blk : List BSh} {z : Sy} (hL : Lent w0 ρ H w L blk z) {j : Nat} (hj : j < blk.length) : (rhoE w0 ρ H w L blk).at_ (base + j) 0 = homeJ ρ H L j := atT_of hL.mv hj
theorem Lent.ownOk {w0 w : World} {ρ : Rho} {H : T ABlk} {L : Nat → Option (Nat × Nat)} {blk : List BSh} {z : Sy} (hL : Lent w0 ρ H w L blk z) : OwnOk (rhoE w0 ρ H w L blk) := fun x hx => by
  obtain ⟨j, h, q1, q2, q3⟩ := hx
  obtain ⟨b, g, e, _⟩ := homeJ_at q1
  have hj := hL.dom _ _ e
  exact ⟨j, h, q2, (hL.at0 hj).trans q1, Nat.lt_of_lt_of_le hj hL.n64⟩
theorem frzE (w0 : World) (ρ : Rho) (H : T ABlk) (w : World) (L : Nat → Option (Nat × Nat)) (blk : List BSh) : (rhoE w0 ρ H w L blk).frz = (rhoE w0 ρ H w L blk).frz0 := by
  funext b
  exact frzE0 ρ H w L b
theorem leave {w0 w wx w' : World} {ρ ρ' : Rho} {H H' : T ABlk} {L LF : Nat → Option (Nat × Nat)} {blk out : List BSh} {z y : Sy} {γ : Loc} (hL : Lent w0 ρ H w L blk z) (hkind : sameK blk out = true)
    (hγ : ∀ j x b g, blk[j]? = some x → L j = some (b, g) → γ j = (b, bumpN x g)) (h64 : ∀ i, i < out.length → (γ i).1 + 1 < 2 ^ 64)
    (hG' : Good wx ρ' H' w') (hF : FinRel (isC blk) (rhoE w0 ρ H w L blk) w ρ' wx) (t2 : ∀ j x, out[j]? = some x → ∃ b g, LF j = some (b, g) ∧ ∃ q, H'.get b = some q ∧ BT ρ' H' out LF y x q g)
    (t3 : ∀ j b g, LF j = some (b, g) → b = base + j ∧ j < out.length) :
    ∃ ρ2 : Rho, Good w0 ρ2 (putH γ y out 0 H) w' ∧ ρ.le ρ2 ∧ (∀ x a v, TvA H' out LF y x a → VR ρ' a v → VR ρ2 (putA γ y x) v) ∧ ∀ x a v, TvR H' out LF y x a → VR ρ' a v → VR ρ2 (putR γ y x) v := by
  obtain ⟨hkl, hkind⟩ := sameK_at hkind
  have hG2 := hL.good
  have hsx := hF.kept.size
  have hn64 := hL.n64
  have hget : ∀ j, j < blk.length → ∃ x b g q, blk[j]? = some x ∧ L j = some (b, g) ∧ H.get b = some q ∧ BT ρ .leaf blk L z x q g := fun j hj => by
    obtain ⟨b, g, q1, q, q2, q3⟩ := hL.hb j _ (List.getElem?_eq_getElem hj)
    exact ⟨_, b, g, q, List.getElem?_eq_getElem hj, q1, q2, q3⟩
  have hownw : ∀ x, ρ'.own x → w.heap.size ≤ x ∨ ownT w0 ρ H L x := fun x hx => by
    obtain ⟨j, h, _, _, _, q | q⟩ := hF.ownx x hx
    · exact .inl q
    · exact .inr q.1
  have hm2 : MvHyp wx ρ' H' H' w' w w LF γ out y (ownT w0 ρ H L) ρ.frz :=
    { good := hG', hb := t2, dom := fun j p h => (t3 j p.1 p.2 h).2, linj := fun j j' b g g' h1 h2 => by
        have := (t3 _ _ _ h1).1
        have := (t3 _ _ _ h2).1
        omega,
      ginj := fun a b ha hb e => by
        obtain ⟨x1, b1, g1, _, q1, q2, _⟩ := hget a (by omega)
        obtain ⟨x2, b2, g2, _, r1, r2, _⟩ := hget b (by omega)
        rw [hγ _ _ _ _ q1 q2, hγ _ _ _ _ r1 r2] at e
        have e : b1 = b2 := e
        subst e
        exact hL.inj _ _ _ _ _ q2 r2,
      g64 := h64,
      g0 := fun j ty c hx => by
        have hj : j < blk.length := by
          rcases Nat.lt_or_ge j out.length with h' | h'
          · omega
          · rw [List.getElem?_eq_none h'] at hx; cases hx
        obtain ⟨x, b, g, q, q1, q2, q3, q4⟩ := hget j hj
        obtain ⟨ty', c', ex⟩ := (hkind j x _ q1 hx).2 ⟨ty, c, rfl⟩
        subst ex
        rw [hγ _ _ _ _ q1 q2]
        exact q4.1,
      kept := by
        refine hF.kept.trans ⟨hG'.below.os, hG'.below.tape, hG'.below.output, hG'.below.size, fun x hx ho => hG'.below.block x (by omega) fun hpo => ?_⟩
        rcases hownw x hpo with h | h
        · omega
        · exact ho h
      owns := fun j h _ h2 => by
        rcases h2 with h2 | h2
        · exact .inl (by omega)
        · exact hownw _ h2,
      frF := fun b x hb hF' => ⟨hF', fun j g hL' => by
          obtain ⟨q1, q2⟩ := t3 _ _ _ hL'
          omega, fun g h hh ho => by
          rcases ho with ho | ho
          · omega
          · obtain ⟨j, h0, q2, q3, hj, _⟩ := hF.ownx _ ho
            have := (hG'.inj _ _ _ _ _ _ q3 hh q2).1
            omega⟩,
      frz := fun b x hx hlt => by
        unfold frzT at hx
        split at hx
        · rename_i x' hx'
          injection hx with hx
          subst hx
          have := hF.frzB b _ (hG'.frzB b _ hx' (by omega)) hlt
          have h : frzT ρ H w w L b = some x' := this
          rw [frzE0] at h
          exact h
        · split at hx
          · rename_i hc; omega
          · cases hx }
  have hGp := hm2.to
  have hphas : ∀ j x, out[j]? = some x → (putH γ y out 0 .leaf).get (γ j).1 = some (putB γ y j x) := fun j x hx => by
    have := putH_has (γ := γ) (y := y) out 0 .leaf j x hx (fun i hi => by rw [Nat.zero_add]; exact hm2.g64 i hi) (fun a b ha hb e => hm2.ginj a b ha hb (by simpa using e))
    simpa using this
  have hpget : ∀ b X, (putH γ y out 0 .leaf).get b = some X → ∃ j x, out[j]? = some x ∧ b = (γ j).1 ∧ X = putB γ y j x ∧ j < blk.length := fun b X hX => by
    rcases putH_get out 0 .leaf b X hX with ⟨j, x, hx, q1, q2⟩ | ⟨h, _⟩
    · have hj : j < blk.length := by
        rcases Nat.lt_or_ge j out.length with h' | h'
        · omega
        · rw [List.getElem?_eq_none h'] at hx; cases hx
      exact ⟨j, x, hx, by rw [q1, Nat.zero_add], by rw [q2, Nat.zero_add], hj⟩
    · simp [T.get] at h
  have hhome : ∀ j b g h, j < blk.length → γ j = (b, g) → homeJ ρ' H' LF j = some h →
      ρ.at_ b g = some h ∨ (ρ.at_ b g = none ∧ ∀ b' g' h', ρ.at_ b' g' = some h' → h'.blk = h.blk → b' = b ∧ h' = h) := fun j b g h hj hbg hJ => by
    obtain ⟨x, b0, g0, q, q1, q2, q3, q4⟩ := hget j hj
    obtain ⟨b1, g1, hL1, hat1⟩ := homeJ_at hJ
    obtain ⟨eb1, _⟩ := t3 _ _ _ hL1
    subst eb1
    rw [hγ _ _ _ _ q1 q2] at hbg
    have hjo : j < out.length := by omega
    obtain ⟨b2, g2, hL2, qo, hqo, hbo⟩ := t2 j _ (List.getElem?_eq_getElem hjo)
    rw [hL1] at hL2; injection hL2 with hL2; injection hL2 with e1 e2
    subst e1; subst e2
    by_cases hxc : ∃ ty c, x = .cells ty c
    · obtain ⟨ty, c, ex⟩ := hxc
      obtain ⟨ty', c', exo⟩ := (hkind j x _ q1 (List.getElem?_eq_getElem hjo)).1 ⟨ty, c, ex⟩
      rw [exo] at hbo
      have eg1 : g1 = 0 := hbo.1
      subst ex; subst eg1
      injection hbg with e1 e2
      subst e1; subst e2
      obtain ⟨eg, cc, as, eq, _⟩ := q4
      subst eg; subst eq
      obtain ⟨h0, r1, _⟩ := (hG2.blk _ _ q3).2 0 (Nat.le_refl _)
      have hJ0 : homeJ ρ H L j = some h0 := by unfold homeJ; rw [q2]; simp only [q3, r1]
      have hic : isC blk j := by unfold isC isCells; rw [q1]
      have := hF.cells j h0 hic ((hL.at0 hj).trans hJ0)
      rw [hat1] at this
      injection this with this
      subst this
      exact .inl r1
    · have hgr : bumpN x g0 = g0 + 1 := by cases x <;> first | rfl | exact absurd ⟨_, _, rfl⟩ hxc
      rw [hgr] at hbg
      injection hbg with e1 e2
      subst e1; subst e2
      have hqg : ∃ ct ty, q = .grow ct g0 ty := by
        cases x with
        | cells ty c => exact absurd ⟨_, _, rfl⟩ hxc
        | grow m ty t => exact ⟨_, _, q4⟩
        | growb ty t => exact ⟨_, _, q4⟩
      obtain ⟨ct, ty, eq⟩ := hqg
      subst eq
      have hnone : ρ.at_ b0 (g0 + 1) = none := by
        cases hn : ρ.at_ b0 (g0 + 1) with
        | none => rfl
        | some hh =>
          have : g0 + 1 ≤ g0 := hG2.gens _ _ _ _ hn q3
          omega
      refine .inr ⟨hnone, fun b' g' h' hh' e => ?_⟩
      have hlt := (hG2.dom _ _ _ hh').1
      have hqo2 : ∃ ct ty, qo = .grow ct g1 ty ∧ ct.len ≠ 0 := by
        have hxo : ¬ ∃ ty c, out[j] = .cells ty c := fun hx => hxc ((hkind j x _ q1 (List.getElem?_eq_getElem hjo)).2 hx)
        have : ∃ ct ty, qo = .grow ct g1 ty := by
          generalize out[j] = xo at *
          cases xo with
          | cells ty c => exact absurd ⟨_, _, rfl⟩ hxo
          | grow m ty t => exact ⟨_, _, hbo⟩
          | growb ty t => exact ⟨_, _, hbo⟩
        obtain ⟨ct, ty, e⟩ := this
        refine ⟨ct, ty, e, fun h0 => ?_⟩
        unfold homeJ at hJ
        rw [hL1] at hJ
        simp only [hqo, e, if_pos h0] at hJ
        cases hJ
      obtain ⟨cto, tyo, eqo, hne⟩ := hqo2
      subst eqo
      rcases hG'.blk _ _ hqo with h0 | ⟨hmm, r1, r2, r3, _⟩
      · exact absurd h0 hne
      rw [hat1] at r1; injection r1 with r1; subst r1
      rcases r3 with r3 | r3
      · rw [← e] at r3; omega
      · obtain ⟨j2, h2, s2', s3', _, hor⟩ := hF.ownx _ r3
        obtain ⟨u1, u2⟩ := hG'.inj _ _ _ _ _ _ s3' hat1 s2'
        have : j2 = j := by omega
        subst this
        subst u2
        rcases hor with hor | ⟨_, hor⟩
        · rw [← e] at hor; omega
        · rw [hL.at0 hj] at hor
          obtain ⟨b3, g3, hL3, hat3⟩ := homeJ_at hor
          rw [q2] at hL3; injection hL3 with hL3; injection hL3 with e4 e5
          subst e4; subst e5
          exact hG2.inj _ _ _ _ _ _ hh' hat3 e
  obtain ⟨ρ2, m1, m2, m3, m4, m5⟩ := merge (H2 := putH γ y out 0 H) hG2 hGp (fun b => by
      cases hp : (putH γ y out 0 .leaf).get b with
      | some X =>
        obtain ⟨j, x, hx, q1, q2, _⟩ := hpget b X hp
        subst q1
        have := putH_has (γ := γ) (y := y) out 0 H j x hx (fun i hi => by rw [Nat.zero_add]; exact hm2.g64 i hi) (fun a b ha hb e => hm2.ginj a b ha hb (by simpa using e))
        rw [Nat.zero_add] at this
        rw [this, q2]
      | none =>
        refine putH_other _ _ _ _ fun i hi e => ?_
        rw [Nat.zero_add] at e
        have := hphas i _ (List.getElem?_eq_getElem hi)
        rw [← e, hp] at this
        cases this)
    (fun x hx => by
      obtain ⟨_, _, _, _, q⟩ := hx
      exact q) hF.val (fun b x hx => frzT_old (hF.frz _ _ (frzT_old hx))) rfl
    (fun b g h hh => by
      obtain ⟨j, hj, q1, q2, hJ⟩ := atT_inv hh
      exact hhome j b g h (by omega) (by rw [← q1, ← q2]) hJ)
    (fun b g h X hh hX => by
      obtain ⟨j, xo, hx, q1, q2, hj⟩ := hpget b X hX
      obtain ⟨x, b0, g0, q, r1, r2, r3, r4⟩ := hget j hj
      have hkk := hkind j x xo r1 hx
      have hgg := hγ _ _ _ _ r1 r2
      rw [hgg] at q1
      subst q1; subst q2
      have hgen := hG2.gens _ _ _ _ hh r3
      have hq : (¬ ∃ ty c, x = .cells ty c) → ∃ ct ty, q = .grow ct g0 ty := fun hn => by
        cases x with
        | cells ty c => exact absurd ⟨_, _, rfl⟩ hn
        | grow m ty t => exact ⟨_, _, r4⟩
        | growb ty t => exact ⟨_, _, r4⟩
      have hgrow : (¬ ∃ ty c, xo = .cells ty c) → g ≤ (γ j).2 := fun hn => by
        have hnx : ¬ ∃ ty c, x = .cells ty c := fun h => hn (hkk.1 h)
        obtain ⟨_, _, eq⟩ := hq hnx
        subst eq
        have hgen : g ≤ g0 := hgen
        rw [hgg]
        cases x <;> first | (show g ≤ g0 + 1; omega) | (show g ≤ g0; omega)
      cases xo with
      | cells ty c =>
        obtain ⟨ty', c', ex⟩ := hkk.2 ⟨_, _, rfl⟩
        subst ex
        obtain ⟨eg, cc, as, eq, _⟩ := r4
        subst eq
        exact hgen
      | grow m ty t => exact hgrow (fun ⟨_, _, e⟩ => by cases e)
      | growb ty t => exact hgrow (fun ⟨_, _, e⟩ => by cases e))
    (fun b X hX => by
      obtain ⟨j, xo, hx, q1, q2, hj⟩ := hpget b X hX
      obtain ⟨x, b0, g0, q, r1, r2, r3, r4⟩ := hget j hj
      rw [hγ _ _ _ _ r1 r2] at q1
      subst q1
      exact ⟨q, r3⟩)
    (fun b g h hh hn ho => by
      obtain ⟨j, h0, q1, q2, _⟩ := ho
      obtain ⟨b0, g0, hL', hat⟩ := homeJ_at q1
      have hj := hL.dom _ _ hL'
      have e := (hG2.inj _ _ _ _ _ _ hat hh q2).1
      subst e
      obtain ⟨x, b1, g1, q, r1, r2, r3, r4⟩ := hget j hj
      rw [hL'] at r2; injection r2 with r2; injection r2 with e1 e2
      subst e1; subst e2
      have := hphas j _ (List.getElem?_eq_getElem (by omega : j < out.length))
      rw [hγ _ _ _ _ r1 hL', hn] at this
      cases this)
    (fun b X hX => by
      obtain ⟨j, xo, hx, q1, q2, hj⟩ := hpget b X hX
      subst q2
      cases xo with
      | cells ty c => exact .inl ⟨_, _, _, rfl⟩
      | grow m ty t => exact .inr ⟨_, _, _, rfl⟩
      | growb ty t => exact .inr ⟨_, _, _, rfl⟩)
  exact ⟨ρ2, m1, m2, fun x a v h hv => (TvA.vr hm2 h hv).into m3 m4 (fun b x hx => by rw [m5]; exact hx), fun x a v h hv => (TvR.vr hm2 h hv).into m3 m4 (fun b x hx => by rw [m5]; exact hx)⟩
def CallOk (P : Program) (f : Nat) (S : FSpec) (zf : (z : Sy) → { y : Sy // S.pre z → S.post z y }) : Prop :=
  ∀ z, S.pre z → ∀ (w : World) (ρ : Rho) (vs : List Value), Good w ρ (S.heap z) w → LR ρ (S.argsA z) vs →
    (∀ args : Array Value, (callFunc f args).run P w = .ok (.enter f args) w) ∧ CallsIn Fence.wide 0 P f vs.toArray w fun e w' => ∃ v ρ' H' a s, e = .returned v ∧ Good w ρ' H' w' ∧ ρ.le ρ' ∧ VR ρ' a v ∧
      pullFin H' (S.res z) (S.out z) a = some s ∧ s.pr ∧ (zf z).1 = syOf s.tm
theorem lent_of {blk : List BSh} {s1 s2 : PS} {H : T ABlk} (hG : Good w0 ρ H w) (hfin : finLn blk s1.ln s1 = some s2) (hp : s2.pr) (hhas : BlkHas ρ blk H s1 blk 0) (h64 : blk.length ≤ 64) (hloc : locOk blk.length s2.loc = true) : Lent w0 ρ H w s2.L blk (syOf s2.tm) := by
  obtain ⟨f1, f2, f3, f4, _⟩ := finLn_ok hfin
  have hln := lnOk_of hfin hp
  refine ⟨hG, fun j x hx => ?_, fun j p h => locOk_dom hloc _ (assoc_mem h), fun j j' b g g' h1 h2 => ?_, h64⟩
  · obtain ⟨b, g, q1, q, q2, q3⟩ := hhas j x hx
    rw [Nat.zero_add] at q1
    exact ⟨b, g, f1.loc _ _ q1, q, q2, q3 s2 f1 hp hln⟩
  · have := locOk_inj hloc _ (assoc_mem h1) _ (assoc_mem h2) rfl
    exact congrArg Prod.fst this
theorem bump_at {blk : List BSh} {s : PS} {j b g : Nat} {x : BSh} (hx : blk[j]? = some x) (hL : s.L j = some (b, g)) : bump blk (locF s) j = (b, bumpN x g) := by
  have e : locF s j = (b, g) := by unfold locF; rw [show assoc j s.loc = some (b, g) from hL]
  unfold bump
  rw [hx, e]
  cases x <;> rfl
theorem con_ok {f : Nat} {S : FSpec} {zf : (z : Sy) → { y : Sy // S.pre z → S.post z y }} (hC : CallOk P f S zf) (w0 : World) (l : List AV) : EnAt P w0 f l (conT S zf l) := by
  intro vs k σ K ρ w R hS hG hl h hR
  obtain ⟨l', σ1, z1, hS1, hG1, hlen, hlr⟩ := prepAs_ok hS hG hl h
  obtain ⟨s0, hs0, z2⟩ := oelT z1
  obtain ⟨s1, σ2, z3, hS2, hG2, hle1, _, hhas⟩ := blksK_ok hS1 hG1 z2
  obtain ⟨s2, hs2, z4⟩ := oelT z3
  obtain ⟨hchk, z5⟩ := bifT z4
  obtain ⟨⟨hpr, hpre⟩, z6⟩ := req_ok z5
  clear h z1 z2 z3 z4 z5
  obtain ⟨hc64, hc2⟩ := bif'_true hchk
  obtain ⟨hcK, hcL⟩ := bif'_true hc2
  have hc64 := bleT hc64
  obtain ⟨p1, p2⟩ := pullAs_ok (blk := S.blk) hs0
  obtain ⟨f1, f2, f3, f4, _⟩ := finLn_ok hs2
  have hln := lnOk_of hs2 hpr
  have hvs : LR ρ l' vs := hlr (by rw [← hlen]; exact pullAs_len hs0)
  have hargs := p2 s2 (hle1.trans f1) hpr hln
  have hL := lent_of hG2 hs2 hpr hhas hc64 hcL
  obtain ⟨z, hz⟩ : ∃ z, z = syOf s2.tm := ⟨_, rfl⟩
  rw [← hz] at hpre z6 hargs hL hcK
  have z6 : run (wrK (bump S.blk (locF s2)) (zf z).1 (S.out z) 0 (k (putR (bump S.blk (locF s2)) (zf z).1 (S.res z)))) σ2 K = true := z6
  have hLb := TvAs.lr hL.mv hargs hvs
  obtain ⟨hcf, hcalls⟩ := hC z hpre w _ vs hL.mv.to hLb
  refine ⟨hcf, hcalls.mono fun e w' he => ?_⟩
  obtain ⟨v, ρ', H', a, s, rfl, hG', hle', hva, hfin, hspr, hzf⟩ := he
  obtain ⟨σ3, z7, hS3, e3, h64⟩ := wrK_ok hS2 z6
  obtain ⟨t1, t2, t3⟩ := pullFin_ok (ρ := ρ') hfin hspr
  rw [← hzf] at t1 t2
  obtain ⟨ρ2, m1, m2, _, m3⟩ := leave hL hcK (fun j x b g hx hl => bump_at hx hl) (fun i hi => by have := h64 i hi; rwa [Nat.zero_add] at this) hG' (FinRel.of_le hle' hL.ownOk (frzE _ _ _ _ _ _).symm) t2 t3
  exact hR _ v σ3 ρ2 w' z7 hS3 (by rw [e3]; exact m1) m2 (m3 _ _ _ t1 hva)
theorem call_ok {M : Tab} (hM : TabOk P M) {n f : Nat} {S : FSpec} (h : ∀ z, S.pre z → ∃ hn, (S.callFm P M n f z hn).den) : ∃ zf : (z : Sy) → { y : Sy // S.pre z → S.post z y }, CallOk P f S zf := by
  have key : ∀ z, ∃ y : { y : Sy // S.pre z → S.post z y }, S.pre z → ∃ a σf s, (∀ K, run (callF P (exec P M n) f (S.argsA z) .ret) (start (S.heap z) (base + 64)) K = K a σf) ∧ pullFin σf.h (S.res z) (S.out z) a = some s ∧ s.pr ∧ y.1 = syOf s.tm := fun z => by
    by_cases hz : S.pre z
    · obtain ⟨hn, hd⟩ := h z hz
      obtain ⟨a, σf, e, hn', hl⟩ := evF_ok _ _ _ _ hd
      unfold leafF at hl
      split at hl
      · rename_i s hs
        exact ⟨⟨syOf s.tm, fun _ => hl.2 hl.1⟩, fun _ => ⟨a, σf, s, e, hs, hl.1, rfl⟩⟩
      · exact hl.elim
    · exact ⟨⟨⟨fun _ => 0, fun _ => [], fun _ => False, fun _ => []⟩, fun h => absurd h hz⟩, fun h => absurd h hz⟩
  refine ⟨fun z => Classical.choose (key z), fun z hz w ρ vs hG hl => ?_⟩
  obtain ⟨a, σf, s, e, hs, hp, hy⟩ := Classical.choose_spec (key z) hz
  refine callF_ok (exec_ok P hM w n).1 f (S.argsA z) vs .ret (start (S.heap z) (base + 64)) (fun a' s' => dP (a' = a ∧ s' = σf)) ρ w _ (start_SI (by decide) (by decide)) hG hl (by rw [e]; exact dP_iff.2 ⟨rfl, rfl⟩) fun av v σ' ρ' w' q1 q2 q3 q4 q5 => ?_
  obtain ⟨e1, e2⟩ := dP_iff.1 (show dP (av = a ∧ σ' = σf) = true from q1)
  subst e1; subst e2
  exact ⟨v, ρ', _, _, s, rfl, q3, q4, q5, hs, hp, hy⟩
end
end Go.Sym
