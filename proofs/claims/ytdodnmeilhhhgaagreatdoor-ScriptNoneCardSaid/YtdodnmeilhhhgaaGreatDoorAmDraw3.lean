/- PART OF THE ABSTRACT MACHINE over the given model: Draw3. It carries no condition of its own. -/
import Derived.Test.YtdodnmeilhhhgaaGreatDoorAmDraw2
set_option linter.unusedVariables false
set_option linter.unusedSimpArgs false
noncomputable section
namespace Go.Proofs.YtdodnmeilhhhgaaGreatDoor.AM
variable {P : Program} {π π' : Nm} {M : Nat → Prop} {w w' : World} {st st' : St} {fr : Fm} {a : Act}

/-! ### Operations that leave the store alone -/
def reader (P : Program) (o : Oper) : Bool :=
  match o.op with
  | .move _ | .assign _ | .pick .. | .build .. | .load .. | .nilCheck _ | .binOp .. | .unOp .. | .makeInterface .. | .makeFunc .. | .slice .. | .fieldAddr .. | .field .. | .indexAddr .. | .index .. | .lookup .. | .extract .. => true
  | .convert _ d _ => match P.underlying d with | some (.slice _) => false | _ => true
  | .call { callee := .builtin b, .. } => match b with | .len | .cap | .max | .min => true | _ => false
  | _ => false
theorem reader_same {E : Operand → D} {o : Oper} {s s' : St} {d : D} (hr : reader P o = true) (h : aop P E s o = some (d, s')) : s' = s := by
  obtain ⟨dst, op, type, pos, after, guard⟩ := o
  have mp : ∀ {α : Type} {f : α → D} {x : Option α}, x.map (fun y => (f y, s)) = some (d, s') → s' = s := fun hx => by
    rw [Option.map_eq_some_iff] at hx; obtain ⟨y, _, hy⟩ := hx; injection hy with _ e; exact e.symm
  cases op <;> simp only [reader] at hr <;> simp only [aop] at h <;> try (cases hr; done)
  case move => injection h with h; injection h with _ e; exact e.symm
  case assign => injection h with h; injection h with _ e; exact e.symm
  case pick =>
    split at h
    · injection h with h; injection h with _ e; exact e.symm
    · cases h
  case load =>
    split at h
    · exact mp h
    · cases h
  case makeFunc => injection h with h; injection h with _ e; exact e.symm
  case convert a b x =>
    unfold convD at h
    split at h
    · injection h with h; injection h with _ e; exact e.symm
    · injection h with h; injection h with _ e; exact e.symm
    · injection h with h; injection h with _ e; exact e.symm
    · rename_i hb _; rw [hb] at hr; cases hr
    · rename_i hb _; rw [hb] at hr; cases hr
    · split at h
      · split at h
        · split at h
          · cases h
          · exact mp h
        · cases h
      · cases h
    · cases h
  case call c =>
    obtain ⟨callee, args, argTypes⟩ := c
    cases callee with
    | builtin b =>
      simp only at hr h
      unfold builtinD at h
      cases b <;> simp only at hr h <;> try (cases hr; done)
      all_goals (first | exact mp h | (split at h <;> first | exact mp h | (cases h; done) | (simp_all; done)))
    | value => cases hr
    | invoke => cases hr
  all_goals exact mp h

/-! ### Equal values -/
def allB {α : Type} (f : α → α → Bool) : List α → List α → Bool
  | [], [] => true
  | x :: l, y :: r => f x y && allB f l r
  | _, _ => false
theorem allB_ok {α : Type} {f : α → α → Bool} (hf : ∀ x y, f x y = true → x = y) : ∀ l r, allB f l r = true → l = r := by
  intro l
  induction l with
  | nil => intro r h; cases r with | nil => rfl | cons => cases h
  | cons x l ih =>
    intro r h
    cases r with
    | nil => cases h
    | cons y r => simp only [allB, Bool.and_eq_true] at h; rw [hf _ _ h.1, ih _ h.2]
def D.beq : Nat → D → D → Bool
  | 0, _, _ => false
  | n + 1, x, y => match x, y with
    | .undef, .undef => true
    | .bool b, .bool b' => b == b'
    | .int k i, .int k' i' => decide (k = k') && decide (i = i')
    | .float k i, .float k' i' => decide (k = k') && decide (i = i')
    | .str s, .str s' => decide (s = s')
    | .ptr i o, .ptr i' o' => decide (i = i') && decide (o = o')
    | .nilp, .nilp => true
    | .fptr c o, .fptr c' o' => allB (D.beq n) c c' && decide (o = o')
    | .sl i o e m c, .sl i' o' e' m' c' => decide (i = i') && decide (o = o') && decide (e = e') && decide (m = m') && decide (c = c')
    | .nils, .nils => true
    | .fsl c e m f, .fsl c' e' m' f' => allB (D.beq n) c c' && decide (e = e') && decide (m = m') && decide (f = f')
    | .map i, .map i' => decide (i = i')
    | .nilm, .nilm => true
    | .func (.func f) a b, .func (.func f') a' b' => decide (f = f') && allB (D.beq n) a a' && allB (D.beq n) b b'
    | .nilf, .nilf => true
    | .iface t v, .iface t' v' => decide (t = t') && D.beq n v v'
    | .nili, .nili => true
    | .agg c, .agg c' => allB (D.beq n) c c'
    | .tup c, .tup c' => allB (D.beq n) c c'
    | _, _ => false
theorem D.beq_ok : ∀ n x y, D.beq n x y = true → x = y := by
  intro n
  induction n with
  | zero => intro x y h; cases h
  | succ n ih =>
    intro x y h
    unfold D.beq at h
    split at h <;> (try simp only [Bool.and_eq_true, decide_eq_true_eq, beq_iff_eq] at h) <;> first
      | rfl
      | (cases h; done)
      | (have := ih _ _ h.2; simp_all; done)
      | (simp_all; done)
      | (rw [allB_ok ih _ _ h]; done)
      | (rw [allB_ok ih _ _ h.1, h.2]; done)
      | (obtain ⟨⟨⟨h1, h2⟩, h3⟩, h4⟩ := h; rw [allB_ok ih _ _ h1, h2, h3, h4]; done)
      | (obtain ⟨⟨h1, h2⟩, h3⟩ := h; rw [h1, allB_ok ih _ _ h2, allB_ok ih _ _ h3]; done)
      | (obtain ⟨h1, h2⟩ := h; rw [h1, ih _ _ h2]; done)
def pairB (x y : D × D) : Bool := D.beq 20 x.1 y.1 && D.beq 20 x.2 y.2
theorem pairB_ok (x y : D × D) (h : pairB x y = true) : x = y := by
  simp only [pairB, Bool.and_eq_true] at h
  exact Prod.ext (D.beq_ok _ _ _ h.1) (D.beq_ok _ _ _ h.2)
def Blk.beq : Blk → Blk → Bool
  | .cells c wr, .cells c' wr' => allB (D.beq 20) c c' && wr == wr'
  | .map es, .map es' => allB pairB es es'
  | .iter s p, .iter s' p' => decide (s = s') && decide (p = p')
  | _, _ => false
theorem Blk.beq_ok (x y : Blk) (h : Blk.beq x y = true) : x = y := by
  unfold Blk.beq at h
  split at h
  · simp only [Bool.and_eq_true, beq_iff_eq] at h; rw [allB_ok (D.beq_ok 20) _ _ h.1, h.2]
  · rw [allB_ok pairB_ok _ _ h]
  · simp only [Bool.and_eq_true, decide_eq_true_eq] at h; rw [h.1, h.2]
  · cases h
def Tr.beq : Tr Blk → Tr Blk → Bool
  | .leaf, .leaf => true
  | .node l v r, .node l' v' r' => (match v, v' with | some x, some y => Blk.beq x y | none, none => true | _, _ => false) && Tr.beq l l' && Tr.beq r r'
  | _, _ => false
theorem Tr.beq_ok : ∀ x y, Tr.beq x y = true → x = y := by
  intro x
  induction x with
  | leaf => intro y h; cases y with | leaf => rfl | node => cases h
  | node l v r ihl ihr =>
    intro y h
    cases y with
    | leaf => cases h
    | node l' v' r' =>
      simp only [Tr.beq, Bool.and_eq_true] at h
      obtain ⟨⟨h1, h2⟩, h3⟩ := h
      rw [ihl _ h2, ihr _ h3]
      congr 1
      split at h1
      · rw [Blk.beq_ok _ _ h1]
      · rfl
      · cases h1
def St.beq (s s' : St) : Bool := decide (s.next = s'.next) && Tr.beq s.tr s'.tr
theorem St.beq_ok (s s' : St) (h : St.beq s s' = true) : s = s' := by
  simp only [St.beq, Bool.and_eq_true, decide_eq_true_eq] at h
  cases s; cases s'
  simp only at h
  rw [h.1, Tr.beq_ok _ _ h.2]
end Go.Proofs.YtdodnmeilhhhgaaGreatDoor.AM
