/- PART OF THE ABSTRACT MACHINE over the given model: Draw. It carries no condition of its own. -/
import Derived.Test.YtdodnmeilhhhgaaGreatDoorAmFlt
set_option linter.unusedVariables false
set_option linter.unusedSimpArgs false
noncomputable section
namespace Go.Proofs.YtdodnmeilhhhgaaGreatDoor.AM
variable {P : Program} {π π' : Nm} {M : Nat → Prop} {w w' : World} {st st' : St} {fr : Fm} {a : Act}

/-! ### Which operations stand before which -/
inductive Anc (ops : Array Oper) : Nat → Nat → Prop
  | edge {i : Nat} {o : Oper} {e : Edge} (hi : ops[i]? = some o) (he : e ∈ o.after.toList) (hb : Region.binds .any e = true) : Anc ops i e.on
  | step {i b : Nat} {o : Oper} {e : Edge} (hi : ops[i]? = some o) (he : e ∈ o.after.toList) (hb : Region.binds .any e = true) (h : Anc ops e.on b) : Anc ops i b
def Closed (ops : Array Oper) (X : Nat → Prop) : Prop := ∀ i o, X i → ops[i]? = some o → ∀ e ∈ o.after.toList, Region.binds .any e = true → X e.on
theorem Anc.mem {ops : Array Oper} {X : Nat → Prop} (hc : Closed ops X) {i b : Nat} (h : Anc ops i b) (hx : X i) : X b := by
  induction h with
  | edge hi he hb => exact hc _ _ hx hi _ he hb
  | step hi he hb _ ih => exact ih (hc _ _ hx hi _ he hb)
theorem Anc.ready {ops : Array Oper} {X : Nat → Prop} (hc : Closed ops X) {i b : Nat} {o : Oper} (h : Anc ops i b) (hi : ops[i]? = some o) (hr : ∀ e ∈ o.after.toList, Region.binds .any e = true → X e.on) : X b := by
  cases h with
  | edge hi' he hb => rw [hi] at hi'; injection hi' with e; subst e; exact hr _ he hb
  | step hi' he hb h => rw [hi] at hi'; injection hi' with e; subst e; exact h.mem hc (hr _ he hb)

def ancOf (acc : List Nat) : List Edge → Nat → Option Nat
  | [], m => some m
  | e :: l, m => if Region.binds .any e then (match acc[e.on]? with
      | some x => ancOf acc l (m ||| (1 <<< e.on ||| x))
      | none => none) else ancOf acc l m
def ancs : List Oper → List Nat → Option (List Nat)
  | [], acc => some acc
  | o :: l, acc => match ancOf acc o.after.toList 0 with
    | some m => ancs l (acc ++ [m])
    | none => none
def AncOK (ops : Array Oper) (acc : List Nat) : Prop :=
  acc.length ≤ ops.size ∧ ∀ (i m : Nat), acc[i]? = some m → (∀ b, m.testBit b = true → Anc ops i b) ∧ ∀ o, ops[i]? = some o → ∀ e ∈ o.after.toList, Region.binds .any e = true → e.on < i
theorem testBit_one_shiftLeft {i b : Nat} : (1 <<< i).testBit b = decide (b = i) := by
  rw [Nat.one_shiftLeft, Nat.testBit_two_pow]; exact decide_eq_decide.2 eq_comm
theorem ancOf_ok {ops : Array Oper} {acc : List Nat} (hacc : AncOK ops acc) {i : Nat} {o : Oper} (hi : ops[i]? = some o) : ∀ (l : List Edge) (m m' : Nat), (∀ e ∈ l, e ∈ o.after.toList) → (∀ b, m.testBit b = true → Anc ops i b) → ancOf acc l m = some m' →
    (∀ b, m'.testBit b = true → Anc ops i b) ∧ ∀ e ∈ l, Region.binds .any e = true → e.on < acc.length := by
  intro l
  induction l with
  | nil => intro m m' _ hm h; simp only [ancOf] at h; injection h with h; subst h; exact ⟨hm, by simp⟩
  | cons e l ih =>
    intro m m' hl hm h
    simp only [ancOf] at h
    by_cases hb : Region.binds .any e = true
    · rw [if_pos hb] at h
      split at h
      · rename_i x hx
        obtain ⟨h1, h2⟩ := ih _ _ (fun e' he' => hl e' (by simp [he'])) (fun b hbb => by
          simp only [Nat.testBit_or, Bool.or_eq_true, testBit_one_shiftLeft, decide_eq_true_eq] at hbb
          rcases hbb with hbb | rfl | hbb
          · exact hm b hbb
          · exact .edge hi (hl e (by simp)) hb
          · exact .step hi (hl e (by simp)) hb ((hacc.2 _ _ hx).1 b hbb)) h
        refine ⟨h1, fun e' he' hb' => ?_⟩
        rcases List.mem_cons.1 he' with rfl | he'
        · exact (List.getElem?_eq_some_iff.1 hx).1
        · exact h2 e' he' hb'
      · cases h
    · rw [if_neg hb] at h
      obtain ⟨h1, h2⟩ := ih _ _ (fun e' he' => hl e' (by simp [he'])) hm h
      refine ⟨h1, fun e' he' hb' => ?_⟩
      rcases List.mem_cons.1 he' with rfl | he'
      · exact absurd hb' hb
      · exact h2 e' he' hb'
theorem ancs_ok {ops : Array Oper} : ∀ (l : List Oper) (acc r : List Nat), l = ops.toList.drop acc.length → AncOK ops acc → ancs l acc = some r → AncOK ops r ∧ r.length = acc.length + l.length := by
  intro l
  induction l with
  | nil => intro acc r _ h1 h; simp only [ancs] at h; injection h with h; subst h; exact ⟨h1, rfl⟩
  | cons o l ih =>
    intro acc r hl h1 h
    simp only [ancs] at h
    split at h
    · rename_i m hm
      have hi : ops[acc.length]? = some o := by
        have : (ops.toList.drop acc.length)[0]? = some o := by rw [← hl]; rfl
        rw [List.getElem?_drop] at this; simpa using this
      have hlt : acc.length < ops.size := (Array.getElem?_eq_some_iff.1 hi).1
      obtain ⟨k1, k2⟩ := ancOf_ok h1 hi o.after.toList 0 m (fun _ h => h) (fun b hb => by simp at hb) hm
      obtain ⟨g1, g2⟩ := ih (acc ++ [m]) r (by
        have : l = (o :: l).drop 1 := rfl
        rw [this, hl, List.drop_drop]; simp [Nat.add_comm]) ⟨by simp; omega, fun i m' hi' => by
          rw [List.getElem?_append] at hi'
          split at hi'
          · exact h1.2 i m' hi'
          · rename_i hge
            have : i = acc.length := by
              rcases Nat.eq_or_lt_of_le (Nat.le_of_not_lt hge) with e | e
              · exact e.symm
              · rw [List.getElem?_eq_none (by simp; omega)] at hi'; cases hi'
            subst this
            simp at hi'; subst hi'
            exact ⟨k1, fun o' ho' e he hb => by rw [hi] at ho'; injection ho' with ho'; subst ho'; exact k2 e he hb⟩⟩ h
      exact ⟨g1, by rw [g2]; simp; omega⟩
    · cases h

/-- Which of these stand behind i? -/
def dsOf (i : Nat) : List Nat → Nat → Nat
  | [], _ => 0
  | an :: l, j => (if an.testBit i then 1 <<< j else 0) ||| dsOf i l (j + 1)
theorem dsOf_ok {i b : Nat} : ∀ (l : List Nat) (j : Nat), (dsOf i l j).testBit b = true → ∃ an, j ≤ b ∧ l[b - j]? = some an ∧ an.testBit i = true := by
  intro l
  induction l with
  | nil => intro j h; simp [dsOf] at h
  | cons an l ih =>
    intro j h
    simp only [dsOf, Nat.testBit_or, Bool.or_eq_true] at h
    rcases h with h | h
    · split at h
      · rename_i hb
        rw [testBit_one_shiftLeft, decide_eq_true_eq] at h
        exact ⟨an, by omega, by simp [h], hb⟩
      · simp at h
    · obtain ⟨an', h1, h2, h3⟩ := ih _ h
      exact ⟨an', by omega, by rw [show b - j = (b - (j + 1)) + 1 from by omega]; simpa using h2, h3⟩
/-- Which of these have an effect? -/
def emOf (ef : Oper → Bool) : List Oper → Nat → Nat
  | [], _ => 0
  | o :: l, j => (if ef o then 1 <<< j else 0) ||| emOf ef l (j + 1)
theorem emOf_ok {ef : Oper → Bool} {b : Nat} : ∀ (l : List Oper) (j : Nat), (emOf ef l j).testBit b = true ↔ ∃ o, j ≤ b ∧ l[b - j]? = some o ∧ ef o = true := by
  intro l
  induction l with
  | nil => intro j; simp [emOf]
  | cons o l ih =>
    intro j
    simp only [emOf, Nat.testBit_or, Bool.or_eq_true, ih]
    constructor
    · rintro (h | ⟨o', h1, h2, h3⟩)
      · split at h
        · rename_i hb
          rw [testBit_one_shiftLeft, decide_eq_true_eq] at h
          exact ⟨o, by omega, by simp [h], hb⟩
        · simp at h
      · exact ⟨o', by omega, by rw [show b - j = (b - (j + 1)) + 1 from by omega]; simpa using h2, h3⟩
    · rintro ⟨o', h1, h2, h3⟩
      by_cases e : b = j
      · subst e
        simp at h2; subst h2
        exact .inl (by simp [h3, testBit_one_shiftLeft])
      · exact .inr ⟨o', by omega, by rw [show b - j = (b - (j + 1)) + 1 from by omega] at h2; simpa using h2, h3⟩
end Go.Proofs.YtdodnmeilhhhgaaGreatDoor.AM
