/- PART OF THE ABSTRACT MACHINE over the given model: Pure. It carries no condition of its own. -/
import Derived.Test.YtdodnmeilhhhgaaGreatDoorAmEv
set_option linter.unusedVariables false
set_option linter.unusedSimpArgs false
noncomputable section
namespace Go.Proofs.YtdodnmeilhhhgaaGreatDoor.AM
variable {P : Program} {π π' : Nm} {M M' : Nat → Prop} {w w' : World} {st st' : St}

/-! ### Calls that neither write nor keep anything -/
def D.plain1 : D → Bool
  | .bool _ | .int _ _ | .float _ _ | .str _ | .nilp | .nils | .nilm | .nilf | .nili => true
  | _ => false
def D.plain : D → Bool
  | .agg c => c.all D.plain1
  | .tup c => c.all D.plain1
  | d => d.plain1
theorem VR.plain1 {d : D} {v : Value} (h : VR P π M w d v) (hd : d.plain1 = true) : VR P π' M' w' d v := by
  cases h <;> first | (simp [D.plain1] at hd; done) | constructor | skip
  all_goals first | assumption | rfl
theorem VR.plain1s : ∀ {c : List D} {vs : List Value}, All2 (VR P π M w) c vs → c.all D.plain1 = true → All2 (VR P π' M' w') c vs := by
  intro c
  induction c with
  | nil => intro vs h _; cases h; exact .nil
  | cons d c ih =>
    intro vs h hc
    cases h with
    | cons h hl =>
      simp only [List.all_cons, Bool.and_eq_true] at hc
      exact .cons (h.plain1 hc.1) (ih hl hc.2)
theorem VR.plain {d : D} {v : Value} (h : VR P π M w d v) (hd : d.plain = true) : VR P π' M' w' d v := by
  cases d with
  | agg c => cases h with | agg _ _ h2 => exact .agg _ _ (VR.plain1s h2 hd)
  | tup c => cases h with | tup _ _ h2 => exact .tup _ _ (VR.plain1s h2 hd)
  | _ => exact h.plain1 hd

/-- A value as frozen data. -/
def freeze (P : Program) (st : St) (d : D) : Option D :=
  match d with
  | .sl i o e n c => match szOf P e with
    | some s => match srcD P st s (.sl i o e n c) with
      | some (_, cs) => if cs.all D.plain1 = true then some (.fsl cs e n false) else none
      | none => none
    | none => none
  | .fsl c e n _ => if c.all D.plain1 = true then some (.fsl c e n false) else none
  | d => if d.plain = true then some d else none
def freezeAll (P : Program) (st : St) : List D → Option (List D)
  | [] => some []
  | d :: l => match freeze P st d, freezeAll P st l with
    | some x, some r => some (x :: r)
    | _, _ => none
theorem shape_lt' {b : Nat} {x : TypeId × Nat} (h : w.shape? b = some x) : b < w.heap.size := shape_lt h
theorem freeze_ok (h : Rel P π w st) {d d' : D} {v : Value} (hv : VR P π (Mut π st) w d v) (hf : freeze P st d = some d') (hM : ∀ n, ¬ M' n) : VR P π' M' w d' v := by
  unfold freeze at hf
  split at hf
  · rename_i i o e n c
    split at hf
    · rename_i s hs
      split at hf
      · rename_i n' cs hsrc
        split at hf
        · rename_i hp
          injection hf with hf; subst hf
          obtain ⟨base, cap, he, hl, h1, vs, hvl, h2, hcase⟩ := ok_elems h hv (fun b hb => by cases hb) hsrc
          have hn' : n' = n := by
            simp only [srcD, hs, if_true] at hsrc
            rw [Option.map_eq_some_iff] at hsrc; obtain ⟨_, _, hsrc⟩ := hsrc; injection hsrc with e1 _; exact e1.symm
          subst hn'
          cases hv with
          | sl _ _ _ _ _ b base0 off cap0 hpi ho hc hn hr hq hsz =>
            injection he with he1 he2 he3; subst he1; subst he3
            rcases hcase with ⟨h0, _⟩ | ⟨b', off', hb', hcell⟩
            · cases h0
            · injection hb' with hb'; injection hb' with e1 e2 e3; subst e1; subst e2
              obtain ⟨x, hx, _⟩ := hsz
              exact .fsl _ _ _ _ _ _ _ vs hn (fun h => by cases h) hq (shape_lt hx) (hM _) h1 (by rw [cellsOf_szOf hs]; exact hl) hcell (VR.plain1s h2 hp)
        · cases hf
      · cases hf
    · cases hf
  · rename_i c e n full
    split at hf
    · rename_i hp
      injection hf with hf; subst hf
      cases hv with
      | fsl _ _ _ _ b base cap vs hn hfl hr hb hm h1 hl hc h2 =>
        exact .fsl _ _ _ _ b base cap vs hn (fun h => by cases h) hr hb (hM _) h1 hl hc (VR.plain1s h2 hp)
      | fnil => exact .fnil _ _
    · cases hf
  · split at hf
    · rename_i hp
      injection hf with hf; subst hf
      exact hv.plain hp
    · cases hf
theorem freezeAll_ok (h : Rel P π w st) (hM : ∀ n, ¬ M' n) : ∀ {l l' : List D} {vs : List Value}, All2 (VR P π (Mut π st) w) l vs → freezeAll P st l = some l' → All2 (VR P π' M' w) l' vs := by
  intro l
  induction l with
  | nil => intro l' vs h2 hf; cases h2; simp only [freezeAll] at hf; injection hf with hf; subst hf; exact .nil
  | cons d l ih =>
    intro l' vs h2 hf
    cases h2 with
    | cons hv hl =>
      simp only [freezeAll] at hf
      split at hf
      · rename_i x r h1 h2
        injection hf with hf; subst hf
        exact .cons (freeze_ok h hv h1 hM) (ih hl h2)
      · cases hf

/-- A store that owns nothing and whose cells are plain. -/
structure Bare (P : Program) (S0 : St) : Prop where
  next : S0.next = P.globals.size
  blk : ∀ i b, S0.get i = some b → ∃ c, b = .cells c false ∧ c.all D.plain1 = true
def homeNm (P : Program) : Nm := { nm := fun i => if i < P.globals.size then some (i, 0) else none, hid := fun _ => False }
theorem bare_mut {S0 : St} (hb : Bare P S0) (n : Nat) : ¬ Mut (homeNm P) S0 n := by
  rintro (⟨i, b, base, hi, hw, _⟩ | h)
  · obtain ⟨c, rfl, _⟩ := hb.blk i b hi; cases hw
  · exact h
theorem bare_rel {S0 : St} (hb : Bare P S0) (h : Rel P π w st) (hs : ∀ i b, S0.get i = some b → i < P.globals.size ∧ st.get i = some b) : Rel P (homeNm P) w S0 := by
  have hnm : ∀ i, i < P.globals.size → homeNm P i = some (i, 0) := fun i hi => if_pos hi
  refine ⟨fun i b hi => ?_, fun i j bi bj n base base' hi hj hw => ?_, fun i hi => ?_, fun g hg => hnm g hg, fun n hn => hn.elim, fun i b n base hi hp hh => hh⟩
  · obtain ⟨hlt, hst⟩ := hs i b hi
    obtain ⟨c, rfl, hp⟩ := hb.blk i b hi
    obtain ⟨n, base, hpi, hn, hB⟩ := h.blk i _ hst
    rw [h.glob i hlt] at hpi; injection hpi with hpi; injection hpi with e1 e2; subst e1; subst e2
    refine ⟨i, 0, hnm i hlt, hn, ?_⟩
    cases hB with
    | cells _ _ vs t fz hbk hc hle hw =>
      refine .cells c false vs t fz hbk (fun j d hj => ?_) hle (fun h => by cases h)
      obtain ⟨v, hv, hr, h1⟩ := hc j d hj
      exact ⟨v, hv, hr.plain1 (List.all_eq_true.1 hp d (List.mem_of_getElem? hj)), h1⟩
  · obtain ⟨c, rfl, _⟩ := hb.blk i bi hi; cases hw
  · rw [hb.next] at hi; exact if_neg (Nat.not_lt.2 hi)

/-- A CALL ON FROZEN DATA IS ONE ON ANY DATA OF THAT FACE; the store stays. -/
theorem ACall.pure {S0 : St} (hb : Bare P S0) {g : FuncId} {args args' : List D} {d : D} (hd : d.plain = true) (hf : freezeAll P st args = some args') (hs : ∀ i b, S0.get i = some b → i < P.globals.size ∧ st.get i = some b)
    (h : ACall P g args' S0 fun r _ => r = d) : ACall P g args st fun r s => r = d ∧ s = st := fun π w vs hr h2 => by
  have hM := bare_mut (P := P) hb
  refine (h (homeNm P) w vs (bare_rel hb hr hs) (freezeAll_ok hr hM h2 hf)).mono fun e w' q => ?_
  cases e with
  | returned v =>
    obtain ⟨r, s', π', rfl, rel, vr, m⟩ := q
    obtain ⟨r1, m1⟩ := hr.same (m.fr.weaken fun n _ hn => hM n (.inl hn))
    exact ⟨r, st, π, ⟨rfl, rfl⟩, r1, vr.plain hd, m1⟩
  | panicked => exact q
  | outgrown => exact q
end Go.Proofs.YtdodnmeilhhhgaaGreatDoor.AM
