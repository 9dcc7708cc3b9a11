/- PART OF THE ABSTRACT MACHINE over the given model: Draw2. It carries no condition of its own. -/
import Derived.Test.YtdodnmeilhhhgaaGreatDoorAmDraw
set_option linter.unusedVariables false
set_option linter.unusedSimpArgs false
noncomputable section
namespace Go.Proofs.YtdodnmeilhhhgaaGreatDoor.AM
variable {P : Program} {π π' : Nm} {M : Nat → Prop} {w w' : World} {st st' : St} {fr : Fm} {a : Act}

/-- What a slot holds, when these have been carried out. -/
def slotOf (wr : Nat → Option Nat) (d : Nat → D) (fr0 : Fm) (X : Nat → Bool) (t : Nat) : D :=
  match wr t with
  | some j => if X j = true ∧ t < fr0.n then d j else fr0.get t
  | none => fr0.get t
def Compat (an : Nat → Nat) (ef : Nat → Bool) (i m : Nat) : Prop :=
  (∀ b, (an i).testBit b = true → ef b = true → m.testBit b = true) ∧ ∀ b, m.testBit b = true → (an b).testBit i = false
def Looks (ops : Array Oper) (o : Oper) (t : Nat) : Prop := Operand.tmp t ∈ o.op.operands ∨ guardSlot ops o = some t
def StepOK (P : Program) (ops : Array Oper) (fl : Option Nat) (o : Oper) (fr : Fm) (s : St) (d : D) (s' : St) : Prop :=
  (wantedD ops fr o = some false ∧ d = .tup [] ∧ s' = s) ∨
  (wantedD ops fr o = some true ∧ ((fl = none ∧ OT P o (fr.ev P) s fun x y => x = d ∧ y = s') ∨ ∃ k cs, fl = some k ∧ fop P (fr.ev P) k o = some (d, cs) ∧ s' = s.pushAt k (.cells cs true)))

/-- What has to be known of a region whose order is drawn. -/
structure Cert (P : Program) (ops : Array Oper) (fr0 : Fm) (st0 S0 : St) (fr1 : Fm) (st1 : St) (d : Nat → D) (frs : Nat → Fm) (an : Nat → Nat) (ef : Nat → Bool) (fl : Nat → Option Nat) (wr : Nat → Option Nat) (N : Nat → St → Prop) : Prop where
  anc : ∀ i o, ops[i]? = some o → (∀ b, (an i).testBit b = true → Anc ops i b) ∧ ∀ e ∈ o.after.toList, Region.binds .any e = true → e.on < i
  wrs : ∀ t j, wr t = some j ↔ ∃ o, ops[j]? = some o ∧ o.dst = some t
  reads : ∀ i o t j, ops[i]? = some o → Looks ops o t → wr t = some j → (an i).testBit j = true ∨ (an j).testBit i = true
  frv : ∀ i o t, ops[i]? = some o → (frs i).get t = slotOf wr d fr0 (fun j => decide (j < i)) t
  frn : ∀ i o, ops[i]? = some o → (frs i).n = fr0.n
  fin : ∀ t, fr1.get t = slotOf wr d fr0 (fun _ => true) t
  finn : fr1.n = fr0.n
  names : ∀ i k, fl i = some k → st0.next ≤ k ∧ k < S0.next
  apart : ∀ i j k, fl i = some k → fl j = some k → i = j
  start : N 0 S0
  step : ∀ m s i o, N m s → ops[i]? = some o → m.testBit i = false → Compat an ef i m → ∃ s', StepOK P ops (fl i) o (frs i) s (d i) s' ∧ N (if ef i = true then m ||| 1 <<< i else m) s'
  last : ∀ m s, N m s → (∀ i o, ops[i]? = some o → ef i = true → m.testBit i = true) → s = st1

section
variable {ops : Array Oper} {fr0 : Fm} {st0 S0 : St} {fr1 : Fm} {st1 : St} {d : Nat → D} {frs : Nat → Fm} {an : Nat → Nat} {ef : Nat → Bool} {fl wr : Nat → Option Nat} {N : Nat → St → Prop}
  {π0 : Nm} {w0 : World}

structure Mid (P : Program) (ops : Array Oper) (fr0 : Fm) (st0 S0 : St) (d : Nat → D) (ef : Nat → Bool) (fl wr : Nat → Option Nat) (N : Nat → St → Prop) (π0 : Nm) (w0 : World) (listed : Array Bool) (a : Act) (w : World) (m : Nat) (s : St) (π : Nm) : Prop where
  size : listed.size = ops.size
  closed : Closed ops fun i => listed.getD i false = true
  node : N m s
  bits : ∀ b, m.testBit b = (listed.getD b false && ef b)
  rel : Rel P π w s
  mv : Mv π0 w0 st0 π w s
  df : a.defers = []
  n : fr0.n = a.tmps.size
  r : ∀ t, VR P π (Mut π s) w (slotOf wr d fr0 (fun j => listed.getD j false) t) (a.tmps.getD t undef)
  free : ∀ i k, fl i = some k → listed.getD i false = false → π k = none
  next : S0.next ≤ s.next

theorem Cert.anc_lt (C : Cert P ops fr0 st0 S0 fr1 st1 d frs an ef fl wr N) {i b : Nat} (h : Anc ops i b) : b < i := by
  induction h with
  | edge hi he hb => exact (C.anc _ _ hi).2 _ he hb
  | step hi he hb _ ih => exact Nat.lt_trans ih ((C.anc _ _ hi).2 _ he hb)

theorem Cert.look (C : Cert P ops fr0 st0 S0 fr1 st1 d frs an ef fl wr N) {listed : Array Bool} (hc : Closed ops fun i => listed.getD i false = true) {i : Nat} {o : Oper} (hi : ops[i]? = some o) (hun : listed.getD i false = false)
    (hr : ∀ e ∈ o.after.toList, Region.binds .any e = true → listed.getD e.on false = true) {t : Nat} (ht : Looks ops o t) : (frs i).get t = slotOf wr d fr0 (fun j => listed.getD j false) t := by
  rw [C.frv i o t hi]
  unfold slotOf
  cases hw : wr t with
  | none => rfl
  | some j =>
    simp only
    rcases C.reads i o t j hi ht hw with h | h
    · have ha := (C.anc i o hi).1 j h
      have h1 := C.anc_lt ha
      have h2 := ha.ready hc hi hr
      simp only [h1, decide_true, h2]
    · obtain ⟨oj, hoj, _⟩ := (C.wrs t j).1 hw
      have ha := (C.anc j oj hoj).1 i h
      have h1 := C.anc_lt ha
      have h2 : listed.getD j false = false := by
        cases hl : listed.getD j false with
        | false => rfl
        | true => have := ha.mem hc hl; rw [hun] at this; cases this
      have h3 : ¬ j < i := by omega
      simp only [h2, h3, decide_false]

theorem getD_set {listed : Array Bool} {i : Nat} (hi : i < listed.size) (j : Nat) : (listed.setIfInBounds i true).getD j false = (decide (j = i) || listed.getD j false) := by
  by_cases e : j = i
  · subst e; simp [hi]
  · simp [Array.getElem?_setIfInBounds_ne (Ne.symm e), e]

theorem Cert.go (C : Cert P ops fr0 st0 S0 fr1 st1 d frs an ef fl wr N) : ∀ (fuel : Nat) (listed : Array Bool) (a : Act) (w : World) (m : Nat) (s : St) (π : Nm), Mid P ops fr0 st0 S0 d ef fl wr N π0 w0 listed a w m s π →
    listed.toList.count false ≤ fuel → wpAny P .any ops (APost P π0 w0 st0 fun x f s => x = .norm ∧ f = fr1 ∧ s = st1) fuel listed a w := by
  have fin : ∀ (listed : Array Bool) (a : Act) (w : World) (m : Nat) (s : St) (π : Nm), Mid P ops fr0 st0 S0 d ef fl wr N π0 w0 listed a w m s π → (∀ i, i < ops.size → listed.getD i false = true) →
      APost P π0 w0 st0 (fun x f s => x = .norm ∧ f = fr1 ∧ s = st1) .normal a w := by
    intro listed a w m s π h hall
    have hs : s = st1 := C.last m s h.node fun i o hi he => by rw [h.bits, hall i (Array.getElem?_eq_some_iff.1 hi).1, he]; rfl
    subst hs
    refine ⟨fr1, s, π, ⟨rfl, rfl, rfl⟩, ⟨h.rel, ⟨by rw [C.finn]; exact h.n, fun t => ?_⟩, h.df⟩, h.mv⟩
    have : fr1.get t = slotOf wr d fr0 (fun j => listed.getD j false) t := by
      rw [C.fin]
      unfold slotOf
      cases hw : wr t with
      | none => rfl
      | some j =>
        obtain ⟨oj, hoj, _⟩ := (C.wrs t j).1 hw
        simp only [hall j (Array.getElem?_eq_some_iff.1 hoj).1]
    rw [this]; exact h.r t
  have done : ∀ (listed : Array Bool) (a : Act) (w : World) (m : Nat) (s : St) (π : Nm), Mid P ops fr0 st0 S0 d ef fl wr N π0 w0 listed a w m s π → Region.ready .any ops listed = [] → ∀ i, i < ops.size → listed.getD i false = true := by
    intro listed a w m s π h hr i
    induction i using Nat.strongRecOn with
    | ind i ih =>
      intro hi
      cases hl : listed.getD i false with
      | true => rfl
      | false =>
        have ho : ops[i]? = some ops[i] := Array.getElem?_eq_getElem hi
        have : i ∈ Region.ready .any ops listed := by
          rw [mem_ready]
          refine ⟨?_, _, ho, fun e he hb => ih e.on ((C.anc i _ ho).2 e (Array.mem_toList_iff.2 he) hb) (Nat.lt_trans ((C.anc i _ ho).2 e (Array.mem_toList_iff.2 he) hb) hi)⟩
          have hlt : i < listed.size := by rw [h.size]; exact hi
          simp [hlt] at hl ⊢; exact hl
        rw [hr] at this; cases this
  intro fuel
  induction fuel with
  | zero =>
    intro listed a w m s π h hn
    have hall : ∀ i, i < ops.size → listed.getD i false = true := by
      intro i hi
      have hlt : i < listed.size := by rw [h.size]; exact hi
      have hc := List.count_eq_zero.1 (Nat.le_zero.1 hn)
      cases hl : listed[i] with
      | true => simp [hlt, hl]
      | false => exact absurd (by rw [← hl]; simp) hc
    refine ⟨?_, fin listed a w m s π h hall⟩
    cases hr : Region.ready .any ops listed with
    | nil => rfl
    | cons i l =>
      obtain ⟨h1, o, ho, _⟩ := mem_ready.1 (show i ∈ Region.ready .any ops listed by rw [hr]; simp)
      have h2 := hall i (Array.getElem?_eq_some_iff.1 ho).1
      have hlt : i < listed.size := by rw [h.size]; exact (Array.getElem?_eq_some_iff.1 ho).1
      simp [hlt] at h1 h2; rw [h1] at h2; cases h2
  | succ fuel ih =>
    intro listed a w m s π h hn
    refine ⟨fun hr => fin listed a w m s π h (done listed a w m s π h hr), fun i hi => ?_⟩
    obtain ⟨h1, o, ho, hedges⟩ := mem_ready.1 hi
    have hlt : i < ops.size := (Array.getElem?_eq_some_iff.1 ho).1
    have hlt' : i < listed.size := by rw [h.size]; exact hlt
    have hun : listed.getD i false = false := by simp [hlt'] at h1 ⊢; exact h1
    have hr : ∀ e ∈ o.after.toList, Region.binds .any e = true → listed.getD e.on false = true := fun e he hb => hedges e (Array.mem_toList_iff.1 he) hb
    have hlook := fun {t} (ht : Looks ops o t) => C.look h.closed ho hun hr ht
    have hcompat : Compat an ef i m := by
      refine ⟨fun b hb he => ?_, fun b hb => ?_⟩
      · have := ((C.anc i o ho).1 b hb).ready h.closed ho hr
        rw [h.bits, he, this]; rfl
      · rw [h.bits, Bool.and_eq_true] at hb
        cases hab : (an b).testBit i with
        | false => rfl
        | true =>
          have hbs : b < ops.size := by
            rcases Nat.lt_or_ge b listed.size with h' | h'
            · rw [h.size] at h'; exact h'
            · have := hb.1; simp [Array.getElem?_eq_none h'] at this
          have := ((C.anc b _ (Array.getElem?_eq_getElem hbs)).1 i hab).mem h.closed hb.1
          rw [hun] at this; cases this
    have hmi : m.testBit i = false := by rw [h.bits, hun]; rfl
    obtain ⟨s', hstep, hN⟩ := C.step m s i o h.node ho hmi hcompat
    have hcount : (listed.setIfInBounds i true).toList.count false ≤ fuel := by
      have hf : listed.toList[i]'(by simpa using hlt') = false := by simp [hlt'] at hun; simpa using hun
      rw [Array.toList_setIfInBounds, List.count_set (by simpa using hlt'), hf]
      have : 0 < listed.toList.count false := List.count_pos_iff.2 (by rw [← hf]; simp)
      simp only [beq_self_eq_true, if_true]
      have e : ((true == false) = true) = False := by simp
      simp only [e, if_false]
      omega
    have hclosed : Closed ops fun j => (listed.setIfInBounds i true).getD j false = true := by
      intro j oj hj hoj e he hb
      simp only [getD_set hlt', Bool.or_eq_true, decide_eq_true_eq] at hj ⊢
      rcases hj with rfl | hj
      · rw [ho] at hoj; injection hoj with hoj; subst hoj; exact .inr (hr e he hb)
      · exact .inr (h.closed j oj hj hoj e he hb)
    have hbits : ∀ b, (if ef i = true then m ||| 1 <<< i else m).testBit b = ((listed.setIfInBounds i true).getD b false && ef b) := by
      intro b
      rw [getD_set hlt']
      by_cases he : ef i = true
      · rw [if_pos he, Nat.testBit_or, testBit_one_shiftLeft, h.bits]
        by_cases e : b = i
        · subst e; simp [he]
        · simp [e]
      · rw [if_neg he, h.bits]
        by_cases e : b = i
        · subst e; simp [he]
        · simp [e]
    have next : ∀ (v : Value) (w' : World) (π' : Nm), Rel P π' w' s' → Mv π0 w0 st0 π' w' s' → (∀ d' v', VR P π (Mut π s) w d' v' → VR P π' (Mut π' s') w' d' v') → VR P π' (Mut π' s') w' (d i) v →
        (∀ j k, j ≠ i → fl j = some k → π k = none → π' k = none) → S0.next ≤ s'.next → wpAny P .any ops (APost P π0 w0 st0 fun x f s => x = .norm ∧ f = fr1 ∧ s = st1) fuel (listed.setIfInBounds i true) (a.put o.dst v) w' := by
      intro v w' π' rel mv keep hv names hnext
      refine ih _ _ _ _ s' π' ⟨by rw [Array.size_setIfInBounds]; exact h.size, hclosed, hN, hbits, rel, mv, ?_, ?_, fun t => ?_, fun j k hj hl => ?_, hnext⟩ hcount
      · unfold Act.put; cases o.dst <;> exact h.df
      · unfold Act.put; cases o.dst <;> simp [h.n]
      · have hold := keep _ _ (h.r t)
        by_cases hd : o.dst = some t
        · have hw : wr t = some i := (C.wrs t i).2 ⟨o, ho, hd⟩
          simp only [slotOf, hw, getD_set hlt', decide_true, Bool.true_or, true_and, Act.put, hd]
          by_cases ht : t < fr0.n
          · rw [if_pos ht]
            have : (a.tmps.setIfInBounds t v).getD t undef = v := by
              have : t < a.tmps.size := h.n ▸ ht
              simp [this]
            rw [this]; exact hv
          · rw [if_neg ht]
            have hge : a.tmps.size ≤ t := by rw [← h.n]; omega
            have e1 : (a.tmps.setIfInBounds t v).getD t undef = a.tmps.getD t undef := by
              rw [Array.getD_eq_getD_getElem?, Array.getD_eq_getD_getElem?, Array.getElem?_eq_none hge, Array.getElem?_eq_none (by rw [Array.size_setIfInBounds]; exact hge)]
            rw [e1]
            simp only [slotOf, hw, ht, and_false, if_false] at hold
            exact hold
        · have e1 : (a.put o.dst v).tmps.getD t undef = a.tmps.getD t undef := by
            unfold Act.put
            cases hd' : o.dst with
            | none => rfl
            | some t' =>
              have : t' ≠ t := fun e => hd (by rw [hd', e])
              simp [Array.getD_eq_getD_getElem?, Array.getElem?_setIfInBounds_ne this]
          rw [e1]
          have e2 : slotOf wr d fr0 (fun j => (listed.setIfInBounds i true).getD j false) t = slotOf wr d fr0 (fun j => listed.getD j false) t := by
            unfold slotOf
            cases hw : wr t with
            | none => rfl
            | some j =>
              have hji : j ≠ i := fun e => by
                subst e
                obtain ⟨o', ho', hd'⟩ := (C.wrs t j).1 hw
                rw [ho] at ho'; injection ho' with ho'; subst ho'; exact hd hd'
              simp only [getD_set hlt', hji, decide_false, Bool.false_or]
          rw [e2]; exact hold
      · rw [getD_set hlt', Bool.or_eq_false_iff, decide_eq_false_iff_not] at hl
        exact names j k hl.1 hj (h.free j k hj hl.2)
    have hfrn : (frs i).n = a.tmps.size := by rw [C.frn i o ho, h.n]
    have hg : ∀ t, guardSlot ops o = some t → VR P π (Mut π s) w ((frs i).get t) (a.tmps.getD t undef) := fun t ht => by rw [hlook (.inr ht)]; exact h.r t
    have hops : ∀ x ∈ o.op.operands, VR P π (Mut π s) w ((frs i).ev P x) (a.eval x) := by
      intro x hx
      cases x with
      | tmp t =>
        have := h.r t
        rw [← hlook (.inl hx)] at this
        simpa [Fm.ev, Act.eval, Array.getD_eq_getD_getElem?] using this
      | const v => exact .ofV v
      | global g =>
        simp only [Fm.ev, Act.eval]
        by_cases hgl : g < P.globals.size
        · rw [if_pos hgl]; exact .ptr _ _ _ _ (h.rel.glob g hgl)
        · rw [if_neg hgl]; exact .undef _
      | func f => exact .func (.func f) [] [] [] [] .nil .nil
    unfold wpOp
    simp only [ho]
    rcases hstep with ⟨hw, hd, hs⟩ | ⟨hw, hrun⟩
    · simp only [wantedD_ok hfrn hg hw, Bool.false_eq_true, if_false]
      subst hs
      exact next undef w π h.rel h.mv (fun _ _ h => h) (by rw [hd]; exact .tup [] [] .nil) (fun _ _ _ _ h => h) h.next
    · simp only [wantedD_ok hfrn hg hw, if_true]
      rcases hrun with ⟨_, hot⟩ | ⟨k, cs, hfl, hfop, hs⟩
      · refine .inl (hot π w a _ _ h.rel hops ?_)
        rintro d' st'' v w' π' ⟨rfl, rfl⟩ rel mv hv
        exact next v w' π' rel (h.mv.trans mv) (fun _ _ h => h.mv mv) hv (fun j k _ hj hk => by
          rw [mv.old k (Nat.lt_of_lt_of_le (C.names j k hj).2 h.next)]; exact hk) (Nat.le_trans h.next mv.next)
      · left
        have hn0 : st0.next ≤ s.next := h.mv.next
        refine fop_wp (m := st0.next) hfop h.rel (h.free i k hfl hun) hn0 (C.names i k hfl).1 hops ?_
        intro v w' π' rel mv hv hother
        subst hs
        have m0 : Mv π0 w0 st0 π w { s with next := st0.next } := ⟨h.mv.ext, h.mv.fr, h.mv.own, Nat.le_refl _, h.mv.old⟩
        exact next v w' π' rel (m0.trans mv) (fun _ _ h => VR.mv (st := { s with next := st0.next }) h mv) hv (fun j k' hji hj hk => by
          rw [hother k' fun e => hji (C.apart j i k' hj (e ▸ hfl))]; exact hk) (Nat.le_trans h.next (Nat.le_max_left _ _))

theorem getD_none (n i : Nat) : (Array.replicate n false).getD i false = false := by
  rw [Array.getD_eq_getD_getElem?, Array.getElem?_replicate]; split <;> rfl
/-- A region whose order is drawn. -/
theorem AW.drawn (hm : P.follows .mixedOrders = true) {id : Nat} {Q : AX → Fm → St → Prop} (C : Cert P ops fr0 st0 S0 fr1 st1 d frs an ef fl wr N) (hnext : st0.next ≤ S0.next) (htr : ∀ i, S0.get i = st0.get i)
    (hQ : Q .norm fr1 st1) : AW P (.region id ops true) fr0 st0 Q := fun π w a hc => by
  refine Code.wp_mono (fun e a' w' q => ?_) (wp_region_any (ops := ops) (Q := APost P π w st0 fun x f s => x = .norm ∧ f = fr1 ∧ s = st1) hm ?_)
  · cases e with
    | normal => exact Land.mono q fun f s q => by obtain ⟨_, rfl, rfl⟩ := q; exact hQ
    | exit id => obtain ⟨f, s, p, q, _⟩ := q; exact absurd q.1 (by simp)
    | ret => obtain ⟨f, s, p, q, _⟩ := q; exact absurd q.1 (by simp)
    | outgrown => exact q
    | goto => exact q
    | panic => exact q
  · obtain ⟨r1, m1⟩ := hc.rel.same (Fr.drew _ w)
    obtain ⟨r2, m2⟩ := r1.weaken (st' := S0) hnext fun i b hi => ⟨b, by rw [← htr i]; exact hi, .same b⟩
    refine C.go ops.size _ a _ 0 S0 π ⟨by simp, fun i o hi => ?_, C.start, fun b => ?_, r2, m1.trans m2, hc.df, hc.fr.n, fun t => ?_, fun i k hk _ => hc.rel.fresh k (C.names i k hk).1, Nat.le_refl _⟩ (by
      refine Nat.le_trans (List.count_le_length) (by simp))
    · exact absurd ((getD_none _ _).symm.trans hi) (by simp)
    · rw [getD_none]; simp
    · have : slotOf wr d fr0 (fun j => (Array.replicate ops.size false).getD j false) t = fr0.get t := by
        unfold slotOf
        cases wr t with
        | none => rfl
        | some j => simp only; rw [if_neg]; rintro ⟨h1, _⟩; rw [getD_none] at h1; cases h1
      rw [this]; exact (hc.fr.r t).mv (m1.trans m2)
end
end Go.Proofs.YtdodnmeilhhhgaaGreatDoor.AM
