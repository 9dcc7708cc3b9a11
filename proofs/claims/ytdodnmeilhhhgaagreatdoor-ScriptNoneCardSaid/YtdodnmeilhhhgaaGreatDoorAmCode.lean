/- PART OF THE ABSTRACT MACHINE over the given model: Code. It carries no condition of its own. -/
import Derived.Test.YtdodnmeilhhhgaaGreatDoorAmExec
import Derived.KernelRfl
import Derived.LoopN
import Derived.Orders
set_option linter.unusedVariables false
set_option linter.unusedSimpArgs false
noncomputable section
namespace Go.Proofs.YtdodnmeilhhhgaaGreatDoor.AM
variable {P : Program} {π π' : Nm} {M : Nat → Prop} {w w' : World} {st st' : St} {fr : Fm} {a : Act}

/-- How a piece of code is left. -/
inductive AX where
  | norm
  | exit (id : Nat)
  | ret
  deriving DecidableEq

structure CRel (P : Program) (π : Nm) (w : World) (st : St) (fr : Fm) (a : Act) : Prop where
  rel : Rel P π w st
  fr : FrR P π (Mut π st) w fr a.tmps
  df : a.defers = []

/-- Somewhere behind a start one stands with what Q says. -/
def Land (P : Program) (π : Nm) (w : World) (st : St) (Q : Fm → St → Prop) (a' : Act) (w' : World) : Prop :=
  ∃ fr' st' π', Q fr' st' ∧ CRel P π' w' st' fr' a' ∧ Mv π w st π' w' st'
def APost (P : Program) (π : Nm) (w : World) (st : St) (Q : AX → Fm → St → Prop) : Exit → Act → World → Prop
  | .normal, a', w' => Land P π w st (Q .norm) a' w'
  | .exit id, a', w' => Land P π w st (Q (.exit id)) a' w'
  | .ret, a', w' => Land P π w st (Q .ret) a' w'
  | _, _, _ => False
theorem Land.mono {Q Q' : Fm → St → Prop} {a' : Act} (h : Land P π w st Q a' w') (hq : ∀ f s, Q f s → Q' f s) : Land P π w st Q' a' w' := by
  obtain ⟨f, s, p, q, c, m⟩ := h; exact ⟨f, s, p, hq _ _ q, c, m⟩
theorem Land.behind {Q : Fm → St → Prop} {a' : Act} {π0 : Nm} {w0 : World} {st0 : St} (m0 : Mv π0 w0 st0 π w st) (h : Land P π w st Q a' w') : Land P π0 w0 st0 Q a' w' := by
  obtain ⟨f, s, p, q, c, m⟩ := h; exact ⟨f, s, p, q, c, m0.trans m⟩
theorem APost.behind {Q : AX → Fm → St → Prop} {π0 : Nm} {w0 : World} {st0 : St} (m0 : Mv π0 w0 st0 π w st) {e : Exit} {a' : Act} (h : APost P π w st Q e a' w') : APost P π0 w0 st0 Q e a' w' := by
  cases e <;> first | exact Land.behind m0 h | exact h

/-- Code from an abstract state on. -/
def AW (P : Program) (c : Code) (fr : Fm) (st : St) (Q : AX → Fm → St → Prop) : Prop :=
  ∀ π w a, CRel P π w st fr a → c.wp P (APost P π w st Q) a w

theorem AW.mono {c : Code} {Q Q' : AX → Fm → St → Prop} (h : AW P c fr st Q) (hq : ∀ x f s, Q x f s → Q' x f s) : AW P c fr st Q' := fun π w a hc =>
  wp_mono (h π w a hc) fun e a' w' q => by cases e <;> first | exact Land.mono q (hq _) | exact q
theorem AW.skip {Q : AX → Fm → St → Prop} (h : Q .norm fr st) : AW P .skip fr st Q := fun π w a hc => wp_skip ⟨fr, st, π, h, hc, .refl _ _ _⟩
theorem AW.label {l : Nat} {Q : AX → Fm → St → Prop} (h : Q .norm fr st) : AW P (.label l) fr st Q := fun π w a hc => wp_label ⟨fr, st, π, h, hc, .refl _ _ _⟩
theorem AW.exit {id : Nat} {Q : AX → Fm → St → Prop} (h : Q (.exit id) fr st) : AW P (.exit id) fr st Q := fun π w a hc => wp_exit ⟨fr, st, π, h, hc, .refl _ _ _⟩
theorem AW.ret {Q : AX → Fm → St → Prop} (h : Q .ret fr st) : AW P .ret fr st Q := fun π w a hc => wp_ret ⟨fr, st, π, h, hc, .refl _ _ _⟩
theorem AW.seq {x y : Code} {Q : AX → Fm → St → Prop} (h : AW P x fr st fun k f s => if k = .norm then AW P y f s Q else Q k f s) : AW P (.seq x y) fr st Q := fun π w a hc =>
  wp_seq (wp_mono (h π w a hc) fun e a' w' q => by
    cases e with
    | normal =>
      obtain ⟨f, s, p, q, c, m⟩ := q
      replace q : AW P y f s Q := by simpa using q
      exact wp_mono (q p w' a' c) fun e a'' w'' q' => q'.behind m
    | exit id => exact Land.mono q fun f s q => by simpa using q
    | ret => exact Land.mono q fun f s q => by simpa using q
    | outgrown => exact q
    | goto => exact q
    | panic => exact q)
theorem AW.cond {c : Operand} {x y : Code} {t : Bool} {Q : AX → Fm → St → Prop} (hc : fr.ev P c = .bool t) (h : AW P (if t then x else y) fr st Q) : AW P (.cond c x y) fr st Q := fun π w a hr => by
  have hv := hr.fr.ev hr.rel.glob c
  rw [hc] at hv
  generalize he : a.eval c = v at hv
  cases hv
  exact wp_cond he (h π w a hr)
theorem AW.block {id : Nat} {c : Code} {Q : AX → Fm → St → Prop} (h : AW P c fr st fun k f s => if k = .exit id then Q .norm f s else Q k f s) : AW P (.block id c) fr st Q := fun π w a hc =>
  wp_block (wp_mono (h π w a hc) fun e a' w' q => by
    cases e with
    | normal => exact Land.mono q fun f s q => by simpa using q
    | exit id' =>
      simp only [Exit.inBlock]
      by_cases e : id' = id
      · subst e; rw [if_pos rfl]; exact Land.mono q fun f s q => by simpa using q
      · rw [if_neg e]; exact Land.mono q fun f s q => by simpa [e] using q
    | ret => exact Land.mono q fun f s q => by simpa using q
    | outgrown => exact q
    | goto => exact q
    | panic => exact q)
/-- So many rounds at most. -/
def ARounds (P : Program) (c : Code) (Q : AX → Fm → St → Prop) : Nat → Fm → St → Prop
  | 0, _, _ => False
  | n + 1, fr, st => AW P c fr st fun k f s => if k = .norm then ARounds P c Q n f s else Q k f s
theorem AW.loop_aux {c : Code} {Q : AX → Fm → St → Prop} {π0 : Nm} {w0 : World} {st0 : St} : ∀ (n : Nat) (fr : Fm) (st : St) (π' : Nm) (w' : World) (a' : Act), Mv π0 w0 st0 π' w' st → CRel P π' w' st fr a' → ARounds P c Q n fr st → Code.rounds P c (APost P π0 w0 st0 Q) n a' w' := by
  intro n
  induction n with
  | zero => intro fr st π' w' a' m hc h; exact h.elim
  | succ n ih =>
    intro fr st π' w' a' m hc h
    rw [rounds_succ]
    refine wp_mono (h π' w' a' hc) fun e a'' w'' q => ?_
    cases e with
    | normal =>
      obtain ⟨f, s, p, q, c, m'⟩ := q
      exact ih f s p w'' a'' (m.trans m') c (by simpa using q)
    | exit id => exact Land.behind m (Land.mono q fun f s q => by simpa using q)
    | ret => exact Land.behind m (Land.mono q fun f s q => by simpa using q)
    | outgrown => exact q
    | goto => exact q
    | panic => exact q
theorem AW.loop {c : Code} {Q : AX → Fm → St → Prop} (n : Nat) (h : ARounds P c Q n fr st) : AW P (.loop c) fr st Q := fun π w a hc =>
  wp_loop_rounds n (AW.loop_aux n fr st π w a (.refl _ _ _) hc h)

/-! ### Calls -/
def CPost (P : Program) (π : Nm) (w : World) (st : St) (R : D → St → Prop) : Ending → World → Prop
  | .returned v, w' => ∃ r st' π', R r st' ∧ Rel P π' w' st' ∧ VR P π' (Mut π' st') w' r v ∧ Mv π w st π' w' st'
  | _, _ => False
/-- A call from an abstract state on. -/
def ACall (P : Program) (f : FuncId) (args : List D) (st : St) (R : D → St → Prop) : Prop :=
  ∀ π w vs, Rel P π w st → All2 (VR P π (Mut π st) w) args vs → Calls P f vs.toArray w (CPost P π w st R)
theorem ACall.mono {f : FuncId} {args : List D} {R R' : D → St → Prop} (h : ACall P f args st R) (hr : ∀ d s, R d s → R' d s) : ACall P f args st R' := fun π w vs h1 h2 =>
  (h π w vs h1 h2).mono fun e w' q => by
    cases e with
    | returned v => obtain ⟨r, s, p, q, rest⟩ := q; exact ⟨r, s, p, hr _ _ q, rest⟩
    | panicked => exact q
    | outgrown => exact q

/-! ### Operations -/
/-- An operation whose operands come to this, from an abstract state on. -/
def OT (P : Program) (o : Oper) (E : Operand → D) (st : St) (R : D → St → Prop) : Prop :=
  ∀ π w a (next : Act → World → Prop) (Q : Exit → Act → World → Prop), Rel P π w st → (∀ x ∈ o.op.operands, VR P π (Mut π st) w (E x) (a.eval x)) →
    (∀ d st' v w' π', R d st' → Rel P π' w' st' → Mv π w st π' w' st' → VR P π' (Mut π' st') w' d v → next (a.put o.dst v) w') → o.wp P a w next Q
theorem OT.of_aop {o : Oper} {E : Operand → D} {d : D} (h : aop P E st o = some (d, st')) {R : D → St → Prop} (hR : R d st') : OT P o E st R := fun π w a next Q hc hv hn => by
  obtain ⟨v, w', π', r, hr, hv, rel, m, vr⟩ := aop_ok hc hv h
  · unfold Oper.wp
    rw [hr]
    rcases hv with rfl | ⟨rfl, rfl⟩
    · exact hn d st' v w' π' hR rel m vr
    · exact hn d st' undef w' π' hR rel m vr
def callable (P : Program) (g : FuncId) : Bool :=
  match P.funcs[g]? with
  | some fn => decide (fn.name ≠ "runtime.NumGoroutine") && fn.body.isSome
  | none => false
theorem run_callFunc {g : FuncId} (h : callable P g = true) (args : Array Value) : (callFunc g args).run P w = .ok (.enter g args) w := by
  unfold callable at h
  split at h
  · rename_i fn hf
    simp only [Bool.and_eq_true, decide_eq_true_eq] at h
    have hb : fn.body ≠ none := by cases hbb : fn.body <;> simp_all
    simp [callFunc, hf, h.1, hb]
  · cases h
theorem OT.of_call {o : Oper} {E : Operand → D} {c : Call} {f : Operand} (ho : o.op = .call c) (hcal : c.callee = .value f) {g : FuncId} {fs cs : List D} (hf : E f = .func (.func g) fs cs) (hg : callable P g = true)
    {R : D → St → Prop} (h : ACall P g (fs ++ c.args.toList.map E ++ cs) st R) : OT P o E st R := fun π w a next Q hc hv hn => by
  have hfv := hv f (by simp [ho, Op.operands, Call.operands, hcal])
  rw [hf] at hfv
  generalize he : a.eval f = v at hfv
  cases hfv with
  | func _ _ _ fs' cs' h1 h2 =>
    have hargs : All2 (VR P π (Mut π st) w) (c.args.toList.map E) (c.args.toList.map a.eval) := by
      have : ∀ x ∈ c.args.toList, VR P π (Mut π st) w (E x) (a.eval x) := fun x hx => hv x (by simp [ho, Op.operands, Call.operands, Array.mem_def.2 hx])
      revert this
      generalize c.args.toList = l
      induction l with
      | nil => exact fun _ => .nil
      | cons x l ih => exact fun hx => .cons (hx x (by simp)) (ih fun y hy => hx y (by simp [hy]))
    have hcall := h π w _ hc ((h1.append hargs).append h2)
    have hrun : (execOp a.eval o).run P w = .ok (.enter g (fs' ++ c.args.toList.map a.eval ++ cs').toArray) w := by
      unfold execOp
      simp only [ho, resolve, hcal, Deferred.ofValue, he, Sem.run_bind, Sem.run_pure, Result.andThen_ok, invoke]
      rw [run_callFunc hg]
      congr 2
      apply Array.ext'; simp
    unfold Oper.wp
    rw [hrun, Oper.upon_enter]
    refine hcall.mono fun e w' q => ?_
    cases e with
    | returned v => obtain ⟨r, s, p, q, rel, vr, m⟩ := q; exact hn r s v w' p q rel m vr
    | panicked => exact q.elim
    | outgrown => exact q.elim

/-! ### A function without a body: two strings compared, where they are the same -/
def cmpName : String := "internal/bytealg.abigen_runtime_cmpstring"
def isCmp (P : Program) (g : FuncId) : Bool :=
  match P.funcs[g]? with
  | some fn => fn.body.isNone && decide (fn.name = cmpName) && decide (fn.origin = "")
  | none => false
def extD (P : Program) (g : FuncId) (args : List D) : Option D :=
  match args with
  | [.str a, .str b] => if a = b ∧ isCmp P g = true then some (.int .i64 0) else none
  | _ => none
theorem cmp_self (a : ByteArray) : Extern.BytealgCompare.cmp a a = 0 := by
  unfold Extern.BytealgCompare.cmp
  have : (List.range (min a.size a.size)).find? (fun i => a[i]! != a[i]!) = none := by simp
  rw [this]; simp
theorem look_cmp : Extern.allNextRows.lookup cmpName = none ∧ Extern.allNextRows.lookup "" = none ∧ Extern.allGenericRows.lookup cmpName = none ∧ Extern.allTypedRows.lookup cmpName = none := ⟨by kernel_rfl, by kernel_rfl, by kernel_rfl, by kernel_rfl⟩
theorem look_cmp2 : Extern.allRows.lookup cmpName = some Extern.BytealgCompare.compare := by kernel_rfl
theorem run_compare (a : ByteArray) : (Extern.BytealgCompare.compare #[.string a, .string a]).run P w = .ok (.int .i64 0) w := by
  have e : Extern.BytealgCompare.compare #[.string a, .string a] = (do pure (goInt (Extern.BytealgCompare.cmp (← Extern.Bytes.bytesOf (.string a)) (← Extern.Bytes.bytesOf (.string a))))) := rfl
  rw [e]
  simp [Extern.Bytes.bytesOf, cmp_self, goInt]
theorem run_extD {g : FuncId} {args : List D} {vs : List Value} {d : D} (h : extD P g args = some d) (h2 : All2 (VR P π M w) args vs) : ∃ v, (callFunc g vs.toArray).run P w = .ok (.value v) w ∧ VR P π M w d v := by
  unfold extD at h
  split at h
  · rename_i a b
    split at h
    · rename_i hc
      injection h with h; subst h
      obtain ⟨rfl, hg⟩ := hc
      cases h2 with
      | cons h1 h2 =>
        cases h2 with
        | cons h2 h3 =>
          cases h3
          cases h1 with
          | str _ a ha =>
            cases h2 with
            | str _ b hb =>
              have e : b = a := by
                have : b.data = a.data := by apply Array.ext'; rw [hb, ha]
                cases a; cases b; simp_all
              subst e
              unfold isCmp at hg
              split at hg
              · rename_i fn hf
                simp only [Bool.and_eq_true, decide_eq_true_eq] at hg
                obtain ⟨⟨hbody, hname⟩, horig⟩ := hg
                refine ⟨.int .i64 0, ?_, .int _ _⟩
                have hn : fn.name ≠ "runtime.NumGoroutine" := by rw [hname]; decide
                have e1 : Extern.findNext fn = none := by
                  unfold Extern.findNext; simp only [hname, horig, look_cmp.1, look_cmp.2.1]; rfl
                have e2 : Extern.find fn = some Extern.BytealgCompare.compare := by
                  unfold Extern.find; simp only [hname, look_cmp.2.2.1, look_cmp.2.2.2, look_cmp2]; rfl
                have hb' : fn.body = none := by cases h : fn.body <;> simp_all
                simp [callFunc, hf, hn, hb', e1, e2, run_compare]
              · cases hg
    · cases h
  · cases h
theorem OT.of_ext {o : Oper} {E : Operand → D} {c : Call} {f : Operand} (ho : o.op = .call c) (hcal : c.callee = .value f) {g : FuncId} {fs cs : List D} (hf : E f = .func (.func g) fs cs) {d : D} (hg : extD P g (fs ++ c.args.toList.map E ++ cs) = some d)
    {R : D → St → Prop} (h : R d st) : OT P o E st R := fun π w a next Q hc hv hn => by
  have hfv := hv f (by simp [ho, Op.operands, Call.operands, hcal])
  rw [hf] at hfv
  generalize he : a.eval f = v at hfv
  cases hfv with
  | func _ _ _ fs' cs' h1 h2 =>
    have hargs : All2 (VR P π (Mut π st) w) (c.args.toList.map E) (c.args.toList.map a.eval) := by
      have : ∀ x ∈ c.args.toList, VR P π (Mut π st) w (E x) (a.eval x) := fun x hx => hv x (by simp [ho, Op.operands, Call.operands, Array.mem_def.2 hx])
      revert this
      generalize c.args.toList = l
      induction l with
      | nil => exact fun _ => .nil
      | cons x l ih => exact fun hx => .cons (hx x (by simp)) (ih fun y hy => hx y (by simp [hy]))
    obtain ⟨v, hv2, hvr⟩ := run_extD hg ((h1.append hargs).append h2)
    have hrun : (execOp a.eval o).run P w = .ok (.value v) w := by
      unfold execOp
      simp only [ho, resolve, hcal, Deferred.ofValue, he, Sem.run_bind, Sem.run_pure, Result.andThen_ok, invoke]
      rw [← hv2]
      congr 2
      apply Array.ext'; simp
    unfold Oper.wp
    rw [hrun]
    exact hn d st v w π h hc (.refl _ _ _) hvr

/-- Is an operation to be carried out? none: that can't be said. -/
def wantedD (ops : Array Oper) (fr : Fm) (o : Oper) : Option Bool :=
  match o.guard with
  | none => some true
  | some (j, want) => match (ops[j]?).bind (·.dst) with
    | none => some false
    | some t => if t < fr.n then (match fr.get t with | .bool b => some (b == want) | .tup _ => some false | _ => none) else some false
/-- The slot that the guard looks at. -/
def guardSlot (ops : Array Oper) (o : Oper) : Option Nat := o.guard.bind fun g => (ops[g.1]?).bind (·.dst)
theorem wantedD_ok {ops : Array Oper} {o : Oper} {b : Bool} {tmps : Array Value} (hn : fr.n = tmps.size) (hr : ∀ t, guardSlot ops o = some t → VR P π M w (fr.get t) (tmps.getD t undef)) (h : wantedD ops fr o = some b) : Region.wanted o (yielded ops tmps) = b := by
  unfold wantedD at h
  unfold Region.wanted
  split at h
  · rename_i hg; injection h with h; subst h; simp [hg]
  · rename_i j want hg
    simp only [hg]
    split at h
    · rename_i hd; injection h with h; subst h
      simp [yielded, hd]
    · rename_i t ht
      split at h
      · rename_i hlt
        have hv := hr t (by simp [guardSlot, hg, ht])
        have hsz : t < tmps.size := hn ▸ hlt
        have hget : tmps[t]? = some (tmps.getD t undef) := by simp [Array.getD_eq_getD_getElem?, hsz]
        generalize tmps.getD t undef = v at hv hget
        split at h
        · rename_i b' hb
          injection h with h; subst h
          rw [hb] at hv; cases hv
          simp only [yielded, ht, Option.bind_some, hget]
          cases b' <;> cases want <;> rfl
        · rename_i l hb
          injection h with h; subst h
          rw [hb] at hv; cases hv
          simp [yielded, ht, hget]
        · cases h
      · rename_i hlt
        injection h with h; subst h
        have hle : tmps.size ≤ t := by rw [← hn]; exact Nat.le_of_not_lt ‹¬ t < fr.n›
        have : tmps[t]? = none := Array.getElem?_eq_none hle
        simp [yielded, ht, this]

/-- A list of operations, one behind the other. -/
def AOps (P : Program) (ops : Array Oper) (l : List Nat) (fr : Fm) (st : St) (Q : Fm → St → Prop) : Prop :=
  ∀ π0 w0 st0 π w a, Mv π0 w0 st0 π w st → CRel P π w st fr a → wpOps P ops (APost P π0 w0 st0 fun x f s => x = .norm ∧ Q f s) l a w
theorem AOps.nil {ops : Array Oper} {Q : Fm → St → Prop} (h : Q fr st) : AOps P ops [] fr st Q := fun π0 w0 st0 π w a m hc => ⟨fr, st, π, ⟨rfl, h⟩, hc, m⟩
theorem CRel.put {o : Oper} {d : D} {v : Value} (hc : CRel P π w st fr a) (rel : Rel P π' w' st') (m : Mv π w st π' w' st') (vr : VR P π' (Mut π' st') w' d v) : CRel P π' w' st' (fr.putO o.dst d) (a.put o.dst v) := by
  refine ⟨rel, ?_, ?_⟩
  · unfold Fm.putO Act.put
    cases o.dst with
    | none => exact hc.fr.mv m
    | some t => exact (hc.fr.mv m).put t vr
  · unfold Act.put; cases o.dst <;> exact hc.df
theorem AOps.cons {ops : Array Oper} {i : Nat} {l : List Nat} {o : Oper} {Q : Fm → St → Prop} (hi : ops[i]? = some o) (hw : wantedD ops fr o = some true)
    (h : OT P o (fr.ev P) st fun d st' => AOps P ops l (fr.putO o.dst d) st' Q) : AOps P ops (i :: l) fr st Q := fun π0 w0 st0 π w a m hc => by
  rw [wpOps_cons]
  unfold wpOp
  simp only [hi, wantedD_ok hc.fr.n (fun t _ => hc.fr.r t) hw, if_true]
  exact .inl <| h π w a _ _ hc.rel (fun x _ => hc.fr.ev hc.rel.glob x) fun d st' v w' π' q rel m' vr => q π0 w0 st0 π' w' _ (m.trans m') (hc.put rel m' vr)
theorem AOps.skip {ops : Array Oper} {i : Nat} {l : List Nat} {o : Oper} {Q : Fm → St → Prop} (hi : ops[i]? = some o) (hw : wantedD ops fr o = some false)
    (h : AOps P ops l (fr.putO o.dst (.tup [])) st Q) : AOps P ops (i :: l) fr st Q := fun π0 w0 st0 π w a m hc => by
  rw [wpOps_cons]
  unfold wpOp
  simp only [hi, wantedD_ok hc.fr.n (fun t _ => hc.fr.r t) hw, Bool.false_eq_true, if_false]
  exact h π0 w0 st0 π w _ m (hc.put hc.rel (.refl _ _ _) (.tup [] [] .nil))
theorem AW.region {id : Nat} {ops : Array Oper} {Q : AX → Fm → St → Prop} (h : AOps P ops (List.range ops.size) fr st (Q .norm)) : AW P (.region id ops false) fr st Q := fun π w a hc =>
  Code.wp_mono (fun e a' w' q => by
    cases e with
    | normal => exact Land.mono q fun f s q => q.2
    | exit id => obtain ⟨f, s, p, q, _⟩ := q; exact absurd q.1 (by simp)
    | ret => obtain ⟨f, s, p, q, _⟩ := q; exact absurd q.1 (by simp)
    | outgrown => exact q
    | goto => exact q
    | panic => exact q) (wp_region (h π w st π w a (.refl _ _ _) hc))

/-! ### Functions -/
def Fm.init (args : List D) (n : Nat) : Fm := { n, tr := (args.zipIdx).foldl (fun t x => t.put x.2 (some x.1)) .leaf }
def res1 (P : Program) (fr : Fm) (st : St) : ResultVar → Option D
  | .tmp t => some (fr.get t)
  | .cell t ty => match look st (fr.get t) with
    | some cs => takeAs P ty cs
    | none => none
def resAll (P : Program) (fr : Fm) (st : St) : List ResultVar → Option (List D)
  | [] => some []
  | r :: l => match res1 P fr st r, resAll P fr st l with
    | some d, some ds => some (d :: ds)
    | _, _ => none
def resD (P : Program) (fr : Fm) (st : St) (rs : List ResultVar) : Option D :=
  match resAll P fr st rs with
  | some [d] => some d
  | some ds => some (.tup ds)
  | none => none
def resV (tmps : Array Value) : ResultVar → Sem Value
  | .tmp t => pure (tmps.getD t undef)
  | .cell a t => do loadVar t (← asAddr (tmps.getD a undef))
theorem ok_res1 (hc : CRel P π w st fr a) {r : ResultVar} {d : D} (h : res1 P fr st r = some d) :
    ∃ v, (resV a.tmps r).run P w = .ok v w ∧ VR P π (Mut π st) w d v := by
  cases r with
  | tmp t => simp only [res1] at h; injection h with h; subst h; exact ⟨_, rfl, hc.fr.r _⟩
  | cell x t =>
    simp only [res1] at h
    split at h
    · rename_i cs hl
      obtain ⟨b, off, vs, hv, hcell, h2, _⟩ := look_reads hc.rel (hc.fr.r x) hl
      obtain ⟨v, hr, hvr⟩ := ok_loadVar (P := P) hcell h2 h
      exact ⟨v, by simp [resV, hv, asAddr, hr], hvr⟩
    · cases h
theorem ok_resAll (hc : CRel P π w st fr a) : ∀ {rs : List ResultVar} {ds : List D}, resAll P fr st rs = some ds →
    ∃ vs, (rs.mapM (resV a.tmps)).run P w = .ok vs w ∧ All2 (VR P π (Mut π st) w) ds vs := by
  intro rs
  induction rs with
  | nil => intro ds h; simp only [resAll] at h; injection h with h; subst h; exact ⟨[], by simp, .nil⟩
  | cons r rs ih =>
    intro ds h
    simp only [resAll] at h
    split at h
    · rename_i d ds' h1 h2
      injection h with h; subst h
      obtain ⟨v, hv, hr⟩ := ok_res1 hc h1
      obtain ⟨vs, hvs, hrs⟩ := ih h2
      refine ⟨v :: vs, ?_, .cons hr hrs⟩
      rw [List.mapM_cons]
      simp [hv, hvs]
    · cases h
theorem ok_resD (hc : CRel P π w st fr a) {fn : Func} {d : D} (h : resD P fr st fn.results.toList = some d) : ∃ v, (results fn a.tmps).run P w = .ok v w ∧ VR P π (Mut π st) w d v := by
  have key : ∀ ds, resAll P fr st fn.results.toList = some ds → ∃ vs : List Value, All2 (VR P π (Mut π st) w) ds vs ∧ (results fn a.tmps).run P w = .ok (if h : vs.toArray.size = 1 then vs.toArray[0] else .tuple vs.toArray) w := by
    intro ds hds
    obtain ⟨vs, hvs, h2⟩ := ok_resAll hc hds
    refine ⟨vs, h2, ?_⟩
    have e : results fn a.tmps = (do let vs ← fn.results.mapM (resV a.tmps); pure (if h : vs.size = 1 then vs[0] else .tuple vs)) := by
      unfold results
      congr 1
    rw [e, Sem.run_bind, Array.mapM_eq_mapM_toList]
    simp [hvs]
  unfold resD at h
  split at h
  · rename_i d' hd
    injection h with h; subst h
    obtain ⟨vs, h2, hr⟩ := key _ hd
    cases h2 with
    | cons hv hl => cases hl; exact ⟨_, hr, hv⟩
  · rename_i ds hn hds
    injection h with h; subst h
    obtain ⟨vs, h2, hr⟩ := key _ hds
    refine ⟨_, hr, ?_⟩
    have hl := h2.length
    by_cases e : vs.toArray.size = 1
    · exfalso
      have : ds.length = 1 := by rw [hl]; simpa using e
      match ds, this with
      | [x], _ => exact hn x rfl
    · rw [dif_neg e]; exact .tup _ _ h2
  · cases h
theorem init_rel {args : List D} {vs : List Value} (h : All2 (VR P π M w) args vs) (k : Nat) : FrR P π M w (Fm.init args (args.length + k)) (vs.toArray ++ Array.replicate k undef) := by
  refine ⟨by simp [Fm.init, h.length], fun t => ?_⟩
  have key : ∀ (l : List D) (i : Nat) (tr : Tr D) (t : Nat), ((l.zipIdx i).foldl (fun t x => t.put x.2 (some x.1)) tr).get t = if i ≤ t ∧ t < i + l.length then l[t - i]? else tr.get t := by
    intro l
    induction l with
    | nil => intro i tr t; simp; intro h1 h2; omega
    | cons x l ih =>
      intro i tr t
      rw [List.zipIdx_cons, List.foldl_cons, ih, Tr.get_put]
      simp only [List.length_cons]
      by_cases h0 : t = i
      · subst h0; rw [if_neg (by omega), if_pos rfl, if_pos (by omega)]; simp
      · by_cases h1 : i + 1 ≤ t ∧ t < i + 1 + l.length
        · rw [if_pos h1, if_pos (by omega), show t - i = (t - (i + 1)) + 1 from by omega]; simp
        · rw [if_neg h1, if_neg h0, if_neg (by omega)]
  have hg : (Fm.init args (args.length + k)).get t = (args[t]?).getD .undef := by
    unfold Fm.get Fm.init
    rw [key args 0 .leaf t]
    by_cases e : t < args.length
    · rw [if_pos (by omega)]; simp
    · rw [if_neg (by omega)]; simp [List.getElem?_eq_none (Nat.le_of_not_lt e)]
  rw [hg]
  cases ha : args[t]? with
  | none => exact .undef _
  | some d =>
    obtain ⟨v, hv, hr⟩ := h.get ha
    have : (vs.toArray ++ Array.replicate k undef).getD t undef = v := by
      have hlt : t < vs.length := (List.getElem?_eq_some_iff.1 hv).1
      rw [Array.getD_eq_getD_getElem?, Array.getElem?_append_left (by simpa using hlt)]
      simp [hv]
    rw [this]; exact hr
/-- A function, by its body. -/
theorem ACall.of_body {f : FuncId} {fn : Func} {c : Code} {args : List D} {R : D → St → Prop} (hf : P.funcs[f]? = some fn) (hb : fn.body = some c)
    (h : AW P c (Fm.init args (args.length + (fn.ntmps - args.length))) st fun k fr' st' => (k = .norm ∨ k = .ret) ∧ ∃ d, resD P fr' st' fn.results.toList = some d ∧ R d st') : ACall P f args st R := fun π w vs hr h2 => by
  refine calls_of_wp hf hb ?_
  have hsz : vs.toArray.size = args.length := by rw [h2.length]; simp
  have hi := init_rel (P := P) h2 (fn.ntmps - args.length)
  rw [hsz]
  refine Code.wp_mono (fun e a' w' q => ?_) (h π w _ ⟨hr, hi, rfl⟩)
  have done : Land P π w st (fun fr' st' => ∃ d, resD P fr' st' fn.results.toList = some d ∧ R d st') a' w' → a'.defers = [] ∧ ∃ v, (results fn a'.tmps).run P w' = .ok v w' ∧ CPost P π w st R (.returned v) w' := by
    rintro ⟨f', s', p', ⟨d, hd, hR⟩, hc, m⟩
    obtain ⟨v, hv, hvr⟩ := ok_resD hc hd
    exact ⟨hc.df, v, hv, d, s', p', hR, hc.rel, hvr, m⟩
  cases e with
  | normal => exact done (Land.mono q fun f s q => q.2)
  | ret => exact done (Land.mono q fun f s q => q.2)
  | exit id => obtain ⟨f', s', p', q, _⟩ := q; rcases q.1 with h | h <;> cases h
  | outgrown => exact q.elim
  | goto => exact q.elim
  | panic => exact q.elim
end Go.Proofs.YtdodnmeilhhhgaaGreatDoor.AM
