/- PART OF THE ABSTRACT MACHINE over the given model: Exec. It carries no condition of its own. -/
import Derived.Test.YtdodnmeilhhhgaaGreatDoorAmOps15
set_option linter.unusedVariables false
set_option linter.unusedSimpArgs false
noncomputable section
namespace Go.Proofs.YtdodnmeilhhhgaaGreatDoor.AM
variable {P : Program} {π π' : Nm} {M : Nat → Prop} {w w' : World} {st st' : St}

/-- A built-in function. -/
def builtinD (P : Program) (st : St) (b : Builtin) (ts : Array TypeId) (args : List D) : Option (D × St) :=
  match b, ts.toList, args with
  | .len, [t], [x] => (lenD P st t x).map fun n => (.int .i64 n, st)
  | .cap, [t], [x] => (capD P t x).map fun n => (.int .i64 n, st)
  | .append, [t, tx], [s, x] => match appendD P st t tx s x with
    | some r => some r
    | none => appendZ P st t tx s x
  | .copy, [t, _], [d, x] => copyD P st t d x
  | .clear, [t], [x] => clearD P st t x
  | .delete, [t, _], [x, k] => (deleteD P st t x k).map fun st' => (.tup [], st')
  | .max, _, l => (maxD l).map (·, st)
  | .min, _, l => (minD l).map (·, st)
  | _, _, _ => none

def aop (P : Program) (E : Operand → D) (st : St) (o : Oper) : Option (D × St) :=
  match o.op with
  | .move x | .assign x => some (E x, st)
  | .pick c a b => match E c with
    | .bool t => some (if t then E a else E b, st)
    | _ => none
  | .alloc e => match zeroD P e with
    | some z => if z.isVal = true then some (.ptr st.next 0, st.push (.cells z.cells true)) else none
    | none => none
  | .box _ x => if (E x).isVal = true then some (.ptr st.next 0, st.push (.cells (E x).cells true)) else none
  | .build t ps => (buildD P t (ps.toList.map fun p => (p.1, E p.2))).map (·, st)
  | .buildSlice t n ps => buildSliceD P st t n (ps.toList.map fun p => (p.1, E p.2))
  | .load t a => match look st (E a) with
    | some cs => (takeAs P t cs).map (·, st)
    | none => none
  | .store t a x => match E a, szOf P t with
    | .ptr i k, some n => if (E x).isVal = true ∧ (E x).cells.length = n then (poke st i k (E x).cells).map fun st' => (.undef, st') else none
    | _, _ => none
  | .nilCheck x => (nilCheckD (E x)).map (·, st)
  | .binOp op t x y _ => (binD P op t x y (E x) (E y)).map (·, st)
  | .unOp op _ x => (unD op (E x)).map (·, st)
  | .convert s d x => convD P st s d (E x)
  | .makeInterface t x => (makeIfaceD P t (E x)).map (·, st)
  | .makeFunc fn a b => some (.func fn (a.toList.map (E)) (b.toList.map (E)), st)
  | .makeMap _ none => some (.map st.next, st.push (.map []))
  | .makeSlice t l c => makeSliceD P st t (E l) (E c)
  | .slice t x lo hi mx => (sliceD P st t (E x) (lo.map (E)) (hi.map (E)) (mx.map (E))).map (·, st)
  | .fieldAddr s x f => (fieldAddrD P s (E x) f).map (·, st)
  | .field s x f => (fieldD P s (E x) f).map (·, st)
  | .indexAddr t x i => (indexAddrD P t (E x) (E i)).map (·, st)
  | .index t x i => (indexD P t (E x) (E i)).map (·, st)
  | .lookup t x i ok => (lookupD P st t (E x) (E i) ok).map (·, st)
  | .mapUpdate t m k x | .insert t m k x => (mapUpdateD P st t (E m) (E k) (E x)).map fun st' => (.undef, st')
  | .range t x => rangeD P st t (E x)
  | .next it s => nextD st (E it) s
  | .extract t i => (extractD (E t) i).map (·, st)
  | .call { callee := .builtin b, args, argTypes } => builtinD P st b argTypes (args.toList.map (E))
  | _ => none

theorem map_same_on {l : List Operand} {E E' : Operand → D} (h : ∀ x ∈ l, E x = E' x) : l.map E = l.map E' := List.map_congr_left h
set_option maxHeartbeats 2000000 in
/-- An operation looks at its operands alone. -/
theorem aop_congr {E E' : Operand → D} {st : St} (o : Oper) (h : ∀ x ∈ o.op.operands, E x = E' x) : aop P E st o = aop P E' st o := by
  obtain ⟨dst, op, type, pos, after, guard⟩ := o
  have pairs : ∀ ps : Array (Nat × Operand), (∀ x ∈ ps.toList.map (·.2), E x = E' x) → (ps.toList.map fun p => (p.1, E p.2)) = (ps.toList.map fun p => (p.1, E' p.2)) := fun ps hp =>
    List.map_congr_left fun p hm => by rw [hp p.2 (List.mem_map.2 ⟨p, hm, rfl⟩)]
  cases op <;> simp only [Op.operands] at h <;> simp only [aop]
  case build t ps => rw [pairs ps fun x hx => h x (by simpa using hx)]
  case buildSlice t n ps => rw [pairs ps fun x hx => h x (by simpa using hx)]
  case makeFunc fn first captured =>
    rw [map_same_on (l := first.toList) fun x hx => h x (by simp [Array.mem_def.2 hx]), map_same_on (l := captured.toList) fun x hx => h x (by simp [Array.mem_def.2 hx])]
  case call c =>
    obtain ⟨callee, args, argTypes⟩ := c
    cases callee <;> try rfl
    simp only
    rw [map_same_on (l := args.toList) fun x hx => h x (by simpa [Call.operands] using hx)]
  case makeMap t r => cases r <;> rfl
  case slice t x lo hi mx => cases lo <;> cases hi <;> cases mx <;> simp_all
  all_goals (first | rfl | (simp_all; done))

/-- What an operation comes to in a world. -/
def OpOK (P : Program) (π : Nm) (w : World) (st : St) (s : Sem Next) (d : D) (st' : St) : Prop :=
  ∃ v w' π' r, s.run P w = .ok r w' ∧ (r = .value v ∨ r = .skip ∧ v = undef) ∧ Rel P π' w' st' ∧ Mv π w st π' w' st' ∧ VR P π' (Mut π' st') w' d v
theorem OpOK.of_value {s : Sem Value} {d : D} (h : SOK P π w st s d st') : OpOK P π w st (do pure (.value (← s))) d st' := by
  obtain ⟨v, w', π', hr, r, m, hv⟩ := h
  exact ⟨v, w', π', .value v, by simp [hr], .inl rfl, r, m, hv⟩
theorem OpOK.of_unit {s : Sem Unit} (h : ∃ w', s.run P w = .ok () w' ∧ Rel P π w' st' ∧ Mv π w st π w' st') : OpOK P π w st (do s; pure .skip) .undef st' := by
  obtain ⟨w', hr, r, m⟩ := h
  exact ⟨undef, w', π, .skip, by simp [hr], .inr ⟨rfl, rfl⟩, r, m, .undef _⟩

theorem All2.of_map {α : Type} {R : D → Value → Prop} (l : List α) (f : α → D) (g : α → Value) (h : ∀ x, R (f x) (g x)) : All2 R (l.map f) (l.map g) := All2.map_same l f g h

theorem ok_builtin (h : Rel P π w st) {b : Builtin} {ts : Array TypeId} {ty : TypeId} {cs : Array Bool} {args : List D} {args' : Array Value} (hargs : All2 (VR P π (Mut π st) w) args args'.toList) {d : D} (hd : builtinD P st b ts args = some (d, st')) :
    OpOK P π w st (builtin b ts ty cs args') d st' := by
  obtain ⟨ts⟩ := ts
  obtain ⟨args'⟩ := args'
  simp only at hargs hd
  unfold builtinD at hd
  split at hd <;> subst_vars
  · rename_i t x
    cases hargs with
    | cons hx hl => cases hl; rw [Option.map_eq_some_iff] at hd; obtain ⟨n, hn, hd⟩ := hd; injection hd with e1 e2; subst e1; subst e2; exact (.of_value (ok_len h hx hn))
  · rename_i t x
    cases hargs with
    | cons hx hl => cases hl; rw [Option.map_eq_some_iff] at hd; obtain ⟨n, hn, hd⟩ := hd; injection hd with e1 e2; subst e1; subst e2; exact (.of_value (ok_cap h hx hn))
  · rename_i t tx s x
    cases hargs with
    | cons hs hl =>
      cases hl with
      | cons hx hl =>
        cases hl
        split at hd
        · rename_i r hr; injection hd with hd; subst hd; exact .of_value (ok_append (ty := ty) h hs hx hr)
        · exact .of_value (ok_appendZ (ty := ty) h hs hx hd)
  · rename_i t tx d x
    cases hargs with
    | cons hs hl => cases hl with | cons hx hl => cases hl; exact (.of_value (ok_copy h hs hx hd))
  · rename_i t x
    cases hargs with
    | cons hx hl => cases hl; exact (.of_value (ok_clear h hx hd))
  · rename_i t te x k
    cases hargs with
    | cons hx hl =>
      cases hl with
      | cons hk hl => cases hl; rw [Option.map_eq_some_iff] at hd; obtain ⟨s2, hn, hd⟩ := hd; injection hd with e1 e2; subst e1; subst e2; exact (.of_value (ok_delete h hx hk hn))
  · rw [Option.map_eq_some_iff] at hd; obtain ⟨r, hr, hd⟩ := hd; injection hd with e1 e2; subst e1; subst e2
    exact (.of_value (ok_max h hargs hr))
  · rw [Option.map_eq_some_iff] at hd; obtain ⟨r, hr, hd⟩ := hd; injection hd with e1 e2; subst e1; subst e2
    exact (.of_value (ok_min h hargs hr))
  · cases hd

theorem optR_map {E : Operand → D} {a : Act} (ev : ∀ x, VR P π M w (E x) (a.eval x)) (x : Option Operand) : optR P π M w (x.map E) (x.map a.eval) := by
  cases x with
  | none => trivial
  | some x => exact ev x

set_option maxHeartbeats 2000000 in
theorem aop_ok_all (h : Rel P π w st) {E : Operand → D} {a : Act} (ev : ∀ x, VR P π (Mut π st) w (E x) (a.eval x)) {o : Oper} {d : D} (hd : aop P E st o = some (d, st')) : OpOK P π w st (execOp a.eval o) d st' := by
  have mp : ∀ {α : Type} {f : α → D × St} {x : Option α}, x.map f = some (d, st') → ∃ y, x = some y ∧ f y = (d, st') := fun hx => by rw [Option.map_eq_some_iff] at hx; exact hx
  unfold aop at hd
  split at hd
  · injection hd with hd; injection hd with e1 e2; subst e1; subst e2
    rename_i x ho; unfold execOp; simp only [ho]
    exact ⟨a.eval x, w, π, .value _, rfl, .inl rfl, h, .refl _ _ _, ev x⟩
  · injection hd with hd; injection hd with e1 e2; subst e1; subst e2
    rename_i x ho; unfold execOp; simp only [ho]
    exact ⟨a.eval x, w, π, .value _, rfl, .inl rfl, h, .refl _ _ _, ev x⟩
  · rename_i c x y ho; unfold execOp; simp only [ho]
    split at hd
    · rename_i t hc
      injection hd with hd; injection hd with e1 e2; subst e1; subst e2
      have hcv := ev c
      rw [hc] at hcv
      generalize hcv' : a.eval c = cv at hcv
      cases hcv
      exact ⟨if t then a.eval x else a.eval y, w, π, .value _, by simp [asBool], .inl rfl, h, .refl _ _ _, by cases t <;> exact ev _⟩
    · cases hd
  · rename_i e ho; unfold execOp; simp only [ho]
    split at hd
    · rename_i z hz
      split at hd
      · rename_i hv
        injection hd with hd; injection hd with e1 e2; subst e1; subst e2
        exact (.of_value (ok_alloc h hz hv))
      · cases hd
    · cases hd
  · rename_i e x ho; unfold execOp; simp only [ho]
    split at hd
    · rename_i hv
      injection hd with hd; injection hd with e1 e2; subst e1; subst e2
      exact (.of_value (ok_box h (ev x) hv))
    · cases hd
  · rename_i t ps ho; unfold execOp; simp only [ho]
    obtain ⟨y, hy, hd⟩ := mp hd; injection hd with e1 e2; subst e1; subst e2
    exact (.of_value (ok_build h (parts' := ps.map fun (i, x) => (i, a.eval x)) (by rw [Array.toList_map]; exact All2.map_same _ _ _ fun p => ⟨rfl, ev p.2⟩) hy))
  · rename_i t n ps ho; unfold execOp; simp only [ho]
    exact (.of_value (ok_buildSlice h (parts' := ps.map fun (i, x) => (i, a.eval x)) (by rw [Array.toList_map]; exact All2.map_same _ _ _ fun p => ⟨rfl, ev p.2⟩) hd))
  · rename_i t x ho; unfold execOp; simp only [ho]
    split at hd
    · rename_i cs hcs
      obtain ⟨y, hy, hd⟩ := mp hd; injection hd with e1 e2; subst e1; subst e2
      exact (.of_value (ok_load h (ev x) hcs hy))
    · cases hd
  · rename_i t x y ho; unfold execOp; simp only [ho]
    split at hd
    · rename_i i k n hx hn
      split at hd
      · rename_i hc
        obtain ⟨s2, hy, hd⟩ := mp hd; injection hd with e1 e2; subst e1; subst e2
        have hxv := ev x
        rw [hx] at hxv
        exact (.of_unit (ok_store (p := .undef) h hxv (ev y) hc.1 hn hc.2 hy))
      · cases hd
    · cases hd
  · rename_i x ho
    obtain ⟨y, hy, hd⟩ := mp hd; injection hd with e1 e2; subst e1; subst e2
    obtain ⟨hr, hv⟩ := ok_nilCheck (ev x) hy o a.eval x ho rfl
    exact ⟨a.eval x, w, π, .value _, hr, .inl rfl, h, .refl _ _ _, hv⟩
  · rename_i op t x y ty ho; unfold execOp; simp only [ho]
    obtain ⟨z, hz, hd⟩ := mp hd; injection hd with e1 e2; subst e1; subst e2
    exact (.of_value (ok_bin h (ev x) (ev y) hz))
  · rename_i op t x ho; unfold execOp; simp only [ho]
    obtain ⟨z, hz, hd⟩ := mp hd; injection hd with e1 e2; subst e1; subst e2
    exact (.of_value (ok_un h (ev x) hz))
  · rename_i s t x ho; unfold execOp; simp only [ho]
    exact (.of_value (ok_conv h (ev x) hd))
  · rename_i t x ho; unfold execOp; simp only [ho]
    obtain ⟨z, hz, hd⟩ := mp hd; injection hd with e1 e2; subst e1; subst e2
    exact (.of_value (ok_makeIface h (ev x) hz))
  · rename_i fn x y ho; unfold execOp; simp only [ho]
    injection hd with hd; injection hd with e1 e2; subst e1; subst e2
    refine (.of_value (.val h (v := .func fn (x.map a.eval) (y.map a.eval)) rfl ?_))
    have := VR.func (P := P) (π := π) (M := Mut π st) (w := w) fn _ _ _ _ (All2.map_same x.toList (E) a.eval ev) (All2.map_same y.toList (E) a.eval ev)
    have e : ∀ z : Array Operand, z.map a.eval = (z.toList.map a.eval).toArray := fun z => by apply Array.ext'; simp
    rw [e x, e y]; exact this
  · rename_i t ho; unfold execOp; simp only [ho]
    injection hd with hd; injection hd with e1 e2; subst e1; subst e2
    exact (.of_value (ok_makeMap h))
  · rename_i t l c ho; unfold execOp; simp only [ho]
    exact (.of_value (ok_makeSlice h (ev l) (ev c) hd))
  · rename_i t x lo hi mx ho; unfold execOp; simp only [ho]
    obtain ⟨z, hz, hd⟩ := mp hd; injection hd with e1 e2; subst e1; subst e2
    exact (.of_value (ok_slice h (ev x) (optR_map ev lo) (optR_map ev hi) (optR_map ev mx) hz))
  · rename_i s x f ho; unfold execOp; simp only [ho]
    obtain ⟨z, hz, hd⟩ := mp hd; injection hd with e1 e2; subst e1; subst e2
    exact (.of_value (ok_fieldAddr h (ev x) hz))
  · rename_i s x f ho; unfold execOp; simp only [ho]
    obtain ⟨z, hz, hd⟩ := mp hd; injection hd with e1 e2; subst e1; subst e2
    exact (.of_value (ok_field h (ev x) hz))
  · rename_i t x i ho; unfold execOp; simp only [ho]
    obtain ⟨z, hz, hd⟩ := mp hd; injection hd with e1 e2; subst e1; subst e2
    exact (.of_value (ok_indexAddr h (ev x) (ev i) hz))
  · rename_i t x i ho; unfold execOp; simp only [ho]
    obtain ⟨z, hz, hd⟩ := mp hd; injection hd with e1 e2; subst e1; subst e2
    exact (.of_value (ok_index h (ev x) (ev i) hz))
  · rename_i t x i ok ho; unfold execOp; simp only [ho]
    obtain ⟨z, hz, hd⟩ := mp hd; injection hd with e1 e2; subst e1; subst e2
    exact (.of_value (ok_lookup h (ev x) (ev i) hz))
  · rename_i t m k x ho; unfold execOp; simp only [ho]
    obtain ⟨z, hz, hd⟩ := mp hd; injection hd with e1 e2; subst e1; subst e2
    exact (.of_unit (ok_mapUpdate h (ev m) (ev k) (ev x) hz))
  · rename_i t m k x ho; unfold execOp; simp only [ho]
    obtain ⟨z, hz, hd⟩ := mp hd; injection hd with e1 e2; subst e1; subst e2
    exact (.of_unit (ok_mapUpdate h (ev m) (ev k) (ev x) hz))
  · rename_i t x ho; unfold execOp; simp only [ho]
    exact (.of_value (ok_range h (ev x) hd))
  · rename_i x s ho; unfold execOp; simp only [ho]
    exact (.of_value (ok_next h (ev x) hd))
  · rename_i x i ho; unfold execOp; simp only [ho]
    obtain ⟨z, hz, hd⟩ := mp hd; injection hd with e1 e2; subst e1; subst e2
    exact (.of_value (ok_extract h (ev x) hz))
  · rename_i b args ts ho
    have hargs : All2 (VR P π (Mut π st) w) (args.toList.map (E)) (args.map a.eval).toList := by
      rw [Array.toList_map]; exact All2.map_same _ _ _ ev
    obtain ⟨v, w', π', r, hr, rest⟩ := ok_builtin (ty := o.type) (cs := args.map fun | .const _ => true | _ => false) h hargs hd
    refine ⟨v, w', π', r, ?_, rest⟩
    unfold execOp
    simp only [ho, resolve, Sem.run_bind, Sem.run_pure, Result.andThen_ok, invoke]
    exact hr
  · cases hd
/-- The same, where the operands alone are known. -/
theorem aop_ok (h : Rel P π w st) {E : Operand → D} {a : Act} {o : Oper} (ev : ∀ x ∈ o.op.operands, VR P π (Mut π st) w (E x) (a.eval x)) {d : D} (hd : aop P E st o = some (d, st')) : OpOK P π w st (execOp a.eval o) d st' := by
  classical
  refine aop_ok_all (E := fun x => if x ∈ o.op.operands then E x else .undef) h (fun x => ?_) ?_
  · by_cases hx : x ∈ o.op.operands
    · simp only [hx, if_true]; exact ev x hx
    · simp only [hx, if_false]; exact .undef _
  · rw [← hd]; exact (aop_congr o fun x hx => by simp [hx]).symm
end Go.Proofs.YtdodnmeilhhhgaaGreatDoor.AM
