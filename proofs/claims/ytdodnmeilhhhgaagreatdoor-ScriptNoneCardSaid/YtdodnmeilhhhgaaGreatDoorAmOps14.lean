/- PART OF THE ABSTRACT MACHINE over the given model: Ops14. It carries no condition of its own. -/
import Derived.Test.YtdodnmeilhhhgaaGreatDoorAmOps13
set_option linter.unusedVariables false
set_option linter.unusedSimpArgs false
noncomputable section
namespace Go.Proofs.YtdodnmeilhhhgaaGreatDoor.AM
variable {P : Program} {π π' : Nm} {M : Nat → Prop} {w w' : World} {st st' : St}

/-! ### Maps whose keys are whole numbers -/
def isIntT (P : Program) (t : TypeId) : Bool := match P.underlying t with | some (.int _) => true | _ => false
/-- The place of a key. -/
def findD (k : IntKind) (n : Int) : List (D × D) → Nat → Option (Option Nat)
  | [], _ => some none
  | (.int k' m, _) :: es, i => if k = k' then (if n == m then some (some i) else findD k n es (i + 1)) else none
  | _ :: _, _ => none

theorem run_getObj_map {b : Nat} {es : Array MapEntry} {clock : Nat} (h : w.heap[b]? = some (.map es clock)) : (getObj b).run P w = .ok (.map es clock) w := by simp [getObj, Sem.run, h]
theorem run_setObj {b : Nat} {es : Array MapEntry} {clock : Nat} (h : w.heap[b]? = some (.map es clock)) (o : Obj) : (setObj b o).run P w = .ok () { w with heap := w.heap.setIfInBounds b o } := by simp [setObj, Sem.run, h]
theorem run_checkKey1 (n : Nat) {b : Bool} {t : TypeId} {v : Value} {k : IntKind} (ht : P.underlying t = some (.int k)) : (Instr.checkKey b (n + 1) t v).run P w = .ok () w := by
  simp [Instr.checkKey, run_underlying ht]
theorem run_checkKey {b : Bool} {t : TypeId} {v : Value} {k : IntKind} (ht : P.underlying t = some (.int k)) : (Instr.checkKey b 10000 t v).run P w = .ok () w := run_checkKey1 9999 ht

theorem findNow_rel {kd k : IntKind} {n : Int} : ∀ (es : List (D × D)) (es' : List MapEntry) (i : Nat) (r : Option Nat), All2 (fun x (y : MapEntry) => VR P π M w x.1 y.key ∧ VR P π M w x.2 y.val) es es' →
    findD k n es i = some r → match r with
      | none => Instr.findNow (.int kd) (.int k n) es' i = some none
      | some j => i ≤ j ∧ ∃ e, es'[j - i]? = some e ∧ Instr.findNow (.int kd) (.int k n) es' i = some (some (j, e.val)) := by
  intro es
  induction es with
  | nil => intro es' i r h hr; cases h; simp only [findD] at hr; injection hr with hr; subst hr; rfl
  | cons x es ih =>
    intro es' i r h hr
    cases h with
    | cons hx hl =>
      rename_i y ys
      obtain ⟨dk, dv⟩ := x
      obtain ⟨hk, hv⟩ := hx
      obtain ⟨yk, yv, yb⟩ := y
      simp only at hk hv
      cases hk <;> simp only [findD] at hr <;> try (cases hr; done)
      · rename_i k' m
        split at hr
        · rename_i hkk; subst hkk
          split at hr
          · rename_i hnm
            injection hr with hr; subst hr
            have : n = m := by simpa using hnm
            subst this
            refine ⟨Nat.le_refl _, ⟨.int k n, yv, yb⟩, by simp, ?_⟩
            simp [Instr.findNow, Instr.sameNow]
          · rename_i hnm
            have hne : (n == m) = false := by simpa using hnm
            have := ih ys (i + 1) r hl hr
            cases r with
            | none => simp only [Instr.findNow, Instr.sameNow, if_true, hne]; exact this
            | some j =>
              obtain ⟨hj, e, he, hf⟩ := this
              refine ⟨by omega, e, ?_, ?_⟩
              · rw [show j - i = (j - (i + 1)) + 1 from by omega, List.getElem?_cons_succ]; exact he
              · simp only [Instr.findNow, Instr.sameNow, if_true, hne]; exact hf
        · cases hr

def lookupD (P : Program) (st : St) (t : TypeId) (x k : D) (ok : Bool) : Option D :=
  match P.underlying t with
  | some (.map kt et) =>
    if isIntT P kt = true then
      match x, k with
      | .nilm, .int _ _ => (zeroD P et).map fun z => if ok then .tup [z, .bool false] else z
      | .map i, .int k n => match st.get i with
        | some (.map es) => match findD k n es 0 with
          | some (some j) => match es[j]? with
            | some e => some (if ok then .tup [e.2, .bool true] else e.2)
            | none => none
          | some none => (zeroD P et).map fun z => if ok then .tup [z, .bool false] else z
          | none => none
        | _ => none
      | _, _ => none
    else none
  | _ => none

theorem isIntT_spec {t : TypeId} (h : isIntT P t = true) : ∃ k, P.underlying t = some (.int k) := by
  unfold isIntT at h
  split at h
  · rename_i k hk; exact ⟨k, hk⟩
  · cases h

theorem ok_lookup (h : Rel P π w st) {t : TypeId} {x k d : D} {ok : Bool} {v u : Value} (hv : VR P π (Mut π st) w x v) (hu : VR P π (Mut π st) w k u) (hd : lookupD P st t x k ok = some d) :
    SOK P π w st (Instr.lookup t v u ok) d st := by
  unfold lookupD at hd
  split at hd
  rotate_left
  · cases hd
  rename_i kt et ht
  split at hd
  rotate_left
  · cases hd
  rename_i hint
  obtain ⟨kd, hkd⟩ := isIntT_spec hint
  split at hd
  · cases hv; cases hu
    rename_i k n
    rw [Option.map_eq_some_iff] at hd; obtain ⟨z, hz, rfl⟩ := hd
    obtain ⟨zv, hzr, hzv⟩ := ok_zeroValue (w := w) (π := π) (M := Mut π st) hz
    refine .val h (v := if ok then .tuple #[zv, .bool false] else zv) ?_ ?_
    · simp [Instr.lookup, run_underlying ht, run_checkKey hkd, Instr.findKey, run_underlying hkd, Instr.findNow, hzr]
    · cases ok
      · exact hzv
      · exact .tup _ [_, _] (.cons hzv (.cons (.bool _) .nil))
  · rename_i i k n
    cases hu
    split at hd
    rotate_left
    · cases hd
    rename_i es hi
    cases hv with
    | map _ b base hp =>
      obtain ⟨n0, b0, hp0, hlt0, hB⟩ := h.blk _ _ hi
      rw [hp] at hp0; injection hp0 with hp0; injection hp0 with e1 e2; subst e1; subst e2
      cases hB with
      | map _ es' clock hb h2 =>
        have hg := run_getObj_map (P := P) hb
        split at hd
        · rename_i j hj
          split at hd
          rotate_left
          · cases hd
          rename_i e he
          injection hd with hd; subst hd
          have := findNow_rel (P := P) (w := w) (kd := kd) es es'.toList 0 (some j) h2 hj
          obtain ⟨_, e', he', hf⟩ := this
          obtain ⟨e'', he'', hr⟩ := h2.get he
          rw [Nat.sub_zero] at he'
          rw [he'] at he''; injection he'' with he''; subst he''
          refine .val h (v := if ok then .tuple #[e'.val, .bool true] else e'.val) ?_ ?_
          · simp [Instr.lookup, run_underlying ht, hg, run_checkKey hkd, Instr.findKey, run_underlying hkd, hf]
          · cases ok
            · exact hr.2
            · exact .tup _ [_, _] (.cons hr.2 (.cons (.bool _) .nil))
        · rename_i hj
          rw [Option.map_eq_some_iff] at hd; obtain ⟨z, hz, rfl⟩ := hd
          obtain ⟨zv, hzr, hzv⟩ := ok_zeroValue (w := w) (π := π) (M := Mut π st) hz
          have hf := findNow_rel (P := P) (w := w) (kd := kd) es es'.toList 0 none h2 hj
          simp only at hf
          refine .val h (v := if ok then .tuple #[zv, .bool false] else zv) ?_ ?_
          · simp [Instr.lookup, run_underlying ht, hg, run_checkKey hkd, Instr.findKey, run_underlying hkd, hf, hzr]
          · cases ok
            · exact hzv
            · exact .tup _ [_, _] (.cons hzv (.cons (.bool _) .nil))
        · cases hd
  · cases hd

/-! ### A map is changed -/
def mapUpdateD (P : Program) (st : St) (t : TypeId) (x k v : D) : Option St :=
  match P.underlying t, x, k with
  | some (.map kt _), .map i, .int k n =>
    if isIntT P kt = true then
      match st.get i with
      | some (.map es) => match findD k n es 0 with
        | some (some j) => some (st.put i (some (.map (es.modify j fun e => (.int k n, v)))))
        | some none => some (st.put i (some (.map (es ++ [(.int k n, v)]))))
        | none => none
      | _ => none
    else none
  | _, _, _ => none
def deleteD (P : Program) (st : St) (t : TypeId) (x k : D) : Option St :=
  match P.underlying t, x, k with
  | some (.map kt _), .nilm, .int _ _ => if isIntT P kt = true then some st else none
  | some (.map kt _), .map i, .int k n =>
    if isIntT P kt = true then
      match st.get i with
      | some (.map es) => match findD k n es 0 with
        | some (some j) => some (st.put i (some (.map (es.eraseIdx j))))
        | some none => some st
        | none => none
      | _ => none
    else none
  | _, _, _ => none
end Go.Proofs.YtdodnmeilhhhgaaGreatDoor.AM
