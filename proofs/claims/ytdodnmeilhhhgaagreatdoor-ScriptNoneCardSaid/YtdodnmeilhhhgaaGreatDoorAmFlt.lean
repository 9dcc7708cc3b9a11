/- PART OF THE ABSTRACT MACHINE over the given model: Flt. It carries no condition of its own. -/
import Derived.Test.YtdodnmeilhhhgaaGreatDoorAmCode
set_option linter.unusedVariables false
set_option linter.unusedSimpArgs false
noncomputable section
namespace Go.Proofs.YtdodnmeilhhhgaaGreatDoor.AM
variable {P : Program} {π π' : Nm} {M : Nat → Prop} {w w' : World} {st st' : St} {fr : Fm} {a : Act}

/-! ### Operations that make memory by a name of choice -/
def fop (P : Program) (E : Operand → D) (k : Nat) (o : Oper) : Option (D × List D) :=
  match o.op with
  | .alloc e => match zeroD P e with
    | some z => if z.isVal = true then some (.ptr k 0, z.cells) else none
    | none => none
  | .box _ x => if (E x).isVal = true then some (.ptr k 0, (E x).cells) else none
  | .buildSlice t len ps => match P.underlying t with
    | some (.slice e) => match szOf P e, zeroD P e with
      | some s, some z =>
        if z.isVal = true ∧ z.cells.length = s ∧ len * s ≤ 16777216 ∧ len * P.bytesOf e ≤ 140737488355328 then
          (fillD (fun i => some (i * s, s)) (zeros z.cells len) (ps.toList.map fun p => (p.1, E p.2))).map fun r => (.sl k 0 e len (.known len), r)
        else none
      | _, _ => none
    | _ => none
  | _ => none

def SOKF (P : Program) (π : Nm) (w : World) (st : St) (k m : Nat) (s : Sem Value) (d : D) (st' : St) : Prop :=
  ∃ v w' π', s.run P w = .ok v w' ∧ Rel P π' w' st' ∧ Mv π w { st with next := m } π' w' st' ∧ VR P π' (Mut π' st') w' d v ∧ ∀ i, i ≠ k → π' i = π i

theorem okF_newVar (h : Rel P π w st) {k m : Nat} (hk : π k = none) (hm1 : m ≤ st.next) (hm2 : m ≤ k) {t : TypeId} {d : D} {v : Value} (hv : VR P π (Mut π st) w d v) (hd : d.isVal = true) :
    ∃ w' π' a, (newVar t v).run P w = .ok a w' ∧ Rel P π' w' (st.pushAt k (.cells d.cells true)) ∧ Mv π w { st with next := m } π' w' (st.pushAt k (.cells d.cells true)) ∧
      VR P π' (Mut π' (st.pushAt k (.cells d.cells true))) w' (.ptr k 0) (.pointer (some a)) ∧ ∀ i, i ≠ k → π' i = π i := by
  obtain ⟨hcv, hone⟩ := isVal_cells hv hd
  have hl : d.cells.length = v.cells.size := by rw [hcv.length, Array.length_toList]
  obtain ⟨r, mv⟩ := h.rowAt hk m hm1 hm2 d.cells v.cells t (by omega) fun j x hj => by
    obtain ⟨u, hu, hr⟩ := hcv.get hj
    exact ⟨u, by simpa using hu, hr, List.all_eq_true.1 hone x (List.mem_of_getElem? hj)⟩
  exact ⟨_, _, ⟨w.heap.size, 0, none⟩, by simp [newVar, newRow, Result.andThen], r, mv, .ptr _ _ _ _ (upd_same ..), fun i hi => upd_other _ hi⟩

theorem okF_newRow (h : Rel P π w st) {k m : Nat} (hk : π k = none) (hm1 : m ≤ st.next) (hm2 : m ≤ k) {e : TypeId} {s : Nat} {cs : List D} {vs : Array Value} {n cap : Nat} {c : Cap} (hc : All2 (VR P π (Mut π st) w) cs vs.toList) (h1 : cs.all D.one = true)
    (hs : szOf P e = some s) (hlen : vs.size = cap * s) (hn : n ≤ cap) (hcap : ∀ c0, c = .known c0 → cap = c0) (hr : cap * P.bytesOf e ≤ 2 ^ 47) :
    ∃ w' π', (newRow e vs).run P w = .ok ⟨w.heap.size, 0, none⟩ w' ∧ Rel P π' w' (st.pushAt k (.cells cs true)) ∧ Mv π w { st with next := m } π' w' (st.pushAt k (.cells cs true)) ∧
      VR P π' (Mut π' (st.pushAt k (.cells cs true))) w' (.sl k 0 e n c) (.slice (some ⟨w.heap.size, 0, none⟩) n cap) ∧ ∀ i, i ≠ k → π' i = π i := by
  have hl : cs.length = vs.size := by rw [hc.length, Array.length_toList]
  obtain ⟨r, mv⟩ := h.rowAt hk m hm1 hm2 cs vs e (by omega) fun j x hj => by
    obtain ⟨u, hu, hr⟩ := hc.get hj
    exact ⟨u, by simpa using hu, hr, List.all_eq_true.1 h1 x (List.mem_of_getElem? hj)⟩
  refine ⟨_, _, by simp [newRow, Result.andThen], r, mv, .sl _ _ _ _ _ _ 0 0 cap (upd_same ..) (fun _ => rfl) hcap hn (fun _ _ => hr) (Nat.le_trans (Nat.mul_le_mul_right _ hn) hr) ?_, fun i hi => upd_other _ hi⟩
  refine ⟨(e, vs.size), ?_, by rw [cellsOf_szOf hs, hlen]; simp⟩
  show (w.alloc (.cells vs e)).shape? w.heap.size = _
  have : (w.alloc (.cells vs e)).heap[w.heap.size]? = some (.cells vs e) := by show (w.heap.push _)[w.heap.size]? = _; simp
  unfold World.shape?; rw [this]

theorem fop_ok_all (h : Rel P π w st) {k m : Nat} (hk : π k = none) (hm1 : m ≤ st.next) (hm2 : m ≤ k) {E : Operand → D} {a : Act} (ev : ∀ x, VR P π (Mut π st) w (E x) (a.eval x)) {o : Oper} {d : D} {cs : List D} (hd : fop P E k o = some (d, cs)) :
    ∃ v w' π', (execOp a.eval o).run P w = .ok (.value v) w' ∧ Rel P π' w' (st.pushAt k (.cells cs true)) ∧ Mv π w { st with next := m } π' w' (st.pushAt k (.cells cs true)) ∧
      VR P π' (Mut π' (st.pushAt k (.cells cs true))) w' d v ∧ ∀ i, i ≠ k → π' i = π i := by
  unfold fop at hd
  split at hd
  · rename_i e ho; unfold execOp; simp only [ho]
    split at hd
    · rename_i z hz
      split at hd
      · rename_i hv
        injection hd with hd; injection hd with e1 e2; subst e1; subst e2
        obtain ⟨zv, hzr, hzvr⟩ := ok_zeroValue (w := w) (π := π) (M := Mut π st) hz
        obtain ⟨w', π', x, hr, r, mv, hv', ho⟩ := okF_newVar (t := e) h hk hm1 hm2 hzvr hv
        exact ⟨.pointer (some x), w', π', by simp [Instr.alloc, hzr, hr, Result.andThen], r, mv, hv', ho⟩
      · cases hd
    · cases hd
  · rename_i e x ho; unfold execOp; simp only [ho]
    split at hd
    · rename_i hv
      injection hd with hd; injection hd with e1 e2; subst e1; subst e2
      obtain ⟨w', π', y, hr, r, mv, hv', ho⟩ := okF_newVar (t := e) h hk hm1 hm2 (ev x) hv
      exact ⟨.pointer (some y), w', π', by simp [Instr.box, hr, Result.andThen], r, mv, hv', ho⟩
    · cases hd
  · rename_i t len ps ho; unfold execOp; simp only [ho]
    split at hd
    · rename_i e ht
      split at hd
      · rename_i s z hs hz
        split at hd
        · rename_i hc
          obtain ⟨hzv, hzl, hle, hby⟩ := hc
          rw [Option.map_eq_some_iff] at hd; obtain ⟨r, hr, hd⟩ := hd
          injection hd with e1 e2; subst e1; subst e2
          have hp : All2 (fun x y => x.1 = y.1 ∧ VR P π (Mut π st) w x.2 y.2) (ps.toList.map fun p => (p.1, E p.2)) (ps.map fun (i, x) => (i, a.eval x)).toList := by
            rw [Array.toList_map]; exact All2.map_same _ _ _ fun p => ⟨rfl, ev p.2⟩
          generalize (ps.map fun (i, x) => (i, a.eval x)) = parts' at hp ⊢
          obtain ⟨zv, hzr, hzvr⟩ := ok_zeroValue (w := w) (π := π) (M := Mut π st) hz
          obtain ⟨hcv, hone⟩ := isVal_cells hzvr hzv
          have hzs : zv.cells.size = s := by rw [← Array.length_toList, ← hcv.length]; exact hzl
          have hz2 := zeros_rel hcv len
          obtain ⟨r', hr', k1, k2, k3⟩ := ok_fill (place := fun i => some (i * s, s)) _ parts'.toList _ _ r hp hz2 (zeros_all hone) hr
          rw [zeros_length, hzl] at k3
          obtain ⟨w', π', hn, hR, hM, hV, ho'⟩ := okF_newRow (n := len) (cap := len) (c := .known len) h hk hm1 hm2 k1 k2 hs (by rw [← Array.length_toList, ← k1.length, k3]) (Nat.le_refl _) (fun c0 e => by injection e) hby
          refine ⟨_, w', π', ?_, hR, hM, hV, ho'⟩
          have hle' : ¬ (len * s > 2 ^ 24) := by omega
          have hx : (Instr.buildSlice t len parts').run P w = .ok (.slice (some ⟨w.heap.size, 0, none⟩) len len) w' := by
            by_cases h0 : len * s = 0
            · have hr'' : Instr.fill (fun i => some (i * s, s)) #[] parts'.toList = some r' := by
                have er : Array.range 0 = #[] := rfl
                simp only [hzs, h0, er, Array.map_empty] at hr'; exact hr'
              have er : Array.range 0 = #[] := rfl
              simp only [Instr.buildSlice, Sem.run_bind, run_underlying ht, Result.andThen_ok, run_sizeOf hs, Sem.run_ite, if_neg hle', h0, if_true, Sem.run_pure]
              simp only [er, Array.map_empty, hr'', Sem.run_bind, hn, Result.andThen_ok, Sem.run_pure]
              rw [if_neg (by decide)]
            · simp only [Instr.buildSlice, Sem.run_bind, run_underlying ht, Result.andThen_ok, run_sizeOf hs, Sem.run_ite, if_neg hle', if_neg h0, hzr, Sem.run_pure]
              rw [hzs] at hr'
              simp only [hzs, hr', Sem.run_bind, hn, Result.andThen_ok, Sem.run_pure]
          simp [hx]
        · cases hd
      · cases hd
    · cases hd
  · cases hd
theorem fop_congr {E E' : Operand → D} {k : Nat} (o : Oper) (h : ∀ x ∈ o.op.operands, E x = E' x) : fop P E k o = fop P E' k o := by
  obtain ⟨dst, op, type, pos, after, guard⟩ := o
  have pairs : ∀ ps : Array (Nat × Operand), (∀ x ∈ ps.toList.map (·.2), E x = E' x) → (ps.toList.map fun p => (p.1, E p.2)) = (ps.toList.map fun p => (p.1, E' p.2)) := fun ps hp =>
    List.map_congr_left fun p hm => by rw [hp p.2 (List.mem_map.2 ⟨p, hm, rfl⟩)]
  cases op <;> simp only [Op.operands] at h <;> simp only [fop]
  case buildSlice t n ps => rw [pairs ps fun x hx => h x (by simpa using hx)]
  all_goals (first | rfl | (simp_all; done))

/-- An operation that makes memory by a name of choice, below the names that are to come. -/
theorem fop_wp {o : Oper} {E : Operand → D} {k m : Nat} {d : D} {cs : List D} (hd : fop P E k o = some (d, cs)) (h : Rel P π w st) (hk : π k = none) (hm1 : m ≤ st.next) (hm2 : m ≤ k)
    (ev : ∀ x ∈ o.op.operands, VR P π (Mut π st) w (E x) (a.eval x)) {next : Act → World → Prop} {Q : Exit → Act → World → Prop}
    (hn : ∀ v w' π', Rel P π' w' (st.pushAt k (.cells cs true)) → Mv π w { st with next := m } π' w' (st.pushAt k (.cells cs true)) → VR P π' (Mut π' (st.pushAt k (.cells cs true))) w' d v → (∀ i, i ≠ k → π' i = π i) → next (a.put o.dst v) w') :
    o.wp P a w next Q := by
  classical
  obtain ⟨v, w', π', hr, r, m, hv, ho⟩ := fop_ok_all (E := fun x => if x ∈ o.op.operands then E x else .undef) h hk hm1 hm2 (a := a) (fun x => by
    by_cases hx : x ∈ o.op.operands
    · simp only [hx, if_true]; exact ev x hx
    · simp only [hx, if_false]; exact .undef _) (o := o) (d := d) (cs := cs) (by rw [← hd]; exact (fop_congr o fun x hx => by simp [hx]).symm)
  unfold Oper.wp
  rw [hr]
  exact hn v w' π' r m hv ho
end Go.Proofs.YtdodnmeilhhhgaaGreatDoor.AM
