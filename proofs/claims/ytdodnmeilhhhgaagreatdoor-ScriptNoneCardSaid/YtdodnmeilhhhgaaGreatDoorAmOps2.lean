/- PART OF THE ABSTRACT MACHINE over the given model: Ops2. It carries no condition of its own. -/
import Derived.Test.YtdodnmeilhhhgaaGreatDoorAmOps
set_option linter.unusedVariables false
set_option linter.unusedSimpArgs false
noncomputable section
namespace Go.Proofs.YtdodnmeilhhhgaaGreatDoor.AM
variable {P : Program} {π π' : Nm} {M : Nat → Prop} {w w' : World} {st st' : St}

theorem splice_nil (c : List D) (o : Nat) : splice c [] o = c := by simp [splice]
theorem splice_length (c ds : List D) (o : Nat) (ho : o ≤ c.length) : (splice c ds o).length = max c.length (o + ds.length) := by
  simp only [splice, List.length_append, List.length_take, List.length_drop]; omega
theorem splice_cons (c ds : List D) (d : D) (o : Nat) (ho : o ≤ c.length) : splice (splice c [d] o) ds (o + 1) = splice c (d :: ds) o := by
  unfold splice
  have h1 : (c.take o ++ [d]).length = o + 1 := by simp; omega
  have e1 : (c.take o ++ [d] ++ c.drop (o + [d].length)).take (o + 1) = c.take o ++ [d] := by
    rw [List.take_append_of_le_length (by omega), List.take_of_length_le (by omega)]
  have e2 : (c.take o ++ [d] ++ c.drop (o + [d].length)).drop (o + 1 + ds.length) = c.drop (o + (d :: ds).length) := by
    rw [List.drop_append, h1, List.drop_eq_nil_of_le (by omega), List.nil_append, List.drop_drop]
    congr 1; simp; omega
  rw [e1, e2]; simp

theorem put_same (h : Rel P π w st) {i : Nat} {b : Blk} (hi : st.get i = some b) : Rel P π w (st.put i (some b)) ∧ Mv π w st π w (st.put i (some b)) :=
  h.weaken (Nat.le_refl _) fun j b' hj => by
    rw [St.get_put] at hj
    by_cases e : j = i
    · subst e; rw [if_pos rfl] at hj; injection hj with hj; subst hj; exact ⟨b, hi, .same _⟩
    · rw [if_neg e] at hj; exact ⟨b', hj, .same _⟩
theorem put_put (st : St) (i : Nat) (b b' : Option Blk) (j : Nat) : ((st.put i b).put i b').get j = (st.put i b').get j := by
  simp only [St.get_put]; split <;> rfl
/-- Memory that answers alike. -/
theorem Rel.alike (h : Rel P π w st) (hn : st'.next = st.next) (hg : ∀ j, st'.get j = st.get j) : Rel P π w st' ∧ Mv π w st π w st' :=
  h.weaken (by omega) fun j b' hj => ⟨b', by rw [← hg]; exact hj, .same _⟩

theorem ok_storeCells {i n base : Nat} (vs : List Value) :
    ∀ (ds : List D) (k aoff o : Nat) (c : List D) (w : World) (st : St), Rel P π w st → All2 (VR P π (Mut π st) w) ds vs → ds.all D.one = true → st.get i = some (.cells c true) → π i = some (n, base) →
      aoff + k = base + o → o ≤ c.length → (∃ x, w.shape? n = some x ∧ base + o + ds.length ≤ x.2) →
      ∃ w', (storeCells ⟨n, aoff, none⟩ vs k).run P w = .ok () w' ∧ Rel P π w' (st.put i (some (.cells (splice c ds o) true))) ∧ Mv π w st π w' (st.put i (some (.cells (splice c ds o) true))) := by
  induction vs with
  | nil =>
    intro ds k aoff o c w st h h2 h1 hi hp ha ho hr
    cases h2
    rw [splice_nil]
    obtain ⟨r, m⟩ := put_same h hi
    exact ⟨w, by simp [storeCells], r, m⟩
  | cons v vs ih =>
    intro ds k aoff o c w st h h2 h1 hi hp ha ho hr
    cases h2 with
    | cons hv h2 =>
      rename_i d ds
      simp only [List.all_cons, Bool.and_eq_true] at h1
      obtain ⟨x, hx, hxo⟩ := hr
      simp only [List.length_cons] at hxo
      obtain ⟨r1, m1⟩ := h.setCell (o := o) (c' := splice c [d] o) (d := d) (v := v) hi hp ⟨x, hx, by omega⟩ hv h1.1 (fun j d' hj => by
          unfold splice at hj
          by_cases e : j = o
          · left; subst e
            rw [List.append_assoc, List.getElem?_append_right (by simp; omega)] at hj
            simp only [List.length_take] at hj
            rw [show j - min j c.length = 0 from by omega] at hj
            simp at hj; exact ⟨rfl, hj.symm⟩
          · right; refine ⟨e, ?_⟩
            by_cases hlt : j < o
            · rw [List.append_assoc, List.getElem?_append_left (by simp; omega), List.getElem?_take, if_pos hlt] at hj; exact hj
            · rw [List.getElem?_append_right (by simp; omega), List.getElem?_drop] at hj
              simp only [List.length_append, List.length_take, List.length_singleton] at hj
              rw [show o + 1 + (j - (min o c.length + 1)) = j from by omega] at hj; exact hj)
        (by rw [splice_length _ _ _ ho]; exact Nat.le_refl _)
      obtain ⟨n', base', hp', hn', hb⟩ := h.blk i _ hi
      rw [hp] at hp'; injection hp' with hp'; injection hp' with e1 e2; subst e1; subst e2
      have hcell : ∃ u, w.cell? ⟨n, base + o, none⟩ = some u ∧ w.frozen? ⟨n, base + o, none⟩ = false := by
        cases hb with
        | cells _ _ us t fz hb hc hle hw =>
          simp only [World.shape?, hb] at hx; injection hx with hx; subst hx
          simp only at hxo
          exact ⟨us[base + o]'(by omega), by simp [World.cell?, hb], frozen_free hb (hw rfl) (by omega)⟩
      obtain ⟨u, hu, hfz⟩ := hcell
      obtain ⟨w', hw', r2, m2⟩ := ih ds (k + 1) aoff (o + 1) (splice c [d] o) _ _ r1 (VR.mv_all h2 m1) h1.2 (by simp) hp (by omega)
        (by rw [splice_length _ _ _ ho]; simp; omega) ⟨x, by rw [shape_setCell]; exact hx, by omega⟩
      rw [splice_cons _ _ _ _ ho] at r2 m2
      obtain ⟨r3, m3⟩ := r2.alike (st' := st.put i (some (.cells (splice c (d :: ds) o) true))) rfl fun j => (put_put _ _ _ _ _).symm
      refine ⟨w', ?_, r3, (m1.trans m2).trans m3⟩
      have e0 : (⟨n, aoff, none⟩ : Addr).add k = ⟨n, base + o, none⟩ := by rw [add_none, ha]
      simp only [storeCells, Sem.run_bind, e0]
      rw [run_store P w _ v _ (hv.oneCell h1.1)]
      simp only [hu, hfz, Bool.false_eq_true, if_false, Result.andThen]
      exact hw'

theorem shape_of_blk {n base : Nat} {c : List D} {wr : Bool} (hb : BlkR P π M w n base (.cells c wr)) : ∃ x, w.shape? n = some x ∧ base + c.length ≤ x.2 := by
  cases hb with
  | cells _ _ vs t fz hb hc hle hw => exact ⟨(t, vs.size), by simp [World.shape?, hb], hle⟩

theorem ok_store (h : Rel P π w st) {t : TypeId} {p d : D} {v x : Value} {i o : Nat} {n : Nat} (hv : VR P π (Mut π st) w (.ptr i o) v) (hx : VR P π (Mut π st) w d x) (hd : d.isVal = true)
    (hs : szOf P t = some n) (hn : d.cells.length = n) (hp : poke st i o d.cells = some st') :
    ∃ w', (Instr.storeAt t v x).run P w = .ok () w' ∧ Rel P π w' st' ∧ Mv π w st π w' st' := by
  cases hv with
  | ptr _ _ b base hpi =>
    unfold poke at hp
    simp only [pokeL_map] at hp
    split at hp
    · rename_i c hi
      split at hp
      · rename_i hle
        injection hp with hp; subst hp
        have hcells : All2 (VR P π (Mut π st) w) d.cells x.cells.toList ∧ d.cells.all D.one = true := by
          cases d with
          | agg c => exact ⟨hx.cells (.inr ⟨c, rfl⟩), by simpa [D.isVal, D.cells] using hd⟩
          | undef => simp [D.isVal] at hd
          | tup => simp [D.isVal] at hd
          | _ => exact ⟨hx.cells (.inl rfl), rfl⟩
        obtain ⟨n', base', hp', hn', hb⟩ := h.blk i _ hi
        rw [hpi] at hp'; injection hp' with hp'; injection hp' with e1 e2; subst e1; subst e2
        obtain ⟨y, hy, hyl⟩ := shape_of_blk hb
        obtain ⟨w', hw', r, m⟩ := ok_storeCells x.cells.toList d.cells 0 (base + o) o c w st h hcells.1 hcells.2 hi hpi (by omega) (by omega) ⟨y, hy, by omega⟩
        refine ⟨w', ?_, r, m⟩
        have hsz : x.cells.size = n := by rw [← Array.length_toList, ← hcells.1.length]; exact hn
        simp only [Instr.storeAt, Instr.sureAddr, storeVar, Sem.run_bind, Sem.run_pure, Result.andThen, run_sizeOf hs, hsz]
        simp [hw']
      · cases hp
    · cases hp

/-- New memory for a value. -/
theorem ok_newVar (h : Rel P π w st) {t : TypeId} {d : D} {v : Value} (hv : VR P π (Mut π st) w d v) (hd : d.isVal = true) :
    ∃ w' π' a, (newVar t v).run P w = .ok a w' ∧ Rel P π' w' (st.push (.cells d.cells true)) ∧ Mv π w st π' w' (st.push (.cells d.cells true)) ∧ VR P π' (Mut π' (st.push (.cells d.cells true))) w' (.ptr st.next 0) (.pointer (some a)) := by
  have hcells : All2 (VR P π (Mut π st) w) d.cells v.cells.toList ∧ d.cells.all D.one = true := by
    cases d with
    | agg c => exact ⟨hv.cells (.inr ⟨c, rfl⟩), by simpa [D.isVal, D.cells] using hd⟩
    | undef => simp [D.isVal] at hd
    | tup => simp [D.isVal] at hd
    | _ => exact ⟨hv.cells (.inl rfl), rfl⟩
  have hl : d.cells.length = v.cells.size := by rw [hcells.1.length, Array.length_toList]
  obtain ⟨r, m⟩ := h.row d.cells v.cells t (by omega) fun j x hj => by
    obtain ⟨u, hu, hr⟩ := hcells.1.get hj
    exact ⟨u, by simpa using hu, hr, List.all_eq_true.1 hcells.2 x (List.mem_of_getElem? hj)⟩
  exact ⟨_, _, ⟨w.heap.size, 0, none⟩, by simp [newVar, newRow, Result.andThen], r, m, .ptr _ _ _ _ (upd_same ..)⟩

theorem ok_box (h : Rel P π w st) {t : TypeId} {d : D} {v : Value} (hv : VR P π (Mut π st) w d v) (hd : d.isVal = true) : SOK P π w st (Instr.box t v) (.ptr st.next 0) (st.push (.cells d.cells true)) := by
  obtain ⟨w', π', a, hr, r, m, hv'⟩ := ok_newVar (t := t) h hv hd
  exact ⟨.pointer (some a), w', π', by simp [Instr.box, hr, Result.andThen], r, m, hv'⟩

theorem zeroD_some {t : TypeId} {d : D} (h : zeroD P t = some d) : ∃ i z, P.info? t = some i ∧ i.zero = some z ∧ d = ofV z := by
  unfold zeroD at h
  cases hi : P.info? t with
  | none => rw [hi] at h; simp at h
  | some i =>
    rw [hi] at h; simp only [Option.bind_some] at h
    cases hz : i.zero with
    | none => rw [hz] at h; simp at h
    | some z => rw [hz] at h; simp only [Option.map_some] at h; injection h with h; exact ⟨i, z, rfl, hz, h.symm⟩
theorem ok_zeroValue {t : TypeId} {d : D} (h : zeroD P t = some d) : ∃ z, (zeroValue t).run P w = .ok z w ∧ VR P π M w d z := by
  obtain ⟨i, z, hi, hz, rfl⟩ := zeroD_some h
  exact ⟨z, run_zeroValue hi hz, .ofV z⟩

theorem ok_alloc (h : Rel P π w st) {t : TypeId} {d : D} (hz : zeroD P t = some d) (hd : d.isVal = true) : SOK P π w st (Instr.alloc t true (.tuple #[])) (.ptr st.next 0) (st.push (.cells d.cells true)) := by
  obtain ⟨z, hz, hv⟩ := ok_zeroValue (w := w) (π := π) (M := Mut π st) hz
  obtain ⟨w', π', a, hr, r, m, hv'⟩ := ok_newVar (t := t) h hv hd
  exact ⟨.pointer (some a), w', π', by simp [Instr.alloc, hz, hr, Result.andThen], r, m, hv'⟩

/-! ### Parts of structs and arrays -/
def partD (P : Program) (t : TypeId) (cs : List D) (off : Nat) : Option D := takeAs P t (cs.drop off)
theorem ok_part {t : TypeId} {cs : List D} {vs : Array Value} {off : Nat} {d : D} (h : All2 (VR P π M w) cs vs.toList) (hd : partD P t cs off = some d) :
    ∃ v, (part t vs off).run P w = .ok v w ∧ VR P π M w d v := by
  unfold partD takeAs at hd
  simp only [takeL_map] at hd
  split at hd
  · cases hd
  · rename_i td ht
    simp only [part, Sem.run_bind, run_isAgg ht, Result.andThen]
    cases hg : isAggD td with
    | true =>
      rw [hg] at hd; simp only [if_true] at hd
      split at hd
      · cases hd
      · rename_i n hn
        split at hd
        · rename_i hle
          injection hd with hd; subst hd
          refine ⟨.agg (vs.extract off (off + n)), ?_, ?_⟩
          · simp [run_sizeOf hn, Result.andThen]
          · have := VR.agg _ _ ((h.drop off).take n)
            have e : vs.extract off (off + n) = ((vs.toList.drop off).take n).toArray := by
              apply Array.ext'
              simp [List.extract_eq_take_drop]
            rw [e]; exact this
        · cases hd
    | false =>
      rw [hg] at hd; simp only [Bool.false_eq_true, if_false] at hd ⊢
      rw [List.head?_drop] at hd
      obtain ⟨v, hv, hr⟩ := h.get hd
      have : vs[off]? = some v := by simpa using hv
      exact ⟨v, by simp [this], hr⟩
end Go.Proofs.YtdodnmeilhhhgaaGreatDoor.AM
