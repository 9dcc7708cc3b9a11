/- PART OF THE ABSTRACT MACHINE over the given model: Ops15. It carries no condition of its own. -/
import Derived.Test.YtdodnmeilhhhgaaGreatDoorAmOps14
set_option linter.unusedVariables false
set_option linter.unusedSimpArgs false
noncomputable section
namespace Go.Proofs.YtdodnmeilhhhgaaGreatDoor.AM
variable {P : Program} {π π' : Nm} {M : Nat → Prop} {w w' : World} {st st' : St}

theorem All2.modify {α β : Type} {R : α → β → Prop} {as : List α} {bs : List β} (h : All2 R as bs) (j : Nat) {f : α → α} {g : β → β} (hfg : ∀ a b, R a b → R (f a) (g b)) : All2 R (as.modify j f) (bs.modify j g) := by
  induction h generalizing j with
  | nil => simp; exact .nil
  | cons h h' ih => cases j with | zero => exact .cons (hfg _ _ h) h' | succ j => exact .cons h (ih j)
theorem All2.eraseIdx {α β : Type} {R : α → β → Prop} {as : List α} {bs : List β} (h : All2 R as bs) (j : Nat) : All2 R (as.eraseIdx j) (bs.eraseIdx j) := by
  induction h generalizing j with
  | nil => simp; exact .nil
  | cons h h' ih => cases j with | zero => exact h' | succ j => exact .cons h (ih j)

theorem findD_key {k : IntKind} {n : Int} : ∀ (es : List (D × D)) (i j : Nat), findD k n es i = some (some j) → i ≤ j ∧ ∃ v, es[j - i]? = some (.int k n, v) := by
  intro es
  induction es with
  | nil => intro i j h; simp only [findD] at h; injection h with h; cases h
  | cons x es ih =>
    intro i j h
    obtain ⟨dk, dv⟩ := x
    cases dk <;> simp only [findD] at h <;> try (cases h; done)
    split at h
    · rename_i hk; subst hk
      split at h
      · rename_i hn
        injection h with h; injection h with h; subst h
        rename_i m
        have : n = m := by simpa using hn
        subst this
        exact ⟨Nat.le_refl _, dv, by simp⟩
      · obtain ⟨hle, v, hv⟩ := ih _ _ h
        refine ⟨by omega, v, ?_⟩
        rw [show j - i = (j - (i + 1)) + 1 from by omega, List.getElem?_cons_succ]; exact hv
    · cases h

theorem VR.int_inv {k : IntKind} {n : Int} {v : Value} (h : VR P π M w (.int k n) v) : v = .int k n := by cases h; rfl
theorem fr_set {b base i : Nat} {es : List (D × D)} (hi : st.get i = some (.map es)) (hp : π i = some (b, base)) {es' : Array MapEntry} {clock : Nat} (hb : w.heap[b]? = some (.map es' clock)) (es2 : Array MapEntry) (clock2 : Nat) :
    Fr (Own π st) w { w with heap := w.heap.setIfInBounds b (.map es2 clock2) } := by
  refine ⟨rfl, rfl, rfl, by simp, fun m hm hnm => ?_, fun m x hx => ?_⟩
  · have : m ≠ b := fun e => hnm (by subst e; exact ⟨i, _, base, hi, rfl, hp⟩)
    simp only [Array.getElem?_setIfInBounds_ne (Ne.symm this)]
  · unfold World.shape? at hx ⊢
    by_cases e : m = b
    · subst e; rw [hb] at hx; cases hx
    · simp only [Array.getElem?_setIfInBounds_ne (Ne.symm e)]; exact hx

theorem ok_setMap (h : Rel P π w st) {b base i : Nat} {es es2 : List (D × D)} (hi : st.get i = some (.map es)) (hp : π i = some (b, base)) {es' : Array MapEntry} {clock : Nat} (hb : w.heap[b]? = some (.map es' clock)) {es2' : Array MapEntry} {clock2 : Nat}
    (h2 : All2 (fun x (y : MapEntry) => VR P π (Mut π st) w x.1 y.key ∧ VR P π (Mut π st) w x.2 y.val) es2 es2'.toList) :
    (setObj b (.map es2' clock2)).run P w = .ok () { w with heap := w.heap.setIfInBounds b (.map es2' clock2) } ∧ Rel P π { w with heap := w.heap.setIfInBounds b (.map es2' clock2) } (st.put i (some (.map es2))) ∧
      Mv π w st π { w with heap := w.heap.setIfInBounds b (.map es2' clock2) } (st.put i (some (.map es2))) := by
  have hf0 := fr_set hi hp hb es2' clock2
  have hf : Fr (Mut π st) w { w with heap := w.heap.setIfInBounds b (.map es2' clock2) } := hf0.weaken fun _ _ h => .inl h
  have hlt : b < w.heap.size := (Array.getElem?_eq_some_iff.1 hb).1
  obtain ⟨r, m⟩ := h.change (b' := .map es2) hi rfl hp hf0 (fun m _ hm => by simp only [Array.getElem?_setIfInBounds_ne (Ne.symm hm)]) fun M' hM' =>
    .map es2 es2' clock2 (by simp [hlt]) (h2.imp fun _ _ h => ⟨h.1.mono (.refl _) hf hM', h.2.mono (.refl _) hf hM'⟩)
  exact ⟨run_setObj hb _, r, m⟩

theorem ok_mapUpdate (h : Rel P π w st) {t : TypeId} {x k d : D} {v u z : Value} (hv : VR P π (Mut π st) w x v) (hu : VR P π (Mut π st) w k u) (hz : VR P π (Mut π st) w d z) (hd : mapUpdateD P st t x k d = some st') :
    ∃ w', (Instr.mapUpdate t v u z).run P w = .ok () w' ∧ Rel P π w' st' ∧ Mv π w st π w' st' := by
  unfold mapUpdateD at hd
  split at hd
  rotate_left
  · cases hd
  rename_i kt et i k n ht
  split at hd
  rotate_left
  · cases hd
  rename_i hint
  obtain ⟨kd, hkd⟩ := isIntT_spec hint
  cases hu
  split at hd
  rotate_left
  · cases hd
  rename_i es hi
  cases hv with
  | map _ b base hp =>
    obtain ⟨n0, b0, hp0, hlt0, hB⟩ := h.blk _ _ hi
    rw [hp] at hp0; injection hp0 with hp0; injection hp0 with e1 e2; subst e1; subst e2
    cases hB with
    | map _ es' clock hb h2 =>
      have hg := run_getObj_map (P := P) hb
      split at hd
      · rename_i j hj
        injection hd with hd; subst hd
        obtain ⟨_, e', he', hf⟩ := findNow_rel (P := P) (w := w) (kd := kd) es es'.toList 0 (some j) h2 hj
        obtain ⟨_, ev, hev⟩ := findD_key es 0 j hj
        obtain ⟨e'', he'', hr⟩ := h2.get hev
        rw [he'] at he''; injection he'' with he''; subst he''
        rw [Nat.sub_zero] at he'
        have hkey : e'.key = .int k n := VR.int_inv hr.1
        have he2 : es'[j]? = some e' := by simpa using he'
        obtain ⟨hs, r, m⟩ := ok_setMap (es2 := es.modify j fun e => (.int k n, d)) (es2' := es'.modify j fun e => { e with key := .int k n, val := z }) (clock2 := clock) h hi hp hb (by
          rw [Array.toList_modify]
          exact h2.modify j fun a b hab => ⟨.int _ _, hz⟩)
        refine ⟨_, ?_, r, m⟩
        have hstay : (Instr.keyThatStays (.int k n) (.int k n)).run P w = .ok (.int k n) w := by
          have : Instr.sameBits 10000 (.int k n) (.int k n) = true := by simp [Instr.sameBits]
          simp [Instr.keyThatStays, this]
        simp [Instr.mapUpdate, run_underlying ht, hg, run_checkKey hkd, Instr.findKey, run_underlying hkd, hf, he2, hkey, hstay]
        exact hs
      · rename_i hj
        injection hd with hd; subst hd
        have hf := findNow_rel (P := P) (w := w) (kd := kd) es es'.toList 0 none h2 hj
        simp only at hf
        obtain ⟨hs, r, m⟩ := ok_setMap (es2 := es ++ [(.int k n, d)]) (es2' := es'.push { key := .int k n, val := z, born := clock }) (clock2 := clock + 1) h hi hp hb (by
          rw [Array.toList_push]
          exact h2.append (.cons ⟨.int _ _, hz⟩ .nil))
        refine ⟨_, ?_, r, m⟩
        simp [Instr.mapUpdate, run_underlying ht, hg, run_checkKey hkd, Instr.findKey, run_underlying hkd, hf]
        exact hs
      · cases hd

theorem ok_delete (h : Rel P π w st) {t te ty : TypeId} {x k : D} {v u : Value} (hv : VR P π (Mut π st) w x v) (hu : VR P π (Mut π st) w k u) (hd : deleteD P st t x k = some st') :
    SOK P π w st (Builtin.delete_ #[t, te] ty #[v, u]) (.tup []) st' := by
  unfold deleteD at hd
  split at hd
  · rename_i kt et k n ht
    split at hd
    · rename_i hint
      obtain ⟨kd, hkd⟩ := isIntT_spec hint
      injection hd with hd; subst hd
      cases hv; cases hu
      exact .val h (v := .tuple #[]) (by simp [Builtin.delete_, run_underlying ht, run_checkKey hkd]) (.tup [] [] .nil)
    · cases hd
  · rename_i kt et i k n ht
    split at hd
    rotate_left
    · cases hd
    rename_i hint
    obtain ⟨kd, hkd⟩ := isIntT_spec hint
    cases hu
    split at hd
    rotate_left
    · cases hd
    rename_i es hi
    cases hv with
    | map _ b base hp =>
      obtain ⟨n0, b0, hp0, hlt0, hB⟩ := h.blk _ _ hi
      rw [hp] at hp0; injection hp0 with hp0; injection hp0 with e1 e2; subst e1; subst e2
      cases hB with
      | map _ es' clock hb h2 =>
        have hg := run_getObj_map (P := P) hb
        split at hd
        · rename_i j hj
          injection hd with hd; subst hd
          obtain ⟨_, e', he', hf⟩ := findNow_rel (P := P) (w := w) (kd := kd) es es'.toList 0 (some j) h2 hj
          obtain ⟨hs, r, m⟩ := ok_setMap (es2 := es.eraseIdx j) (es2' := es'.eraseIdxIfInBounds j) (clock2 := clock) h hi hp hb (by
            rw [Array.toList_eraseIdxIfInBounds]
            exact h2.eraseIdx j)
          refine ⟨.tuple #[], _, π, ?_, r, m, .tup [] [] .nil⟩
          simp [Builtin.delete_, run_underlying ht, hg, run_checkKey hkd, Instr.findKey, run_underlying hkd, hf, hs]
        · rename_i hj
          injection hd with hd; subst hd
          have hf := findNow_rel (P := P) (w := w) (kd := kd) es es'.toList 0 none h2 hj
          simp only at hf
          obtain ⟨hs, r, m⟩ := ok_setMap (es2 := es) (es2' := es') (clock2 := clock) h hi hp hb h2
          obtain ⟨r2, m2⟩ := r.alike (st' := st) rfl fun j => by
            rw [St.get_put]
            by_cases e : j = i
            · subst e; rw [if_pos rfl]; exact hi
            · rw [if_neg e]
          refine ⟨.tuple #[], _, π, ?_, r2, m.trans m2, .tup [] [] .nil⟩
          simp [Builtin.delete_, run_underlying ht, hg, run_checkKey hkd, Instr.findKey, run_underlying hkd, hf, hs]
        · cases hd
  · cases hd

theorem ok_makeMap (h : Rel P π w st) {t : TypeId} : SOK P π w st (Instr.makeMap t none) (.map st.next) (st.push (.map [])) := by
  obtain ⟨r, m⟩ := h.push (.map #[] 0) (.map []) fun π' M' hx hm hf => .map [] #[] 0 (by show (w.heap.push _)[w.heap.size]? = _; simp) .nil
  exact ⟨.map (some w.heap.size), _, _, by simp [Instr.makeMap], r, m, .map _ _ 0 (upd_same ..)⟩

/-! ### A string is gone through -/
def decodeD (s : List UInt8) (i : Nat) : Nat × Nat := Utf8.decode ⟨s.toArray⟩ i
def rangeD (P : Program) (st : St) (t : TypeId) (x : D) : Option (D × St) :=
  match P.underlying t, x with
  | some .string, .str s => some (.ptr st.next 0, st.push (.iter s 0))
  | _, _ => none
def nextD (st : St) (x : D) (isString : Bool) : Option (D × St) :=
  match x with
  | .ptr i 0 => if isString = true then (match st.get i with
    | some (.iter s p) => if p < s.length then
        some (.tup [.bool true, .int .i64 p, .int .i32 (decodeD s p).1], st.put i (some (.iter s (p + (decodeD s p).2))))
      else some (.tup [.bool false], st)
    | _ => none) else none
  | _ => none
theorem ok_range (h : Rel P π w st) {t : TypeId} {x d : D} {v : Value} (hv : VR P π (Mut π st) w x v) (hd : rangeD P st t x = some (d, st')) : SOK P π w st (Instr.range t v) d st' := by
  unfold rangeD at hd
  split at hd
  · rename_i s ht
    injection hd with hd; injection hd with e1 e2; subst e1; subst e2
    cases hv with
    | str _ b hb =>
      obtain ⟨r, m⟩ := h.push (.stringIter b 0) (.iter s 0) fun π' M' hx hm hf => .iter s 0 b hb (by show (w.heap.push _)[w.heap.size]? = _; simp) rfl
      exact ⟨.pointer (some ⟨w.heap.size, 0, none⟩), _, _, by simp [Instr.range, run_underlying ht], r, m, .ptr _ 0 _ 0 (upd_same ..)⟩
  · cases hd
theorem ok_next (h : Rel P π w st) {x d : D} {b : Bool} {ty : TypeId} {v : Value} (hv : VR P π (Mut π st) w x v) (hd : nextD st x b = some (d, st')) :
    SOK P π w st (Instr.next v b ty) d st' := by
  unfold nextD at hd
  split at hd
  · rename_i i
    split at hd
    rotate_left
    · cases hd
    rename_i hb; subst hb
    split at hd
    rotate_left
    · cases hd
    rename_i s p hi
    cases hv with
    | ptr _ _ n base hp =>
      obtain ⟨n0, b0, hp0, hlt0, hB⟩ := h.blk _ _ hi
      rw [hp] at hp0; injection hp0 with hp0; injection hp0 with e1 e2; subst e1; subst e2
      cases hB with
      | iter _ _ bs hs hbk h0 =>
        subst h0
        have hg : (getObj n).run P w = .ok (.stringIter bs p) w := by simp [getObj, Sem.run, hbk]
        have hlen := size_list hs
        split at hd
        · rename_i hlt
          injection hd with hd; injection hd with e1 e2; subst e1; subst e2
          have hdec : decodeD s p = Utf8.decode bs p := by unfold decodeD; rw [← hs]
          have hf0 : Fr (Own π st) w { w with heap := w.heap.setIfInBounds n (.stringIter bs (p + (decodeD s p).2)) } := by
            refine ⟨rfl, rfl, rfl, by simp, fun m hm hnm => ?_, fun m x hx => ?_⟩
            · have : m ≠ n := fun e => hnm (by subst e; exact ⟨i, _, 0, hi, rfl, hp⟩)
              simp only [Array.getElem?_setIfInBounds_ne (Ne.symm this)]
            · unfold World.shape? at hx ⊢
              by_cases e : m = n
              · subst e; rw [hbk] at hx; cases hx
              · simp only [Array.getElem?_setIfInBounds_ne (Ne.symm e)]; exact hx
          have hf : Fr (Mut π st) w { w with heap := w.heap.setIfInBounds n (.stringIter bs (p + (decodeD s p).2)) } := hf0.weaken fun _ _ h => .inl h
          obtain ⟨r, m⟩ := h.change (b' := .iter s (p + (decodeD s p).2)) hi rfl hp hf0 (fun m _ hm => by simp only [Array.getElem?_setIfInBounds_ne (Ne.symm hm)]) fun M' hM' =>
            .iter s _ bs hs (by simp [hlt0]) rfl
          refine ⟨.tuple #[.bool true, .int .i64 p, .int .i32 (decodeD s p).1], _, π, ?_, r, m, .tup _ [_, _, _] (.cons (.bool _) (.cons (.int _ _) (.cons (.int _ _) .nil)))⟩
          have hso : ∀ o, (setObj n o).run P w = .ok () { w with heap := w.heap.setIfInBounds n o } := fun o => by simp [setObj, Sem.run, hbk]
          simp [Instr.next, hg, hlen, hlt, hso, goInt, hdec]
        · rename_i hlt
          injection hd with hd; injection hd with e1 e2; subst e1; subst e2
          refine .val h (v := .tuple #[.bool false]) ?_ (.tup _ [_] (.cons (.bool _) .nil))
          simp [Instr.next, hg, hlen, hlt]
  · cases hd
end Go.Proofs.YtdodnmeilhhhgaaGreatDoor.AM
