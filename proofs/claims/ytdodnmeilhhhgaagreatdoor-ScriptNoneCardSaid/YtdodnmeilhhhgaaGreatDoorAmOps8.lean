/- PART OF THE ABSTRACT MACHINE over the given model: Ops8. It carries no condition of its own. -/
import Derived.Test.YtdodnmeilhhhgaaGreatDoorAmOps7
import Derived.Laws.MakeOwn
set_option linter.unusedVariables false
set_option linter.unusedSimpArgs false
noncomputable section
namespace Go.Proofs.YtdodnmeilhhhgaaGreatDoor.AM
variable {P : Program} {π π' : Nm} {M : Nat → Prop} {w w' : World} {st st' : St}

/-! ### Composite literals -/
def fillD (place : Nat → Option (Nat × Nat)) (cells : List D) : List (Nat × D) → Option (List D)
  | [] => some cells
  | (i, d) :: rest =>
    match place i with
    | none => none
    | some (off, size) => if d.isVal = true ∧ d.cells.length = size ∧ off + size ≤ cells.length then fillD place (splice cells d.cells off) rest else none

theorem fold_set (off : Nat) : ∀ (l : List Value) (k : Nat) (arr : Array Value), off + k + l.length ≤ arr.size →
    ((l.zipIdx k).foldl (fun (cs : Array Value) (x : Value × Nat) => cs.setIfInBounds (off + x.2) x.1) arr).toList = arr.toList.take (off + k) ++ l ++ arr.toList.drop (off + k + l.length) := by
  intro l
  induction l with
  | nil => intro k arr h; simp
  | cons v l ih =>
    intro k arr h
    simp only [List.length_cons] at h
    rw [List.zipIdx_cons, List.foldl_cons, ih (k + 1) _ (by simp; omega)]
    have hlt : off + k < arr.toList.length := by simp; omega
    have e : (arr.setIfInBounds (off + k) v).toList = arr.toList.take (off + k) ++ v :: arr.toList.drop (off + k + 1) := by
      rw [Array.toList_setIfInBounds]
      rw [List.set_eq_take_append_cons_drop]; simp only [hlt, if_true]
    have hl : (arr.toList.take (off + k)).length = off + k := by rw [List.length_take]; omega
    rw [e]
    have e1 : (arr.toList.take (off + k) ++ v :: arr.toList.drop (off + k + 1)).take (off + (k + 1)) = arr.toList.take (off + k) ++ [v] := by
      rw [List.take_append, hl, List.take_of_length_le (by omega), show off + (k + 1) - (off + k) = 1 from by omega]; rfl
    have e2 : (arr.toList.take (off + k) ++ v :: arr.toList.drop (off + k + 1)).drop (off + (k + 1) + l.length) = arr.toList.drop (off + k + (v :: l).length) := by
      rw [List.drop_append, hl, List.drop_eq_nil_of_le (by omega), List.nil_append, show off + (k + 1) + l.length - (off + k) = l.length + 1 from by omega, List.drop_succ_cons, List.drop_drop]
      congr 1; simp only [List.length_cons]; omega
    rw [e1, e2]; simp

theorem isVal_cells {d : D} {v : Value} (hv : VR P π M w d v) (hd : d.isVal = true) : All2 (VR P π M w) d.cells v.cells.toList ∧ d.cells.all D.one = true := by
  cases d with
  | agg c => exact ⟨hv.cells (.inr ⟨c, rfl⟩), by simpa [D.isVal, D.cells] using hd⟩
  | undef => simp [D.isVal] at hd
  | tup => simp [D.isVal] at hd
  | _ => exact ⟨hv.cells (.inl rfl), rfl⟩
theorem splice_all {c ds : List D} {o : Nat} (hc : c.all D.one = true) (hd : ds.all D.one = true) : (splice c ds o).all D.one = true := by
  rw [List.all_eq_true] at *
  intro d hm
  simp only [splice, List.mem_append] at hm
  rcases hm with (hm | hm) | hm
  · exact hc d (List.mem_of_mem_take hm)
  · exact hd d hm
  · exact hc d (List.mem_of_mem_drop hm)

theorem ok_fill {place : Nat → Option (Nat × Nat)} : ∀ (parts : List (Nat × D)) (parts' : List (Nat × Value)) (cells : List D) (cells' : Array Value) (r : List D),
    All2 (fun x y => x.1 = y.1 ∧ VR P π M w x.2 y.2) parts parts' → All2 (VR P π M w) cells cells'.toList → cells.all D.one = true → fillD place cells parts = some r →
    ∃ r', Instr.fill place cells' parts' = some r' ∧ All2 (VR P π M w) r r'.toList ∧ r.all D.one = true ∧ r.length = cells.length := by
  intro parts
  induction parts with
  | nil =>
    intro parts' cells cells' r hp hc h1 hr
    cases hp
    simp only [fillD] at hr; injection hr with hr; subst hr
    exact ⟨cells', rfl, hc, h1, rfl⟩
  | cons p parts ih =>
    intro parts' cells cells' r hp hc h1 hr
    cases hp with
    | cons hpp hps =>
      rename_i q qs
      obtain ⟨i, d⟩ := p
      obtain ⟨j, v⟩ := q
      obtain ⟨e, hv⟩ := hpp
      simp only at e hv; subst e
      simp only [fillD] at hr
      split at hr
      · cases hr
      · rename_i off size hpl
        split at hr
        · rename_i hle
          obtain ⟨hcv, hone⟩ := isVal_cells hv hle.1
          have hvs : v.cells.size = size := by rw [← Array.length_toList, ← hcv.length]; exact hle.2.1
          have hcs : cells'.size = cells.length := by rw [← Array.length_toList, ← hc.length]
          have hfold : (v.cells.zipIdx.foldl (fun (cs : Array Value) (x : Value × Nat) => cs.setIfInBounds (off + x.2) x.1) cells').toList = cells'.toList.take off ++ v.cells.toList ++ cells'.toList.drop (off + v.cells.toList.length) := by
            rw [← Array.foldl_toList, Array.toList_zipIdx]
            simpa using fold_set off v.cells.toList 0 cells' (by simp only [Nat.add_zero, Array.length_toList]; omega)
          have h2 : All2 (VR P π M w) (splice cells d.cells off) (v.cells.zipIdx.foldl (fun (cs : Array Value) (x : Value × Nat) => cs.setIfInBounds (off + x.2) x.1) cells').toList := by
            rw [hfold]
            unfold splice
            rw [hcv.length]
            exact ((hc.take _).append hcv).append (hc.drop _)
          obtain ⟨r', hr', k1, k2, k3⟩ := ih qs _ _ r hps h2 (splice_all h1 hone) hr
          refine ⟨r', ?_, k1, k2, by rw [k3, splice_length _ _ _ (by omega)]; omega⟩
          simp only [Instr.fill, hpl]
          have hcond : ¬ ((v.cells.size ≠ size || off + v.cells.size > cells'.size) = true) := by
            simp [hvs, hcs]; omega
          rw [if_neg hcond]
          exact hr'
        · cases hr

def placesD (P : Program) (fs : List Field) (i : Nat) : Option (Nat × Nat) :=
  match fs[i]? with
  | some f => match szOf P f.type with | some s => some (f.offset, s) | none => none
  | none => none
def buildD (P : Program) (t : TypeId) (parts : List (Nat × D)) : Option D :=
  match zeroD P t with
  | some (.agg z) => if z.all D.one = true then (match P.underlying t with
    | some (.struct fs) => if fs.toList.all (fun f => (szOf P f.type).isSome) = true then (fillD (placesD P fs.toList) z parts).map .agg else none
    | some (.array _ e) => match szOf P e with | some s => (fillD (fun i => some (i * s, s)) z parts).map .agg | none => none
    | _ => none) else none
  | _ => none

theorem run_places (fs : List Field) (hf : fs.all (fun f => (szOf P f.type).isSome) = true) :
    ∃ ps : List (Nat × Nat), (fs.mapM (fun f => do pure (f.offset, ← sizeOf f.type) : Field → Sem (Nat × Nat))).run P w = .ok ps w ∧ ∀ i, ps[i]? = placesD P fs i := by
  induction fs with
  | nil => exact ⟨[], by simp, fun i => by simp [placesD]⟩
  | cons f fs ih =>
    simp only [List.all_cons, Bool.and_eq_true] at hf
    obtain ⟨ps, hps, hi⟩ := ih hf.2
    obtain ⟨s, hs⟩ := Option.isSome_iff_exists.1 hf.1
    refine ⟨(f.offset, s) :: ps, ?_, fun i => ?_⟩
    · rw [List.mapM_cons]
      simp only [Sem.run_bind, run_sizeOf hs, Result.andThen_ok, Sem.run_pure, hps]
    · cases i with
      | zero => simp [placesD, hs]
      | succ i => simpa [placesD] using hi i

theorem ok_build (h : Rel P π w st) {t : TypeId} {parts : List (Nat × D)} {parts' : Array (Nat × Value)} {d : D} (hp : All2 (fun x y => x.1 = y.1 ∧ VR P π (Mut π st) w x.2 y.2) parts parts'.toList) (hd : buildD P t parts = some d) :
    SOK P π w st (Instr.build t parts') d st := by
  unfold buildD at hd
  split at hd
  · rename_i z hz
    split at hd
    · rename_i h1
      obtain ⟨zv, hzr, hzv⟩ := ok_zeroValue (w := w) (π := π) (M := Mut π st) hz
      cases hzv with
      | agg _ zs hzs =>
        split at hd
        · rename_i fs ht
          split at hd
          · rename_i hall
            rw [Option.map_eq_some_iff] at hd; obtain ⟨r, hr, rfl⟩ := hd
            obtain ⟨ps, hps, hpi⟩ := run_places (P := P) (w := w) fs.toList hall
            have hplace : (fun i => ps.toArray[i]?) = placesD P fs.toList := by funext i; simpa using hpi i
            obtain ⟨r', hr', k1, k2, k3⟩ := ok_fill (place := placesD P fs.toList) parts parts'.toList z zs.toArray r hp (by simpa using hzs) h1 hr
            refine .val h (v := .agg r') ?_ (by have := VR.agg _ _ k1; simpa using this)
            have hm : (fs.mapM (fun f => do pure (f.offset, ← sizeOf f.type) : Field → Sem (Nat × Nat))).run P w = .ok ps.toArray w := by
              rw [Array.mapM_eq_mapM_toList, Sem.run_map, hps]; rfl
            simp only [Instr.build, Sem.run_bind, hzr, Result.andThen_ok, run_underlying ht, hm, Value.cells, hplace, hr']
            rfl
          · cases hd
        · rename_i n e ht
          split at hd
          · rename_i s hs
            rw [Option.map_eq_some_iff] at hd; obtain ⟨r, hr, rfl⟩ := hd
            obtain ⟨r', hr', k1, k2, k3⟩ := ok_fill (place := fun i => some (i * s, s)) parts parts'.toList z zs.toArray r hp (by simpa using hzs) h1 hr
            refine .val h (v := .agg r') ?_ (by have := VR.agg _ _ k1; simpa using this)
            simp only [Instr.build, Sem.run_bind, hzr, Result.andThen_ok, run_underlying ht, run_sizeOf hs, Value.cells, hr']
            rfl
          · cases hd
        · cases hd
    · cases hd
  · cases hd

/-! ### Rows of a size -/
def zeros (z : List D) (n : Nat) : List D := (List.range (n * z.length)).map fun i => z.getD (i % z.length) .undef
theorem zeros_length (z : List D) (n : Nat) : (zeros z n).length = n * z.length := by simp [zeros]
theorem zeros_all {z : List D} {n : Nat} (h : z.all D.one = true) : (zeros z n).all D.one = true := by
  rw [List.all_eq_true]
  intro d hd
  simp only [zeros, List.mem_map, List.mem_range] at hd
  obtain ⟨i, hi, rfl⟩ := hd
  have hpos : 0 < z.length := by
    rcases Nat.eq_zero_or_pos z.length with e | e
    · rw [e] at hi; omega
    · exact e
  have hlt : i % z.length < z.length := Nat.mod_lt _ hpos
  rw [List.getD_eq_getElem?_getD, List.getElem?_eq_getElem hlt]
  exact List.all_eq_true.1 h _ (List.getElem_mem hlt)
theorem zeros_rel {z : List D} {zs : Array Value} (h : All2 (VR P π M w) z zs.toList) (n : Nat) :
    All2 (VR P π M w) (zeros z n) ((Array.range (n * zs.size)).map fun i => zs[i % zs.size]!).toList := by
  have hl : z.length = zs.size := by rw [h.length, Array.length_toList]
  refine All2.of_get (by simp [zeros, hl]) fun i a b ha hb => ?_
  simp only [zeros, List.getElem?_map] at ha
  simp only [Array.toList_map, Array.toList_range, List.getElem?_map] at hb
  by_cases hi : i < n * z.length
  · rw [List.getElem?_range hi] at ha
    rw [← hl, List.getElem?_range hi] at hb
    simp only [Option.map_some, Option.some.injEq] at ha hb
    subst ha; subst hb
    have hpos : 0 < z.length := by
      rcases Nat.eq_zero_or_pos z.length with e | e
      · rw [e] at hi; omega
      · exact e
    have hlt : i % z.length < z.length := Nat.mod_lt _ hpos
    obtain ⟨v, hv, hr⟩ := h.get (List.getElem?_eq_getElem hlt)
    rw [List.getD_eq_getElem?_getD, List.getElem?_eq_getElem hlt]
    have : zs[i % z.length]! = v := by
      have : zs[i % z.length]? = some v := by simpa using hv
      simp [getElem!_def, this]
    rw [this]; exact hr
  · rw [List.getElem?_eq_none (by simp; omega)] at ha; simp at ha

def buildSliceD (P : Program) (st : St) (t : TypeId) (len : Nat) (parts : List (Nat × D)) : Option (D × St) :=
  match P.underlying t with
  | some (.slice e) => match szOf P e, zeroD P e with
    | some s, some z =>
      if z.isVal = true ∧ z.cells.length = s ∧ len * s ≤ 16777216 ∧ len * P.bytesOf e ≤ 140737488355328 then
        (fillD (fun i => some (i * s, s)) (zeros z.cells len) parts).map fun r => (.sl st.next 0 e len (.known len), st.push (.cells r true))
      else none
    | _, _ => none
  | _ => none

theorem ok_newRow (h : Rel P π w st) {e : TypeId} {s : Nat} {cs : List D} {vs : Array Value} {n cap : Nat} {c : Cap} (hc : All2 (VR P π (Mut π st) w) cs vs.toList) (h1 : cs.all D.one = true)
    (hs : szOf P e = some s) (hlen : vs.size = cap * s) (hn : n ≤ cap) (hcap : ∀ c0, c = .known c0 → cap = c0) (hr : cap * P.bytesOf e ≤ 2 ^ 47) :
    ∃ w' π', (newRow e vs).run P w = .ok ⟨w.heap.size, 0, none⟩ w' ∧ Rel P π' w' (st.push (.cells cs true)) ∧ Mv π w st π' w' (st.push (.cells cs true)) ∧
      VR P π' (Mut π' (st.push (.cells cs true))) w' (.sl st.next 0 e n c) (.slice (some ⟨w.heap.size, 0, none⟩) n cap) := by
  have hl : cs.length = vs.size := by rw [hc.length, Array.length_toList]
  obtain ⟨r, m⟩ := h.row cs vs e (by omega) fun j x hj => by
    obtain ⟨u, hu, hr⟩ := hc.get hj
    exact ⟨u, by simpa using hu, hr, List.all_eq_true.1 h1 x (List.mem_of_getElem? hj)⟩
  refine ⟨_, _, by simp [newRow, Result.andThen], r, m, .sl _ _ _ _ _ _ 0 0 cap (upd_same ..) (fun _ => rfl) hcap hn (fun _ _ => hr) (Nat.le_trans (Nat.mul_le_mul_right _ hn) hr) ?_⟩
  refine ⟨(e, vs.size), ?_, by rw [cellsOf_szOf hs, hlen]; simp⟩
  show (w.alloc (.cells vs e)).shape? w.heap.size = _
  have : (w.alloc (.cells vs e)).heap[w.heap.size]? = some (.cells vs e) := by show (w.heap.push _)[w.heap.size]? = _; simp
  unfold World.shape?; rw [this]

theorem ok_buildSlice (h : Rel P π w st) {t : TypeId} {len : Nat} {parts : List (Nat × D)} {parts' : Array (Nat × Value)} {d : D} (hp : All2 (fun x y => x.1 = y.1 ∧ VR P π (Mut π st) w x.2 y.2) parts parts'.toList)
    (hd : buildSliceD P st t len parts = some (d, st')) : SOK P π w st (Instr.buildSlice t len parts') d st' := by
  unfold buildSliceD at hd
  split at hd
  · rename_i e ht
    split at hd
    · rename_i s z hs hz
      split at hd
      · rename_i hc
        obtain ⟨hzv, hzl, hle, hby⟩ := hc
        rw [Option.map_eq_some_iff] at hd; obtain ⟨r, hr, hd⟩ := hd
        injection hd with e1 e2; subst e1; subst e2
        obtain ⟨zv, hzr, hzvr⟩ := ok_zeroValue (w := w) (π := π) (M := Mut π st) hz
        obtain ⟨hcv, hone⟩ := isVal_cells hzvr hzv
        have hzs : zv.cells.size = s := by rw [← Array.length_toList, ← hcv.length]; exact hzl
        have hz2 := zeros_rel hcv len
        obtain ⟨r', hr', k1, k2, k3⟩ := ok_fill (place := fun i => some (i * s, s)) parts parts'.toList _ _ r hp hz2 (zeros_all hone) hr
        rw [zeros_length, hzl] at k3
        obtain ⟨w', π', hn, hR, hM, hV⟩ := ok_newRow (n := len) (cap := len) (c := .known len) h k1 k2 hs (by rw [← Array.length_toList, ← k1.length, k3]) (Nat.le_refl _) (fun c0 e => by injection e) hby
        refine ⟨_, w', π', ?_, hR, hM, hV⟩
        have hle' : ¬ (len * s > 2 ^ 24) := by omega
        by_cases h0 : len * s = 0
        · have hr'' : Instr.fill (fun i => some (i * s, s)) #[] parts'.toList = some r' := by
            have er : Array.range 0 = #[] := rfl
            simp only [hzs, h0, er, Array.map_empty] at hr'; exact hr'
          have er : Array.range 0 = #[] := rfl
          simp only [Instr.buildSlice, Sem.run_bind, run_underlying ht, Result.andThen_ok, run_sizeOf hs, Sem.run_ite, if_neg hle', h0, if_true, Sem.run_pure]
          simp only [er, Array.map_empty, hr'', Sem.run_bind, hn, Result.andThen_ok, Sem.run_pure]
          rw [if_neg (by decide)]
        · simp only [Instr.buildSlice, Sem.run_bind, run_underlying ht, Result.andThen_ok, run_sizeOf hs, Sem.run_ite, if_neg hle', if_neg h0, hzr, Sem.run_pure]
          rw [hzs] at hr'
          simp only [hzs, hr', Sem.run_bind, hn, Result.andThen_ok, Sem.run_pure]
      · cases hd
    · cases hd
  · cases hd

def makeSliceD (P : Program) (st : St) (t : TypeId) (l c : D) : Option (D × St) :=
  match P.underlying t, l, c with
  | some (.slice e), .int _ l, .int _ c => match szOf P e, zeroD P e with
    | some s, some z =>
      if z.isVal = true ∧ z.cells.length = s ∧ 0 ≤ l ∧ l ≤ c ∧ c < 9223372036854775808 ∧ c.toNat * P.bytesOf e ≤ 140737488355328 then
        some (.sl st.next 0 e l.toNat (.known c.toNat), st.push (.cells (zeros z.cells c.toNat) true))
      else none
    | _, _ => none
  | _, _, _ => none
theorem wrap_i64 {n : Int} (h0 : 0 ≤ n) (h1 : n < 9223372036854775808) : IntKind.i64.wrap n = n := by
  have e : n % (2 ^ 64 : Int) = n := Int.emod_eq_of_lt h0 (by omega)
  simp only [IntKind.wrap, IntKind.signed, IntKind.bits]
  simp only [e]
  rw [if_neg]
  simp; omega
theorem bytesOf_info {t : TypeId} {i : TypeInfo} (h : P.info? t = some i) : P.bytesOf t = i.bytes := by simp [Program.bytesOf, h]
theorem ok_makeSlice (h : Rel P π w st) {t : TypeId} {l c d : D} {lv cv : Value} (hl : VR P π (Mut π st) w l lv) (hc : VR P π (Mut π st) w c cv) (hd : makeSliceD P st t l c = some (d, st')) :
    SOK P π w st (Instr.makeSlice t lv cv) d st' := by
  unfold makeSliceD at hd
  split at hd
  · rename_i e kl l kc c ht
    cases hl; cases hc
    split at hd
    · rename_i s z hs hz
      split at hd
      · rename_i hcond
        obtain ⟨hzv, hzl, h0, hlc, hmax, hby⟩ := hcond
        injection hd with hd; injection hd with e1 e2; subst e1; subst e2
        obtain ⟨zv, hzr, hzvr⟩ := ok_zeroValue (w := w) (π := π) (M := Mut π st) hz
        obtain ⟨hcv, hone⟩ := isVal_cells hzvr hzv
        have hzs : zv.cells.size = s := by rw [← Array.length_toList, ← hcv.length]; exact hzl
        have hz2 := zeros_rel hcv c.toNat
        obtain ⟨w', π', hn, hR, hM, hV⟩ := ok_newRow (n := l.toNat) (cap := c.toNat) (c := .known c.toNat) h hz2 (zeros_all hone) hs (by simp [hzs]) (by omega) (fun c0 e => by injection e) hby
        refine ⟨_, w', π', ?_, hR, hM, hV⟩
        obtain ⟨i, hi, his⟩ := size_info hs
        rw [bytesOf_info hi] at hby
        obtain ⟨i', z', hi', hz', rfl⟩ := zeroD_some hz
        rw [hi] at hi'; injection hi' with hi'; subst hi'
        rw [run_zeroValue hi hz'] at hzr; injection hzr with hzr; subst hzr
        have hbi : ((i.bytes : Int) * c ≤ 281474976710656) := by
          have h1 : ((c.toNat * i.bytes : Nat) : Int) ≤ 140737488355328 := by omega
          have e : ((c.toNat * i.bytes : Nat) : Int) = c * i.bytes := by rw [Int.natCast_mul]; congr 1; omega
          rw [e] at h1
          rw [Int.mul_comm]; omega
        have hrun := run_make (P := P) w t e i z' ht hi hz' kl kc l c h0 hlc hbi (by omega)
        have hn' := hn
        simp only [newRow, Sem.run_bind, run_newObj, Result.andThen_ok, Sem.run_pure] at hn'
        injection hn' with _ hw
        rw [hrun, ← hw]
        have e9 : i.size = z'.cells.size := by rw [his, hzs]
        rw [e9]; rfl
      · cases hd
    · cases hd
  · cases hd
end Go.Proofs.YtdodnmeilhhhgaaGreatDoor.AM
