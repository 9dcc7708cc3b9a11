/- PART OF THE ABSTRACT MACHINE over the given model: Mem. It carries no condition of its own. -/
import Derived.Test.YtdodnmeilhhhgaaGreatDoorAmCore
set_option linter.unusedVariables false
set_option linter.unusedSimpArgs false
noncomputable section
namespace Go.Proofs.YtdodnmeilhhhgaaGreatDoor.AM

variable {P : Program} {π π' : Nm} {w w' : World} {st st' : St}

theorem Fr.weaken {M M' : Nat → Prop} (h : Fr M w w') (hM : ∀ b, b < w.heap.size → M b → M' b) : Fr M' w w' :=
  ⟨h.os, h.tape, h.output, h.size, fun b hb hm => h.keep b hb fun hm' => hm (hM b hb hm'), h.shape⟩

theorem frozen_of_heap {b o : Nat} (h : w'.heap[b]? = w.heap[b]?) : w'.frozen? ⟨b, o, none⟩ = w.frozen? ⟨b, o, none⟩ := by
  unfold World.frozen?; simp only; rw [h]

theorem BlkR.mono {M M' : Nat → Prop} {n base : Nat} {b : Blk} (h : BlkR P π M w n base b) (hp : Ext π π') (hf : Fr M w w') (hM : ∀ b, b < w.heap.size → M' b → M b) (hh : w'.heap[n]? = w.heap[n]?) :
    BlkR P π' M' w' n base b := by
  cases h with
  | cells c wr vs t fz hb hc hle hw =>
    refine .cells c wr vs t fz (hh.trans hb) (fun j d hj => ?_) hle hw
    obtain ⟨v, hv, hr, h1⟩ := hc j d hj
    exact ⟨v, hv, hr.mono hp hf hM, h1⟩
  | map es es' clock hb h => exact .map es es' clock (hh.trans hb) (h.imp fun _ _ h => ⟨h.1.mono hp hf hM, h.2.mono hp hf hM⟩)
  | iter s p b hs hb h0 => exact .iter s p b hs (hh.trans hb) h0

theorem frozen_free {n : Nat} {vs : Array Value} {t : TypeId} {fz : Nat × Nat} (hb : w.heap[n]? = some (.cells vs t fz)) (h : fz.1 = fz.2 ∨ vs.size ≤ fz.1) {o : Nat} (ho : o < vs.size) : w.frozen? ⟨n, o, none⟩ = false := by
  unfold World.frozen?
  simp only [hb]
  rw [Bool.and_eq_false_iff]
  rcases h with h | h
  · by_cases e : fz.1 ≤ o
    · right; simp; omega
    · left; simp; omega
  · left; simp; omega

/-- From one related pair to the next one. -/
structure Mv (π : Nm) (w : World) (st : St) (π' : Nm) (w' : World) (st' : St) : Prop where
  ext : Ext π π'
  fr : Fr (Own π st) w w'
  own : ∀ n, n < w.heap.size → Own π' st' n → Own π st n
  next : st.next ≤ st'.next
  old : ∀ i, i < st.next → π' i = π i

theorem Mv.wri (h : Mv π w st π' w' st') : ∀ n, n < w.heap.size → Mut π' st' n → Mut π st n := fun n hn hm => by
  rcases hm with hm | hm
  · exact .inl (h.own n hn hm)
  · rw [h.ext.2] at hm; exact .inr hm
theorem Mv.frm (h : Mv π w st π' w' st') : Fr (Mut π st) w w' := h.fr.weaken fun _ _ h => .inl h
theorem Mv.refl (π : Nm) (w : World) (st : St) : Mv π w st π w st := ⟨.refl _, .refl _ _, fun _ _ h => h, Nat.le_refl _, fun _ _ => rfl⟩
theorem Mv.trans {π'' : Nm} {w'' : World} {st'' : St} (h : Mv π w st π' w' st') (h' : Mv π' w' st' π'' w'' st'') : Mv π w st π'' w'' st'' :=
  ⟨h.ext.trans h'.ext, h.fr.trans h'.fr h.own, fun n hn hm => h.own n hn (h'.own n (Nat.lt_of_lt_of_le hn h.fr.size) hm), Nat.le_trans h.next h'.next, fun i hi => (h'.old i (Nat.lt_of_lt_of_le hi h.next)).trans (h.old i hi)⟩
theorem VR.mv {d : D} {v : Value} (h : VR P π (Mut π st) w d v) (m : Mv π w st π' w' st') : VR P π' (Mut π' st') w' d v := h.mono m.ext m.frm m.wri
theorem VR.mv_all {c : List D} {vs : List Value} (h : All2 (VR P π (Mut π st) w) c vs) (m : Mv π w st π' w' st') : All2 (VR P π' (Mut π' st') w') c vs := h.imp fun _ _ h => h.mv m

theorem Rel.get_lt (h : Rel P π w st) {i : Nat} {b : Blk} (hi : st.get i = some b) : i < st.next := by
  rcases Nat.lt_or_ge i st.next with h' | h'
  · exact h'
  · obtain ⟨n, base, hp, _⟩ := h.blk i b hi
    rw [h.fresh i h'] at hp; cases hp

/-- Nothing that there was has changed. -/
theorem Rel.same (h : Rel P π w st) (hf : Fr (fun _ => False) w w') : Rel P π w' st ∧ Mv π w st π w' st := by
  have hf' : Fr (Mut π st) w w' := hf.weaken fun _ _ h => h.elim
  refine ⟨⟨fun i b hi => ?_, h.inj, h.fresh, h.glob, fun n hn => Nat.lt_of_lt_of_le (h.hidlt n hn) hf.size, h.hidno⟩, ⟨.refl _, hf.weaken fun _ _ h => h.elim, fun _ _ h => h, Nat.le_refl _, fun _ _ => rfl⟩⟩
  obtain ⟨n, base, hp, hn, hb⟩ := h.blk i b hi
  exact ⟨n, base, hp, Nat.lt_of_lt_of_le hn hf.size, hb.mono (.refl _) hf' (fun _ _ h => h) (hf.keep n hn id)⟩

theorem Fr.drew (M : Nat → Prop) (w : World) : Fr M w w.drew := ⟨rfl, rfl, rfl, Nat.le_refl _, fun _ _ _ => rfl, fun _ _ h => h⟩
theorem shape_of_heap {b : Nat} (h : w'.heap[b]? = w.heap[b]?) : w'.shape? b = w.shape? b := by
  unfold World.shape?; rw [h]
theorem Fr.alloc (M : Nat → Prop) (w : World) (o : Obj) : Fr M w (w.alloc o) :=
  ⟨rfl, rfl, rfl, by simp, fun b hb _ => by simp only [World.alloc, Array.getElem?_push]; rw [if_neg (Nat.ne_of_lt hb)],
   fun b x h => by rw [shape_of_heap (w := w)]; exact h; simp only [World.alloc, Array.getElem?_push]; rw [if_neg (Nat.ne_of_lt (shape_lt h))]⟩

def upd (π : Nm) (i : Nat) (x : Nat × Nat) : Nm := { nm := fun j => if j = i then some x else π j, hid := π.hid }
@[simp] theorem upd_same (π : Nm) (i : Nat) (x : Nat × Nat) : upd π i x i = some x := if_pos rfl
theorem upd_other {i j : Nat} (x : Nat × Nat) (h : j ≠ i) : upd π i x j = π j := if_neg h
@[simp] theorem upd_hid (π : Nm) (i : Nat) (x : Nat × Nat) : (upd π i x).hid = π.hid := rfl
theorem ext_upd {i : Nat} (x : Nat × Nat) (h : π i = none) : Ext π (upd π i x) := by
  refine ⟨fun j y hj => ?_, rfl⟩
  by_cases e : j = i
  · subst e; rw [h] at hj; cases hj
  · rw [upd_other x e]; exact hj

/-- A new block by a name of choice. -/
def St.pushAt (st : St) (k : Nat) (b : Blk) : St := match st with | ⟨n, t⟩ => ⟨max n (k + 1), t.put k (some b)⟩
@[simp] theorem St.get_pushAt (st : St) (k : Nat) (b : Blk) (j : Nat) : (st.pushAt k b).get j = if j = k then some b else st.get j := Tr.get_put ..
theorem St.pushAt_next (st : St) (b : Blk) : st.pushAt st.next b = st.push b := by
  cases st; simp only [St.pushAt, St.push]; congr 1; omega

theorem own_pushAt {N base n k : Nat} {b : Blk} (hm : Own (upd π k (N, base)) (st.pushAt k b) n) : n = N ∧ b.wri = true ∨ Own π st n := by
  obtain ⟨i, bi, bs, hi, hmi, hpi⟩ := hm
  rw [St.get_pushAt] at hi
  by_cases e : i = k
  · subst e
    rw [if_pos rfl] at hi; injection hi with hi; subst hi
    rw [upd_same] at hpi; injection hpi with hpi; injection hpi with h1 h2
    exact .inl ⟨h1.symm, hmi⟩
  · rw [if_neg e] at hi; rw [upd_other _ e] at hpi
    exact .inr ⟨i, bi, bs, hi, hmi, hpi⟩

theorem Rel.pushAt (h : Rel P π w st) {k : Nat} (hk : π k = none) (m : Nat) (hm1 : m ≤ st.next) (hm2 : m ≤ k) (o : Obj) (b : Blk)
    (hB : ∀ (π' : Nm) M', Ext π π' → (∀ n, n < w.heap.size → M' n → Mut π st n) → Fr (Mut π st) w (w.alloc o) → BlkR P π' M' (w.alloc o) w.heap.size 0 b) :
    Rel P (upd π k (w.heap.size, 0)) (w.alloc o) (st.pushAt k b) ∧ Mv π w { st with next := m } (upd π k (w.heap.size, 0)) (w.alloc o) (st.pushAt k b) := by
  have hx := ext_upd (π := π) (w.heap.size, 0) hk
  have hf : Fr (Mut π st) w (w.alloc o) := .alloc _ _ _
  have hown : ∀ n, n < w.heap.size → Own (upd π k (w.heap.size, 0)) (st.pushAt k b) n → Own π st n := by
    intro n hn hm
    rcases own_pushAt hm with ⟨rfl, _⟩ | hm
    · omega
    · exact hm
  have hmv : Mv π w { st with next := m } (upd π k (w.heap.size, 0)) (w.alloc o) (st.pushAt k b) := ⟨hx, .alloc _ _ _, hown, Nat.le_trans hm1 (Nat.le_max_left _ _), fun i hi => upd_other _ (by simp only at hi; omega)⟩
  refine ⟨⟨fun i bi hi => ?_, fun i j bi bj n base base' hi hj hmi hpi hpj => ?_, fun i hi => ?_, fun g hg => hx.1 _ _ (h.glob g hg), fun n hn => by rw [World.size_alloc]; exact Nat.lt_succ_of_lt (h.hidlt n hn), fun i bi n base hi hpi => ?_⟩, hmv⟩
  · rw [St.get_pushAt] at hi
    by_cases e : i = k
    · subst e; rw [if_pos rfl] at hi; injection hi with hi; subst hi
      exact ⟨_, _, upd_same .., by simp, hB _ _ hx hmv.wri hf⟩
    · rw [if_neg e] at hi
      obtain ⟨n, base, hp, hn, hb⟩ := h.blk i bi hi
      refine ⟨n, base, by rw [upd_other _ e]; exact hp, by simp; omega, hb.mono hx hf hmv.wri ?_⟩
      simp only [World.alloc, Array.getElem?_push]; rw [if_neg (Nat.ne_of_lt hn)]
  · rw [St.get_pushAt] at hi hj
    by_cases ei : i = k <;> by_cases ej : j = k
    · rw [ei, ej]
    · subst ei; rw [upd_same] at hpi; injection hpi with hpi; injection hpi with h1 _
      rw [if_neg ej] at hj; rw [upd_other _ ej] at hpj
      obtain ⟨n', _, hp', hn', _⟩ := h.blk j bj hj
      rw [hp'] at hpj; injection hpj with hpj; injection hpj with h2 _; omega
    · subst ej; rw [upd_same] at hpj; injection hpj with hpj; injection hpj with h1 _
      rw [if_neg ei] at hi; rw [upd_other _ ei] at hpi
      obtain ⟨n', _, hp', hn', _⟩ := h.blk i bi hi
      rw [hp'] at hpi; injection hpi with hpi; injection hpi with h2 _; omega
    · rw [if_neg ei] at hi; rw [if_neg ej] at hj; rw [upd_other _ ei] at hpi; rw [upd_other _ ej] at hpj
      exact h.inj i j bi bj n base base' hi hj hmi hpi hpj
  · have : st.next ≤ i ∧ i ≠ k := by change max st.next (k + 1) ≤ i at hi; omega
    rw [upd_other _ this.2]; exact h.fresh i this.1
  · rw [St.get_pushAt] at hi
    by_cases e : i = k
    · subst e; rw [upd_same] at hpi; injection hpi with hpi; injection hpi with h1 _; subst h1
      exact fun hh => absurd (h.hidlt _ hh) (Nat.lt_irrefl _)
    · rw [if_neg e] at hi; rw [upd_other _ e] at hpi; exact h.hidno i bi n base hi hpi

/-- A new block. -/
theorem Rel.push (h : Rel P π w st) (o : Obj) (b : Blk)
    (hB : ∀ (π' : Nm) M', Ext π π' → (∀ n, n < w.heap.size → M' n → Mut π st n) → Fr (Mut π st) w (w.alloc o) → BlkR P π' M' (w.alloc o) w.heap.size 0 b) :
    Rel P (upd π st.next (w.heap.size, 0)) (w.alloc o) (st.push b) ∧ Mv π w st (upd π st.next (w.heap.size, 0)) (w.alloc o) (st.push b) := by
  rw [← St.pushAt_next]; exact h.pushAt (h.fresh _ (Nat.le_refl _)) st.next (Nat.le_refl _) (Nat.le_refl _) o b hB

/-- A row of new cells. -/
theorem Rel.rowAt (h : Rel P π w st) {k : Nat} (hk : π k = none) (m : Nat) (hm1 : m ≤ st.next) (hm2 : m ≤ k) (c : List D) (vs : Array Value) (t : TypeId) (hl : c.length ≤ vs.size)
    (hc : ∀ (j : Nat) (d : D), c[j]? = some d → ∃ v, vs[j]? = some v ∧ VR P π (Mut π st) w d v ∧ d.one = true) :
    Rel P (upd π k (w.heap.size, 0)) (w.alloc (.cells vs t)) (st.pushAt k (.cells c true)) ∧ Mv π w { st with next := m } (upd π k (w.heap.size, 0)) (w.alloc (.cells vs t)) (st.pushAt k (.cells c true)) := by
  refine h.pushAt hk m hm1 hm2 _ _ fun π' M' hx hm hf => .cells c true vs t (0, 0) (by show (w.heap.push _)[w.heap.size]? = _; simp) (fun j d hj => ?_) (by omega) (fun _ => .inl rfl)
  obtain ⟨v, hv, hr, h1⟩ := hc j d hj
  exact ⟨v, by rw [Nat.zero_add]; exact hv, hr.mono hx hf hm, h1⟩
theorem Rel.row (h : Rel P π w st) (c : List D) (vs : Array Value) (t : TypeId) (hl : c.length ≤ vs.size)
    (hc : ∀ (j : Nat) (d : D), c[j]? = some d → ∃ v, vs[j]? = some v ∧ VR P π (Mut π st) w d v ∧ d.one = true) :
    Rel P (upd π st.next (w.heap.size, 0)) (w.alloc (.cells vs t)) (st.push (.cells c true)) ∧ Mv π w st (upd π st.next (w.heap.size, 0)) (w.alloc (.cells vs t)) (st.push (.cells c true)) := by
  rw [← St.pushAt_next]; exact h.rowAt (h.fresh _ (Nat.le_refl _)) st.next (Nat.le_refl _) (Nat.le_refl _) c vs t hl hc

theorem shape_setCell (w : World) (a : Addr) (v : Value) (b : Nat) : (w.setCell a v).shape? b = w.shape? b := by
  simp only [World.setCell, World.shape?, Array.getElem?_modify]
  by_cases e : a.block = b
  · simp only [e, if_true]
    cases hh : w.heap[b]? with
    | none => rfl
    | some x =>
      cases x <;> simp
      split <;> simp
  · simp [e]
theorem heap_setCell_other (w : World) (a : Addr) (v : Value) {b : Nat} (h : b ≠ a.block) : (w.setCell a v).heap[b]? = w.heap[b]? := by
  simp only [World.setCell, Array.getElem?_modify]; rw [if_neg (Ne.symm h)]
theorem Fr.setCell {M : Nat → Prop} (w : World) {n o : Nat} (v : Value) (h : M n) : Fr M w (w.setCell ⟨n, o, none⟩ v) :=
  ⟨rfl, rfl, rfl, by simp, fun b hb hm => heap_setCell_other w _ v fun e => hm (by subst e; exact h), fun b x hx => by rw [shape_setCell]; exact hx⟩

theorem own_put {i n : Nat} {b b' : Blk} (hi : st.get i = some b) (hb : b'.wri = true → b.wri = true) (hm : Own π (st.put i (some b')) n) : Own π st n := by
  obtain ⟨j, bj, bs, hj, hmj, hpj⟩ := hm
  rw [St.get_put] at hj
  by_cases e : j = i
  · subst e; rw [if_pos rfl] at hj; injection hj with hj; subst hj; exact ⟨j, b, bs, hi, hb hmj, hpj⟩
  · rw [if_neg e] at hj; exact ⟨j, bj, bs, hj, hmj, hpj⟩

/-- A block of one's own is changed. -/
theorem Rel.change (h : Rel P π w st) {i n base : Nat} {b b' : Blk} (hi : st.get i = some b) (hbm : b.wri = true) (hp : π i = some (n, base)) (hf : Fr (Own π st) w w')
    (hother : ∀ m, m < w.heap.size → m ≠ n → w'.heap[m]? = w.heap[m]?)
    (hB : ∀ M', (∀ m, m < w.heap.size → M' m → Mut π st m) → BlkR P π M' w' n base b') : Rel P π w' (st.put i (some b')) ∧ Mv π w st π w' (st.put i (some b')) := by
  have hmv : Mv π w st π w' (st.put i (some b')) := ⟨.refl _, hf, fun m _ hm => own_put hi (fun _ => hbm) hm, Nat.le_refl _, fun _ _ => rfl⟩
  refine ⟨⟨fun j bj hj => ?_, fun j k bj bk m bs bs' hj hk hmj hpj hpk => ?_, h.fresh, h.glob, fun n hn => Nat.lt_of_lt_of_le (h.hidlt n hn) hf.size, fun j bj m bs hj hpj => ?_⟩, hmv⟩
  · rw [St.get_put] at hj
    by_cases e : j = i
    · subst e; rw [if_pos rfl] at hj; injection hj with hj; subst hj
      obtain ⟨n', base', hp', hn', _⟩ := h.blk j b hi
      rw [hp] at hp'; injection hp' with hp'; injection hp' with h1 h2; subst h1; subst h2
      exact ⟨n, base, hp, Nat.lt_of_lt_of_le hn' hf.size, hB _ hmv.wri⟩
    · rw [if_neg e] at hj
      obtain ⟨m, bs, hpj, hmm, hbj⟩ := h.blk j bj hj
      refine ⟨m, bs, hpj, Nat.lt_of_lt_of_le hmm hf.size, hbj.mono (.refl _) hmv.frm hmv.wri (hother m hmm fun em => ?_)⟩
      subst em
      exact e (h.inj i j b bj m base bs hi hj hbm hp hpj).symm
  · rw [St.get_put] at hj hk
    by_cases ej : j = i <;> by_cases ek : k = i
    · rw [ej, ek]
    · subst ej; rw [if_neg ek] at hk; exact h.inj j k b bk m bs bs' hi hk hbm hpj hpk
    · subst ek; rw [if_neg ej] at hj; exact h.inj j k bj b m bs bs' hj hi hmj hpj hpk
    · rw [if_neg ej] at hj; rw [if_neg ek] at hk; exact h.inj j k bj bk m bs bs' hj hk hmj hpj hpk
  · rw [St.get_put] at hj
    by_cases e : j = i
    · subst e; exact h.hidno j b m bs hi hpj
    · rw [if_neg e] at hj; exact h.hidno j bj m bs hj hpj

/-- A cell is written: one that is known, or the one behind these. -/
theorem Rel.setCell (h : Rel P π w st) {i n base o : Nat} {c c' : List D} {d : D} {v : Value} (hi : st.get i = some (.cells c true)) (hp : π i = some (n, base))
    (hroom : ∃ x, w.shape? n = some x ∧ base + o < x.2) (hv : VR P π (Mut π st) w d v) (h1 : d.one = true)
    (hc' : ∀ (j : Nat) (d' : D), c'[j]? = some d' → j = o ∧ d' = d ∨ j ≠ o ∧ c[j]? = some d') (hlen : c'.length ≤ max c.length (o + 1)) :
    Rel P π (w.setCell ⟨n, base + o, none⟩ v) (st.put i (some (.cells c' true))) ∧ Mv π w st π (w.setCell ⟨n, base + o, none⟩ v) (st.put i (some (.cells c' true))) := by
  have hM : Own π st n := ⟨i, _, base, hi, rfl, hp⟩
  have hf : Fr (Mut π st) w (w.setCell ⟨n, base + o, none⟩ v) := .setCell w v (.inl hM)
  refine h.change hi rfl hp (.setCell w v hM) (fun m _ hm => heap_setCell_other w _ v hm) fun M' hM' => ?_
  obtain ⟨n', base', hp', hn', hb⟩ := h.blk i _ hi
  rw [hp] at hp'; injection hp' with hp'; injection hp' with h2 h3; subst h2; subst h3
  cases hb with
  | cells _ _ vs t fz hb hc hle hw =>
    obtain ⟨x, hx, hxo⟩ := hroom
    have hsz : base + o < vs.size := by
      simp only [World.shape?, hb] at hx; injection hx with hx; subst hx; exact hxo
    refine .cells c' true (vs.setIfInBounds (base + o) v) t fz ?_ (fun j d' hj => ?_) ?_ ?_
    · simp [World.setCell, Array.getElem?_modify, hb]
    · rcases hc' j d' hj with ⟨rfl, rfl⟩ | ⟨hjo, hj'⟩
      · exact ⟨v, by simp [hsz], hv.mono (.refl _) hf hM', h1⟩
      · obtain ⟨v', hv', hr', h1'⟩ := hc j d' hj'
        refine ⟨v', ?_, hr'.mono (.refl _) hf hM', h1'⟩
        rw [Array.getElem?_setIfInBounds_ne (by omega)]; exact hv'
    · rw [Array.size_setIfInBounds]; omega
    · intro _; rw [Array.size_setIfInBounds]; exact hw rfl

/-- Names are let go, or what they name may not be written any more. -/
inductive Weak : Blk → Blk → Prop
  | cells (c c' : List D) (wr wr' : Bool) (hc : ∀ (j : Nat) (d : D), c'[j]? = some d → c[j]? = some d) (hl : c'.length ≤ c.length) (hw : wr' = true → wr = true) : Weak (.cells c wr) (.cells c' wr')
  | same (b : Blk) : Weak b b
theorem Weak.wri {b b' : Blk} (h : Weak b b') : b'.wri = true → b.wri = true := by
  cases h with
  | cells _ _ _ _ _ _ hw => exact hw
  | same => exact id

theorem Rel.weaken (h : Rel P π w st) (hn : st.next ≤ st'.next) (hw : ∀ i b', st'.get i = some b' → ∃ b, st.get i = some b ∧ Weak b b') : Rel P π w st' ∧ Mv π w st π w st' := by
  have hmv : Mv π w st π w st' := ⟨.refl _, .refl _ _, fun n _ ⟨i, b', bs, hi, hmi, hpi⟩ => by
    obtain ⟨b, hb, hwk⟩ := hw i b' hi
    exact ⟨i, b, bs, hb, hwk.wri hmi, hpi⟩, hn, fun _ _ => rfl⟩
  have hm := hmv.wri
  refine ⟨⟨fun i b' hi => ?_, fun i j bi bj n base base' hi hj hmi hpi hpj => ?_, fun i hi => h.fresh i (Nat.le_trans hn hi), h.glob, h.hidlt, fun i bi n base hi hpi => ?_⟩, hmv⟩
  · obtain ⟨b, hb, hwk⟩ := hw i b' hi
    obtain ⟨n, base, hp, hlt, hB⟩ := h.blk i b hb
    have hB' := hB.mono (Ext.refl _) (Fr.refl (Mut π st) w) hm rfl
    refine ⟨n, base, hp, hlt, ?_⟩
    cases hwk with
    | same => exact hB'
    | cells c c' wr wr' hc hl hwr =>
      cases hB' with
      | cells _ _ vs t fz hb hcc hle hww => exact .cells c' wr' vs t fz hb (fun j d hj => hcc j d (hc j d hj)) (by omega) (fun h => hww (hwr h))
  · obtain ⟨b, hb, hwk⟩ := hw i bi hi
    obtain ⟨b2, hb2, _⟩ := hw j bj hj
    exact h.inj i j b b2 n base base' hb hb2 (hwk.wri hmi) hpi hpj
  · obtain ⟨b, hb, _⟩ := hw i bi hi
    exact h.hidno i b n base hb hpi

/-- What a name names gets another name, from a place on. -/
theorem Rel.rename (h : Rel P π w st) {i n base o : Nat} {c c' : List D} (hi : st.get i = some (.cells c true)) (hp : π i = some (n, base))
    (hc : ∀ (j : Nat) (d : D), c'[j]? = some d → c[o + j]? = some d) (hl : c'.length = 0 ∨ o + c'.length ≤ c.length) (hroom : ∃ x, w.shape? n = some x ∧ base + o ≤ x.2) :
    Rel P (upd π st.next (n, base + o)) w ((st.put i none).push (.cells c' true)) ∧ Mv π w st (upd π st.next (n, base + o)) w ((st.put i none).push (.cells c' true)) := by
  have hx := ext_upd (π := π) (n, base + o) (h.fresh st.next (Nat.le_refl _))
  have hget : ∀ j bj, ((st.put i none).push (.cells c' true)).get j = some bj → j = st.next ∧ bj = .cells c' true ∨ j ≠ st.next ∧ j ≠ i ∧ st.get j = some bj := by
    intro j bj hj
    rw [St.get_push, St.next_put] at hj
    by_cases e : j = st.next
    · rw [if_pos e] at hj; injection hj with hj; exact .inl ⟨e, hj.symm⟩
    · rw [if_neg e, St.get_put] at hj
      by_cases e' : j = i
      · rw [if_pos e'] at hj; cases hj
      · rw [if_neg e'] at hj; exact .inr ⟨e, e', hj⟩
  have hown : ∀ m, Own (upd π st.next (n, base + o)) ((st.put i none).push (.cells c' true)) m → Own π st m := by
    intro m ⟨j, bj, bs, hj, hmj, hpj⟩
    rcases hget j bj hj with ⟨rfl, rfl⟩ | ⟨e, _, hj⟩
    · rw [upd_same] at hpj; injection hpj with hpj; injection hpj with h1 _; subst h1
      exact ⟨i, _, base, hi, rfl, hp⟩
    · rw [upd_other _ e] at hpj; exact ⟨j, bj, bs, hj, hmj, hpj⟩
  have hlt := h.get_lt hi
  have hmv : Mv π w st (upd π st.next (n, base + o)) w ((st.put i none).push (.cells c' true)) := ⟨hx, .refl _ _, fun m _ => hown m, Nat.le_succ _, fun j hj => upd_other _ (Nat.ne_of_lt hj)⟩
  have hm : ∀ m, m < w.heap.size → Mut (upd π st.next (n, base + o)) ((st.put i none).push (.cells c' true)) m → Mut π st m := hmv.wri
  refine ⟨⟨fun j bj hj => ?_, fun j k bj bk m bs bs' hj hk hmj hpj hpk => ?_, fun j hj => ?_, fun g hg => hx.1 _ _ (h.glob g hg), h.hidlt, fun j bj m bs hj hpj => ?_⟩, hmv⟩
  · rcases hget j bj hj with ⟨rfl, rfl⟩ | ⟨e, _, hj⟩
    · obtain ⟨n', base', hp', hn', hb⟩ := h.blk i _ hi
      rw [hp] at hp'; injection hp' with hp'; injection hp' with h2 h3; subst h2; subst h3
      refine ⟨n, base + o, upd_same .., hn', ?_⟩
      have hb' := hb.mono hx (Fr.refl (Mut π st) w) hm rfl
      cases hb' with
      | cells _ _ vs t fz hb hcc hle hw =>
        refine .cells c' true vs t fz hb (fun j d hj => ?_) ?_ hw
        · obtain ⟨v, hv, hr⟩ := hcc (o + j) d (hc j d hj)
          exact ⟨v, by rw [Nat.add_assoc]; exact hv, hr⟩
        · obtain ⟨x, hx1, hx2⟩ := hroom
          simp only [World.shape?, hb] at hx1; injection hx1 with hx1; subst hx1
          simp only at hx2
          omega
    · obtain ⟨m, bs, hpj, hmm, hbj⟩ := h.blk j bj hj
      exact ⟨m, bs, by rw [upd_other _ e]; exact hpj, hmm, hbj.mono hx (Fr.refl (Mut π st) w) hm rfl⟩
  · rcases hget j bj hj with ⟨rfl, rfl⟩ | ⟨e, ei, hj⟩ <;> rcases hget k bk hk with ⟨rfl, rfl⟩ | ⟨e', ei', hk⟩
    · rfl
    · rw [upd_same] at hpj; injection hpj with hpj; injection hpj with h1 _; subst h1
      rw [upd_other _ e'] at hpk
      exact absurd (h.inj i k _ bk n base bs' hi hk rfl hp hpk).symm ei'
    · rw [upd_same] at hpk; injection hpk with hpk; injection hpk with h1 _; subst h1
      rw [upd_other _ e] at hpj
      exact absurd (h.inj j i bj _ n bs base hj hi hmj hpj hp) ei
    · rw [upd_other _ e] at hpj; rw [upd_other _ e'] at hpk
      exact h.inj j k bj bk m bs bs' hj hk hmj hpj hpk
  · rw [St.next_push, St.next_put] at hj
    rw [upd_other _ (by omega)]; exact h.fresh j (by omega)
  · rcases hget j bj hj with ⟨rfl, rfl⟩ | ⟨e, ei, hj⟩
    · rw [upd_same] at hpj; injection hpj with hpj; injection hpj with h1 _; subst h1
      exact h.hidno i _ n base hi hp
    · rw [upd_other _ e] at hpj; exact h.hidno j bj m bs hj hpj
end Go.Proofs.YtdodnmeilhhhgaaGreatDoor.AM
