/- PART OF THE ABSTRACT MACHINE over the given model: Ops7. It carries no condition of its own. -/
import Derived.Test.YtdodnmeilhhhgaaGreatDoorAmOps6
set_option linter.unusedVariables false
set_option linter.unusedSimpArgs false
noncomputable section
namespace Go.Proofs.YtdodnmeilhhhgaaGreatDoor.AM
variable {P : Program} {π π' : Nm} {M : Nat → Prop} {w w' : World} {st st' : St}

/-! ### x[l:h:m] -/
/-- An index of a slice expression, given or not. -/
def idxD (x : Option D) (dflt : Nat) : Option Nat :=
  match x with
  | none => some dflt
  | some (.int _ j) => if 0 ≤ j then some j.toNat else none
  | _ => none
def optR (P : Program) (π : Nm) (M : Nat → Prop) (w : World) : Option D → Option Value → Prop
  | none, none => True
  | some d, some v => VR P π M w d v
  | _, _ => False

/-- The three bounds, if they are in order: 'cap' is how far one may go. -/
def boundsD (len : Nat) (cap : Nat) (lo hi mx : Option D) : Option (Nat × Nat × Nat) :=
  match idxD mx cap with
  | none => none
  | some m => match idxD hi (if mx.isSome then cap + 1 else len) with
    | none => none
    | some h => match idxD lo 0 with
      | none => none
      | some l => if l ≤ h ∧ h ≤ m ∧ m ≤ cap then some (l, h, m) else none

theorem ok_sliceBound {x : D} {v : Value} {n y : Nat} {code : BoundsCode} (hv : VR P π M w x v) (hx : idxD (some x) 0 = some n) (hy : n ≤ y) : (Instr.sliceBound v y code).run P w = .ok n w := by
  cases hv <;> simp only [idxD] at hx <;> try (cases hx; done)
  split at hx
  · rename_i k j h0
    injection hx with hx; subst hx
    exact run_sliceBound w k j y code h0 (by omega)
  · cases hx
theorem idx_some {x : D} {n d d' : Nat} (h : idxD (some x) d = some n) : idxD (some x) d' = some n := by
  cases x <;> simp only [idxD] at h ⊢ <;> exact h

theorem ok_bounds {b : Bool} {len cap : Nat} {lo hi mx : Option D} {lo' hi' mx' : Option Value} (hl : optR P π M w lo lo') (hh : optR P π M w hi hi') (hm : optR P π M w mx mx') {l h m : Nat}
    (hd : boundsD len cap lo hi mx = some (l, h, m)) : (Instr.sliceBounds b len cap lo' hi' mx').run P w = .ok (l, h, m) w := by
  unfold boundsD at hd
  split at hd
  · cases hd
  · rename_i m0 hm0
    split at hd
    · cases hd
    · rename_i h0 hh0
      split at hd
      · cases hd
      · rename_i l0 hl0
        split at hd
        · rename_i hle
          injection hd with hd; injection hd with e1 hd; injection hd with e2 e3; subst e1; subst e2; subst e3
          obtain ⟨h1, h2, h3⟩ := hle
          cases lo <;> cases lo' <;> (try exact hl.elim) <;> cases hi <;> cases hi' <;> (try exact hh.elim) <;> cases mx <;> cases mx' <;> (try exact hm.elim)
          · simp only [idxD, Option.isSome_none, Bool.false_eq_true, if_false] at hm0 hh0 hl0
            injection hm0 with hm0; injection hh0 with hh0; injection hl0 with hl0; subst hm0; subst hh0; subst hl0
            simp [Instr.sliceBounds]
          · simp only [idxD, Option.isSome_some, if_true] at hh0; injection hh0 with hh0; omega
          · simp only [idxD] at hm0 hl0; injection hm0 with hm0; injection hl0 with hl0; subst hm0; subst hl0
            simp [Instr.sliceBounds, ok_sliceBound hh (idx_some hh0) h2]
          · simp only [idxD] at hl0; injection hl0 with hl0; subst hl0
            simp [Instr.sliceBounds, ok_sliceBound hh (idx_some hh0) h2, ok_sliceBound hm (idx_some hm0) h3]
          · simp only [idxD, Option.isSome_none, Bool.false_eq_true, if_false] at hm0 hh0; injection hm0 with hm0; injection hh0 with hh0; subst hm0; subst hh0
            simp [Instr.sliceBounds, ok_sliceBound hl (idx_some hl0) h1]
          · simp only [idxD, Option.isSome_some, if_true] at hh0; injection hh0 with hh0; omega
          · simp only [idxD] at hm0; injection hm0 with hm0; subst hm0
            simp [Instr.sliceBounds, ok_sliceBound hl (idx_some hl0) h1, ok_sliceBound hh (idx_some hh0) h2]
          · simp [Instr.sliceBounds, ok_sliceBound hl (idx_some hl0) h1, ok_sliceBound hh (idx_some hh0) h2, ok_sliceBound hm (idx_some hm0) h3]
        · cases hd

/-- How far a slice may be cut: for sure. -/
def reach (n : Nat) : Cap → Nat
  | .known c => max n c
  | _ => n
def cutCap (c : Cap) (mx : Option D) (l m : Nat) : Cap :=
  match mx with
  | some _ => .known (m - l)
  | none => match c with | .known c => .known (c - l) | c => c
def sliceD (P : Program) (st : St) (t : TypeId) (x : D) (lo hi mx : Option D) : Option D :=
  match P.underlying t, x with
  | some .string, .str s => if mx.isSome then none else match boundsD s.length s.length lo hi none with
    | some (l, h, _) => some (.str ((s.take h).drop l))
    | none => none
  | some (.slice e), .nils => match szOf P e, boundsD 0 0 lo hi mx with | some _, some _ => some .nils | _, _ => none
  | some (.slice e), .sl i o e' n c => if e' = e then (match szOf P e with
    | some s => match boundsD n (reach n c) lo hi mx with
      | some (l, h, m) => some (.sl i (o + l * s) e (h - l) (cutCap c mx l m))
      | none => none
    | none => none) else none
  | some (.slice e), .fsl c e' n full => if e' = e then (match szOf P e with
    | some s => match boundsD n n lo hi mx with
      | some (l, h, m) => some (.fsl ((c.drop (l * s)).take ((h - l) * s)) e (h - l) ((mx.isSome || full) && h == m))
      | none => none
    | none => none) else none
  | some (.array n e), .ptr i o => match szOf P e with
    | some s => match boundsD n n lo hi mx with
      | some (l, h, m) => (match st.get i with | some (.cells c _) => if n * P.bytesOf e ≤ 140737488355328 ∧ o + n * s ≤ c.length then some (.sl i (o + l * s) e (h - l) (.known (m - l))) else none | _ => none)
      | none => none
    | none => none
  | some (.array n e), .fptr c o => match szOf P e with
    | some s => match boundsD n n lo hi mx with
      | some (l, h, m) => if n * P.bytesOf e ≤ 140737488355328 ∧ o + n * s ≤ c.length then some (.fsl ((c.drop (o + l * s)).take ((h - l) * s)) e (h - l) (h == m)) else none
      | none => none
    | none => none
  | _, _ => none

theorem bounds_le {len cap l h m : Nat} {lo hi mx : Option D} (hd : boundsD len cap lo hi mx = some (l, h, m)) : l ≤ h ∧ h ≤ m ∧ m ≤ cap ∧ (mx = none → m = cap) := by
  unfold boundsD at hd
  split at hd
  · cases hd
  · rename_i m0 hm0
    split at hd
    · cases hd
    · split at hd
      · cases hd
      · split at hd
        · rename_i hle
          injection hd with hd; injection hd with e1 hd; injection hd with e2 e3; subst e1; subst e2; subst e3
          refine ⟨hle.1, hle.2.1, hle.2.2, fun e => ?_⟩
          subst e; simp only [idxD] at hm0; injection hm0 with hm0; exact hm0.symm
        · cases hd
/-- With a cap that is unknown but as great, and no third index: the same but for the third. -/
theorem bounds_cap {len cap cap' l h m : Nat} {lo hi : Option D} (hd : boundsD len cap lo hi none = some (l, h, m)) (hc : cap ≤ cap') : boundsD len cap' lo hi none = some (l, h, cap') := by
  unfold boundsD at hd ⊢
  have e : ∀ k, idxD none k = some k := fun _ => rfl
  rw [e] at hd ⊢; simp only [Option.isSome_none, Bool.false_eq_true, if_false] at hd ⊢
  cases hh0 : idxD hi len with
  | none => rw [hh0] at hd; cases hd
  | some h0 =>
    rw [hh0] at hd; simp only at hd ⊢
    cases hl0 : idxD lo 0 with
    | none => rw [hl0] at hd; cases hd
    | some l0 =>
      rw [hl0] at hd; simp only at hd ⊢
      split at hd
      · rename_i hle
        injection hd with hd; injection hd with e1 hd; injection hd with e2 e3; subst e1; subst e2; subst e3
        rw [if_pos ⟨hle.1, by omega, Nat.le_refl _⟩]
      · cases hd
theorem bounds_cap3 {len cap cap' l h m : Nat} {lo hi : Option D} {x : D} (hd : boundsD len cap lo hi (some x) = some (l, h, m)) (hc : cap ≤ cap') : boundsD len cap' lo hi (some x) = some (l, h, m) ∨ hi = none := by
  cases hi with
  | none => exact .inr rfl
  | some y =>
    left
    unfold boundsD at hd ⊢
    cases hm0 : idxD (some x) cap with
    | none => rw [hm0] at hd; cases hd
    | some m0 =>
      rw [hm0] at hd; rw [idx_some hm0]; simp only at hd ⊢
      cases hh0 : idxD (some y) (if (some x).isSome = true then cap + 1 else len) with
      | none => rw [hh0] at hd; cases hd
      | some h0 =>
        rw [hh0] at hd; rw [idx_some hh0]; simp only at hd ⊢
        split at hd
        · cases hd
        · rename_i l0 hl0
          split at hd
          · rename_i hle
            rw [if_pos ⟨hle.1, hle.2.1, by omega⟩]; exact hd
          · cases hd
theorem bounds_hi {len cap l h m : Nat} {lo : Option D} {x : D} : boundsD len cap lo none (some x) ≠ some (l, h, m) := by
  unfold boundsD
  intro hd
  split at hd
  · cases hd
  · rename_i m0 hm0
    have e : idxD none (if (some x).isSome = true then cap + 1 else len) = some (cap + 1) := rfl
    rw [e] at hd; simp only at hd
    split at hd
    · cases hd
    · split at hd
      · rename_i hle; omega
      · cases hd

theorem ok_slice (h : Rel P π w st) {t : TypeId} {x d : D} {v : Value} {lo hi mx : Option D} {lo' hi' mx' : Option Value} (hv : VR P π (Mut π st) w x v)
    (hl : optR P π (Mut π st) w lo lo') (hh : optR P π (Mut π st) w hi hi') (hm : optR P π (Mut π st) w mx mx') (hd : sliceD P st t x lo hi mx = some d) : SOK P π w st (Instr.sliceAt t v lo' hi' mx') d st := by
  unfold sliceD at hd
  split at hd
  · rename_i s ht
    split at hd
    · cases hd
    · rename_i hmx
      cases mx with
      | some _ => simp at hmx
      | none =>
        cases mx' with
        | some _ => exact hm.elim
        | none =>
          split at hd
          · rename_i l h' m hb
            injection hd with hd; subst hd
            cases hv with
            | str _ b hbs =>
              have hsz := size_list hbs
              rw [← hsz] at hb
              have hr := ok_bounds (b := false) hl hh hm hb
              refine .val h (v := .string (b.extract l h')) ?_ (.str _ _ ?_)
              · simp only [Instr.sliceAt, Instr.slice, Sem.run_bind, run_underlying ht, Result.andThen_ok]
                simp [hr]
              · rw [← hbs, ByteArray.data_extract, Array.toList_extract, List.extract_eq_take_drop, List.drop_take]
          · cases hd
  · rename_i e ht
    split at hd
    · rename_i s0 r hs0 hb
      injection hd with hd; subst hd
      cases hv
      obtain ⟨l, h', m⟩ := r
      have hr := ok_bounds (b := true) hl hh hm hb
      obtain ⟨h1, h2, h3, _⟩ := bounds_le hb
      obtain rfl : m = 0 := by omega
      obtain rfl : h' = 0 := by omega
      obtain rfl : l = 0 := by omega
      refine .val h (v := .slice none 0 0) ?_ .nils
      simp only [Instr.sliceAt, Instr.slice, Sem.run_bind, run_underlying ht, Result.andThen_ok, hr, run_sizeOf hs0]
      rfl
    · cases hd
  · rename_i e i o e' n c ht
    split at hd
    · rename_i he; subst he
      split at hd
      · rename_i s hs
        split at hd
        · rename_i l h' m hb
          injection hd with hd; subst hd
          cases hv with
          | sl _ _ _ _ _ b base off cap hp ho hc hn hr hq hsz =>
            have hreach : reach n c ≤ cap := by
              unfold reach
              split
              · rename_i c0; rw [hc c0 rfl] at hn ⊢; omega
              · exact hn
            obtain ⟨k1, k2, k3, k4⟩ := bounds_le hb
            obtain ⟨mc, hmc, hmx1, hmx2⟩ : ∃ mc, boundsD n cap lo hi mx = some (l, h', mc) ∧ (mx = none → mc = cap) ∧ (mx ≠ none → mc = m) := by
              cases mx with
              | none => exact ⟨cap, bounds_cap hb hreach, fun _ => rfl, fun h => absurd rfl h⟩
              | some x =>
                rcases bounds_cap3 hb hreach with hb' | rfl
                · exact ⟨m, hb', fun h => (by cases h), fun _ => rfl⟩
                · exact absurd hb bounds_hi
            obtain ⟨j1, j2, j3, j4⟩ := bounds_le hmc
            have hrun := ok_bounds (b := true) hl hh hm hmc
            have hmul : l * s + (mc - l) * s = mc * s := by rw [← Nat.add_mul]; congr 1; omega
            have hle : mc * s ≤ cap * s := Nat.mul_le_mul_right _ j3
            refine .val h (v := .slice (some (if mc = l then ⟨b, off, none⟩ else ⟨b, off + l * s, none⟩)) (h' - l) (mc - l)) ?_ ?_
            · simp only [Instr.sliceAt, Instr.slice, Sem.run_bind, run_underlying ht, Result.andThen_ok, hrun, run_sizeOf hs]
              simp only [Sem.run_pure, Option.map_some, add_none]
              congr 2
              split <;> rfl
            · have e1 : (if mc = l then (⟨b, off, none⟩ : Addr) else ⟨b, off + l * s, none⟩) = ⟨b, if mc = l then off else off + l * s, none⟩ := by split <;> rfl
              rw [e1]
              have hm47 : m * P.bytesOf e' ≤ 2 ^ 47 := by
                cases c with
                | known c0 =>
                  have h1 := hr c0 rfl
                  have h2 := hc c0 rfl
                  simp only [reach] at k3
                  exact Nat.le_trans (Nat.mul_le_mul_right _ (by omega)) h1
                | any => simp only [reach] at k3; exact Nat.le_trans (Nat.mul_le_mul_right _ k3) hq
                | pin => simp only [reach] at k3; exact Nat.le_trans (Nat.mul_le_mul_right _ k3) hq
              have hb1 : ∀ c1, cutCap c mx l m = .known c1 → (mc - l) * P.bytesOf e' ≤ 2 ^ 47 := by
                intro c1 hc1
                cases mx with
                | none =>
                  cases c with
                  | known c0 => exact Nat.le_trans (Nat.mul_le_mul_right _ (by omega)) (hr c0 rfl)
                  | any => simp [cutCap] at hc1
                  | pin => simp [cutCap] at hc1
                | some x =>
                  have e2 := hmx2 (by simp)
                  exact Nat.le_trans (Nat.mul_le_mul_right _ (by omega)) hm47
              refine .sl _ _ _ _ _ b base _ (mc - l) hp (fun hne => ?_) (fun c0 hc0 => ?_) (by omega) hb1 ?_ ?_
              · rw [if_neg (by omega), ho (by omega)]; omega
              · unfold cutCap at hc0
                split at hc0
                · injection hc0 with hc0; rw [hmx2 (by simp), hc0]
                · split at hc0
                  · injection hc0 with hc0; rw [hmx1 rfl, hc _ rfl, hc0]
                  · rename_i c1 hcn; exact absurd hc0 (by intro e; exact hcn _ e)
              · exact Nat.le_trans (Nat.mul_le_mul_right _ (by omega)) hm47
              · obtain ⟨x, hx, hxl⟩ := hsz
                refine ⟨x, hx, ?_⟩
                rw [cellsOf_szOf hs] at hxl ⊢
                omega
        · cases hd
      · cases hd
    · cases hd
  · rename_i e c e' n full ht
    split at hd
    · rename_i he; subst he
      split at hd
      · rename_i s hs
        split at hd
        · rename_i l h' m hb
          injection hd with hd; subst hd
          obtain ⟨k1, k2, k3, k4⟩ := bounds_le hb
          cases hv with
          | fsl _ _ _ _ b base cap vs hn hf hr hbs hm0 h1 hlen hc h2 =>
            obtain ⟨mc, hmc, hmx1, hmx2⟩ : ∃ mc, boundsD n cap lo hi mx = some (l, h', mc) ∧ (mx = none → mc = cap) ∧ (mx ≠ none → mc = m) := by
              cases mx with
              | none => exact ⟨cap, bounds_cap hb hn, fun _ => rfl, fun h => absurd rfl h⟩
              | some x =>
                rcases bounds_cap3 hb hn with hb' | rfl
                · exact ⟨m, hb', fun h => (by cases h), fun _ => rfl⟩
                · exact absurd hb bounds_hi
            obtain ⟨j1, j2, j3, j4⟩ := bounds_le hmc
            have hrun := ok_bounds (b := true) hl hh hm hmc
            rw [cellsOf_szOf hs] at hlen
            refine .val h (v := .slice (some (if mc = l then ⟨b, base, none⟩ else ⟨b, base + l * s, none⟩)) (h' - l) (mc - l)) ?_ ?_
            · simp only [Instr.sliceAt, Instr.slice, Sem.run_bind, run_underlying ht, Result.andThen_ok, hrun, run_sizeOf hs]
              simp only [Sem.run_pure, Option.map_some, add_none]
              congr 2
              split <;> rfl
            · have e1 : (if mc = l then (⟨b, base, none⟩ : Addr) else ⟨b, base + l * s, none⟩) = ⟨b, if mc = l then base else base + l * s, none⟩ := by split <;> rfl
              rw [e1]
              have hmul : l * s + (h' - l) * s = h' * s := by rw [← Nat.add_mul]; congr 1; omega
              have hle : h' * s ≤ n * s := Nat.mul_le_mul_right _ (by omega)
              refine .fsl _ _ _ _ b _ (mc - l) ((vs.drop (l * s)).take ((h' - l) * s)) (by omega) (fun hfl => ?_) ?_ hbs hm0 ?_ ?_ (fun j v hj => ?_) ((h2.drop _).take _)
              · simp only [Bool.and_eq_true, Bool.or_eq_true, beq_iff_eq] at hfl
                obtain ⟨hfl, rfl⟩ := hfl
                rcases hfl with hfl | hfl
                · rw [hmx2 (by intro e; subst e; simp at hfl)]
                · cases mx with
                  | none => rw [hmx1 rfl, hf hfl, k4 rfl]
                  | some x => rw [hmx2 (by simp)]
              · exact Nat.le_trans (Nat.mul_le_mul_right _ (by omega)) hr
              · rw [List.all_eq_true] at h1 ⊢
                exact fun d hd => h1 d (List.mem_of_mem_drop (List.mem_of_mem_take hd))
              · rw [cellsOf_szOf hs]; simp only [List.length_take, List.length_drop]; omega
              · rw [List.getElem?_take] at hj
                split at hj
                · rename_i hjl
                  rw [List.getElem?_drop] at hj
                  have hne : mc ≠ l := by
                    intro e
                    have : h' - l = 0 := by omega
                    rw [this] at hjl; simp at hjl
                  rw [if_neg hne, Nat.add_assoc]
                  exact hc _ _ hj
                · cases hj
          | fnil =>
            have hrun := ok_bounds (b := true) hl hh hm hb
            obtain rfl : m = 0 := by omega
            obtain rfl : h' = 0 := by omega
            obtain rfl : l = 0 := by omega
            refine .val h (v := .slice none 0 0) ?_ ?_
            · simp only [Instr.sliceAt, Instr.slice, Sem.run_bind, run_underlying ht, Result.andThen_ok, hrun, run_sizeOf hs]
              rfl
            · simp only [List.drop_nil, List.take_nil]; exact .fnil _ _
        · cases hd
      · cases hd
    · cases hd
  · rename_i n e i o ht
    split at hd
    · rename_i s hs
      split at hd
      · rename_i l h' m hb
        split at hd
        · rename_i c wr hi'
          split at hd
          · rename_i hle
            injection hd with hd; subst hd
            cases hv with
            | ptr _ _ b base hp =>
              obtain ⟨k1, k2, k3, k4⟩ := bounds_le hb
              have hrun := ok_bounds (b := false) hl hh hm hb
              obtain ⟨n', base', hp', hn', hB⟩ := h.blk i _ hi'
              rw [hp] at hp'; injection hp' with hp'; injection hp' with e1 e2; subst e1; subst e2
              obtain ⟨y, hy, hyl⟩ := shape_of_blk hB
              have hmul : l * s + (m - l) * s = m * s := by rw [← Nat.add_mul]; congr 1; omega
              have hle2 : m * s ≤ n * s := Nat.mul_le_mul_right _ k3
              refine .val h (v := .slice (some ⟨b, if m = l then base + o else base + o + l * s, none⟩) (h' - l) (m - l)) ?_
                (.sl _ _ _ _ _ b base _ (m - l) hp (fun hne => by rw [if_neg (by omega)]; omega) (fun c0 hc0 => by injection hc0) (by omega)
                  (fun _ _ => Nat.le_trans (Nat.mul_le_mul_right _ (by omega)) hle.1) (Nat.le_trans (Nat.mul_le_mul_right _ (by omega)) hle.1) ⟨y, hy, by rw [cellsOf_szOf hs]; omega⟩)
              simp only [Instr.sliceAt, Instr.sureAddr, Sem.run_bind, run_underlying ht, Result.andThen_ok, Sem.run_pure, hrun, run_sizeOf hs, add_none]
              congr 3
              split <;> rfl
          · cases hd
        · cases hd
      · cases hd
    · cases hd
  · rename_i n e c o ht
    split at hd
    · rename_i s hs
      split at hd
      · rename_i l h' m hb
        split at hd
        · rename_i hle
          injection hd with hd; subst hd
          cases hv with
          | fptr _ _ b base vs hbs hm0 h1 hc h2 =>
            obtain ⟨k1, k2, k3, k4⟩ := bounds_le hb
            have hrun := ok_bounds (b := false) hl hh hm hb
            have hmul : l * s + (h' - l) * s = h' * s := by rw [← Nat.add_mul]; congr 1; omega
            have hle2 : h' * s ≤ n * s := Nat.mul_le_mul_right _ (by omega)
            refine .val h (v := .slice (some ⟨b, if m = l then base + o else base + o + l * s, none⟩) (h' - l) (m - l)) ?_
              (.fsl _ _ _ _ b _ (m - l) ((vs.drop (o + l * s)).take ((h' - l) * s)) (by omega) (fun hfl => ?_) (Nat.le_trans (Nat.mul_le_mul_right _ (by omega)) hle.1) hbs hm0 ?_ ?_ (fun j v hj => ?_) ((h2.drop _).take _))
            · simp only [Instr.sliceAt, Instr.sureAddr, Sem.run_bind, run_underlying ht, Result.andThen_ok, Sem.run_pure, hrun, run_sizeOf hs, add_none]
              congr 3
              split <;> rfl
            · have := of_decide_eq_true hfl
              omega
            · rw [List.all_eq_true] at h1 ⊢
              exact fun d hd => h1 d (List.mem_of_mem_drop (List.mem_of_mem_take hd))
            · rw [cellsOf_szOf hs]; simp only [List.length_take, List.length_drop]; omega
            · rw [List.getElem?_take] at hj
              split at hj
              · rename_i hjl
                rw [List.getElem?_drop] at hj
                have hne : m ≠ l := by
                  intro e
                  have : h' - l = 0 := by omega
                  rw [this] at hjl; simp at hjl
                rw [if_neg hne]
                rw [show base + o + l * s + j = base + (o + l * s + j) from by omega]
                exact hc _ _ hj
              · cases hj
        · cases hd
      · cases hd
    · cases hd
  · cases hd
end Go.Proofs.YtdodnmeilhhhgaaGreatDoor.AM
