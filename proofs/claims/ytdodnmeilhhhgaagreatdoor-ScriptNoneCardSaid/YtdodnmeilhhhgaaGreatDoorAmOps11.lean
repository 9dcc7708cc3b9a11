/- PART OF THE ABSTRACT MACHINE over the given model: Ops11. It carries no condition of its own. -/
import Derived.Test.YtdodnmeilhhhgaaGreatDoorAmOps10
set_option linter.unusedVariables false
set_option linter.unusedSimpArgs false
noncomputable section
namespace Go.Proofs.YtdodnmeilhhhgaaGreatDoor.AM
variable {P : Program} {π π' : Nm} {M : Nat → Prop} {w w' : World} {st st' : St}

theorem slice_le {s : D} {base : Option Addr} {n cap : Nat} (h : VR P π M w s (.slice base n cap)) (hu : s ≠ .undef) : n ≤ cap := by
  cases h with
  | undef => exact absurd rfl hu
  | sl => assumption
  | nils => exact Nat.le_refl _
  | fsl => assumption
  | fnil => exact Nat.le_refl _

theorem x_bytes {e : TypeId} {x : D} {u : Value} {m sz : Nat} {ds : List D} (hx : VR P π M w x u) (he : elemOk P e x = true) (hd : srcD P st sz x = some (m, ds)) : m * P.bytesOf e ≤ 140737488355328 := by
  cases hx <;> simp only [srcD] at hd <;> try (cases hd; done)
  · split at hd
    · rename_i hc
      injection hd with hd; injection hd with e1 _; subst e1
      simp only [elemOk, beq_iff_eq] at he
      rw [he]; omega
    · cases hd
  · rename_i hq _
    split at hd
    · rw [Option.map_eq_some_iff] at hd; obtain ⟨_, _, hd⟩ := hd; injection hd with e1 _; subst e1
      simp only [elemOk, beq_iff_eq] at he; subst he
      exact hq
    · cases hd
  · injection hd with hd; injection hd with e1 _; subst e1; simp
  · rename_i hr _ _ _ _ _ _
    split at hd
    · injection hd with hd; injection hd with e1 _; subst e1
      simp only [elemOk, beq_iff_eq] at he; subst he
      exact hr
    · cases hd
  · split at hd
    · injection hd with hd; injection hd with e1 _; subst e1; simp
    · cases hd

theorem ok_append (h : Rel P π w st) {t tx ty : TypeId} {s x d : D} {v u : Value} (hs : VR P π (Mut π st) w s v) (hx : VR P π (Mut π st) w x u) (hd : appendD P st t tx s x = some (d, st')) :
    SOK P π w st (Builtin.append_ #[t, tx] ty #[v, u]) d st' := by
  unfold appendD at hd
  split at hd
  rotate_left
  · cases hd
  rename_i e ht
  split at hd
  rotate_left
  · cases hd
  rename_i sz z hsz hz
  split at hd
  rotate_left
  · cases hd
  rename_i hcond
  obtain ⟨hzv, hzl, hspos, hb0, hst, helem⟩ := hcond
  split at hd
  rotate_left
  · cases hd
  rename_i n cs m ds hsd hxd
  split at hd
  · cases hd
  rename_i hns
  have hns' : ∀ b, s ≠ .str b := fun b hb => by subst hb; simp [isStr] at hns
  obtain ⟨i, zv, hi, hzz, rfl⟩ := zeroD_some hz
  have his : i.size = sz := by unfold szOf at hsz; rw [hi] at hsz; injection hsz
  have hzs : zv.cells.size = sz := by
    obtain ⟨hcv, _⟩ := isVal_cells (VR.ofV (P := P) (π := π) (M := fun _ => False) (w := w) zv) hzv
    rw [← Array.length_toList, ← hcv.length]; exact hzl
  obtain ⟨td, htd, htdi⟩ := srcKind hst
  obtain ⟨base, cap, rfl, hl, h1, olds, hol, h2, hcase⟩ := ok_elems h hs hns' hsd
  obtain ⟨news, hsrc, hlen, g2, g1, gl⟩ := ok_src h hx hxd (okSrcType_spec hst)
  have hbe := bytesOf_info hi
  have hnc : n ≤ cap := slice_le hs (fun e => by subst e; simp [srcD] at hsd)
  subst his
  have hold := hold_of (P := P) (w := w) hol hcase
  split at hd
  · rename_i hm0; subst hm0
    injection hd with hd; injection hd with e1 e2; subst e1; subst e2
    obtain rfl : news = [] := List.eq_nil_of_length_eq_zero (by simpa using hsrc.newsLen)
    exact .val h (run_none ht hi hsrc hnc) hs
  rename_i hm
  have hmpos : 0 < m := by omega
  -- what comes of the law
  have law : ∀ (st1 : St) (d1 : D), (n + m) * i.bytes ≤ 140737488355328 →
      ((n + m) * i.bytes ≤ 140737488355328 → ∃ v' w', (Builtin.append_ #[t, tx] ty #[.slice base n cap, u]).run P w = .ok v' w' ∧ (
        ∃ π', Rel P π' w' st1 ∧ Mv π w st π' w' st1 ∧ VR P π' (Mut π' st1) w' d1 v')) → SOK P π w st (Builtin.append_ #[t, tx] ty #[.slice base n cap, u]) d1 st1 := by
    intro st1 d1 hb elder
    obtain ⟨v', w', hrun, π', r, mv, hvr⟩ := elder hb
    exact ⟨v', w', π', hrun, r, mv, hvr⟩
  have fits : (n + m) * i.bytes ≤ 140737488355328 → cap < n + m → Builtin.nextslicecap (n + m) cap * i.bytes ≤ 281474976710656 := fun hb hg => growslice_fits hg hb
  have h63 : (n + m) * i.bytes ≤ 140737488355328 → ((n + m : Nat) : Int) ≤ 9223372036854775807 := by
    intro hb
    have : n + m ≤ (n + m) * i.bytes := Nat.le_mul_of_pos_right _ (by rw [← hbe]; exact hb0)
    omega
  split at hd
  · -- nil
    injection hd with hd; injection hd with e1 e2; subst e1; subst e2
    cases hs
    simp only [srcD] at hsd; injection hsd with hsd; injection hsd with e1 e2; subst e2
    have hm47 := x_bytes hx helem hxd
    rw [hbe] at hm47
    refine law _ _ (by rw [Nat.zero_add]; exact hm47) fun hb => ?_
    have := ok_grow (ty := ty) h (.refl _ _ _) ht hi hzz hzs rfl hold hol hsrc h2 h1 g2 g1 hb (by omega) (h63 hb) (fits hb (by omega))
    simpa using this
  · -- cells that nobody writes
    split at hd
    · rename_i c e' nn he
      obtain ⟨rfl, hbb⟩ := he
      rw [hbe] at hbb
      injection hd with hd; injection hd with e1 e2; subst e1; subst e2
      have hcap : cap = n := by
        simp only [srcD, hsz, if_true] at hsd
        injection hsd with hsd; injection hsd with e1 e2; subst e1
        cases hs with
        | fsl _ _ _ _ b base cap vs hn hf => exact hf rfl
        | fnil => rfl
      subst hcap
      refine law _ _ hbb fun hb => ?_
      exact ok_grow (ty := ty) h (.refl _ _ _) ht hi hzz hzs rfl hold hol hsrc h2 h1 g2 g1 hb (by omega) (h63 hb) (fits hb (by omega))
    · cases hd
  · -- a known end
    rename_i i0 o e' nn c0
    split at hd
    rotate_left
    · cases hd
    rename_i he; subst he
    have hnn : nn = n := by
      simp only [srcD, hsz, if_true] at hsd
      rw [Option.map_eq_some_iff] at hsd; obtain ⟨_, _, hsd⟩ := hsd; injection hsd
    subst hnn
    cases hs with
    | sl _ _ _ _ _ b base0 off _ hp ho hc hn hr hq hsz' =>
      obtain rfl := hc c0 rfl
      split at hd
      · rename_i hroom
        split at hd
        · rename_i st1 hpoke
          injection hd with hd; injection hd with e1 e2; subst e1; subst e2
          unfold poke at hpoke
          simp only [pokeL_map] at hpoke
          split at hpoke
          rotate_left
          · cases hpoke
          rename_i cc hi0
          split at hpoke
          rotate_left
          · cases hpoke
          rename_i hle
          injection hpoke with hpoke; subst hpoke
          have hoff : off = base0 + o := ho (by omega)
          subst hoff
          obtain ⟨y, hy, hyl⟩ := hsz'
          have hco : P.cellsOf e' = i.size := by unfold Program.cellsOf; rw [hi]; rfl
          rw [hco] at hyl
          have hmul : nn * i.size + m * i.size ≤ cap * i.size := by rw [← Nat.add_mul]; exact Nat.mul_le_mul_right _ hroom
          obtain ⟨w', hw', r, mv⟩ := ok_storeCells news ds 0 (base0 + (o + nn * i.size)) (o + nn * i.size) cc w st h g2 g1 hi0 hp (by omega) (by omega) ⟨y, hy, by rw [gl]; omega⟩
          refine ⟨_, w', π, run_room ht hi hsrc hroom (by rw [show base0 + o + nn * i.size = base0 + (o + nn * i.size) from by omega]; exact hw'), r, mv, ?_⟩
          have hs' : VR P π (Mut π st) w (.sl i0 o e' (nn + m) (.known cap)) (.slice (some ⟨b, base0 + o, none⟩) (nn + m) cap) :=
            .sl _ _ _ _ _ b base0 _ cap hp (fun _ => rfl) (fun c1 e => by injection e) hroom hr (Nat.le_trans (Nat.mul_le_mul_right _ hroom) (hr _ rfl)) ⟨y, hy, by rw [hco]; exact hyl⟩
          exact hs'.mv mv
        · cases hd
      · rename_i hroom
        split at hd
        rotate_left
        · cases hd
        rename_i hbb
        rw [hbe] at hbb
        injection hd with hd; injection hd with e1 e2; subst e1; subst e2
        exact law _ _ hbb fun hb =>
          ok_grow (ty := ty) h (.refl _ _ _) ht hi hzz hzs rfl hold hol hsrc h2 h1 g2 g1 hb (by omega) (h63 hb) (fits hb (by omega))
  · -- an unknown end
    rename_i i0 o e' nn
    split at hd
    rotate_left
    · cases hd
    rename_i he
    obtain ⟨rfl, hsame, hbb⟩ := he
    rw [hbe] at hbb
    have hnn : nn = n := by
      simp only [srcD, hsz, if_true] at hsd
      rw [Option.map_eq_some_iff] at hsd; obtain ⟨_, _, hsd⟩ := hsd; injection hsd
    subst hnn
    split at hd
    rotate_left
    · cases hd
    rename_i cc hi0
    injection hd with hd; injection hd with e1 e2; subst e1; subst e2
    have hcs : o + nn * i.size ≤ cc.length ∧ cs = (cc.drop o).take (nn * i.size) := by
      simp only [srcD, hsz, if_true] at hsd
      rw [Option.map_eq_some_iff] at hsd; obtain ⟨cs', hcs, hsd⟩ := hsd; injection hsd with _ e2; subst e2
      simp only [elems, hi0, hsz, dropL_takeL] at hcs
      split at hcs
      · rename_i hle; injection hcs with hcs; exact ⟨hle, hcs.symm⟩
      · cases hcs
    cases hs with
    | sl _ _ _ _ _ b base0 off _ hp ho hc hn hr hq hsz' =>
      obtain ⟨y, hy, hyl⟩ := hsz'
      have hco : P.cellsOf e' = i.size := by unfold Program.cellsOf; rw [hi]; rfl
      rw [hco] at hyl
      refine law _ _ hbb fun hb => ?_
      · by_cases hroom : nn + m ≤ cap
        · have hoff : off = base0 + o := ho (by omega)
          subst hoff
          have hmul : nn * i.size + m * i.size ≤ cap * i.size := by rw [← Nat.add_mul]; exact Nat.mul_le_mul_right _ hroom
          obtain ⟨r1, m1⟩ := h.rename (c' := cs) hi0 hp (fun j d hj => by
              rw [hcs.2, List.getElem?_take] at hj
              split at hj
              · rw [List.getElem?_drop] at hj; exact hj
              · cases hj) (.inr (by rw [hcs.2]; simp only [List.length_take, List.length_drop]; omega)) ⟨y, hy, by omega⟩
          obtain ⟨w', hw', r2, m2⟩ := ok_storeCells (i := st.next) (n := b) (base := base0 + o) news ds 0 (base0 + o + nn * i.size) (nn * i.size) cs w _ r1 (VR.mv_all g2 m1) g1 (by simp) (upd_same ..) (by omega) (by omega) ⟨y, hy, by rw [gl]; omega⟩
          have hsp : splice cs ds (nn * i.size) = cs ++ ds := by
            unfold splice; rw [← hl, List.take_length, List.drop_eq_nil_of_le (by omega), List.append_nil]
          rw [hsp] at r2 m2
          obtain ⟨r3, m3⟩ := r2.alike (st' := (st.put i0 none).push (.cells (cs ++ ds) true)) rfl fun j => by
            by_cases e : j = st.next
            · simp only [St.get_push, St.get_put, St.next_put, e, if_true]
            · simp only [St.get_push, St.get_put, St.next_put, e, if_false]
          refine ⟨_, w', run_room ht hi hsrc hroom hw', ⟨_, r3, (m1.trans m2).trans m3, ?_⟩⟩
          have hs' : VR P (upd π st.next (b, base0 + o)) (Mut (upd π st.next (b, base0 + o)) ((st.put i0 none).push (.cells cs true))) w (.sl st.next 0 e' (nn + m) .any) (.slice (some ⟨b, base0 + o, none⟩) (nn + m) cap) :=
            .sl _ _ _ _ _ b (base0 + o) _ cap (upd_same ..) (fun _ => rfl) (fun c1 e => by cases e) hroom (fun c1 e => by cases e) (by rw [hbe]; exact hbb) ⟨y, hy, by rw [hco]; omega⟩
          exact (hs'.mv m2).mv m3
        · obtain ⟨r0, m0⟩ := h.weaken (st' := st.put i0 none) (Nat.le_refl _) fun j b' hj => by
            rw [St.get_put] at hj
            by_cases e : j = i0
            · rw [if_pos e] at hj; cases hj
            · rw [if_neg e] at hj; exact ⟨b', hj, .same _⟩
          exact ok_grow (ty := ty) r0 m0 ht hi hzz hzs rfl hold hol hsrc (VR.mv_all h2 m0) h1 (VR.mv_all g2 m0) g1 hb (by omega) (h63 hb) (fits hb (by omega))
  · cases hd

theorem ok_appendZ (h : Rel P π w st) {t tx ty : TypeId} {s x d : D} {v u : Value} (hs : VR P π (Mut π st) w s v) (hx : VR P π (Mut π st) w x u) (hd : appendZ P st t tx s x = some (d, st')) :
    SOK P π w st (Builtin.append_ #[t, tx] ty #[v, u]) d st' := by
  unfold appendZ at hd
  split at hd
  · rename_i e k k' n ht htx
    split at hd
    · rename_i sz z hsz hz
      split at hd
      · rename_i hcond
        obtain ⟨hzv, hzl, hs0, hn0, hby, hmax⟩ := hcond
        injection hd with hd; injection hd with e1 e2; subst e1; subst e2
        cases hs; cases hx
        obtain ⟨i, zv, hi, hzz, rfl⟩ := zeroD_some hz
        obtain ⟨hcv, hone⟩ := isVal_cells (VR.ofV (P := P) (π := π) (M := Mut π st) (w := w) zv) hzv
        have hzs : zv.cells.size = sz := by rw [← Array.length_toList, ← hcv.length]; exact hzl
        have his : i.size = sz := by unfold szOf at hsz; rw [hi] at hsz; injection hsz
        have hbe := bytesOf_info hi
        rw [hbe] at hby
        obtain ⟨m, rfl⟩ : ∃ m : Nat, n = m := ⟨n.toNat, by omega⟩
        simp only [Int.toNat_natCast] at *
        have hrun := Lib.run_append_nil_zeros (P := P) w t tx ty e i zv k' k ht htx hi hzz m (by omega) (by omega) (by omega) (by omega)
        obtain ⟨r1, m1⟩ := h.same (Fr.drew _ w)
        have hz2 := VR.mv_all (zeros_rel hcv m) m1
        have hge := grownCap_ge w m 0 e
        obtain ⟨r2, m2⟩ := r1.row (zeros (ofV zv).cells m) (Builtin.zeroCells zv.cells m ++ Builtin.zeroCells zv.cells (grownCap w m 0 e - m)) e (by rw [hz2.length]; simp [size_zeroCells]) fun j d hj => by
          obtain ⟨u, hu, hr⟩ := hz2.get hj
          refine ⟨u, ?_, hr, List.all_eq_true.1 (zeros_all hone) d (List.mem_of_getElem? hj)⟩
          have hu' : (Builtin.zeroCells zv.cells m)[j]? = some u := by
            rw [Builtin.zeroCells, ← Array.getElem?_toList]; exact hu
          rw [Array.getElem?_append_left (Array.getElem?_eq_some_iff.1 hu').1]; exact hu'
        refine ⟨_, _, _, hrun, r2, m1.trans m2, ?_⟩
        refine .sl _ _ _ _ _ w.heap.size 0 0 _ (upd_same ..) (fun _ => rfl) (fun c0 h => by cases h) hge (fun c0 h => by cases h) (by rw [hbe]; exact hby) ?_
        refine ⟨(e, (Builtin.zeroCells zv.cells m ++ Builtin.zeroCells zv.cells (grownCap w m 0 e - m)).size), ?_, ?_⟩
        · generalize (Builtin.zeroCells zv.cells m ++ Builtin.zeroCells zv.cells (grownCap w m 0 e - m)) = row
          have : (w.drew.alloc (.cells row e)).heap[w.heap.size]? = some (.cells row e) := by show (w.heap.push _)[w.heap.size]? = _; simp
          unfold World.shape?; rw [this]
        · have hc : P.cellsOf e = i.size := by unfold Program.cellsOf; rw [hi]; rfl
          simp only [Array.size_append, size_zeroCells, hzs, hc, his]
          rw [← Nat.add_mul]
          have : m + (grownCap w m 0 e - m) = grownCap w m 0 e := by omega
          rw [this]; omega
      · cases hd
    · cases hd
  · cases hd
end Go.Proofs.YtdodnmeilhhhgaaGreatDoor.AM
