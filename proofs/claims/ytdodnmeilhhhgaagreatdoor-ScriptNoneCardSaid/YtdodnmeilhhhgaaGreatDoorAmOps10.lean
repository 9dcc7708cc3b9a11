/- PART OF THE ABSTRACT MACHINE over the given model: Ops10. It carries no condition of its own. -/
import Derived.Test.YtdodnmeilhhhgaaGreatDoorAmOps9
set_option linter.unusedVariables false
set_option linter.unusedSimpArgs false
noncomputable section
namespace Go.Proofs.YtdodnmeilhhhgaaGreatDoor.AM
variable {P : Program} {π π' : Nm} {M : Nat → Prop} {w w' : World} {st st' : St}

theorem srcKind {tx : TypeId} {x : D} (h : okSrcType P tx x = true) : ∃ d, P.underlying tx = some d ∧ ∀ k, d ≠ .int k := by
  unfold okSrcType at h
  split at h
  · rename_i e he; exact ⟨_, he, fun k => by simp⟩
  · rename_i he; exact ⟨_, he, fun k => by simp⟩
  · cases h

/-- The old cells, behind a draw. -/
theorem hold_of {base : Option Addr} {n cap sz : Nat} {vs : List Value} (hl : vs.length = n * sz)
    (hc : (base = none ∧ n = 0 ∧ cap = 0) ∨ ∃ b off, base = some ⟨b, off, none⟩ ∧ ∀ (j : Nat) (u : Value), vs[j]? = some u → w.cell? ⟨b, off + j, none⟩ = some u) :
    (Builtin.firstCells sz n (.slice base n cap)).run P w.drew = .ok vs.toArray w.drew := by
  rcases hc with ⟨rfl, rfl, rfl⟩ | ⟨b, off, rfl, hc⟩
  · obtain rfl : vs = [] := List.eq_nil_of_length_eq_zero (by simpa using hl)
    exact run_firstCells_none w.drew sz 0 0 0
  · exact run_firstCells_some w.drew sz n _ n cap vs hl (fun j v hj => by rw [add_none, World.cell?_drew]; exact hc j v hj)

/-- A new row for all. -/
theorem ok_grow {st0 : St} (h : Rel P π w st0) (m0 : Mv π w st π w st0) {t tx ty e : TypeId} {i : TypeInfo} {z : Value} {sz : Nat} (ht : P.underlying t = some (.slice e)) (hi : P.info? e = some i) (hz : i.zero = some z) (hzs : z.cells.size = sz) (hs : i.size = sz)
    {base : Option Addr} {n cap m : Nat} {cs ds : List D} {olds news : List Value} {x : Value} (hold : (Builtin.firstCells sz n (.slice base n cap)).run P w.drew = .ok olds.toArray w.drew) (hol : olds.length = n * sz)
    (hsrc : Src P sz tx x m news w) (h2 : All2 (VR P π (Mut π st0) w) cs olds) (h1 : cs.all D.one = true) (g2 : All2 (VR P π (Mut π st0) w) ds news) (g1 : ds.all D.one = true)
    (hq : (n + m) * i.bytes ≤ 140737488355328) (hg : cap < n + m) (h63 : ((n + m : Nat) : Int) ≤ 9223372036854775807) (hfit : Builtin.nextslicecap (n + m) cap * i.bytes ≤ 281474976710656) :
    ∃ v' w', (Builtin.append_ #[t, tx] ty #[.slice base n cap, x]).run P w = .ok v' w' ∧ (
      ∃ π', Rel P π' w' (st0.push (.cells (cs ++ ds) true)) ∧ Mv π w st π' w' (st0.push (.cells (cs ++ ds) true)) ∧ VR P π' (Mut π' (st0.push (.cells (cs ++ ds) true))) w' (.sl st0.next 0 e (n + m) .any) v') := by
  subst hs
  have hr := run_append_grow_src (P := P) w t tx ty e i z ht hi hz base n cap olds hold x m news hsrc hg h63 hfit
  refine ⟨_, _, hr, ?_⟩
  obtain ⟨r1, m1⟩ := h.same (Fr.drew _ w)
  have hcells : All2 (VR P π (Mut π st0) w.drew) (cs ++ ds) (olds ++ news) := VR.mv_all (h2.append g2) m1
  have hone : (cs ++ ds).all D.one = true := by rw [List.all_append, h1, g1]; rfl
  obtain ⟨r2, m2⟩ := r1.row (cs ++ ds) ((olds ++ news).toArray ++ Builtin.zeroCells z.cells (grownCap w (n + m) cap e - (n + m))) e (by rw [hcells.length]; simp) fun j d hj => by
    obtain ⟨u, hu, hr⟩ := hcells.get hj
    refine ⟨u, ?_, hr, List.all_eq_true.1 hone d (List.mem_of_getElem? hj)⟩
    rw [Array.getElem?_append_left (by have := (List.getElem?_eq_some_iff.1 hu).1; simpa using this)]
    simpa using hu
  refine ⟨_, r2, m0.trans (m1.trans m2), ?_⟩
  have hge := grownCap_ge w (n + m) cap e
  have hbe := bytesOf_info hi
  refine .sl _ _ _ _ _ w.heap.size 0 0 _ (upd_same ..) (fun _ => rfl) (fun c0 h => by cases h) hge (fun c0 h => by cases h) (by rw [hbe]; exact hq) ?_
  refine ⟨(e, ((olds ++ news).toArray ++ Builtin.zeroCells z.cells (grownCap w (n + m) cap e - (n + m))).size), ?_, ?_⟩
  · generalize ((olds ++ news).toArray ++ Builtin.zeroCells z.cells (grownCap w (n + m) cap e - (n + m))) = row
    have : (w.drew.alloc (.cells row e)).heap[w.heap.size]? = some (.cells row e) := by show (w.heap.push _)[w.heap.size]? = _; simp
    unfold World.shape?; rw [this]
  · have hc : P.cellsOf e = i.size := by unfold Program.cellsOf; rw [hi]; rfl
    simp only [Array.size_append, List.size_toArray, List.length_append, size_zeroCells, hzs, hol, hsrc.newsLen, hc]
    rw [← Nat.add_mul, ← Nat.add_mul]
    have : n + m + (grownCap w (n + m) cap e - (n + m)) = grownCap w (n + m) cap e := by omega
    rw [this]; omega

/-- There is room: in its place. -/
theorem run_room {t tx ty e : TypeId} {i : TypeInfo} (ht : P.underlying t = some (.slice e)) (hi : P.info? e = some i) {b off n cap m : Nat} {news : List Value} {x : Value} (hsrc : Src P i.size tx x m news w) (hroom : n + m ≤ cap)
    (hst : (storeCells ⟨b, off + n * i.size, none⟩ news).run P w = .ok () w') :
    (Builtin.append_ #[t, tx] ty #[.slice (some ⟨b, off, none⟩) n cap, x]).run P w = .ok (.slice (some ⟨b, off, none⟩) (n + m) cap) w' := by
  rcases hsrc.kind with ⟨e', hk⟩ | hk <;> simp [Builtin.append_, run_underlying ht, run_underlying hk, sizeOf, typeInfo, hi, hsrc.len, hroom, hsrc.cells, add_none, hst]
theorem run_none {t tx ty e : TypeId} {i : TypeInfo} (ht : P.underlying t = some (.slice e)) (hi : P.info? e = some i) {base : Option Addr} {n cap : Nat} {x : Value} (hsrc : Src P i.size tx x 0 [] w) (hroom : n ≤ cap) :
    (Builtin.append_ #[t, tx] ty #[.slice base n cap, x]).run P w = .ok (.slice base n cap) w := by
  cases base with
  | none => rcases hsrc.kind with ⟨e', hk⟩ | hk <;> simp [Builtin.append_, run_underlying ht, run_underlying hk, sizeOf, typeInfo, hi, hsrc.len, hroom, hsrc.cells]
  | some a => rcases hsrc.kind with ⟨e', hk⟩ | hk <;> simp [Builtin.append_, run_underlying ht, run_underlying hk, sizeOf, typeInfo, hi, hsrc.len, hroom, hsrc.cells, storeCells]
end Go.Proofs.YtdodnmeilhhhgaaGreatDoor.AM
