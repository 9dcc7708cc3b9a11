/- PART OF THE ABSTRACT MACHINE over the given model: Ops13. It carries no condition of its own. -/
import Derived.Test.YtdodnmeilhhhgaaGreatDoorAmOps12
set_option linter.unusedVariables false
set_option linter.unusedSimpArgs false
noncomputable section
namespace Go.Proofs.YtdodnmeilhhhgaaGreatDoor.AM
variable {P : Program} {π π' : Nm} {M : Nat → Prop} {w w' : World} {st st' : St}

/-! ### Conversions -/
def bytesOfD : List D → Option (List Int)
  | [] => some []
  | .int .u8 n :: l => match bytesOfD l with | some r => some (n :: r) | none => none
  | _ => none
def u8s (xs : List Int) : List UInt8 := xs.map fun x => UInt8.ofNat x.toNat
def convD (P : Program) (st : St) (src dst : TypeId) (x : D) : Option (D × St) :=
  match P.underlying src, P.underlying dst, x with
  | some _, some (.int k), .int _ n => some (.int k (k.wrap n), st)
  | some _, some (.float k), .int _ n => some (.float k (k.nearest n), st)
  | some _, some .string, .str s => some (.str s, st)
  | some _, some (.slice e), .str s => match P.underlying e, szOf P e with
    | some (.int .u8), some 1 => if s.length * P.bytesOf e ≤ 140737488355328 then some (.sl st.next 0 e s.length .pin, st.push (.cells (byteD s) true)) else none
    | _, _ => none
  | some (.slice e0), some (.slice e), .sl i o e' n c => if src = dst then (match P.underlying e, st.get i with
    | some (.int .u8), some (.cells _ true) => some (.sl i o e' n c, st)
    | _, _ => none) else none
  | some (.slice e), some .string, x => match P.underlying e with
    | some (.int .u8) => match srcD P st 1 x with
      | some (_, cs) => if isStr x = true then none else (bytesOfD cs).map fun xs => (.str (u8s xs), st)
      | none => none
    | _ => none
  | _, _, _ => none

theorem bytesOfD_rel : ∀ {cs : List D} {vs : List Value} {xs : List Int}, All2 (VR P π M w) cs vs → bytesOfD cs = some xs → vs = xs.map (Value.int .u8) := by
  intro cs
  induction cs with
  | nil => intro vs xs h hx; cases h; simp only [bytesOfD] at hx; injection hx with hx; subst hx; rfl
  | cons c cs ih =>
    intro vs xs h hx
    cases h with
    | cons hc hl =>
      unfold bytesOfD at hx
      split at hx
      · rename_i e; cases e
      · rename_i n l e
        injection e with e1 e2; subst e1; subst e2
        cases hc
        split at hx
        · rename_i r hr
          injection hx with hx; subst hx
          rw [ih hl hr]; rfl
        · cases hx
      · cases hx

theorem freeze_push (w : World) (vs : Array Value) (e : TypeId) (hn : True) : (w.alloc (.cells vs e)).freeze ⟨w.heap.size, vs.size, none⟩ 1 = w.alloc (.cells vs e (vs.size, vs.size + 1)) := by
  unfold World.freeze
  rw [if_neg (by decide)]
  have : (w.heap.push (.cells vs e)).modify w.heap.size (fun
      | .cells c elem (lo, hi) => .cells c elem (if lo == hi then (vs.size, vs.size + 1) else (min lo vs.size, max hi (vs.size + 1)))
      | o => o) = w.heap.push (.cells vs e (vs.size, vs.size + 1)) := by
    apply Array.ext_getElem?
    intro i
    rw [Array.getElem?_modify, Array.getElem?_push, Array.getElem?_push]
    by_cases hi : i = w.heap.size
    · simp [hi]
    · simp [hi, Ne.symm hi]
  show ({ w with heap := _ } : World) = { w with heap := _ }
  congr 1

theorem ok_stringToBytes (h : Rel P π w st) {src dst e : TypeId} {b : ByteArray} {s : List UInt8} (hb : b.data.toList = s) {td : TypeDesc} (hsrc : P.underlying src = some td) (hdst : P.underlying dst = some (.slice e)) (he : P.underlying e = some (.int .u8))
    (hs : szOf P e = some 1) (hlen : s.length * P.bytesOf e ≤ 140737488355328) : SOK P π w st (convert src dst (.string b)) (.sl st.next 0 e s.length .pin) (st.push (.cells (byteD s) true)) := by
  have hsz := size_list hb
  generalize hcap : (Question.appendCap b.size 0 e).cut (w.tape w.drawn (.appendCap b.size 0 e)) = cap
  have hge : b.size ≤ cap := by rw [← hcap]; exact grownCap_ge w b.size 0 e
  obtain ⟨vs, hvdef⟩ : ∃ vs : Array Value, vs = b.data.map (fun b => Value.int .u8 b.toNat) ++ Array.replicate (cap - b.size) (.int .u8 0) := ⟨_, rfl⟩
  have hvs : vs.size = cap := by
    rw [hvdef]
    simp only [Array.size_append, Array.size_map, Array.size_replicate]
    have : b.data.size = b.size := rfl
    omega
  have hrun : (convert src dst (.string b)).run P w = .ok (.slice (some ⟨w.heap.size, 0, none⟩) b.size cap) (w.drew.alloc (.cells vs e (vs.size, vs.size + 1))) := by
    have hshape : (w.drew.alloc (.cells vs e)).shape? w.heap.size = some (e, vs.size) := by
      have : (w.drew.alloc (.cells vs e)).heap[w.heap.size]? = some (.cells vs e) := by show (w.heap.push _)[w.heap.size]? = _; simp
      unfold World.shape?; rw [this]
    have hfr := freeze_push w.drew vs e trivial
    have key : (Conv.stringToBytes e b).run P w = .ok (.slice (some ⟨w.heap.size, 0, none⟩) b.size cap) (w.drew.alloc (.cells vs e (vs.size, vs.size + 1))) := by
      simp only [Conv.stringToBytes, Sem.run_bind, run_choose, Question.forced, Bool.false_eq_true, if_false, Result.andThen_ok, hcap]
      rw [← hvdef]
      simp only [newRow, Sem.run_bind, run_newObj, Sem.run_pure, markStringish, run_shape, Result.andThen_ok]
      have e1 : ({ os := w.os, tape := w.tape, drawn := w.drawn + 1, output := w.output, heap := w.heap.push (.cells vs e) } : World) = w.drew.alloc (.cells vs e) := rfl
      rw [e1, hshape]
      simp only [run_freeze, Result.andThen_ok]
      rw [← hfr]; rfl
    cases td <;> simp [convert, run_underlying hsrc, run_underlying hdst, run_underlying he, key]
  obtain ⟨r1, m1⟩ := h.same (Fr.drew _ w)
  obtain ⟨r2, m2⟩ := r1.push (.cells vs e (vs.size, vs.size + 1)) (.cells (byteD s) true) fun π' M' hx hm hf =>
    .cells _ true vs e (vs.size, vs.size + 1) (by show (w.heap.push _)[w.heap.size]? = _; simp) (fun j d hj => by
        have hall := byteD_rel (P := P) (π := π') (M := M') (w := w.drew.alloc (.cells vs e (vs.size, vs.size + 1))) b hb
        obtain ⟨u, hu, hr⟩ := hall.get hj
        refine ⟨u, ?_, hr, List.all_eq_true.1 (byteD_all s) d (List.mem_of_getElem? hj)⟩
        rw [Nat.zero_add, hvdef]
        have hu' : (b.data.map (fun b => Value.int .u8 b.toNat))[j]? = some u := by
          simp only [byteCells, List.getElem?_map] at hu
          simpa using hu
        rw [Array.getElem?_append_left (Array.getElem?_eq_some_iff.1 hu').1]; exact hu')
      (by simp only [byteD, List.length_map]; omega) (fun _ => .inr (Nat.le_refl _))
  refine ⟨_, _, _, hrun, r2, m1.trans m2, ?_⟩
  rw [← hsz] at hlen ⊢
  refine .sl _ _ _ _ _ w.heap.size 0 0 cap (upd_same ..) (fun _ => rfl) (fun c0 h => by cases h) hge (fun c0 h => by cases h) hlen ⟨(e, vs.size), ?_, by rw [cellsOf_szOf hs, hvs]; simp⟩
  have : (w.drew.alloc (.cells vs e (vs.size, vs.size + 1))).heap[w.heap.size]? = some (.cells vs e (vs.size, vs.size + 1)) := by show (w.heap.push _)[w.heap.size]? = _; simp
  unfold World.shape?; rw [this]

theorem ok_conv (h : Rel P π w st) {src dst : TypeId} {x d : D} {v : Value} (hv : VR P π (Mut π st) w x v) (hd : convD P st src dst x = some (d, st')) : SOK P π w st (convert src dst v) d st' := by
  unfold convD at hd
  split at hd
  · rename_i td k k' n hs ht
    injection hd with hd; injection hd with e1 e2; subst e1; subst e2
    cases hv
    exact .val h (v := .int k (k.wrap n)) (by cases td <;> simp [convert, run_underlying hs, run_underlying ht, Conv.intToInt]) (.int _ _)
  · rename_i td k k' n hs ht
    injection hd with hd; injection hd with e1 e2; subst e1; subst e2
    cases hv
    exact .val h (v := .float k (k.nearest n)) (by cases td <;> simp [convert, run_underlying hs, run_underlying ht, Conv.intToFloat]) (.float _ _)
  · rename_i td s hs ht
    injection hd with hd; injection hd with e1 e2; subst e1; subst e2
    cases hv with
    | str _ b hb => exact .val h (v := .string b) (by cases td <;> simp [convert, run_underlying hs, run_underlying ht]) (.str _ _ hb)
  · rename_i td e s hs ht
    split at hd
    · rename_i he hsz
      split at hd
      · rename_i hlen
        injection hd with hd; injection hd with e1 e2; subst e1; subst e2
        cases hv with
        | str _ b hb => exact ok_stringToBytes h hb hs ht he hsz hlen
      · cases hd
    · cases hd
  · rename_i e0 e i o e' n c hs ht
    split at hd
    rotate_left
    · cases hd
    rename_i hsd; subst hsd
    rw [hs] at ht; injection ht with ht; injection ht with ht; subst ht
    split at hd
    rotate_left
    · cases hd
    rename_i cc he hi
    injection hd with hd; injection hd with e1 e2; subst e1; subst e2
    cases hv with
    | sl _ _ _ _ _ b base off cap hp ho hc hn hr hq hsz =>
      obtain ⟨n0, b0, hp0, hlt0, hB⟩ := h.blk _ _ hi
      rw [hp] at hp0; injection hp0 with hp0; injection hp0 with e1 e2; subst e1; subst e2
      have hB' := hB
      cases hB' with
      | cells _ _ vs t fz hb hcc hle hw =>
        have hshape : w.shape? b = some (t, vs.size) := by unfold World.shape?; rw [hb]
        obtain ⟨fz', hfz'⟩ : ∃ fz' : Nat × Nat, fz' = if fz.1 == fz.2 then (vs.size, vs.size + 1) else (min fz.1 vs.size, max fz.2 (vs.size + 1)) := ⟨_, rfl⟩
        have hheap : ∀ m, (w.freeze ⟨b, vs.size, none⟩ 1).heap[m]? = if m = b then some (.cells vs t fz') else w.heap[m]? := by
          intro m
          unfold World.freeze
          rw [if_neg (by decide)]
          simp only [Array.getElem?_modify]
          by_cases hm : b = m
          · subst hm; simp only [if_true, hb, Option.map_some, hfz']
          · rw [if_neg hm, if_neg (Ne.symm hm)]
        have hfr0 : Fr (Own π st) w (w.freeze ⟨b, vs.size, none⟩ 1) := by
          refine ⟨rfl, rfl, rfl, by simp [World.freeze], fun m hm hnm => ?_, fun m x hx => ?_⟩
          · rw [hheap, if_neg]
            intro e; subst e; exact hnm ⟨i, _, base, hi, rfl, hp⟩
          · unfold World.shape? at hx ⊢
            rw [hheap]
            by_cases e : m = b
            · subst e; rw [if_pos rfl]; rw [hb] at hx; exact hx
            · rw [if_neg e]; exact hx
        have hfr : Fr (Mut π st) w (w.freeze ⟨b, vs.size, none⟩ 1) := hfr0.weaken fun _ _ h => .inl h
        obtain ⟨r, m⟩ := h.change (b' := .cells cc true) hi rfl hp hfr0 (fun m _ hm => by rw [hheap, if_neg hm]) fun M' hM' =>
          .cells cc true vs t fz' (by rw [hheap, if_pos rfl]) (fun j d hj => by
            obtain ⟨u, hu, hr, h1⟩ := hcc j d hj
            exact ⟨u, hu, hr.mono (.refl _) hfr hM', h1⟩) hle (fun _ => by
            by_cases e : fz.1 = fz.2
            · right; rw [hfz']; simp [e]
            · right
              have : (fz.1 == fz.2) = false := by simpa using e
              rw [hfz', this]
              rcases hw rfl with h' | h'
              · exact absurd h' e
              · simp; omega)
        obtain ⟨r2, m2⟩ := r.alike (st' := st) rfl fun j => by
          rw [St.get_put]
          by_cases e : j = i
          · subst e; rw [if_pos rfl]; exact hi
          · rw [if_neg e]
        refine ⟨.slice (some ⟨b, off, none⟩) n cap, w.freeze ⟨b, vs.size, none⟩ 1, π, ?_, r2, m.trans m2, (VR.sl _ _ _ _ _ b base off cap hp ho hc hn hr hq hsz).mv (m.trans m2)⟩
        simp [convert, run_underlying hs, run_underlying he, markStringish, hshape]
  · rename_i x e hs1 hs2 hx
    split at hd
    rotate_left
    · cases hd
    rename_i he
    split at hd
    rotate_left
    · cases hd
    rename_i m cs hsrc
    split at hd
    · cases hd
    rename_i hns
    rw [Option.map_eq_some_iff] at hd; obtain ⟨xs, hxs, hd⟩ := hd
    injection hd with e1 e2; subst e1; subst e2
    obtain ⟨base, cap, rfl, hl, h1, vs, hvl, h2, hcase⟩ := ok_elems h hv (fun b hb => by subst hb; simp [isStr] at hns) hsrc
    have hvs := bytesOfD_rel h2 hxs
    have hlen : xs.length = m := by rw [Nat.mul_one] at hvl; rw [← hvl, hvs]; simp
    rcases hcase with ⟨rfl, rfl, rfl⟩ | ⟨b, off, rfl, hc⟩
    · obtain rfl : xs = [] := List.eq_nil_of_length_eq_zero hlen
      exact .val h (run_convert_bytes_nil w src e (by assumption) he 0 0 dst (by assumption)) (.str _ _ rfl)
    · refine .val h (run_convert_bytes_arg w src e (by assumption) he b off m cap xs hlen (fun i hi => hc i _ ?_) dst (by assumption)) (.str _ _ ?_)
      · rw [hvs, List.getElem?_map, List.getElem?_eq_getElem (by omega)]
        simp [List.getD_eq_getElem?_getD, List.getElem?_eq_getElem (show i < xs.length by omega)]
      · simp [strOfNums, u8s]
  · cases hd
end Go.Proofs.YtdodnmeilhhhgaaGreatDoor.AM
