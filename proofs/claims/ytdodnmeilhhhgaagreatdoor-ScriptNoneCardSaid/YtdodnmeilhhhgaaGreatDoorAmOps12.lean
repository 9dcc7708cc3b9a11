/- PART OF THE ABSTRACT MACHINE over the given model: Ops12. It carries no condition of its own. -/
import Derived.Test.YtdodnmeilhhhgaaGreatDoorAmOps11
set_option linter.unusedVariables false
set_option linter.unusedSimpArgs false
noncomputable section
namespace Go.Proofs.YtdodnmeilhhhgaaGreatDoor.AM
variable {P : Program} {π π' : Nm} {M : Nat → Prop} {w w' : World} {st st' : St}

/-! ### copy, clear -/
/-- Where a slice's cells may be written. -/
def dstD : D → Option (Nat × Nat × TypeId × Nat)
  | .sl i o e n _ => some (i, o, e, n)
  | _ => none
def copyD (P : Program) (st : St) (t : TypeId) (d x : D) : Option (D × St) :=
  match P.underlying t with
  | some (.slice e) => match szOf P e with
    | some s => match srcD P st s x with
      | some (m, cs) => match slen d with
        | some n => if min m n = 0 then some (.int .i64 0, st) else
          (match dstD d with
           | some (i, o, e', _) => if e' = e then (match poke st i o (cs.take (min m n * s)) with
              | some st' => some (.int .i64 (min m n : Nat), st')
              | none => none) else none
           | none => none)
        | none => none
      | none => none
    | none => none
  | _ => none

/-- The first cells of what is copied. -/
theorem ok_firstCells (h : Rel P π w st) {x : D} {v : Value} {s : Nat} (hv : VR P π (Mut π st) w x v) {m : Nat} {cs : List D} (hd : srcD P st s x = some (m, cs)) {k : Nat} (hk : k ≤ m) :
    ∃ vs : List Value, (Builtin.firstCells s k v).run P w = .ok vs.toArray w ∧ All2 (VR P π (Mut π st) w) (cs.take (k * s)) vs ∧ (cs.take (k * s)).all D.one = true ∧ (cs.take (k * s)).length = k * s ∧ (Builtin.lenOf v).run P w = .ok m w := by
  by_cases hstr : ∃ b, x = .str b
  · obtain ⟨b, rfl⟩ := hstr
    cases hv with
    | str _ a ha =>
      simp only [srcD] at hd
      split at hd
      · rename_i hc
        obtain ⟨rfl, hle⟩ := hc
        injection hd with hd; injection hd with e1 e2; subst e1; subst e2
        refine ⟨(byteCells a).take k, ?_, ?_, ?_, ?_, ?_⟩
        · simp only [Builtin.firstCells, Sem.run_pure]
          congr 1
          apply Array.ext'
          simp [byteCells, ByteArray.data_extract, List.extract_eq_take_drop, List.map_take]
        · rw [Nat.mul_one]; exact (byteD_rel a ha).take k
        · have := byteD_all b
          rw [List.all_eq_true] at this ⊢
          exact fun d hd => this d (List.mem_of_mem_take hd)
        · simp [byteD]; omega
        · simp [Builtin.lenOf, size_list ha]
      · cases hd
  · obtain ⟨base, cap, rfl, hl, h1, vs, hvl, h2, hcase⟩ := ok_elems h hv (fun b hb => hstr ⟨b, hb⟩) hd
    have hks : k * s ≤ m * s := Nat.mul_le_mul_right _ hk
    refine ⟨vs.take (k * s), ?_, h2.take _, ?_, by rw [List.length_take]; omega, rfl⟩
    · rcases hcase with ⟨rfl, rfl, rfl⟩ | ⟨b, off, rfl, hc⟩
      · obtain rfl : vs = [] := List.eq_nil_of_length_eq_zero (by simpa using hvl)
        simp [Builtin.firstCells]
      · simp only [Builtin.firstCells]
        rw [run_loadCells b off vs hc (k * s) (by omega)]
    · rw [List.all_eq_true] at h1 ⊢
      exact fun d hd => h1 d (List.mem_of_mem_take hd)

theorem ok_copy (h : Rel P π w st) {t tx ty : TypeId} {d x r : D} {v u : Value} (hv : VR P π (Mut π st) w d v) (hu : VR P π (Mut π st) w x u) (hd : copyD P st t d x = some (r, st')) :
    SOK P π w st (Builtin.copy_ #[t, tx] ty #[v, u]) r st' := by
  unfold copyD at hd
  split at hd
  rotate_left
  · cases hd
  rename_i e ht
  split at hd
  rotate_left
  · cases hd
  rename_i s hs
  split at hd
  rotate_left
  · cases hd
  rename_i m cs hx
  split at hd
  rotate_left
  · cases hd
  rename_i n hn
  obtain ⟨base, cap, rfl⟩ := slen_value hv hn
  obtain ⟨vs, hrun, g2, g1, gl, hlen⟩ := ok_firstCells h hu hx (k := min m n) (Nat.min_le_left _ _)
  have hmin : Nat.min m n = min m n := rfl
  split at hd
  · rename_i h0
    injection hd with hd; injection hd with e1 e2; subst e1; subst e2
    rw [h0] at hrun g2
    simp only [Nat.zero_mul, List.take_zero] at g2
    cases g2
    refine .val h (v := .int .i64 0) ?_ (.int _ _)
    cases base <;> simp [Builtin.copy_, run_underlying ht, hlen, run_sizeOf hs, hmin, h0, hrun, storeCells, goInt]
  · rename_i h0
    split at hd
    · rename_i i o e' n' hdst
      split at hd
      · rename_i he; subst he
        split at hd
        · rename_i st1 hp
          injection hd with hd; injection hd with e1 e2; subst e1; subst e2
          obtain ⟨c0, rfl⟩ : ∃ c0, d = .sl i o e' n' c0 := by
            cases d <;> simp only [dstD] at hdst <;> try (cases hdst; done)
            injection hdst with hdst; injection hdst with e1 hdst; injection hdst with e2 hdst; injection hdst with e3 e4
            subst e1; subst e2; subst e3; subst e4; exact ⟨_, rfl⟩
          simp only [slen] at hn; injection hn with hn; subst hn
          cases hv with
          | sl _ _ _ _ _ b base0 off _ hpi ho hc hn' hr hq hsz' =>
            unfold poke at hp
            simp only [pokeL_map] at hp
            split at hp
            rotate_left
            · cases hp
            rename_i cc hi0
            split at hp
            rotate_left
            · cases hp
            rename_i hle
            injection hp with hp; subst hp
            have hoff : off = base0 + o := ho (by omega)
            subst hoff
            obtain ⟨n0, b0, hp0, hlt0, hB⟩ := h.blk _ _ hi0
            rw [hpi] at hp0; injection hp0 with hp0; injection hp0 with e1 e2; subst e1; subst e2
            obtain ⟨y, hy, hyl⟩ := shape_of_blk hB
            obtain ⟨w', hw', r, mv⟩ := ok_storeCells vs _ 0 (base0 + o) o cc w st h g2 g1 hi0 hpi rfl (by omega) ⟨y, hy, by omega⟩
            refine ⟨_, w', π, ?_, r, mv, .int _ _⟩
            simp [Builtin.copy_, run_underlying ht, hlen, run_sizeOf hs, hmin, hrun, hw', goInt]
        · cases hd
      · cases hd
    · cases hd

def clearD (P : Program) (st : St) (t : TypeId) (d : D) : Option (D × St) :=
  match P.underlying t, d with
  | some (.slice _), .nils => some (.tup [], st)
  | some (.slice e), .sl i o e' n _ => if n = 0 then some (.tup [], st) else if e' = e then
    (match szOf P e, zeroD P e with
     | some s, some z => if z.isVal = true ∧ z.cells.length = s then (match poke st i o (zeros z.cells n) with
        | some st' => some (.tup [], st')
        | none => none) else none
     | _, _ => none) else none
  | _, _ => none
theorem ok_clear (h : Rel P π w st) {t ty : TypeId} {d r : D} {v : Value} (hv : VR P π (Mut π st) w d v) (hd : clearD P st t d = some (r, st')) : SOK P π w st (Builtin.clear_ #[t] ty #[v]) r st' := by
  unfold clearD at hd
  split at hd
  · rename_i e ht
    injection hd with hd; injection hd with e1 e2; subst e1; subst e2
    cases hv
    exact .val h (v := .tuple #[]) (by simp [Builtin.clear_, run_underlying ht]) (.tup [] [] .nil)
  · rename_i e i o e' n c ht
    cases hv with
    | sl _ _ _ _ _ b base0 off cap hpi ho hc hn' hr hq hsz' =>
      split at hd
      · rename_i h0; subst h0
        injection hd with hd; injection hd with e1 e2; subst e1; subst e2
        exact .val h (v := .tuple #[]) (by simp [Builtin.clear_, run_underlying ht]) (.tup [] [] .nil)
      · rename_i h0
        split at hd
        rotate_left
        · cases hd
        rename_i he; subst he
        split at hd
        rotate_left
        · cases hd
        rename_i s z hs hz
        split at hd
        rotate_left
        · cases hd
        rename_i hcond
        split at hd
        rotate_left
        · cases hd
        rename_i st1 hp
        injection hd with hd; injection hd with e1 e2; subst e1; subst e2
        obtain ⟨zv, hzr, hzvr⟩ := ok_zeroValue (w := w) (π := π) (M := Mut π st) hz
        obtain ⟨hcv, hone⟩ := isVal_cells hzvr hcond.1
        have hz2 := zeros_rel hcv n
        unfold poke at hp
        simp only [pokeL_map] at hp
        split at hp
        rotate_left
        · cases hp
        rename_i cc hi0
        split at hp
        rotate_left
        · cases hp
        rename_i hle
        injection hp with hp; subst hp
        have hoff : off = base0 + o := ho (by omega)
        subst hoff
        obtain ⟨n0, b0, hp0, hlt0, hB⟩ := h.blk _ _ hi0
        rw [hpi] at hp0; injection hp0 with hp0; injection hp0 with e1 e2; subst e1; subst e2
        obtain ⟨y, hy, hyl⟩ := shape_of_blk hB
        obtain ⟨w', hw', r, mv⟩ := ok_storeCells _ _ 0 (base0 + o) o cc w st h hz2 (zeros_all hone) hi0 hpi rfl (by omega) ⟨y, hy, by omega⟩
        refine ⟨.tuple #[], w', π, ?_, r, mv, .tup [] [] .nil⟩
        obtain ⟨k, rfl⟩ : ∃ k, n = k + 1 := ⟨n - 1, by omega⟩
        have hzc : Builtin.zeroCells zv.cells (k + 1) = (Array.range ((k + 1) * zv.cells.size)).map fun i => zv.cells[i % zv.cells.size]! := rfl
        rw [← hzc] at hw'
        simp [Builtin.clear_, run_underlying ht, hzr, hw']
  · cases hd

/-! ### min, max of whole numbers -/
def maxD : List D → Option D
  | .int k x :: rest => rest.foldlM (fun a b => match a, b with | .int k x, .int _ y => some (.int k (if y > x then y else x)) | _, _ => none) (.int k x)
  | _ => none
def minD : List D → Option D
  | .int k x :: rest => rest.foldlM (fun a b => match a, b with | .int k x, .int _ y => some (.int k (if y < x then y else x)) | _, _ => none) (.int k x)
  | _ => none
theorem ok_fold2 {f : D → D → Option D} {g : Value → Value → Sem Value} (hfg : ∀ a b c u v, VR P π M w a u → VR P π M w b v → f a b = some c → ∃ z, (g u v).run P w = .ok z w ∧ VR P π M w c z) :
    ∀ (l : List D) (l' : List Value) (a : D) (u : Value) (r : D), All2 (VR P π M w) l l' → VR P π M w a u → l.foldlM f a = some r → ∃ z, (l'.foldlM g u).run P w = .ok z w ∧ VR P π M w r z := by
  intro l
  induction l with
  | nil =>
    intro l' a u r h ha hr
    cases h
    simp only [List.foldlM_nil] at hr
    injection hr with hr; subst hr
    exact ⟨u, by simp, ha⟩
  | cons b l ih =>
    intro l' a u r h ha hr
    cases h with
    | cons hb hl =>
      rename_i v l'
      rw [List.foldlM_cons] at hr
      cases hc : f a b with
      | none => rw [hc] at hr; cases hr
      | some c =>
        rw [hc] at hr
        obtain ⟨z, hz, hrz⟩ := hfg a b c u v ha hb hc
        obtain ⟨z', hz', hrz'⟩ := ih l' c z r hl hrz hr
        exact ⟨z', by rw [List.foldlM_cons]; simp [hz, hz'], hrz'⟩
theorem ok_max (h : Rel P π w st) {ts : Array TypeId} {ty : TypeId} {l : List D} {l' : Array Value} {r : D} (hl : All2 (VR P π (Mut π st) w) l l'.toList) (hd : maxD l = some r) : SOK P π w st (Builtin.max_ ts ty l') r st := by
  unfold maxD at hd
  split at hd
  · rename_i k x rest
    obtain ⟨l'⟩ := l'
    cases hl with
    | cons ha hr =>
      rename_i v vs
      obtain ⟨z, hz, hrz⟩ := ok_fold2 (P := P) (w := w) (π := π) (M := Mut π st) (g := Builtin.max2) (fun a b c u v hu hv hc => by
        split at hc
        · cases hu; cases hv; injection hc with hc; subst hc; exact ⟨_, rfl, .int _ _⟩
        · cases hc) rest vs _ v r hr ha hd
      exact .val h (by simpa [Builtin.max_] using hz) hrz
  · cases hd
theorem ok_min (h : Rel P π w st) {ts : Array TypeId} {ty : TypeId} {l : List D} {l' : Array Value} {r : D} (hl : All2 (VR P π (Mut π st) w) l l'.toList) (hd : minD l = some r) : SOK P π w st (Builtin.min_ ts ty l') r st := by
  unfold minD at hd
  split at hd
  · rename_i k x rest
    obtain ⟨l'⟩ := l'
    cases hl with
    | cons ha hr =>
      rename_i v vs
      obtain ⟨z, hz, hrz⟩ := ok_fold2 (P := P) (w := w) (π := π) (M := Mut π st) (g := Builtin.min2) (fun a b c u v hu hv hc => by
        split at hc
        · cases hu; cases hv; injection hc with hc; subst hc; exact ⟨_, rfl, .int _ _⟩
        · cases hc) rest vs _ v r hr ha hd
      exact .val h (by simpa [Builtin.min_] using hz) hrz
  · cases hd
end Go.Proofs.YtdodnmeilhhhgaaGreatDoor.AM
