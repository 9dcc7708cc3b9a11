/- PART OF THE ABSTRACT MACHINE over the given model: Ops5. It carries no condition of its own. -/
import Derived.Test.YtdodnmeilhhhgaaGreatDoorAmOps4
set_option linter.unusedVariables false
set_option linter.unusedSimpArgs false
noncomputable section
namespace Go.Proofs.YtdodnmeilhhhgaaGreatDoor.AM
variable {P : Program} {π π' : Nm} {M : Nat → Prop} {w w' : World} {st st' : St}

theorem ok_intBin {op : BinOp} {k : IntKind} {a b : Int} {d : D} (h : intBin op k a b = some d) (t : TypeId) :
    ∃ v, (binOp op t (.int k a) (.int k b)).run P w = .ok v w ∧ VR P π M w d v := by
  cases op <;> simp only [intBin] at h <;> first
    | (cases h; done)
    | (injection h with h; (subst h); refine ⟨_, ?_, .int _ _⟩; first | (simp [binOp, Op.intArith]; done) | (simp [binOp, Op.intArith]; rfl))
    | (injection h with h; (subst h); refine ⟨_, ?_, .bool _⟩; first | (simp [binOp, Op.intCmp]; done) | (simp [binOp, Op.intCmp]; rfl))
    | (injection h with h; (subst h); refine ⟨_, ?_, .int _ _⟩; first | (simp only [binOp, Op.intBits]; simp; done) | (simp only [binOp, Op.intBits]; simp; rfl))
    | (split at h
       · cases h
       · rename_i hb; injection h with h; (subst h); refine ⟨_, ?_, .int _ _⟩; first | (simp [binOp, Op.intDiv, hb]; done) | (simp [binOp, Op.intDiv, hb]; rfl))
theorem ok_intShift {op : BinOp} {k k' : IntKind} {a b : Int} {d : D} (h : intShift op k a b = some d) (t : TypeId) :
    ∃ v, (binOp op t (.int k a) (.int k' b)).run P w = .ok v w ∧ VR P π M w d v := by
  unfold intShift at h
  split at h
  · cases h
  · rename_i hb
    cases op <;> simp only at h <;> first
      | (cases h; done)
      | (injection h with h; (subst h); refine ⟨_, ?_, .int _ _⟩; first | (simp [binOp, Op.shift, hb]; done) | (simp [binOp, Op.shift, hb]; rfl))
theorem ok_floatBin {op : BinOp} {k : FloatKind} {a b : Nat} {d : D} (h : floatBin op k a b = some d) (t : TypeId) :
    ∃ v, (binOp op t (.float k a) (.float k b)).run P w = .ok v w ∧ VR P π M w d v := by
  cases op <;> simp only [floatBin] at h <;> first
    | (cases h; done)
    | (rw [Option.map_eq_some_iff] at h; obtain ⟨r, hr, rfl⟩ := h; refine ⟨_, ?_, .float _ _⟩; first | (simp [binOp, Op.floatArith, hr]; done) | (simp [binOp, Op.floatArith, hr]; rfl))
    | (injection h with h; (subst h); refine ⟨_, ?_, .bool _⟩; first | (simp [binOp, Op.floatCmp]; done) | (simp [binOp, Op.floatCmp]; rfl))
theorem size_list {b : ByteArray} {s : List UInt8} (h : b.data.toList = s) : b.size = s.length := by rw [← h]; simp
theorem ok_strBin {op : BinOp} {s u : List UInt8} {a b : ByteArray} (ha : a.data.toList = s) (hb : b.data.toList = u) {d : D} (h : strBin op s u = some d) (t : TypeId) :
    ∃ v, (binOp op t (.string a) (.string b)).run P w = .ok v w ∧ VR P π M w d v := by
  have e1 : a.toList = s := by rw [ByteArray.toList_eq]; exact ha
  have e2 : b.toList = u := by rw [ByteArray.toList_eq]; exact hb
  cases op <;> simp only [strBin] at h <;> first
    | (cases h; done)
    | (injection h with h; (subst h); refine ⟨_, ?_, .bool _⟩; first | (simp [binOp, Op.stringOp, e1, e2]; done) | (simp [binOp, Op.stringOp, e1, e2]; rfl))
    | skip
   
  split at h
  · cases h
  · rename_i hle
    injection h with h; subst h
    refine ⟨.string (a ++ b), ?_, .str _ _ (string_add ha hb)⟩
    have : ¬ ((a.size + b.size : Nat) : Int) > IntKind.i64.max := by
      rw [size_list ha, size_list hb]; simpa [IntKind.max, IntKind.signed, IntKind.bits] using hle
    simp only [binOp, Op.stringOp]
    rw [if_neg this]; rfl

theorem ok_bin (h : Rel P π w st) {op : BinOp} {t : TypeId} {x y : Operand} {a b d : D} {u v : Value} (hu : VR P π (Mut π st) w a u) (hv : VR P π (Mut π st) w b v) (hd : binD P op t x y a b = some d) :
    SOK P π w st (do eqGuard op t x y u v; binOp op t u v) d st := by
  unfold binD at hd
  have done {r : Value} (hg : (eqGuard op t x y u v).run P w = .ok () w) (hr : (binOp op t u v).run P w = .ok r w) (hvr : VR P π (Mut π st) w d r) :
      SOK P π w st (do eqGuard op t x y u v; binOp op t u v) d st := .val h (by simp only [Sem.run_bind, hg, Result.andThen_ok]; exact hr) hvr
  split at hd
  · cases hu; cases hv
    rename_i k m k' n
    have hg : (eqGuard op t x y (.int k m) (.int k' n)).run P w = .ok () w := run_eqGuard_other _ _ _ _ _ _ (by simp) (by simp)
    split at hd
    · obtain ⟨r, hr, hvr⟩ := ok_intShift (P := P) (π := π) (M := Mut π st) (w := w) (k' := k') hd t
      exact done hg hr hvr
    · rename_i hs
      split at hd
      · rename_i e; subst e
        obtain ⟨r, hr, hvr⟩ := ok_intBin (P := P) (π := π) (M := Mut π st) (w := w) hd t
        exact done hg hr hvr
      · cases hd
  · cases hu; cases hv
    rename_i k m k' n
    split at hd
    · rename_i e; subst e
      obtain ⟨r, hr, hvr⟩ := ok_floatBin (P := P) (π := π) (M := Mut π st) (w := w) hd t
      exact done (run_eqGuard_other _ _ _ _ _ _ (by simp) (by simp)) hr hvr
    · cases hd
  · cases hu with
    | str s a ha =>
      cases hv with
      | str s' b hb =>
        obtain ⟨r, hr, hvr⟩ := ok_strBin (P := P) (π := π) (M := Mut π st) (w := w) ha hb hd t
        exact done (run_eqGuard_other _ _ _ _ _ _ (by simp) (by simp)) hr hvr
  · rename_i n1 n2 n3
    split at hd
    · split at hd
      · rename_i hg
        rw [Option.map_eq_some_iff] at hd; obtain ⟨r, hr, rfl⟩ := hd
        have he := ok_eqD h 10000 t a b u v r hu hv hr
        refine done (ok_guard hu hv hg) (r := .bool r) ?_ (.bool _)
        have : binOp .eql t u v = (do pure (.bool (← Op.equal t u v))) := by
          cases hu <;> cases hv <;> first | rfl | (exfalso; first | exact n1 _ _ _ _ rfl rfl | exact n2 _ _ _ _ rfl rfl | exact n3 _ _ rfl rfl) | (simp [guardD] at hg; done)
        rw [this]; simp [Op.equal, Op.maxDepth, he]
      · cases hd
    · split at hd
      · rename_i hg
        rw [Option.map_eq_some_iff] at hd; obtain ⟨r, hr, rfl⟩ := hd
        have he := ok_eqD h 10000 t a b u v r hu hv hr
        refine done (ok_guard hu hv hg) (r := .bool (!r)) ?_ (.bool _)
        have : binOp .neq t u v = (do pure (.bool (!(← Op.equal t u v)))) := by
          cases hu <;> cases hv <;> first | rfl | (exfalso; first | exact n1 _ _ _ _ rfl rfl | exact n2 _ _ _ _ rfl rfl | exact n3 _ _ rfl rfl) | (simp [guardD] at hg; done)
        rw [this]; simp [Op.equal, Op.maxDepth, he]
      · cases hd
    · cases hd

/-! ### One operand -/
def unD (op : UnOp) (x : D) : Option D :=
  match op, x with
  | .neg, .int k n => some (.int k (k.wrap (0 - n)))
  | .xor, .int k n => intBin .xor k (if k.signed then -1 else k.max) n
  | .not, .bool b => some (.bool !b)
  | .neg, .float k b => some (.float k (Op.negFloat k b))
  | _, _ => none
theorem ok_un (h : Rel P π w st) {op : UnOp} {x d : D} {v : Value} (hv : VR P π (Mut π st) w x v) (hd : unD op x = some d) : SOK P π w st (Op.unary op v) d st := by
  unfold unD at hd
  split at hd
  · cases hv; injection hd with hd; subst hd; exact .val h (by simp [Op.unary, Op.intArith]) (.int _ _)
  · cases hv
    obtain ⟨r, hr, hvr⟩ := ok_intBin (P := P) (π := π) (M := Mut π st) (w := w) hd 0
    exact .val h (by simpa [Op.unary, binOp] using hr) hvr
  · cases hv; injection hd with hd; subst hd; exact .val h (by simp [Op.unary]) (.bool _)
  · cases hv; injection hd with hd; subst hd; exact .val h (by simp [Op.unary]) (.float _ _)
  · cases hd
end Go.Proofs.YtdodnmeilhhhgaaGreatDoor.AM
