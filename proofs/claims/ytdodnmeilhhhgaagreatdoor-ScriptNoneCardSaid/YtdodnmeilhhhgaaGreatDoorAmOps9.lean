/- PART OF THE ABSTRACT MACHINE over the given model: Ops9. It carries no condition of its own. -/
import Derived.Test.YtdodnmeilhhhgaaGreatDoorAmOps8
import Derived.Deep.AppendSrc
import Derived.Lib.AppendZeros
set_option linter.unusedVariables false
set_option linter.unusedSimpArgs false
noncomputable section
namespace Go.Proofs.YtdodnmeilhhhgaaGreatDoor.AM
variable {P : Program} {π π' : Nm} {M : Nat → Prop} {w w' : World} {st st' : St}

def byteD (s : List UInt8) : List D := s.map fun b => .int .u8 b.toNat
theorem byteD_rel (b : ByteArray) {s : List UInt8} (h : b.data.toList = s) : All2 (VR P π M w) (byteD s) (byteCells b) := by
  unfold byteD byteCells; rw [h]
  exact All2.map_same s _ _ fun c => .int _ _
theorem byteD_all (s : List UInt8) : (byteD s).all D.one = true := by
  rw [List.all_eq_true]; intro d hd; simp only [byteD, List.mem_map] at hd; obtain ⟨b, _, rfl⟩ := hd; rfl

/-- What is appended, or copied: how many elements, and their cells. -/
def srcD (P : Program) (st : St) (s : Nat) : D → Option (Nat × List D)
  | .str b => if s = 1 ∧ b.length ≤ 140737488355328 then some (b.length, byteD b) else none
  | .sl i o e n c => if szOf P e = some s then (elems P st (.sl i o e n c)).map fun cs => (n, cs) else none
  | .nils => some (0, [])
  | .fsl c e n f => if szOf P e = some s then some (n, c) else none
  | _ => none

/-- A slice's cells in memory. -/
theorem ok_elems (h : Rel P π w st) {x : D} {v : Value} {s : Nat} (hv : VR P π (Mut π st) w x v) {n : Nat} {cs : List D} (hx : ∀ b, x ≠ .str b) (hd : srcD P st s x = some (n, cs)) :
    ∃ base cap, v = .slice base n cap ∧ cs.length = n * s ∧ cs.all D.one = true ∧ ∃ vs : List Value, vs.length = n * s ∧ All2 (VR P π (Mut π st) w) cs vs ∧
      ((base = none ∧ n = 0 ∧ cap = 0) ∨ ∃ b off, base = some ⟨b, off, none⟩ ∧ ∀ j u, vs[j]? = some u → w.cell? ⟨b, off + j, none⟩ = some u) := by
  cases hv <;> simp only [srcD] at hd <;> try (cases hd; done)
  · exact absurd rfl (hx _)
  · rename_i i o e n' c b base off cap hp ho hc hn hr hq hsz
    split at hd
    · rename_i hs
      rw [Option.map_eq_some_iff] at hd; obtain ⟨cs', hcs, hd⟩ := hd
      injection hd with e1 e2; subst e1; subst e2
      simp only [elems, hs, dropL_takeL] at hcs
      split at hcs
      · rename_i cc wr s' hi hs'
        injection hs' with hs'; subst hs'
        split at hcs
        · rename_i hle
          injection hcs with hcs; subst hcs
          have hlook : look st (.ptr i o) = some (cc.drop o) := by simp only [look, hi, dropL_eq]; rw [if_pos (by omega)]
          obtain ⟨b', off', vs, hve, hcell, h2, h1⟩ := look_reads h (.ptr i o b base hp) hlook
          injection hve with hve; injection hve with hve; injection hve with e1 e2 e3
          subst e1; subst e2
          have hlen : ((cc.drop o).take (n' * s)).length = n' * s := by simp only [List.length_take, List.length_drop]; omega
          refine ⟨some ⟨b, off, none⟩, cap, rfl, hlen, ?_, vs.take (n' * s), ?_, h2.take _, .inr ⟨b, off, rfl, fun j u hj => ?_⟩⟩
          · rw [List.all_eq_true] at h1 ⊢
            exact fun d hd => h1 d (List.mem_of_mem_take hd)
          · rw [← (h2.take (n' * s)).length]; exact hlen
          · rw [List.getElem?_take] at hj
            split at hj
            · rename_i hjl
              have hcap : cap ≠ 0 := by
                intro e0
                have : n' = 0 := by omega
                subst this; simp at hjl
              rw [ho hcap]; exact hcell j u hj
            · cases hj
        · cases hcs
      · cases hcs
    · cases hd
  · injection hd with hd; injection hd with e1 e2; subst e1; subst e2
    exact ⟨none, 0, rfl, by simp, rfl, [], by simp, .nil, .inl ⟨rfl, rfl, rfl⟩⟩
  · rename_i c e n' full b base cap vs hn hf hr hb hm h1 hl hc h2
    split at hd
    · rename_i hs
      injection hd with hd; injection hd with e1 e2; subst e1; subst e2
      rw [cellsOf_szOf hs] at hl
      exact ⟨some ⟨b, base, none⟩, cap, rfl, hl, h1, vs, by rw [← h2.length]; exact hl, h2, .inr ⟨b, base, rfl, hc⟩⟩
    · cases hd
  · split at hd
    · injection hd with hd; injection hd with e1 e2; subst e1; subst e2
      exact ⟨none, 0, rfl, by simp, rfl, [], by simp, .nil, .inl ⟨rfl, rfl, rfl⟩⟩
    · cases hd

/-- The model's own word for what is appended. -/
theorem ok_src (h : Rel P π w st) {x : D} {v : Value} {s : Nat} {tx : TypeId} (hv : VR P π (Mut π st) w x v) {n : Nat} {cs : List D} (hd : srcD P st s x = some (n, cs))
    (htx : (∃ e', P.underlying tx = some (.slice e') ∧ ∀ b, x ≠ .str b) ∨ P.underlying tx = some .string ∧ ∃ b, x = .str b) :
    ∃ news, Src P s tx v n news w ∧ Builtin.lenOf v = Sem.pure n ∧ All2 (VR P π (Mut π st) w) cs news ∧ cs.all D.one = true ∧ cs.length = n * s := by
  rcases htx with ⟨e', he', hx⟩ | ⟨hstr, b, rfl⟩
  · obtain ⟨base, cap, rfl, hl, h1, vs, hvl, h2, hcase⟩ := ok_elems h hv hx hd
    refine ⟨vs, ?_, rfl, h2, h1, hl⟩
    rcases hcase with ⟨rfl, rfl, rfl⟩ | ⟨b, off, rfl, hc⟩
    · obtain rfl : vs = [] := List.eq_nil_of_length_eq_zero (by simpa using hvl)
      exact Src.ofNil w he' 0
    · exact Src.ofSlice w he' _ n cap vs hvl (fun j u hj => by rw [add_none]; exact hc j u hj) fun u hu => by
        obtain ⟨j, hj⟩ := List.getElem?_of_mem hu
        have hlt : j < cs.length := by rw [h2.length]; exact (List.getElem?_eq_some_iff.1 hj).1
        obtain ⟨u', hu', hr⟩ := h2.get (List.getElem?_eq_getElem hlt)
        rw [hj] at hu'; injection hu' with hu'; subst hu'
        exact hr.oneCell (List.all_eq_true.1 h1 _ (List.getElem_mem hlt))
  · cases hv with
    | str _ a ha =>
      simp only [srcD] at hd
      split at hd
      · rename_i hc
        obtain ⟨rfl, hle⟩ := hc
        injection hd with hd; injection hd with e1 e2; subst e1; subst e2
        rw [← size_list ha]
        exact ⟨byteCells a, Src.ofString w hstr a, rfl, byteD_rel a ha, byteD_all _, by simp [byteD, size_list ha]⟩
      · cases hd

def sameId : D → D → Bool
  | .sl i _ _ _ _, .sl j _ _ _ _ => i == j
  | _, _ => false
def isStr : D → Bool
  | .str _ => true
  | _ => false
def okSrcType (P : Program) (tx : TypeId) (x : D) : Bool :=
  match P.underlying tx with
  | some (.slice _) => !isStr x
  | some .string => isStr x
  | _ => false
theorem okSrcType_spec {tx : TypeId} {x : D} (h : okSrcType P tx x = true) : (∃ e', P.underlying tx = some (.slice e') ∧ ∀ b, x ≠ .str b) ∨ P.underlying tx = some .string ∧ ∃ b, x = .str b := by
  unfold okSrcType at h
  split at h
  · rename_i e he
    exact .inl ⟨e, he, fun b hb => by subst hb; simp [isStr] at h⟩
  · rename_i he
    cases x <;> simp [isStr] at h
    exact .inr ⟨he, _, rfl⟩
  · cases h

def elemOk (P : Program) (e : TypeId) : D → Bool
  | .sl _ _ e' _ _ => e' == e
  | .fsl _ e' _ _ => e' == e
  | .str _ => P.bytesOf e == 1
  | .nils => true
  | _ => false
def appendD (P : Program) (st : St) (t tx : TypeId) (s x : D) : Option (D × St) :=
  match P.underlying t with
  | some (.slice e) =>
    match szOf P e, zeroD P e with
    | some sz, some z =>
      if z.isVal = true ∧ z.cells.length = sz ∧ 0 < sz ∧ 0 < P.bytesOf e ∧ okSrcType P tx x = true ∧ elemOk P e x = true then
        match srcD P st sz s, srcD P st sz x with
        | some (n, cs), some (m, ds) =>
          if isStr s = true then none
          else if m = 0 then some (s, st)
          else match s with
            | .nils => some (.sl st.next 0 e m .any, st.push (.cells ds true))
            | .fsl _ e' _ true => if e' = e ∧ (n + m) * P.bytesOf e ≤ 140737488355328 then some (.sl st.next 0 e (n + m) .any, st.push (.cells (cs ++ ds) true)) else none
            | .sl i o e' _ (.known c) => if e' = e then (if n + m ≤ c then (match poke st i (o + n * sz) ds with
                | some st' => some (.sl i o e (n + m) (.known c), st')
                | none => none)
              else if (n + m) * P.bytesOf e ≤ 140737488355328 then some (.sl st.next 0 e (n + m) .any, st.push (.cells (cs ++ ds) true)) else none) else none
            | .sl i o e' _ .any => if e' = e ∧ sameId s x = false ∧ (n + m) * P.bytesOf e ≤ 140737488355328 then (match st.get i with
                | some (.cells _ true) => some (.sl st.next 0 e (n + m) .any, (st.put i none).push (.cells (cs ++ ds) true))
                | _ => none) else none
            | _ => none
        | _, _ => none
      else none
    | _, _ => none
  | _ => none
/-- So many zeros behind nil: 'append([]T(nil), make([]T, n)...)'. -/
def appendZ (P : Program) (st : St) (t tx : TypeId) (s x : D) : Option (D × St) :=
  match P.underlying t, P.underlying tx, s, x with
  | some (.slice e), some (.int _), .nils, .int _ n =>
    match szOf P e, zeroD P e with
    | some sz, some z =>
      if z.isVal = true ∧ z.cells.length = sz ∧ 0 < sz ∧ 0 < n ∧ n.toNat * P.bytesOf e ≤ 140737488355328 ∧ n.toNat ≤ 16777216 then
        some (.sl st.next 0 e n.toNat .any, st.push (.cells (zeros z.cells n.toNat) true))
      else none
    | _, _ => none
  | _, _, _, _ => none
end Go.Proofs.YtdodnmeilhhhgaaGreatDoor.AM
