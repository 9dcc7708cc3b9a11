/- PART OF THE ABSTRACT MACHINE over the given model: Ops. It carries no condition of its own. -/
import Derived.Test.YtdodnmeilhhhgaaGreatDoorAmMem
set_option linter.unusedVariables false
set_option linter.unusedSimpArgs false
noncomputable section
namespace Go.Proofs.YtdodnmeilhhhgaaGreatDoor.AM

/-! ### The evaluator's operations -/
def ofV1 : Value → D
  | .bool b => .bool b
  | .int k n => .int k n
  | .float k n => .float k n
  | .string s => .str s.data.toList
  | .pointer none => .nilp
  | .slice none 0 0 => .nils
  | .map none => .nilm
  | .nilFunc => .nilf
  | .nilIface => .nili
  | .func fn a b => if a.size = 0 then (if b.size = 0 then .func fn [] [] else .undef) else .undef
  | _ => .undef
def ofV : Value → D
  | .agg cs => .agg (cs.toList.map ofV1)
  | .tuple cs => .tup (cs.toList.map ofV1)
  | v => ofV1 v

/-- A frame: how many slots, and what is in them. -/
structure Fm where
  n : Nat
  tr : Tr D
def Fm.get (fr : Fm) (t : Nat) : D := (fr.tr.get t).getD .undef
def Fm.put (fr : Fm) (t : Nat) (d : D) : Fm := match fr with | ⟨n, tr⟩ => if t < n then ⟨n, tr.put t (some d)⟩ else ⟨n, tr⟩
theorem Fm.put_eq (fr : Fm) (t : Nat) (d : D) : fr.put t d = if t < fr.n then { fr with tr := fr.tr.put t (some d) } else fr := rfl
def Fm.putO (fr : Fm) (t : Option Nat) (d : D) : Fm := match t with | some t => fr.put t d | none => fr
def Fm.ev (P : Program) (fr : Fm) : Operand → D
  | .tmp t => fr.get t
  | .const v => ofV v
  | .global g => if g < P.globals.size then .ptr g 0 else .undef
  | .func f => .func (.func f) [] []

/-! Lists, gone through once. -/
def dropL : List D → Nat → Option (List D)
  | c, 0 => some c
  | [], _ + 1 => none
  | _ :: l, n + 1 => dropL l n
def takeL : List D → Nat → Option (List D)
  | _, 0 => some []
  | [], _ + 1 => none
  | x :: l, n + 1 => match takeL l n with | some r => some (x :: r) | none => none
def overL : List D → List D → Option (List D)
  | c, [] => some c
  | [], _ :: _ => none
  | _ :: c, d :: ds => match overL c ds with | some r => some (d :: r) | none => none
def pokeL : List D → Nat → List D → Option (List D)
  | c, 0, ds => overL c ds
  | [], _ + 1, _ => none
  | x :: l, n + 1, ds => match pokeL l n ds with | some r => some (x :: r) | none => none
theorem dropL_eq : ∀ (c : List D) (o : Nat), dropL c o = if o ≤ c.length then some (c.drop o) else none := by
  intro c
  induction c with
  | nil => intro o; cases o <;> simp [dropL]
  | cons x l ih => intro o; cases o with
    | zero => simp [dropL]
    | succ o => simp [dropL, ih]
theorem takeL_eq : ∀ (c : List D) (n : Nat), takeL c n = if n ≤ c.length then some (c.take n) else none := by
  intro c
  induction c with
  | nil => intro o; cases o <;> simp [takeL]
  | cons x l ih => intro o; cases o with
    | zero => simp [takeL]
    | succ o => simp only [takeL, ih, List.length_cons, Nat.add_le_add_iff_right, List.take_succ_cons]; split <;> rename_i h <;> split at h <;> simp_all
theorem overL_eq : ∀ (c ds : List D), overL c ds = if ds.length ≤ c.length then some (ds ++ c.drop ds.length) else none := by
  intro c
  induction c with
  | nil => intro ds; cases ds <;> simp [overL]
  | cons x l ih => intro ds; cases ds with
    | nil => simp [overL]
    | cons d ds => simp only [overL, ih, List.length_cons, Nat.add_le_add_iff_right, List.drop_succ_cons, List.cons_append]; split <;> rename_i h <;> split at h <;> simp_all
def splice (c ds : List D) (o : Nat) : List D := c.take o ++ ds ++ c.drop (o + ds.length)
theorem pokeL_eq : ∀ (c : List D) (o : Nat) (ds : List D), pokeL c o ds = if o + ds.length ≤ c.length then some (splice c ds o) else none := by
  intro c
  induction c with
  | nil => intro o ds; cases o with
    | zero => simp only [pokeL, overL_eq, splice]; simp
    | succ o => simp only [pokeL]; rw [if_neg (by simp only [List.length_nil]; omega)]
  | cons x l ih => intro o ds; cases o with
    | zero => simp only [pokeL, overL_eq, splice]; simp
    | succ o =>
      have e : (o + 1 + ds.length ≤ (x :: l).length) = (o + ds.length ≤ l.length) := by apply propext; simp only [List.length_cons]; omega
      simp only [pokeL, ih, e, splice, List.take_succ_cons, show o + 1 + ds.length = (o + ds.length) + 1 from by omega, List.drop_succ_cons, List.cons_append]
      split <;> rename_i h <;> split at h <;> simp_all
theorem takeL_map (c : List D) (n : Nat) : (takeL c n).map D.agg = if n ≤ c.length then some (D.agg (c.take n)) else none := by rw [takeL_eq]; split <;> rfl
theorem dropL_takeL (c : List D) (o n : Nat) : (dropL c o).bind (takeL · n) = if o + n ≤ c.length then some ((c.drop o).take n) else none := by
  rw [dropL_eq]
  split
  · rw [Option.bind_some, takeL_eq, List.length_drop]
    by_cases h : o + n ≤ c.length
    · rw [if_pos h, if_pos (by omega)]
    · rw [if_neg h, if_neg (by omega)]
  · rw [if_neg (by omega)]; rfl
theorem pokeL_map (st : St) (i : Nat) (c : List D) (o : Nat) (ds : List D) : ((pokeL c o ds).map fun c' => st.put i (some (.cells c' true))) = if o + ds.length ≤ c.length then some (st.put i (some (.cells (splice c ds o) true))) else none := by rw [pokeL_eq]; split <;> rfl

def isAggD : TypeDesc → Bool
  | .struct _ | .array _ _ => true
  | _ => false
def D.isVal : D → Bool
  | .undef | .tup _ => false
  | .agg c => c.all D.one
  | _ => true

section
variable (P : Program)
def szOf (t : TypeId) : Option Nat := (P.info? t).map (·.size)
def zeroD (t : TypeId) : Option D := ((P.info? t).bind (·.zero)).map ofV
/-- The cells of a value of a type, at the head of cells. -/
def takeAs (t : TypeId) (cs : List D) : Option D :=
  match P.underlying t with
  | none => none
  | some d => if isAggD d then (match szOf P t with
      | none => none
      | some n => (takeL cs n).map D.agg) else cs.head?
end

/-- The cells from where a pointer points to on. -/
def look (st : St) : D → Option (List D)
  | .ptr i o => match st.get i with | some (.cells c _) => dropL c o | _ => none
  | .fptr c o => dropL c o
  | _ => none
/-- The cells of a slice. -/
def elems (P : Program) (st : St) : D → Option (List D)
  | .sl i o e n _ => match st.get i, szOf P e with
    | some (.cells c _), some s => (dropL c o).bind (takeL · (n * s))
    | _, _ => none
  | .nils => some []
  | .fsl c _ _ _ => some c
  | _ => none
def slen : D → Option Nat
  | .sl _ _ _ n _ => some n
  | .nils => some 0
  | .fsl _ _ n _ => some n
  | _ => none
def selem : D → Option TypeId
  | .sl _ _ e _ _ => some e
  | .fsl _ e _ _ => some e
  | _ => none

/-- Cells are written from a place on, perhaps beyond what is known. -/
def poke (st : St) (i o : Nat) (ds : List D) : Option St :=
  match st.get i with
  | some (.cells c true) => (pokeL c o ds).map fun c' => st.put i (some (.cells c' true))
  | _ => none

/-! ### Frames and values -/
variable {P : Program} {π π' : Nm} {M : Nat → Prop} {w w' : World} {st st' : St}

theorem VR.ofV1 (v : Value) : VR P π M w (ofV1 v) v := by
  unfold AM.ofV1
  split <;> try (first | exact .undef _ | exact .bool _ | exact .int _ _ | exact .float _ _ | exact .str _ _ rfl | exact .nilp | exact .nils | exact .nilm | exact .nilf | exact .nili)
  rename_i fn a b
  by_cases ha : a.size = 0
  · by_cases hb : b.size = 0
    · obtain rfl := Array.eq_empty_of_size_eq_zero ha
      obtain rfl := Array.eq_empty_of_size_eq_zero hb
      exact .func fn [] [] [] [] .nil .nil
    · rw [if_pos ha, if_neg hb]; exact .undef _
  · rw [if_neg ha]; exact .undef _
theorem VR.ofV1s (l : List Value) : All2 (VR P π M w) (l.map AM.ofV1) l := by
  induction l with
  | nil => exact .nil
  | cons v l ih => exact .cons (.ofV1 v) ih
theorem VR.ofV (v : Value) : VR P π M w (ofV v) v := by
  unfold AM.ofV
  split
  · exact .agg _ _ (VR.ofV1s _)
  · exact .tup _ _ (VR.ofV1s _)
  · exact .ofV1 _

/-- A frame and slots. -/
structure FrR (P : Program) (π : Nm) (M : Nat → Prop) (w : World) (fr : Fm) (tmps : Array Value) : Prop where
  n : fr.n = tmps.size
  r : ∀ t, VR P π M w (fr.get t) (tmps.getD t undef)
theorem FrR.mv {fr : Fm} {tmps : Array Value} (h : FrR P π (Mut π st) w fr tmps) (m : Mv π w st π' w' st') : FrR P π' (Mut π' st') w' fr tmps := ⟨h.n, fun t => (h.r t).mv m⟩
theorem FrR.put {fr : Fm} {tmps : Array Value} (h : FrR P π M w fr tmps) (t : Nat) {d : D} {v : Value} (hv : VR P π M w d v) : FrR P π M w (fr.put t d) (tmps.setIfInBounds t v) := by
  rw [Fm.put_eq]
  by_cases ht : t < fr.n
  · rw [if_pos ht]
    refine ⟨by simpa using h.n, fun u => ?_⟩
    have ht' : t < tmps.size := h.n ▸ ht
    by_cases e : u = t
    · subst e; simp [Fm.get, Tr.get_put, Array.getD_eq_getD_getElem?, ht']; exact hv
    · have h1 : ({ fr with tr := fr.tr.put t (some d) } : Fm).get u = fr.get u := by simp [Fm.get, Tr.get_put, e]
      rw [h1]
      have h2 : (tmps.setIfInBounds t v).getD u undef = tmps.getD u undef := by
        simp [Array.getD_eq_getD_getElem?, Array.getElem?_setIfInBounds_ne (Ne.symm e)]
      rw [h2]; exact h.r u
  · rw [if_neg ht]
    have : tmps.setIfInBounds t v = tmps := Array.setIfInBounds_eq_of_size_le (by rw [← h.n]; omega)
    rw [this]; exact h
theorem FrR.ev {fr : Fm} {a : Act} (h : FrR P π M w fr a.tmps) (hg : ∀ g, g < P.globals.size → π g = some (g, 0)) (x : Operand) : VR P π M w (fr.ev P x) (a.eval x) := by
  cases x with
  | tmp t => exact h.r t
  | const v => exact .ofV v
  | global g =>
    show VR P π M w (if g < P.globals.size then .ptr g 0 else .undef) _
    by_cases e : g < P.globals.size
    · rw [if_pos e]; exact .ptr g 0 g 0 (hg g e)
    · rw [if_neg e]; exact .undef _
  | func f => exact .func _ [] [] [] [] .nil .nil

/-- What an operation without a call comes to. -/
def SOK (P : Program) (π : Nm) (w : World) (st : St) (s : Sem Value) (d : D) (st' : St) : Prop :=
  ∃ v w' π', s.run P w = .ok v w' ∧ Rel P π' w' st' ∧ Mv π w st π' w' st' ∧ VR P π' (Mut π' st') w' d v
theorem SOK.val (h : Rel P π w st) {s : Sem Value} {d : D} {v : Value} (hs : s.run P w = .ok v w) (hv : VR P π (Mut π st) w d v) : SOK P π w st s d st := ⟨v, w, π, hs, h, .refl _ _ _, hv⟩

theorem add_none (b o n : Nat) : (⟨b, o, none⟩ : Addr).add n = ⟨b, o + n, none⟩ := by unfold Addr.add; split <;> simp_all

theorem run_loadCellsFrom (b off : Nat) (vs : List Value) (h : ∀ (j : Nat) (v : Value), vs[j]? = some v → w.cell? ⟨b, off + j, none⟩ = some v) :
    ∀ (n i : Nat) (acc : Array Value), i + n ≤ vs.length → (loadCellsFrom ⟨b, off, none⟩ i n acc).run P w = .ok (acc ++ ((vs.drop i).take n).toArray) w := by
  intro n
  induction n with
  | zero => intro i acc _; simp [loadCellsFrom]
  | succ n ih =>
    intro i acc hi
    have hlt : i < vs.length := by omega
    have hc := h i vs[i] (List.getElem?_eq_getElem hlt)
    simp only [loadCellsFrom, Sem.run_bind, run_load, add_none, hc, Result.andThen]
    rw [ih (i + 1) _ (by omega)]
    congr 1
    rw [List.drop_eq_getElem_cons hlt, List.take_succ_cons]
    simp
theorem run_loadCells (b off : Nat) (vs : List Value) (h : ∀ (j : Nat) (v : Value), vs[j]? = some v → w.cell? ⟨b, off + j, none⟩ = some v) (n : Nat) (hn : n ≤ vs.length) :
    (loadCells ⟨b, off, none⟩ n).run P w = .ok (vs.take n).toArray w := by
  unfold loadCells; rw [run_loadCellsFrom b off vs h n 0 #[] (by omega)]; simp

/-- Where a pointer points to lie these cells. -/
theorem look_reads (h : Rel P π w st) {d : D} {v : Value} (hv : VR P π (Mut π st) w d v) {cs : List D} (hl : look st d = some cs) :
    ∃ b off vs, v = .pointer (some ⟨b, off, none⟩) ∧ (∀ (j : Nat) (x : Value), vs[j]? = some x → w.cell? ⟨b, off + j, none⟩ = some x) ∧ All2 (VR P π (Mut π st) w) cs vs ∧ cs.all D.one = true := by
  cases hv with
  | ptr i o b base hp =>
    simp only [look, dropL_eq] at hl
    split at hl
    · rename_i c wr hi
      split at hl
      · rename_i ho
        injection hl with hl; subst hl
        obtain ⟨n, base', hp', hn, hb⟩ := h.blk i _ hi
        rw [hp] at hp'; injection hp' with hp'; injection hp' with h1 h2; subst h1; subst h2
        cases hb with
        | cells _ _ vs t fz hb hc hle hw =>
          have hsz : base + o + (c.drop o).length ≤ vs.size := by rw [List.length_drop]; omega
          refine ⟨b, base + o, (vs.toList.drop (base + o)).take (c.drop o).length, rfl, fun j x hj => ?_, All2.of_get ?_ fun j d x hd hx => ?_, ?_⟩
          · rw [List.getElem?_take] at hj
            split at hj
            · rw [List.getElem?_drop] at hj
              simp only [World.cell?, hb]
              simpa using hj
            · cases hj
          · simp only [List.length_take, List.length_drop, Array.length_toList] at hsz ⊢; omega
          · rw [List.getElem?_drop] at hd
            obtain ⟨v', hv', hr, _⟩ := hc _ _ hd
            rw [List.getElem?_take] at hx
            split at hx
            · rw [List.getElem?_drop] at hx
              rw [show base + o + j = base + (o + j) from by omega] at hx
              have : vs[base + (o + j)]? = some x := by simpa using hx
              rw [hv'] at this; injection this with this; subst this; exact hr
            · cases hx
          · rw [List.all_eq_true]
            intro d hd
            obtain ⟨j, hj⟩ := List.getElem?_of_mem hd
            rw [List.getElem?_drop] at hj
            obtain ⟨_, _, _, h1⟩ := hc _ _ hj
            exact h1
      · cases hl
    · cases hl
  | fptr c o b base vs hb hm h1 hc h2 =>
    simp only [look, dropL_eq] at hl
    split at hl
    · rename_i ho
      injection hl with hl; subst hl
      refine ⟨b, base + o, vs.drop o, rfl, fun j x hj => ?_, h2.drop o, ?_⟩
      · rw [List.getElem?_drop] at hj
        rw [Nat.add_assoc]; exact hc _ _ hj
      · rw [List.all_eq_true] at h1 ⊢
        exact fun d hd => h1 d (List.mem_of_mem_drop hd)
    · cases hl
  | _ => simp [look] at hl

theorem size_info {t : TypeId} {n : Nat} (h : szOf P t = some n) : ∃ i, P.info? t = some i ∧ i.size = n := by
  unfold szOf at h
  cases hi : P.info? t with
  | none => rw [hi] at h; cases h
  | some i => rw [hi] at h; injection h with h; exact ⟨i, rfl, h⟩
theorem cellsOf_szOf {t : TypeId} {n : Nat} (h : szOf P t = some n) : P.cellsOf t = n := by
  unfold szOf at h; unfold Program.cellsOf; rw [h]; rfl
theorem run_underlying {t : TypeId} {d : TypeDesc} (h : P.underlying t = some d) : (underlying t).run P w = .ok d w := by
  simp [underlying, h]
theorem run_typeInfo {t : TypeId} {i : TypeInfo} (h : P.info? t = some i) : (typeInfo t).run P w = .ok i w := by
  simp [typeInfo, h]
theorem run_sizeOf {t : TypeId} {n : Nat} (h : szOf P t = some n) : (sizeOf t).run P w = .ok n w := by
  obtain ⟨i, hi, hn⟩ := size_info h
  simp [sizeOf, run_typeInfo hi, Result.andThen, hn]
theorem run_isAgg {t : TypeId} {d : TypeDesc} (h : P.underlying t = some d) : (isAgg t).run P w = .ok (isAggD d) w := by
  simp only [isAgg, Sem.run_bind, run_underlying h, Result.andThen]
  cases d <;> rfl
theorem run_zeroValue {t : TypeId} {i : TypeInfo} {z : Value} (h : P.info? t = some i) (hz : i.zero = some z) : (zeroValue t).run P w = .ok z w := by
  simp [zeroValue, run_typeInfo h, Result.andThen, hz]

theorem ok_loadVar {t : TypeId} {b off : Nat} {vs : List Value} {cs : List D} {d : D} (hc : ∀ (j : Nat) (x : Value), vs[j]? = some x → w.cell? ⟨b, off + j, none⟩ = some x)
    (h2 : All2 (VR P π M w) cs vs) (hd : takeAs P t cs = some d) : ∃ v, (loadVar t ⟨b, off, none⟩).run P w = .ok v w ∧ VR P π M w d v := by
  unfold takeAs at hd
  simp only [takeL_map] at hd
  split at hd
  · cases hd
  · rename_i td ht
    simp only [loadVar, Sem.run_bind, run_isAgg ht, Result.andThen]
    cases hg : isAggD td with
    | true =>
      rw [hg] at hd; simp only [if_true] at hd
      split at hd
      · cases hd
      · rename_i n hn
        split at hd
        · rename_i hle
          injection hd with hd; subst hd
          refine ⟨.agg (vs.take n).toArray, ?_, .agg _ _ (h2.take n)⟩
          simp only [if_true, Sem.run_bind, run_sizeOf hn, Result.andThen]
          rw [run_loadCells b off vs hc n (by rw [← h2.length]; exact hle)]
          rfl
        · cases hd
    | false =>
      rw [hg] at hd; simp only [Bool.false_eq_true, if_false] at hd ⊢
      cases cs with
      | nil => cases hd
      | cons x cs =>
        injection hd with hd; subst hd
        cases h2 with
        | cons hx htl =>
          rename_i v vs
          refine ⟨v, ?_, hx⟩
          have := hc 0 v rfl
          simp only [Nat.add_zero] at this
          simp [run_load, this]

theorem ok_load (h : Rel P π w st) {t : TypeId} {p d : D} {v : Value} {cs : List D} (hv : VR P π (Mut π st) w p v) (hl : look st p = some cs) (hd : takeAs P t cs = some d) :
    SOK P π w st (Instr.loadAt t v) d st := by
  obtain ⟨b, off, vs, rfl, hc, h2, _⟩ := look_reads h hv hl
  obtain ⟨x, hx, hr⟩ := ok_loadVar hc h2 hd
  exact .val h (by simp [Instr.loadAt, Instr.sureAddr, Result.andThen, hx]) hr

end Go.Proofs.YtdodnmeilhhhgaaGreatDoor.AM
