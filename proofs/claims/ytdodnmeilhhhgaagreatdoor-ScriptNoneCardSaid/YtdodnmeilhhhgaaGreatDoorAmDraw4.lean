/- PART OF THE ABSTRACT MACHINE over the given model: Draw4. It carries no condition of its own. -/
import Derived.Test.YtdodnmeilhhhgaaGreatDoorAmDraw3
import Derived.Test.YtdodnmeilhhhgaaGreatDoorAmFast
set_option linter.unusedVariables false
set_option linter.unusedSimpArgs false
noncomputable section
namespace Go.Proofs.YtdodnmeilhhhgaaGreatDoor.AM
variable {P : Program} {π π' : Nm} {M : Nat → Prop} {w w' : World} {st st' : St} {fr : Fm} {a : Act}

/-! ### Rows of a region -/
structure Row where
  i : Nat
  o : Oper
  an : Nat
  ds : Nat
  ef : Bool
  fl : Bool
def floaty (o : Oper) : Bool := match o.op with | .alloc _ | .box .. | .buildSlice .. => true | _ => false
def rowOf (P : Program) (all : List Nat) (em i : Nat) (o : Oper) : Row :=
  { i, o, an := all.getD i 0, ds := dsOf i all 0, ef := !reader P o, fl := !reader P o && floaty o && ((all.getD i 0 ||| dsOf i all 0 ||| 1 <<< i) &&& em != em) }
def mkRows (P : Program) (all : List Nat) (em : Nat) : List Oper → Nat → List Row
  | [], _ => []
  | o :: l, i => rowOf P all em i o :: mkRows P all em l (i + 1)
theorem mkRows_get {all : List Nat} {em : Nat} : ∀ (l : List Oper) (i k : Nat), (mkRows P all em l i)[k]? = (l[k]?).map (rowOf P all em (i + k)) := by
  intro l
  induction l with
  | nil => intro i k; simp [mkRows]
  | cons o l ih =>
    intro i k
    cases k with
    | zero => rfl
    | succ k => simp only [mkRows, List.getElem?_cons_succ, ih]; rw [show i + 1 + k = i + (k + 1) from by omega]
def looksL (ops : Array Oper) (o : Oper) : List Nat := (o.op.operands.toList.filterMap fun | .tmp t => some t | _ => none) ++ (guardSlot ops o).toList
theorem looks_mem {ops : Array Oper} {o : Oper} {t : Nat} (h : Looks ops o t) : t ∈ looksL ops o := by
  unfold looksL
  rcases h with h | h
  · exact List.mem_append_left _ (List.mem_filterMap.2 ⟨.tmp t, by simpa using h, rfl⟩)
  · exact List.mem_append_right _ (by simp [h])
def wrOf : List Oper → Nat → Nat → Option Nat
  | [], _, _ => none
  | o :: l, j, t => if o.dst = some t then some j else wrOf l (j + 1) t
def uniq : List Oper → Bool
  | [] => true
  | o :: l => (match o.dst with | some t => (wrOf l 0 t).isNone | none => true) && uniq l
theorem wrOf_shift : ∀ (l : List Oper) (j t : Nat), wrOf l (j + 1) t = (wrOf l j t).map (· + 1) := by
  intro l
  induction l with
  | nil => intro j t; rfl
  | cons o l ih => intro j t; simp only [wrOf]; split <;> simp [ih]
theorem wrOf_none : ∀ (l : List Oper) (t : Nat), wrOf l 0 t = none → ∀ (b : Nat) (o : Oper), l[b]? = some o → o.dst ≠ some t := by
  intro l
  induction l with
  | nil => intro t _ b o h; simp at h
  | cons x l ih =>
    intro t h b o hb
    simp only [wrOf] at h
    split at h
    · cases h
    · rename_i hx
      cases b with
      | zero => simp at hb; subst hb; exact hx
      | succ b => rw [wrOf_shift, Option.map_eq_none_iff] at h; exact ih t h b o (by simpa using hb)
theorem wrOf_ok : ∀ (l : List Oper), uniq l = true → ∀ (t b : Nat), wrOf l 0 t = some b ↔ ∃ o, l[b]? = some o ∧ o.dst = some t := by
  intro l
  induction l with
  | nil => intro _ t b; simp [wrOf]
  | cons x l ih =>
    intro hu t b
    simp only [uniq, Bool.and_eq_true] at hu
    simp only [wrOf]
    by_cases hx : x.dst = some t
    · rw [if_pos hx]
      have hn : wrOf l 0 t = none := by simpa [hx] using hu.1
      constructor
      · intro h; injection h with h; subst h; exact ⟨x, rfl, hx⟩
      · rintro ⟨o, ho, hd⟩
        cases b with
        | zero => rfl
        | succ b => exact absurd hd (wrOf_none l t hn b o (by simpa using ho))
    · rw [if_neg hx, wrOf_shift]
      constructor
      · intro h
        rw [Option.map_eq_some_iff] at h
        obtain ⟨c, hc, rfl⟩ := h
        obtain ⟨o, ho, hd⟩ := (ih hu.2 t c).1 hc
        exact ⟨o, by simpa using ho, hd⟩
      · rintro ⟨o, ho, hd⟩
        cases b with
        | zero => simp at ho; subst ho; exact absurd hd hx
        | succ b => rw [(ih hu.2 t b).2 ⟨o, by simpa using ho, hd⟩]; rfl

def readsB (ops : Array Oper) (all : List Nat) (rows : List Row) : Bool :=
  rows.all fun r => (looksL ops r.o).all fun t => match wrOf ops.toList 0 t with
    | none => true
    | some j => r.an.testBit j || (all.getD j 0).testBit r.i
structure Stat where
  all : List Nat
  em : Nat
  rows : List Row
def stat (P : Program) (ops : Array Oper) : Option Stat :=
  match ancs ops.toList [] with
  | some all =>
    let em := emOf (fun o => !reader P o) ops.toList 0
    let rows := mkRows P all em ops.toList 0
    if uniq ops.toList = true ∧ readsB ops all rows = true then some ⟨all, em, rows⟩ else none
  | none => none

/-! ### Operations and calls -/
def CallOK (P : Program) (call : FuncId → List D → St → Option (D × St)) : Prop :=
  ∀ g args s d s', call g args s = some (d, s') → ACall P g args s fun x y => x = d ∧ y = s'
def runOp (P : Program) (call : FuncId → List D → St → Option (D × St)) (E : Operand → D) (s : St) (o : Oper) : Option (D × St) :=
  match o.op with
  | .call { callee := .value f, args, .. } => match E f with
    | .func (.func g) fs cs => if callable P g = true then call g (fs ++ args.toList.map E ++ cs) s else (extD P g (fs ++ args.toList.map E ++ cs)).map (·, s)
    | _ => none
  | _ => aopF o.op P E s
theorem runOp_ok {call : FuncId → List D → St → Option (D × St)} (hcall : CallOK P call) {E : Operand → D} {s s' : St} {o : Oper} {d : D} (h : runOp P call E s o = some (d, s')) : OT P o E s fun x y => x = d ∧ y = s' := by
  unfold runOp at h
  split at h
  · rename_i f args types ho
    split at h
    · rename_i g fs cs hf
      split at h
      · rename_i hg
        exact OT.of_call (c := { callee := .value f, args, argTypes := types }) ho rfl hf hg (hcall _ _ _ _ _ h)
      · rw [Option.map_eq_some_iff] at h
        obtain ⟨d', hd', he⟩ := h
        injection he with e1 e2; subst e1; subst e2
        exact OT.of_ext (c := { callee := .value f, args, argTypes := types }) ho rfl hf hd' ⟨rfl, rfl⟩
    · cases h
  · rw [aopF_eq] at h; exact OT.of_aop h ⟨rfl, rfl⟩
theorem runOp_reader {call : FuncId → List D → St → Option (D × St)} {E : Operand → D} {s s' : St} {o : Oper} {d : D} (hr : reader P o = true) (h : runOp P call E s o = some (d, s')) : s' = s := by
  unfold runOp at h
  split at h
  · rename_i f args types ho
    simp [reader, ho] at hr
  · rw [aopF_eq] at h; exact reader_same hr h

def evalRow (P : Program) (call : FuncId → List D → St → Option (D × St)) (ops : Array Oper) (base : Nat) (r : Row) (fr : Fm) (s : St) : Option (D × St) :=
  match wantedD ops fr r.o with
  | none => none
  | some false => some (.tup [], s)
  | some true => if r.fl = true then (fop P (fr.ev P) (base + r.i) r.o).map fun x => (x.1, s.pushAt (base + r.i) (.cells x.2 true)) else runOp P call (fr.ev P) s r.o
theorem evalRow_ok {call : FuncId → List D → St → Option (D × St)} (hcall : CallOK P call) {ops : Array Oper} {base : Nat} {r : Row} {s s' : St} {d : D} (h : evalRow P call ops base r fr s = some (d, s')) :
    StepOK P ops (if r.fl = true then some (base + r.i) else none) r.o fr s d s' := by
  unfold evalRow at h
  split at h
  · cases h
  · rename_i hw; injection h with h; injection h with e1 e2; exact .inl ⟨hw, e1.symm, e2.symm⟩
  · rename_i hw
    refine .inr ⟨hw, ?_⟩
    by_cases hf : r.fl = true
    · rw [if_pos hf] at h ⊢
      rw [Option.map_eq_some_iff] at h
      obtain ⟨⟨d', cs⟩, h1, h2⟩ := h
      injection h2 with e1 e2
      subst e1
      exact .inr ⟨_, cs, rfl, h1, e2.symm⟩
    · rw [if_neg hf] at h ⊢
      exact .inl ⟨rfl, runOp_ok hcall h⟩
theorem evalRow_reader {call : FuncId → List D → St → Option (D × St)} {ops : Array Oper} {base : Nat} {r : Row} {s s' : St} {d : D} (hr : reader P r.o = true) (hf : r.fl = false) (h : evalRow P call ops base r fr s = some (d, s')) : s' = s := by
  unfold evalRow at h
  split at h
  · cases h
  · injection h with h; injection h with e1 e2; exact e2.symm
  · rw [hf] at h; exact runOp_reader hr (by simpa using h)

/-! ### The two passes -/
def compatB (em : Nat) (r : Row) (m : Nat) : Bool := ((r.an &&& em) &&& m == r.an &&& em) && (m &&& r.ds == 0)
def atNodes (f : St → Option (D × St)) (c : Nat → Bool) : List (Nat × St) → Option (List (Nat × D × St))
  | [] => some []
  | x :: l => if c x.1 = true then (match f x.2, atNodes f c l with
      | some y, some r => some ((x.1, y.1, y.2) :: r)
      | _, _ => none) else atNodes f c l
theorem atNodes_ok {f : St → Option (D × St)} {c : Nat → Bool} : ∀ (l : List (Nat × St)) (r : List (Nat × D × St)), atNodes f c l = some r → ∀ x ∈ l, c x.1 = true → ∃ y, f x.2 = some y ∧ (x.1, y.1, y.2) ∈ r := by
  intro l
  induction l with
  | nil => intro r _ x hx; cases hx
  | cons z l ih =>
    intro r h x hx hc
    simp only [atNodes] at h
    split at h
    · split at h
      · rename_i y r' h1 h2
        injection h with h; subst h
        rcases List.mem_cons.1 hx with rfl | hx
        · exact ⟨y, h1, by simp⟩
        · obtain ⟨y', h3, h4⟩ := ih r' h2 x hx hc
          exact ⟨y', h3, List.mem_cons_of_mem _ h4⟩
      · cases h
    · rename_i hz
      rcases List.mem_cons.1 hx with rfl | hx
      · exact absurd hc hz
      · exact ih r h x hx hc

section
variable (P : Program) (call : FuncId → List D → St → Option (D × St)) (ops : Array Oper) (base em : Nat)
def pass1 : List Row → Fm → List (Nat × St) → Option (Fm × List (Nat × St) × List (Row × Fm × D))
  | [], fr, nodes => some (fr, nodes, [])
  | r :: rs, fr, nodes => match atNodes (evalRow P call ops base r fr) (compatB em r) nodes with
    | some ((m, d, s') :: rest) =>
      if rest.all (fun z => D.beq 20 d z.2.1) = true then
        (match pass1 rs (fr.putO r.o.dst d) (if r.ef = true then nodes ++ ((m, d, s') :: rest).map (fun z => (z.1 ||| 1 <<< r.i, z.2.2)) else nodes) with
        | some (fr1, nd, l) => some (fr1, nd, (r, fr, d) :: l)
        | none => none)
      else none
    | _ => none
def chk2 (nd : List (Nat × St)) (x : Nat × St) (y : Row × Fm × D) : Bool :=
  x.1.testBit y.1.i || (decide (x.1 < 1 <<< y.1.i) || (!compatB em y.1 x.1 || match evalRow P call ops base y.1 y.2.1 x.2 with
    | some (d', s') => D.beq 20 y.2.2 d' && (!y.1.ef || nd.any fun z => z.1 == (x.1 ||| 1 <<< y.1.i) && St.beq s' z.2)
    | none => false))
end
def regionD (P : Program) (call : FuncId → List D → St → Option (D × St)) (ops : Array Oper) (fr : Fm) (st : St) : Option (Fm × St) :=
  match stat P ops with
  | none => none
  | some sta => match pass1 P call ops st.next sta.em sta.rows fr [(0, if sta.rows.any (·.fl) = true then { st with next := st.next + ops.size } else st)] with
    | none => none
    | some (fr1, nd, l) => if (nd.all fun x => l.all fun y => chk2 P call ops st.next sta.em nd x y) = true then
        (match nd.filter (fun x => x.1 &&& sta.em == sta.em) with
        | [(_, s)] => some (fr1, s)
        | _ => none) else none
end Go.Proofs.YtdodnmeilhhhgaaGreatDoor.AM
