/- PART OF THE ABSTRACT MACHINE over the given model: Ops4. It carries no condition of its own. -/
import Derived.Test.YtdodnmeilhhhgaaGreatDoorAmOps3
set_option linter.unusedVariables false
set_option linter.unusedSimpArgs false
noncomputable section
namespace Go.Proofs.YtdodnmeilhhhgaaGreatDoor.AM
variable {P : Program} {π π' : Nm} {M : Nat → Prop} {w w' : World} {st st' : St}

theorem fields_eq {t : TypeId} {fs : Array Field} (h : P.underlying t = some (.struct fs)) : P.fieldsOf t = fs := by simp [Program.fieldsOf, h]

theorem ok_eqFields {M : Nat → Prop} (d : Nat) {xs ys : List D} {us vs : Array Value} (hx : All2 (VR P π M w) xs us.toList) (hy : All2 (VR P π M w) ys vs.toList)
    (ih : ∀ (t : TypeId) (x y : D) (u v : Value) (r : Bool), VR P π M w x u → VR P π M w y v → eqD P d t x y = some r → (Op.equalIn d t u v).run P w = .ok r w) :
    ∀ (fs : List Field) (r : Bool), eqAll (fun f => if f.name ≠ "_" then (match partD P f.type xs f.offset, partD P f.type ys f.offset with | some a, some b => eqD P d f.type a b | _, _ => none) else some true) fs = some r →
      (Op.eqFields d us vs fs).run P w = .ok r w := by
  intro fs
  induction fs with
  | nil => intro r hr; simp only [eqAll] at hr; injection hr with hr; subst hr; simp [Op.eqFields]
  | cons f fs ihf =>
    intro r hr
    simp only [eqAll] at hr
    by_cases hn : f.name ≠ "_"
    · simp only [Op.eqFields]
      rw [if_pos hn]; simp only [if_pos hn] at hr
      cases ha : partD P f.type xs f.offset with
      | none => rw [ha] at hr; simp at hr
      | some a =>
        cases hb : partD P f.type ys f.offset with
        | none => rw [ha, hb] at hr; simp at hr
        | some b =>
          rw [ha, hb] at hr; simp only at hr
          obtain ⟨u, hu, hru⟩ := ok_part hx ha
          obtain ⟨v, hv, hrv⟩ := ok_part hy hb
          cases he : eqD P d f.type a b with
          | none => rw [he] at hr; simp at hr
          | some q =>
            rw [he] at hr
            have := ih f.type a b u v q hru hrv he
            simp only [Sem.run_bind, hu, hv, this, Result.andThen_ok]
            cases q
            · simp only at hr; injection hr with hr; subst hr; simp
            · simp only at hr; simpa using ihf r hr
    · simp only [Op.eqFields]
      rw [if_neg hn]; simp only [if_neg hn] at hr
      exact ihf r hr

theorem ok_eqItems {M : Nat → Prop} (d s : Nat) {e : TypeId} {xs ys : List D} {us vs : Array Value} (hx : All2 (VR P π M w) xs us.toList) (hy : All2 (VR P π M w) ys vs.toList)
    (ih : ∀ (t : TypeId) (x y : D) (u v : Value) (r : Bool), VR P π M w x u → VR P π M w y v → eqD P d t x y = some r → (Op.equalIn d t u v).run P w = .ok r w) :
    ∀ (is : List Nat) (r : Bool), eqAll (fun i => match partD P e xs (i * s), partD P e ys (i * s) with | some a, some b => eqD P d e a b | _, _ => none) is = some r →
      (Op.eqItems d e s us vs is).run P w = .ok r w := by
  intro is
  induction is with
  | nil => intro r hr; simp only [eqAll] at hr; injection hr with hr; subst hr; simp [Op.eqItems]
  | cons i is ihf =>
    intro r hr
    simp only [eqAll] at hr
    simp only [Op.eqItems]
    cases ha : partD P e xs (i * s) with
    | none => rw [ha] at hr; simp at hr
    | some a =>
      cases hb : partD P e ys (i * s) with
      | none => rw [ha, hb] at hr; simp at hr
      | some b =>
        rw [ha, hb] at hr; simp only at hr
        obtain ⟨u, hu, hru⟩ := ok_part hx ha
        obtain ⟨v, hv, hrv⟩ := ok_part hy hb
        cases he : eqD P d e a b with
        | none => rw [he] at hr; simp at hr
        | some q =>
          rw [he] at hr
          have := ih e a b u v q hru hrv he
          simp only [Sem.run_bind, hu, hv, this, Result.andThen_ok]
          cases q
          · simp only at hr; injection hr with hr; subst hr; simp
          · simp only at hr; simpa using ihf r hr

theorem ok_eqD (h : Rel P π w st) : ∀ (d : Nat) (t : TypeId) (x y : D) (u v : Value) (r : Bool), VR P π (Mut π st) w x u → VR P π (Mut π st) w y v → eqD P d t x y = some r →
    (Op.equalIn d t u v).run P w = .ok r w := by
  intro d
  induction d with
  | zero => intro t x y u v r _ _ hr; cases hr
  | succ d ih =>
    intro t x y u v r hu hv hr
    unfold eqD at hr
    split at hr
    · cases hr
    · rename_i fs ht
      split at hr
      · rename_i xs ys
        split at hr
        · cases hr
        · rename_i hp
          cases hu with
          | agg _ us hus =>
            cases hv with
            | agg _ vs hvs =>
              rw [run_equalIn_struct w d t _ _ (by rw [fields_eq ht]; exact ht) (by simpa using hp), fields_eq ht]
              exact ok_eqFields d (by simpa using hus) (by simpa using hvs) ih fs.toList r hr
      · cases hr
    · rename_i n e ht
      split at hr
      · rename_i xs ys s hs
        cases hu with
        | agg _ us hus =>
          cases hv with
          | agg _ vs hvs =>
            obtain ⟨i, hi, hin⟩ := size_info hs
            rw [run_equalIn_array w d _ _ ht hi, cellsOf_szOf hs]
            exact ok_eqItems d s (by simpa using hus) (by simpa using hvs) ih _ r hr
      · cases hr
    · rename_i ms ht
      split at hr
      · rename_i tx vx ty vy
        cases hu with
        | iface _ _ u hu =>
          cases hv with
          | iface _ _ v hv =>
            simp only [Op.equalIn, Sem.run_bind, run_underlying ht, Result.andThen_ok]
            split at hr
            · rename_i hne; injection hr with hr; subst hr; rw [if_pos hne]; rfl
            · rename_i heq; rw [if_neg heq]
              split at hr
              · rename_i i hi
                split at hr
                · rename_i hc
                  simp only [Sem.run_bind, run_typeInfo hi, Result.andThen_ok, hc, Bool.not_true, Bool.false_eq_true, if_false]
                  exact ih tx vx vy u v r hu hv hr
                · cases hr
              · cases hr
      · exact ok_eq1 h ht d hu hv hr
    · rename_i td ht
      exact ok_eq1 h ht d hu hv hr

/-! ### Two operands -/
def intBin (op : BinOp) (k : IntKind) (a b : Int) : Option D :=
  match op with
  | .add => some (.int k (k.wrap (a + b)))
  | .sub => some (.int k (k.wrap (a - b)))
  | .mul => some (.int k (k.wrap (a * b)))
  | .quo => if b = 0 then none else some (.int k (k.wrap (a.tdiv b)))
  | .rem => if b = 0 then none else some (.int k (a.tmod b))
  | .and => some (.int k (k.wrap (BitVec.ofInt k.bits a &&& BitVec.ofInt k.bits b).toNat))
  | .or => some (.int k (k.wrap (BitVec.ofInt k.bits a ||| BitVec.ofInt k.bits b).toNat))
  | .xor => some (.int k (k.wrap (BitVec.ofInt k.bits a ^^^ BitVec.ofInt k.bits b).toNat))
  | .andNot => some (.int k (k.wrap (BitVec.ofInt k.bits a &&& ~~~ (BitVec.ofInt k.bits b)).toNat))
  | .eql => some (.bool (a == b))
  | .neq => some (.bool (a != b))
  | .lss => some (.bool (decide (a < b)))
  | .leq => some (.bool (decide (a ≤ b)))
  | .gtr => some (.bool (decide (a > b)))
  | .geq => some (.bool (decide (a ≥ b)))
  | _ => none
def isShift : BinOp → Bool
  | .shl | .shr => true
  | _ => false
def intShift (op : BinOp) (k : IntKind) (a b : Int) : Option D :=
  if b < 0 then none else
  match op with
  | .shl => some (.int k (k.wrap (a * 2 ^ (min b.toNat k.bits))))
  | .shr => some (.int k (a.fdiv (2 ^ (min b.toNat k.bits))))
  | _ => none
def floatBin (op : BinOp) (k : FloatKind) (a b : Nat) : Option D :=
  match op with
  | .add => (k.format.add a b).map (.float k)
  | .sub => (k.format.sub a b).map (.float k)
  | .mul => (k.format.mul a b).map (.float k)
  | .quo => (k.format.div a b).map (.float k)
  | .eql => some (.bool (k.format.order a b == some .eq))
  | .neq => some (.bool (k.format.order a b != some .eq))
  | .lss => some (.bool (k.format.order a b == some .lt))
  | .leq => some (.bool (k.format.order a b == some .lt || k.format.order a b == some .eq))
  | .gtr => some (.bool (k.format.order a b == some .gt))
  | .geq => some (.bool (k.format.order a b == some .gt || k.format.order a b == some .eq))
  | _ => none
def strBin (op : BinOp) (a b : List UInt8) : Option D :=
  match op with
  | .add => if ((a.length + b.length : Nat) : Int) > 9223372036854775807 then none else some (.str (a ++ b))
  | .eql => some (.bool (a == b))
  | .neq => some (.bool !(a == b))
  | .lss => some (.bool (Op.bytesLess a b))
  | .leq => some (.bool (Op.bytesLess a b || a == b))
  | .gtr => some (.bool !(Op.bytesLess a b || a == b))
  | .geq => some (.bool !(Op.bytesLess a b))
  | _ => none
def isConstO : Operand → Bool
  | .const _ => true
  | _ => false
/-- Is the guard of an equality idle? -/
def guardD (P : Program) (t : TypeId) (x y : Operand) (a b : D) : Bool :=
  match a, b with
  | .nili, .nili => isConstO x || isConstO y
  | .agg _, .agg _ => !(P.eqGuardType P.depth t)
  | .undef, _ | _, .undef => false
  | _, _ => true
def binD (P : Program) (op : BinOp) (t : TypeId) (x y : Operand) (a b : D) : Option D :=
  match a, b with
  | .int k m, .int k' n => if isShift op = true then intShift op k m n else (if k = k' then intBin op k m n else none)
  | .float k m, .float k' n => if k = k' then floatBin op k m n else none
  | .str s, .str u => strBin op s u
  | _, _ =>
    match op with
    | .eql => if guardD P t x y a b then (eqD P 10000 t a b).map .bool else none
    | .neq => if guardD P t x y a b then (eqD P 10000 t a b).map (fun r => .bool (!r)) else none
    | _ => none

theorem string_add {a b : ByteArray} {s t : List UInt8} (ha : a.data.toList = s) (hb : b.data.toList = t) : (a ++ b).data.toList = s ++ t := by
  rw [ByteArray.data_append]; simp [ha, hb]

theorem run_eqGuard_other (op : BinOp) (t : TypeId) (x y : Operand) (u v : Value) (h1 : ¬ (u = .nilIface ∧ v = .nilIface)) (h2 : ∀ a b, ¬ (u = .agg a ∧ v = .agg b)) : (eqGuard op t x y u v).run P w = .ok () w := by
  have key : (match u, v with
      | .nilIface, .nilIface => (do
          if (x matches .const _) || (y matches .const _) then return
          if ← Op.eqGuardIn Op.maxDepth t u v then unsupported (.noEntry "binop/eql: two nil values of an interface type with methods, neither of them the literal nil") : Sem Unit)
      | .agg _, .agg _ => do
          if !(← program).eqGuardType (← program).depth t then return
          if ← Op.eqGuardIn Op.maxDepth t u v then unsupported (.noEntry "binop/eql: two nil values of an interface type with methods, in a part of a struct or an array")
      | _, _ => pure ()).run P w = .ok () w := by
    split
    · exact absurd ⟨rfl, rfl⟩ h1
    · exact absurd ⟨rfl, rfl⟩ (h2 _ _)
    · rfl
  cases op <;> first | rfl | exact key
theorem const_or (x y : Operand) : (isConstO x || isConstO y) = true → ((x matches .const _) || (y matches .const _)) = true := by
  cases x <;> cases y <;> simp [isConstO]

theorem run_eqGuard_nil (op : BinOp) (t : TypeId) (x y : Operand) : (isConstO x || isConstO y) = true → (eqGuard op t x y .nilIface .nilIface).run P w = .ok () w := by
  have key : ((x matches .const _) || (y matches .const _)) = true → ((do
          if (x matches .const _) || (y matches .const _) then return
          if ← Op.eqGuardIn Op.maxDepth t .nilIface .nilIface then unsupported (.noEntry "binop/eql: two nil values of an interface type with methods, neither of them the literal nil") : Sem Unit)).run P w = .ok () w := by
    intro h; rw [if_pos h]; rfl
  intro hg
  have h := const_or x y hg
  cases op <;> first | rfl | exact key h

theorem ok_guard {t : TypeId} {op : BinOp} {x y : Operand} {a b : D} {u v : Value} (hu : VR P π M w a u) (hv : VR P π M w b v) (hg : guardD P t x y a b = true) :
    (eqGuard op t x y u v).run P w = .ok () w := by
  unfold guardD at hg
  split at hg
  · cases hu; cases hv
    exact run_eqGuard_nil op t x y hg
  · cases hu; cases hv
    exact run_eqGuard_agg w op t x y _ _ (by simpa using hg)
  · cases hg
  · cases hg
  · rename_i h1 h2 h3 h4
    refine run_eqGuard_other _ _ _ _ _ _ ?_ ?_
    · rintro ⟨rfl, rfl⟩
      cases hu <;> cases hv <;> simp_all
    · rintro p q ⟨rfl, rfl⟩
      cases hu <;> cases hv <;> simp_all
end Go.Proofs.YtdodnmeilhhhgaaGreatDoor.AM
