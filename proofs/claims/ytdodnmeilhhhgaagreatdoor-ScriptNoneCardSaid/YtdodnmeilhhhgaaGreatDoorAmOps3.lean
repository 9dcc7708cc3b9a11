/- PART OF THE ABSTRACT MACHINE over the given model: Ops3. It carries no condition of its own. -/
import Derived.Test.YtdodnmeilhhhgaaGreatDoorAmOps2
import Derived.ChangeKeysEq
set_option linter.unusedVariables false
set_option linter.unusedSimpArgs false
noncomputable section
namespace Go.Proofs.YtdodnmeilhhhgaaGreatDoor.AM
variable {P : Program} {π π' : Nm} {M : Nat → Prop} {w w' : World} {st st' : St}

/-! ### Equality -/
def eqAll {α : Type} (f : α → Option Bool) : List α → Option Bool
  | [] => some true
  | a :: l => match f a with
    | some true => eqAll f l
    | some false => some false
    | none => none

/-- Of two values that hold no others. -/
def eq1 (P : Program) (td : TypeDesc) (x y : D) : Option Bool :=
  match td, x, y with
  | .bool, .bool a, .bool b => some (a == b)
  | .int _, .int k a, .int k' b => if k = k' then some (a == b) else none
  | .string, .str a, .str b => some (a == b)
  | .pointer _, .nilp, .nilp => some true
  | .pointer _, .nilp, .ptr _ _ => some false
  | .pointer _, .ptr _ _, .nilp => some false
  | .pointer _, .nilp, .fptr _ _ => some false
  | .pointer _, .fptr _ _, .nilp => some false
  | .pointer e, .ptr i o, .ptr j o' => if i = j then (match szOf P e with | some (_ + 1) => some (o == o') | _ => none) else none
  | .interface _, .nili, .nili => some true
  | .interface _, .nili, .iface _ _ => some false
  | .interface _, .iface _ _, .nili => some false
  | .slice _, .nils, .nils => some true
  | .slice _, .nils, .sl _ _ _ _ _ => some false
  | .slice _, .sl _ _ _ _ _, .nils => some false
  | .slice _, .fsl _ _ (_ + 1) _, .nils => some false
  | .map _ _, .nilm, .nilm => some true
  | .map _ _, .map _, .nilm => some false
  | .map _ _, .nilm, .map _ => some false
  | .func _ _ _, .nilf, .nilf => some true
  | .func _ _ _, .nilf, .func _ _ _ => some false
  | .func _ _ _, .func _ _ _, .nilf => some false
  | _, _, _ => none
def eqD (P : Program) : Nat → TypeId → D → D → Option Bool
  | 0, _, _, _ => none
  | d + 1, t, x, y =>
    match P.underlying t with
    | none => none
    | some (.struct fs) =>
      match x, y with
      | .agg xs, .agg ys => if P.stoodInHeld t = true then none else
        eqAll (fun f => if f.name ≠ "_" then (match partD P f.type xs f.offset, partD P f.type ys f.offset with | some a, some b => eqD P d f.type a b | _, _ => none) else some true) fs.toList
      | _, _ => none
    | some (.array n e) =>
      match x, y, szOf P e with
      | .agg xs, .agg ys, some s => eqAll (fun i => match partD P e xs (i * s), partD P e ys (i * s) with | some a, some b => eqD P d e a b | _, _ => none) (List.range n)
      | _, _, _ => none
    | some (.interface ms) =>
      match x, y with
      | .iface tx vx, .iface ty vy => if tx ≠ ty then some false else
        (match P.info? tx with
         | some i => if i.comparable then eqD P d tx vx vy else none
         | none => none)
      | _, _ => eq1 P (.interface ms) x y
    | some td => eq1 P td x y

theorem bytes_beq {a b : ByteArray} {s t : List UInt8} (ha : a.data.toList = s) (hb : b.data.toList = t) : (a == b) = (s == t) := by
  rw [beq_toListBytes, ByteArray.toList_eq, ByteArray.toList_eq, ha, hb]

theorem ok_eq1 (h : Rel P π w st) {t : TypeId} {td : TypeDesc} (ht : P.underlying t = some td) {x y : D} {u v : Value} (d : Nat) (hu : VR P π (Mut π st) w x u) (hv : VR P π (Mut π st) w y v) {r : Bool}
    (hr : eq1 P td x y = some r) : (Op.equalIn (d + 1) t u v).run P w = .ok r w := by
  unfold eq1 at hr
  split at hr <;> try (cases hr; done)
  all_goals (cases hu; cases hv)
  all_goals try (injection hr with hr; subst hr)
  all_goals simp only [Op.equalIn, Sem.run_bind, run_underlying ht, Result.andThen_ok]
  · simp
  · rename_i k a k' b
    split at hr
    · rename_i e; subst e; injection hr with hr; subst hr; simp
    · cases hr
  · rename_i b hs b' hs'
    simp [bytes_beq hs hs']
  · simp
  · simp
  · simp
  · simp
  · simp
  · rename_i e i o j o' b base hp b' base' hp'
    split at hr
    · rename_i e'; subst e'
      rw [hp] at hp'; injection hp' with hp'; injection hp' with e1 e2; subst e1; subst e2
      split at hr
      · rename_i n hn
        injection hr with hr; subst hr
        simp only [run_sizeOf hn, Result.andThen_ok]
        simp only [Sem.run_ite, sameAddr, ne_eq, Nat.add_one_ne_zero, not_false_eq_true, if_true, beq_self_eq_true, Sem.run_pure]
        congr 1
        rw [Bool.eq_iff_iff]; simp
      · cases hr
    · cases hr
  all_goals simp
end Go.Proofs.YtdodnmeilhhhgaaGreatDoor.AM
