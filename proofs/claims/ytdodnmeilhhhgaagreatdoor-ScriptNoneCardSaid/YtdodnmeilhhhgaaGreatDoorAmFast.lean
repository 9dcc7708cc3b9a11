/- PART OF THE ABSTRACT MACHINE over the given model: Fast. It carries no condition of its own. -/
import Derived.Test.YtdodnmeilhhhgaaGreatDoorAmExec
set_option linter.unusedVariables false
noncomputable section
namespace Go.Proofs.YtdodnmeilhhhgaaGreatDoor.AM
/-- `aop`, by the operation first: each branch is closed, so that the kernel copies nothing but the branch that it takes. -/
def aopF (op : Op) : Program → (Operand → D) → St → Option (D × St) :=
  match op with
  | .move x => fun _ E st => some (E x, st)
  | .assign x => fun _ E st => some (E x, st)
  | .pick c a b => fun _ E st => match E c with
    | .bool true => some (E a, st)
    | .bool false => some (E b, st)
    | _ => none
  | .alloc e => fun P _ st => match zeroD P e with
    | some z => if z.isVal = true then some (.ptr st.next 0, st.push (.cells z.cells true)) else none
    | none => none
  | .box _ x => fun _ E st => if (E x).isVal = true then some (.ptr st.next 0, st.push (.cells (E x).cells true)) else none
  | .build t ps => fun P E st => (buildD P t (ps.toList.map fun p => (p.1, E p.2))).map (·, st)
  | .buildSlice t n ps => fun P E st => buildSliceD P st t n (ps.toList.map fun p => (p.1, E p.2))
  | .load t a => fun P E st => match look st (E a) with
    | some cs => (takeAs P t cs).map (·, st)
    | none => none
  | .store t a x => fun P E st => match E a, szOf P t with
    | .ptr i k, some n => if (E x).isVal = true ∧ (E x).cells.length = n then (poke st i k (E x).cells).map fun st' => (.undef, st') else none
    | _, _ => none
  | .nilCheck x => fun _ E st => (nilCheckD (E x)).map (·, st)
  | .binOp op t x y _ => fun P E st => (binD P op t x y (E x) (E y)).map (·, st)
  | .unOp op _ x => fun _ E st => (unD op (E x)).map (·, st)
  | .convert s d x => fun P E st => convD P st s d (E x)
  | .makeInterface t x => fun P E st => (makeIfaceD P t (E x)).map (·, st)
  | .makeFunc fn a b => fun _ E st => some (.func fn (a.toList.map E) (b.toList.map E), st)
  | .makeMap _ none => fun _ _ st => some (.map st.next, st.push (.map []))
  | .makeSlice t l c => fun P E st => makeSliceD P st t (E l) (E c)
  | .slice t x lo hi mx => fun P E st => (sliceD P st t (E x) (lo.map E) (hi.map E) (mx.map E)).map (·, st)
  | .fieldAddr s x f => fun P E st => (fieldAddrD P s (E x) f).map (·, st)
  | .field s x f => fun P E st => (fieldD P s (E x) f).map (·, st)
  | .indexAddr t x i => fun P E st => (indexAddrD P t (E x) (E i)).map (·, st)
  | .index t x i => fun P E st => (indexD P t (E x) (E i)).map (·, st)
  | .lookup t x i ok => fun P E st => (lookupD P st t (E x) (E i) ok).map (·, st)
  | .mapUpdate t m k x => fun P E st => (mapUpdateD P st t (E m) (E k) (E x)).map fun st' => (.undef, st')
  | .insert t m k x => fun P E st => (mapUpdateD P st t (E m) (E k) (E x)).map fun st' => (.undef, st')
  | .range t x => fun P E st => rangeD P st t (E x)
  | .next it s => fun _ E st => nextD st (E it) s
  | .extract t i => fun _ E st => (extractD (E t) i).map (·, st)
  | .call c => fun P E st => match c with
    | { callee := .builtin b, args, argTypes } => builtinD P st b argTypes (args.toList.map E)
    | _ => none
  | _ => fun _ _ _ => none
theorem aopF_eq (P : Program) (E : Operand → D) (st : St) (o : Oper) : aopF o.op P E st = aop P E st o := by
  obtain ⟨dst, op, type, pos, after, guard⟩ := o
  cases op <;> try rfl
  case pick c a b =>
    simp only [aopF, aop]
    cases E c <;> try rfl
    rename_i t; cases t <;> rfl
  case makeMap t r => cases r <;> rfl
  case call c => obtain ⟨callee, args, argTypes⟩ := c; cases callee <;> rfl
end Go.Proofs.YtdodnmeilhhhgaaGreatDoor.AM
