/- PART OF THE ABSTRACT MACHINE over the given model: Ops6. It carries no condition of its own. -/
import Derived.Test.YtdodnmeilhhhgaaGreatDoorAmOps5
import Derived.Laws.BytesArg
import Derived.Laws.Slices
set_option linter.unusedVariables false
set_option linter.unusedSimpArgs false
noncomputable section
namespace Go.Proofs.YtdodnmeilhhhgaaGreatDoor.AM
variable {P : Program} {π π' : Nm} {M : Nat → Prop} {w w' : World} {st st' : St}

/-! ### Places -/
def nilCheckD : D → Option D
  | .ptr i o => some (.ptr i o)
  | .fptr c o => some (.fptr c o)
  | .func (.func f) a b => some (.func (.func f) a b)
  | .iface t v => some (.iface t v)
  | _ => none
def moved (n : Nat) : D → Option D
  | .ptr i o => some (.ptr i (o + n))
  | .fptr c o => some (.fptr c (o + n))
  | _ => none
def fieldAddrD (P : Program) (s : TypeId) (x : D) (f : Nat) : Option D :=
  match P.underlying s with
  | some (.struct fs) => match fs[f]? with
    | some fd => match szOf P fd.type with
      | some (_ + 1) => moved fd.offset x
      | _ => none
    | none => none
  | _ => none
def fieldD (P : Program) (s : TypeId) (x : D) (f : Nat) : Option D :=
  match P.underlying s, x with
  | some (.struct fs), .agg cs => match fs[f]? with
    | some fd => partD P fd.type cs fd.offset
    | none => none
  | _, _ => none
def indexAddrD (P : Program) (t : TypeId) (x ix : D) : Option D :=
  match ix with
  | .int _ j =>
    match P.underlying t with
    | some (.array len e) => if 0 ≤ j ∧ j < len then (match szOf P e with | some s => moved (j.toNat * s) x | none => none) else none
    | some (.slice e) => match x, szOf P e with
      | .sl i o _ n _, some s => if 0 ≤ j ∧ j < n then some (.ptr i (o + j.toNat * s)) else none
      | .fsl c _ n _, some s => if 0 ≤ j ∧ j < n then some (.fptr c (j.toNat * s)) else none
      | _, _ => none
    | _ => none
  | _ => none
def indexD (P : Program) (t : TypeId) (x ix : D) : Option D :=
  match ix with
  | .int _ j =>
    match P.underlying t, x with
    | some (.array len e), .agg cs => if 0 ≤ j ∧ j < len then (match szOf P e with | some s => partD P e cs (j.toNat * s) | none => none) else none
    | some .string, .str s => if 0 ≤ j then (match s[j.toNat]? with | some b => some (.int .u8 b.toNat) | none => none) else none
    | _, _ => none
  | _ => none

theorem ok_nilCheck {x d : D} {v : Value} (hv : VR P π M w x v) (hd : nilCheckD x = some d) (o : Oper) (ρ : Operand → Value) (y : Operand) (ho : o.op = .nilCheck y) (hy : ρ y = v) :
    (execOp ρ o).run P w = .ok (.value v) w ∧ VR P π M w d v := by
  unfold nilCheckD at hd
  split at hd
  · injection hd with hd; subst hd; refine ⟨?_, hv⟩; cases hv; simp [execOp, ho, hy]
  · injection hd with hd; subst hd; refine ⟨?_, hv⟩; cases hv; simp [execOp, ho, hy]
  · injection hd with hd; subst hd; refine ⟨?_, hv⟩; cases hv; simp [execOp, ho, hy]
  · injection hd with hd; subst hd; refine ⟨?_, hv⟩; cases hv; simp [execOp, ho, hy]
  · cases hd

theorem ok_moved {n : Nat} {x d : D} {v : Value} (hv : VR P π M w x v) (hd : moved n x = some d) : ∃ a : Addr, v = .pointer (some a) ∧ a.spot = none ∧ VR P π M w d (.pointer (some (a.add n))) := by
  unfold moved at hd
  split at hd
  · injection hd with hd; subst hd
    cases hv with
    | ptr i o b base h => exact ⟨_, rfl, rfl, by rw [add_none, Nat.add_assoc]; exact .ptr _ _ _ _ h⟩
  · injection hd with hd; subst hd
    cases hv with
    | fptr c o b base vs hb hm h1 hc h => exact ⟨_, rfl, rfl, by rw [add_none, Nat.add_assoc]; exact .fptr _ _ _ _ vs hb hm h1 hc h⟩
  · cases hd

theorem ok_fieldAddr (h : Rel P π w st) {s : TypeId} {x d : D} {f : Nat} {v : Value} (hv : VR P π (Mut π st) w x v) (hd : fieldAddrD P s x f = some d) : SOK P π w st (Instr.fieldAt s v f) d st := by
  unfold fieldAddrD at hd
  split at hd
  · rename_i fs hs
    split at hd
    · rename_i fd hf
      split at hd
      · rename_i k hk
        obtain ⟨a, rfl, ha, hr⟩ := ok_moved hv hd
        refine .val h ?_ hr
        simp only [Instr.fieldAt, Sem.run_bind, run_underlying hs, Result.andThen_ok, hf, Instr.sureAddr, Sem.run_pure, fieldPlace, run_sizeOf hk]
        simp
      · cases hd
    · cases hd
  · cases hd

theorem ok_field (h : Rel P π w st) {s : TypeId} {x d : D} {f : Nat} {v : Value} (hv : VR P π (Mut π st) w x v) (hd : fieldD P s x f = some d) : SOK P π w st (Instr.field s v f) d st := by
  unfold fieldD at hd
  split at hd
  · rename_i fs cs hs
    split at hd
    · rename_i fd hf
      cases hv with
      | agg _ vs hvs =>
        obtain ⟨u, hu, hr⟩ := ok_part (vs := vs.toArray) (by simpa using hvs) hd
        exact .val h (by simp [Instr.field, run_underlying hs, hf, asAgg, Result.andThen, hu]) hr
    · cases hd
  · cases hd

theorem ok_indexAddr (h : Rel P π w st) {t : TypeId} {x ix d : D} {v u : Value} (hv : VR P π (Mut π st) w x v) (hi : VR P π (Mut π st) w ix u) (hd : indexAddrD P t x ix = some d) :
    SOK P π w st (Instr.indexAt t v u) d st := by
  unfold indexAddrD at hd
  split at hd
  · rename_i k j
    cases hi
    split at hd
    · rename_i len e ht
      split at hd
      · rename_i hj
        split at hd
        · rename_i s hs
          obtain ⟨a, rfl, ha, hr⟩ := ok_moved hv hd
          refine .val h ?_ hr
          simp [Instr.indexAt, asIntOf, run_underlying ht, Instr.sureAddr, Result.andThen, hj, run_sizeOf hs]
        · cases hd
      · cases hd
    · rename_i e ht
      split at hd
      · rename_i i o e' n c s hs
        split at hd
        · rename_i hj
          injection hd with hd; subst hd
          cases hv with
          | sl _ _ _ _ _ b base off cap hp ho hc hn hr hq hsz =>
            have hoff : off = base + o := ho (by omega)
            subst hoff
            refine .val (v := .pointer (some ⟨b, base + (o + j.toNat * s), none⟩)) h ?_ (.ptr _ _ _ _ hp)
            simp [Instr.indexAt, asIntOf, run_underlying ht, Result.andThen, hj, run_sizeOf hs, add_none, Nat.add_assoc]
        · cases hd
      · rename_i c e' n full s hs
        split at hd
        · rename_i hj
          injection hd with hd; subst hd
          cases hv with
          | fsl _ _ _ _ b base cap vs hn hf hr hb hm h1 hl hc h2 =>
            refine .val (v := .pointer (some ⟨b, base + j.toNat * s, none⟩)) h ?_ (.fptr _ _ _ _ vs hb hm h1 hc h2)
            simp [Instr.indexAt, asIntOf, run_underlying ht, Result.andThen, hj, run_sizeOf hs, add_none]
          | fnil => exact absurd hj (by omega)
        · cases hd
      · cases hd
    · cases hd
  · cases hd

theorem ok_index (h : Rel P π w st) {t : TypeId} {x ix d : D} {v u : Value} (hv : VR P π (Mut π st) w x v) (hi : VR P π (Mut π st) w ix u) (hd : indexD P t x ix = some d) :
    SOK P π w st (Instr.index t v u) d st := by
  unfold indexD at hd
  split at hd
  · rename_i k j
    cases hi
    split at hd
    · rename_i len e cs ht
      split at hd
      · rename_i hj
        split at hd
        · rename_i s hs
          cases hv with
          | agg _ vs hvs =>
            obtain ⟨r, hr, hvr⟩ := ok_part (vs := vs.toArray) (by simpa using hvs) hd
            refine .val h ?_ hvr
            simp [Instr.index, asIntOf, run_underlying ht, Result.andThen, hj, run_sizeOf hs, hr]
        · cases hd
      · cases hd
    · rename_i s ht
      split at hd
      · rename_i hj
        split at hd
        · rename_i b hb
          injection hd with hd; subst hd
          cases hv with
          | str _ a ha =>
            have hb' : a[j.toNat]? = some b := by
              rw [← ha] at hb
              have hlt : j.toNat < a.size := by
                have := (List.getElem?_eq_some_iff.1 hb).1
                simpa using this
              rw [ByteArray.getElem?_lt' _ _ hlt]
              rw [List.getElem?_eq_some_iff] at hb
              obtain ⟨_, hb⟩ := hb
              rw [← hb]; rfl
            refine .val h (v := .int .u8 b.toNat) ?_ (.int _ _)
            simp [Instr.index, asIntOf, run_underlying ht, Result.andThen, hj, hb']
        · cases hd
      · cases hd
    · cases hd
  · cases hd

/-! ### Lengths -/
def lenD (P : Program) (st : St) (t : TypeId) (x : D) : Option Int :=
  match P.underlying t, x with
  | some .string, .str s => some s.length
  | some (.array n _), _ => some n
  | some (.pointer a), _ => match P.underlying a with | some (.array n _) => some n | _ => none
  | some (.slice _), x => (slen x).map Int.ofNat
  | some (.map _ _), .nilm => some 0
  | some (.map _ _), .map i => match st.get i with | some (.map es) => some es.length | _ => none
  | _, _ => none
theorem slen_value {x : D} {v : Value} {n : Nat} (hv : VR P π M w x v) (hs : slen x = some n) : ∃ a c, v = .slice a n c := by
  cases hv <;> simp only [slen] at hs <;> first | (cases hs; done) | (injection hs with hs; subst hs; exact ⟨_, _, rfl⟩)
theorem ok_len (h : Rel P π w st) {t ty : TypeId} {x : D} {v : Value} {n : Int} (hv : VR P π (Mut π st) w x v) (hd : lenD P st t x = some n) : SOK P π w st (Builtin.len_ #[t] ty #[v]) (.int .i64 n) st := by
  unfold lenD at hd
  split at hd
  · rename_i s ht
    injection hd with hd; subst hd
    cases hv with
    | str _ b hb => exact .val h (by simp [Builtin.len_, run_underlying ht, Result.andThen, goInt, size_list hb]) (.int _ _)
  · rename_i n' e ht
    injection hd with hd; subst hd
    exact .val h (by simp [Builtin.len_, run_underlying ht, Result.andThen, goInt]) (.int _ _)
  · rename_i a ht
    split at hd
    · rename_i n' e ha
      injection hd with hd; subst hd
      exact .val h (by simp [Builtin.len_, run_underlying ht, run_underlying ha, Result.andThen, goInt]) (.int _ _)
    · cases hd
  · rename_i e ht
    rw [Option.map_eq_some_iff] at hd; obtain ⟨m, hm, rfl⟩ := hd
    obtain ⟨a, c, rfl⟩ := slen_value hv hm
    exact .val h (by simp [Builtin.len_, run_underlying ht, Result.andThen, goInt]) (.int _ _)
  · rename_i k e ht
    injection hd with hd; subst hd
    cases hv
    exact .val h (by simp [Builtin.len_, run_underlying ht, Result.andThen, goInt]) (.int _ _)
  · rename_i k e i ht
    split at hd
    · rename_i es hi
      injection hd with hd; subst hd
      cases hv with
      | map _ b base hp =>
        obtain ⟨n', base', hp', hn', hb⟩ := h.blk i _ hi
        rw [hp] at hp'; injection hp' with hp'; injection hp' with e1 e2; subst e1; subst e2
        cases hb with
        | map _ es' clock hb h2 =>
          refine .val h ?_ (.int _ _)
          have : (getObj b).run P w = .ok (.map es' clock) w := by simp [getObj, Sem.run, hb]
          simp [Builtin.len_, run_underlying ht, Result.andThen, this, goInt]
          rw [h2.length]; simp
    · cases hd
  · cases hd
def capD (P : Program) (t : TypeId) (x : D) : Option Int :=
  match P.underlying t, x with
  | some (.array n _), _ => some n
  | some (.slice _), .sl _ _ _ _ (.known c) => some c
  | some (.slice _), .nils => some 0
  | some (.slice _), .fsl _ _ (n + 1) true => some (n + 1 : Nat)
  | _, _ => none
theorem ok_cap (h : Rel P π w st) {t ty : TypeId} {x : D} {v : Value} {n : Int} (hv : VR P π (Mut π st) w x v) (hd : capD P t x = some n) : SOK P π w st (Builtin.cap_ #[t] ty #[v]) (.int .i64 n) st := by
  unfold capD at hd
  split at hd
  · rename_i n' e ht
    injection hd with hd; subst hd
    exact .val h (by simp [Builtin.cap_, run_underlying ht, Result.andThen, goInt]) (.int _ _)
  · rename_i e i o e' n' c ht
    injection hd with hd; subst hd
    cases hv with
    | sl _ _ _ _ _ b base off cap hp ho hc hn hr hq hsz =>
      obtain rfl := hc c rfl
      exact .val h (by simp [Builtin.cap_, run_underlying ht, Result.andThen, goInt]) (.int _ _)
  · rename_i e ht
    injection hd with hd; subst hd
    cases hv
    exact .val h (by simp [Builtin.cap_, run_underlying ht, Result.andThen, goInt]) (.int _ _)
  · rename_i e c e' n' ht
    injection hd with hd; subst hd
    cases hv with
    | fsl _ _ _ _ b base cap vs hn hf hr hb hm h1 hl hc h2 =>
      obtain rfl := hf rfl
      exact .val h (by simp [Builtin.cap_, run_underlying ht, Result.andThen, goInt]) (.int _ _)
  · cases hd

/-! ### Interfaces, functions, tuples -/
def makeIfaceD (P : Program) (t : TypeId) (x : D) : Option D :=
  match P.underlying t with
  | none => none
  | some (.interface _) => none
  | some _ => some (.iface t x)
theorem ok_makeIface (h : Rel P π w st) {t : TypeId} {x d : D} {v : Value} (hv : VR P π (Mut π st) w x v) (hd : makeIfaceD P t x = some d) : SOK P π w st (Instr.makeInterface t v) d st := by
  unfold makeIfaceD at hd
  split at hd
  · cases hd
  · cases hd
  · rename_i td hn ht
    injection hd with hd; subst hd
    refine .val h (v := .iface t v) ?_ (.iface _ _ _ hv)
    simp only [Instr.makeInterface, Sem.run_bind, run_underlying ht, Result.andThen_ok]
    rfl
def extractD (x : D) (i : Nat) : Option D :=
  match x with
  | .tup vs => vs[i]?
  | _ => none
theorem ok_extract (h : Rel P π w st) {x d : D} {i : Nat} {v : Value} (hv : VR P π (Mut π st) w x v) (hd : extractD x i = some d) : SOK P π w st (Instr.extract v i) d st := by
  unfold extractD at hd
  split at hd
  · cases hv with
    | tup _ vs hvs =>
      obtain ⟨u, hu, hr⟩ := hvs.get hd
      exact .val h (by simp [Instr.extract, hu]) hr
  · cases hd
end Go.Proofs.YtdodnmeilhhhgaaGreatDoor.AM
