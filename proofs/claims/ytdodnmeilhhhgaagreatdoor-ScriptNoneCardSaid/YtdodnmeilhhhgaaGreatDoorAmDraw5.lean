/- PART OF THE ABSTRACT MACHINE over the given model: Draw5. It carries no condition of its own. -/
import Derived.Test.YtdodnmeilhhhgaaGreatDoorAmDraw4
set_option linter.unusedVariables false
set_option linter.unusedSimpArgs false
noncomputable section
namespace Go.Proofs.YtdodnmeilhhhgaaGreatDoor.AM
variable {P : Program} {π π' : Nm} {M : Nat → Prop} {w w' : World} {st st' : St} {fr : Fm} {a : Act}
  {call : FuncId → List D → St → Option (D × St)} {ops : Array Oper} {base em : Nat}

def putRow (f : Fm) (z : Row × Fm × D) : Fm := f.putO z.1.o.dst z.2.2

theorem pass1_ok : ∀ (rs : List Row) (fr : Fm) (nodes : List (Nat × St)) (fr1 : Fm) (nd : List (Nat × St)) (l : List (Row × Fm × D)), (∀ r ∈ rs, r.ef = reader P r.o → False) → pass1 P call ops base em rs fr nodes = some (fr1, nd, l) →
    (∀ x ∈ nodes, x ∈ nd) ∧ (∀ x ∈ nd, x ∈ nodes ∨ ∃ r ∈ rs, x.1.testBit r.i = true) ∧ l.map (·.1) = rs ∧
    (∀ (k : Nat) (y : Row × Fm × D), l[k]? = some y → ∀ x ∈ nd, compatB em y.1 x.1 = true → (∀ r' ∈ rs.drop k, x.1.testBit r'.i = false) → ∃ s', evalRow P call ops base y.1 y.2.1 x.2 = some (y.2.2, s') ∧ (y.1.ef = true → (x.1 ||| 1 <<< y.1.i, s') ∈ nd)) ∧
    (∀ (k : Nat) (y : Row × Fm × D), l[k]? = some y → y.2.1 = (l.take k).foldl putRow fr) ∧ fr1 = l.foldl putRow fr := by
  intro rs
  induction rs with
  | nil =>
    intro fr nodes fr1 nd l _ h
    simp only [pass1] at h
    injection h with h; injection h with e1 h; injection h with e2 e3
    subst e1; subst e2; subst e3
    exact ⟨fun _ h => h, fun _ h => .inl h, rfl, by simp, by simp, rfl⟩
  | cons r rs ih =>
    intro fr nodes fr1 nd l hef h
    simp only [pass1] at h
    split at h
    · rename_i m d s' rest hat
      split at h
      · rename_i hall
        split at h
        · rename_i fr2 nd2 l2 hrec
          injection h with h; injection h with e1 h; injection h with e2 e3
          subst e1; subst e2; subst e3
          obtain ⟨hA, hB, hC, hD, hE, hF⟩ := ih _ _ _ _ _ (fun r' hr' => hef r' (by simp [hr'])) hrec
          have hsub : ∀ x ∈ nodes, x ∈ nd2 := fun x hx => hA x (by split <;> simp [hx])
          refine ⟨hsub, fun x hx => ?_, by simp [hC], fun k y hy => ?_, fun k y hy => ?_, ?_⟩
          · rcases hB x hx with h | ⟨r', hr', hb⟩
            · split at h
              · rcases List.mem_append.1 h with h | h
                · exact .inl h
                · rw [List.mem_map] at h
                  obtain ⟨z, _, rfl⟩ := h
                  exact .inr ⟨r, by simp, by simp [Nat.testBit_or, testBit_one_shiftLeft]⟩
              · exact .inl h
            · exact .inr ⟨r', by simp [hr'], hb⟩
          · cases k with
            | zero =>
              simp only [List.getElem?_cons_zero, Option.some.injEq] at hy; subst hy
              intro x hx hc hbits
              simp only at hc ⊢
              have hxn : x ∈ nodes := by
                rcases hB x hx with h | ⟨r', hr', hb⟩
                · split at h
                  · rcases List.mem_append.1 h with h | h
                    · exact h
                    · rw [List.mem_map] at h
                      obtain ⟨z, _, rfl⟩ := h
                      have := hbits r (by simp)
                      simp [Nat.testBit_or, testBit_one_shiftLeft] at this
                  · exact h
                · have := hbits r' (by simp [hr']); rw [hb] at this; cases this
              obtain ⟨y, hy, hmem⟩ := atNodes_ok _ _ hat x hxn hc
              have hd : d = y.1 := by
                rcases List.mem_cons.1 hmem with e | hmem
                · injection e with _ e; injection e with e _; exact e.symm
                · exact D.beq_ok _ _ _ (List.all_eq_true.1 hall _ hmem)
              refine ⟨y.2, by rw [hy, hd], fun he => hA _ ?_⟩
              rw [if_pos he]
              exact List.mem_append_right _ (List.mem_map.2 ⟨_, hmem, rfl⟩)
            | succ k =>
              intro x hx hc hbits
              exact hD k y (by simpa using hy) x hx hc (by simpa using hbits)
          · cases k with
            | zero => simp only [List.getElem?_cons_zero, Option.some.injEq] at hy; subst hy; rfl
            | succ k => rw [hE k y (by simpa using hy)]; rfl
          · rw [hF]; rfl
        · cases h
      · cases h
    · cases h

theorem get_putO (f : Fm) (x : Option Nat) (d : D) (t : Nat) : (f.putO x d).get t = if x = some t ∧ t < f.n then d else f.get t := by
  unfold Fm.putO
  cases x with
  | none => simp
  | some u =>
    simp only [Fm.put_eq]
    by_cases hu : u < f.n
    · rw [if_pos hu]
      simp only [Fm.get, Tr.get_put]
      by_cases e : t = u
      · subst e; simp [hu]
      · have : ¬ some u = some t := fun h => e (by injection h with h; exact h.symm)
        simp [e, this]
    · rw [if_neg hu]
      have : ¬ (some u = some t ∧ t < f.n) := by rintro ⟨h, h'⟩; injection h with h; subst h; exact hu h'
      rw [if_neg this]
theorem n_putO (f : Fm) (x : Option Nat) (d : D) : (f.putO x d).n = f.n := by
  unfold Fm.putO
  simp only [Fm.put_eq]
  cases x with
  | none => rfl
  | some u => simp only; split <;> rfl
theorem n_fold : ∀ (l : List (Row × Fm × D)) (f : Fm), (l.foldl putRow f).n = f.n := by
  intro l
  induction l with
  | nil => intro f; rfl
  | cons x l ih => intro f; rw [List.foldl_cons, ih]; exact n_putO ..

theorem fold_get {l : List (Row × Fm × D)} {fr : Fm} {wr : Nat → Option Nat} {d : Nat → D} (hl : ∀ (k : Nat) (y : Row × Fm × D), l[k]? = some y → ops[k]? = some y.1.o ∧ y.2.2 = d k) (hw : ∀ t j, wr t = some j ↔ ∃ o, ops[j]? = some o ∧ o.dst = some t) :
    ∀ k, k ≤ l.length → ∀ t, ((l.take k).foldl putRow fr).get t = slotOf wr d fr (fun j => decide (j < k)) t := by
  intro k
  induction k with
  | zero => intro _ t; unfold slotOf; cases wr t <;> simp
  | succ k ih =>
    intro hk t
    have hget : l[k]? = some l[k] := List.getElem?_eq_getElem hk
    obtain ⟨ho, hd⟩ := hl k _ hget
    rw [List.take_add_one, hget, List.foldl_append]
    simp only [Option.toList_some, List.foldl_cons, List.foldl_nil]
    rw [show ∀ f, putRow f l[k] = f.putO l[k].1.o.dst l[k].2.2 from fun _ => rfl, get_putO, n_fold, ih (by omega) t]
    unfold slotOf
    by_cases hx : l[k].1.o.dst = some t
    · have : wr t = some k := (hw t k).2 ⟨_, ho, hx⟩
      simp only [hx, this, true_and, decide_true, Nat.lt_succ_self, Nat.lt_irrefl, decide_false, Bool.false_eq_true, false_and, if_false, hd]
    · rw [if_neg (fun h => hx h.1)]
      cases hwt : wr t with
      | none => rfl
      | some j =>
        have hjk : j ≠ k := fun e => by
          subst e
          obtain ⟨o', ho', hd'⟩ := (hw t j).1 hwt
          rw [ho] at ho'; injection ho' with ho'; subst ho'; exact hx hd'
        have : (j < k + 1) = (j < k) := by apply propext; omega
        simp only [this]

theorem AW.regionD (hm : P.follows .mixedOrders = true) (hcall : CallOK P call) {id : Nat} {Q : AX → Fm → St → Prop} {fr1 : Fm} {st1 : St} (h : AM.regionD P call ops fr st = some (fr1, st1)) (hQ : Q .norm fr1 st1) : AW P (.region id ops true) fr st Q := by
  unfold AM.regionD at h
  split at h
  · cases h
  · rename_i sta hsta
    split at h
    · cases h
    · rename_i fr2 nd l hp1
      split at h
      · rename_i hp2
        split at h
        · rename_i m0 s0 hfil
          injection h with h; injection h with e1 e2; subst e1; subst e2
          unfold stat at hsta
          split at hsta
          · rename_i all hall
            simp only at hsta
            split at hsta
            · rename_i hu
              injection hsta with hsta; subst hsta
              obtain ⟨hu, hreads⟩ := hu
              simp only at hp1 hp2 hfil
              obtain ⟨hanc, hlen⟩ := ancs_ok (ops := ops) ops.toList [] all (by simp) ⟨by simp, by simp⟩ hall
              have hrow : ∀ (k : Nat) (r : Row), (mkRows P all (emOf (fun o => !reader P o) ops.toList 0) ops.toList 0)[k]? = some r ↔ ∃ o, ops[k]? = some o ∧ r = rowOf P all (emOf (fun o => !reader P o) ops.toList 0) k o := by
                intro k r
                rw [mkRows_get, Option.map_eq_some_iff, Nat.zero_add]
                simp only [Array.getElem?_toList]
                constructor
                · rintro ⟨o, h1, h2⟩; exact ⟨o, h1, h2.symm⟩
                · rintro ⟨o, h1, h2⟩; exact ⟨o, h1, h2.symm⟩
              generalize hemd : emOf (fun o => !reader P o) ops.toList 0 = em at *
              generalize hrows : mkRows P all em ops.toList 0 = rows at *
              have hem : ∀ b, em.testBit b = true ↔ ∃ o, ops[b]? = some o ∧ reader P o = false := by
                intro b
                rw [← hemd, emOf_ok]
                simp
              obtain ⟨hA, hB, hC, hD, hE, hF⟩ := pass1_ok rows fr _ fr2 nd l (fun r hr he => by
                obtain ⟨k, hk⟩ := List.getElem?_of_mem hr
                obtain ⟨o, _, rfl⟩ := (hrow k r).1 hk
                simp [rowOf] at he) hp1
              have hlk : ∀ (k : Nat) (y : Row × Fm × D), l[k]? = some y → ∃ o, ops[k]? = some o ∧ y.1 = rowOf P all em k o := fun k y hy => by
                refine (hrow k y.1).1 ?_
                rw [← hC, List.getElem?_map, hy]; rfl
              have hlo : ∀ (k : Nat) (o : Oper), ops[k]? = some o → ∃ y, l[k]? = some y ∧ y.1 = rowOf P all em k o := fun k o ho => by
                have := (hrow k _).2 ⟨o, ho, rfl⟩
                rw [← hC, List.getElem?_map, Option.map_eq_some_iff] at this
                exact this
              have hw := wrOf_ok ops.toList hu
              simp only [Array.getElem?_toList] at hw
              have hll : l.length = ops.size := by
                rw [← List.length_map (f := (·.1)) (as := l), hC, ← hrows]
                have : ∀ (l : List Oper) (i : Nat), (mkRows P all em l i).length = l.length := by
                  intro l; induction l with
                  | nil => intro i; rfl
                  | cons o l ih => intro i; simp [mkRows, ih]
                rw [this]; simp
              refine AW.drawn (st0 := st) (S0 := if (rows.any fun r => r.fl) = true then { st with next := st.next + ops.size } else st) (st1 := s0) (d := fun k => (l[k]?).elim .undef (·.2.2)) (frs := fun k => (l[k]?).elim fr (·.2.1)) (an := fun k => all.getD k 0) (ef := fun k => (ops[k]?).elim false fun o => !reader P o)
                (fl := fun k => (rows[k]?).bind fun r => if r.fl = true then some (st.next + k) else none) (wr := wrOf ops.toList 0) (N := fun m s => (m, s) ∈ nd) hm
                ⟨fun i o hi => ?_, hw, fun i o t j hi hl hj => ?_, fun i o t hi => ?_, fun i o hi => ?_, fun t => ?_, ?_, fun i k hk => ?_, fun i j k hi hj => ?_, hA _ (by simp), fun m s i o hN hi hmi hcp => ?_, fun m s hN hall' => ?_⟩ ?_ ?_ hQ
              · have hlt : i < all.length := by rw [hlen]; simp; exact (Array.getElem?_eq_some_iff.1 hi).1
                have hg : all[i]? = some (all.getD i 0) := by simp [hlt]
                obtain ⟨h1, h2⟩ := hanc.2 i _ hg
                exact ⟨h1, h2 o hi⟩
              · have hr := List.all_eq_true.1 hreads _ (List.mem_of_getElem? ((hrow i _).2 ⟨o, hi, rfl⟩))
                have := List.all_eq_true.1 hr t (looks_mem hl)
                rw [hj] at this
                simpa [rowOf] using this
              · obtain ⟨y, hy, _⟩ := hlo i o hi
                simp only [hy, Option.elim]
                rw [hE i y hy]
                refine fold_get (ops := ops) (fun k y hy => ?_) hw i (by rw [hll]; exact Nat.le_of_lt (Array.getElem?_eq_some_iff.1 hi).1) t
                obtain ⟨o, ho, hyo⟩ := hlk k y hy
                exact ⟨by rw [hyo]; exact ho, by rw [hy]⟩
              · obtain ⟨y, hy, _⟩ := hlo i o hi
                simp only [hy, Option.elim]
                rw [hE i y hy, n_fold]
              · rw [hF]
                have := fold_get (ops := ops) (l := l) (fr := fr) (wr := wrOf ops.toList 0) (d := fun k => (l[k]?).elim .undef (·.2.2)) (fun k y hy => by
                  obtain ⟨o, ho, hyo⟩ := hlk k y hy
                  exact ⟨by rw [hyo]; exact ho, by simp [hy]⟩) hw l.length (Nat.le_refl _) t
                rw [List.take_length] at this
                rw [this]
                unfold slotOf
                cases hwt : wrOf ops.toList 0 t with
                | none => rfl
                | some j =>
                  obtain ⟨o', ho', _⟩ := (hw t j).1 hwt
                  have : j < l.length := by rw [hll]; exact (Array.getElem?_eq_some_iff.1 ho').1
                  simp only [this, decide_true]
              · rw [hF, n_fold]
              · rw [Option.bind_eq_some_iff] at hk
                obtain ⟨r, hr, hk⟩ := hk
                split at hk
                · rename_i hf
                  injection hk with hk; subst hk
                  have : (rows.any fun r => r.fl) = true := List.any_eq_true.2 ⟨r, List.mem_of_getElem? hr, hf⟩
                  rw [if_pos this]
                  obtain ⟨o, ho, _⟩ := (hrow i r).1 hr
                  have := (Array.getElem?_eq_some_iff.1 ho).1
                  simp only
                  omega
                · cases hk
              · rw [Option.bind_eq_some_iff] at hi hj
                obtain ⟨r, hr, hi⟩ := hi
                obtain ⟨r', hr', hj⟩ := hj
                split at hi <;> split at hj <;> first | (cases hi; done) | (cases hj; done) | skip
                injection hi with hi; injection hj with hj; omega
              · obtain ⟨y, hy, hyo⟩ := hlo i o hi
                simp only [hy, hi, Option.elim]
                have hcb : compatB em y.1 m = true := by
                  rw [hyo]
                  simp only [compatB, rowOf, Bool.and_eq_true, beq_iff_eq]
                  constructor
                  · apply Nat.eq_of_testBit_eq
                    intro b
                    simp only [Nat.testBit_and]
                    cases h1 : (all.getD i 0).testBit b <;> cases h2 : em.testBit b <;> simp
                    obtain ⟨ob, hob, hr⟩ := (hem b).1 h2
                    exact hcp.1 b h1 (by simp [hob, hr])
                  · apply Nat.eq_of_testBit_eq
                    intro b
                    simp only [Nat.testBit_and, Nat.zero_testBit, Bool.and_eq_false_iff]
                    cases h1 : m.testBit b with
                    | false => exact .inl rfl
                    | true =>
                      right
                      cases h2 : (dsOf i all 0).testBit b with
                      | false => rfl
                      | true =>
                        obtain ⟨an, _, h3, h4⟩ := dsOf_ok all 0 h2
                        have := hcp.2 b h1
                        simp only [Nat.sub_zero] at h3
                        simp [h3, h4] at this
                have hfl : (rows[i]?).bind (fun r => if r.fl = true then some (st.next + i) else none) = if y.1.fl = true then some (st.next + y.1.i) else none := by
                  rw [(hrow i _).2 ⟨o, hi, rfl⟩, hyo]; rfl
                have key : ∃ s', evalRow P call ops st.next y.1 y.2.1 s = some (y.2.2, s') ∧ (y.1.ef = true → (m ||| 1 <<< y.1.i, s') ∈ nd) := by
                  by_cases hlt : m < 1 <<< i
                  · refine hD i y hy (m, s) hN hcb fun r' hr' => ?_
                    obtain ⟨k, hk⟩ := List.getElem?_of_mem hr'
                    rw [List.getElem?_drop] at hk
                    obtain ⟨o', _, rfl⟩ := (hrow _ _).1 hk
                    simp only [rowOf]
                    refine Nat.testBit_lt_two_pow (Nat.lt_of_lt_of_le hlt ?_)
                    rw [Nat.one_shiftLeft]
                    exact Nat.pow_le_pow_right (by decide) (by omega)
                  · have h2 := List.all_eq_true.1 (List.all_eq_true.1 hp2 _ hN) y (List.mem_of_getElem? hy)
                    have hyi : y.1.i = i := by rw [hyo]; rfl
                    simp only [chk2, hyi, hmi, hlt, hcb, decide_false, Bool.false_or, Bool.not_true] at h2
                    split at h2
                    · rename_i d' s' hev
                      simp only [Bool.and_eq_true, Bool.or_eq_true, Bool.not_eq_true'] at h2
                      refine ⟨s', by rw [hev, D.beq_ok _ _ _ h2.1], fun he => ?_⟩
                      rcases h2.2 with h3 | h3
                      · rw [he] at h3; cases h3
                      · obtain ⟨z, hz, hz2⟩ := List.any_eq_true.1 h3
                        simp only [Bool.and_eq_true, beq_iff_eq] at hz2
                        have := St.beq_ok _ _ hz2.2
                        rw [hyi, ← hz2.1, this]; exact hz
                    · cases h2
                obtain ⟨s', hev, hin⟩ := key
                have hyor : y.1.o = o := by rw [hyo]; rfl
                have hyef : y.1.ef = !reader P o := by rw [hyo]; rfl
                have hyi : y.1.i = i := by rw [hyo]; rfl
                refine ⟨s', ?_, ?_⟩
                · have := evalRow_ok hcall hev
                  rw [hyor, ← hfl] at this
                  exact this
                · cases hrd : reader P o with
                  | false => simp only [Bool.not_false, if_true]; rw [hyef, hyi] at hin; exact hin (by simp [hrd])
                  | true =>
                    simp only [Bool.not_true, Bool.false_eq_true, if_false]
                    have : s' = s := evalRow_reader (by rw [hyor]; exact hrd) (by rw [hyo]; simp [rowOf, hrd]) hev
                    rw [this]; exact hN
              · have hin : (m, s) ∈ nd.filter (fun x => x.1 &&& em == em) := by
                  rw [List.mem_filter]
                  refine ⟨hN, ?_⟩
                  simp only [beq_iff_eq]
                  apply Nat.eq_of_testBit_eq
                  intro b
                  simp only [Nat.testBit_and]
                  cases h2 : em.testBit b <;> simp
                  obtain ⟨ob, hob, hr⟩ := (hem b).1 h2
                  exact hall' b ob hob (by simp [hob, hr])
                rw [hfil] at hin
                simp at hin
                exact hin.2
              · split
                · exact Nat.le_add_right _ _
                · exact Nat.le_refl _
              · intro i; split <;> rfl
            · cases hsta
          · cases hsta
        · cases h
      · cases h
end Go.Proofs.YtdodnmeilhhhgaaGreatDoor.AM
