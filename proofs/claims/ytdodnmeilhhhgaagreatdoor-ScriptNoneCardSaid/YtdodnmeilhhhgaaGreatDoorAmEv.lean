/- PART OF THE ABSTRACT MACHINE over the given model: Ev. It carries no condition of its own. -/
import Derived.Test.YtdodnmeilhhhgaaGreatDoorAmDraw5
import Derived.Scope
set_option linter.unusedVariables false
set_option linter.unusedSimpArgs false
noncomputable section
namespace Go.Proofs.YtdodnmeilhhhgaaGreatDoor.AM
variable {P : Program} {π π' : Nm} {M : Nat → Prop} {w w' : World} {st st' : St} {fr : Fm} {a : Act}
  {call : FuncId → List D → St → Option (D × St)} {ops : Array Oper}

section
variable (P : Program) (call : FuncId → List D → St → Option (D × St)) (ops : Array Oper)
def linD : List Oper → Fm → St → Option (Fm × St)
  | [], fr, s => some (fr, s)
  | o :: l, fr, s => match wantedD ops fr o with
    | none => none
    | some false => linD l (fr.putO o.dst (.tup [])) s
    | some true => match runOp P call (fr.ev P) s o with
      | some (d, s') => linD l (fr.putO o.dst d) s'
      | none => none
end
theorem linD_ok (hcall : CallOK P call) {Q : Fm → St → Prop} : ∀ (l : List Oper) (k : Nat) (fr : Fm) (s : St) (f : Fm) (s' : St), l = ops.toList.drop k → linD P call ops l fr s = some (f, s') → Q f s' → AOps P ops (List.range' k l.length) fr s Q := by
  intro l
  induction l with
  | nil => intro k fr s f s' _ h hQ; simp only [linD] at h; injection h with h; injection h with e1 e2; subst e1; subst e2; exact .nil hQ
  | cons o l ih =>
    intro k fr s f s' hl h hQ
    have hi : ops[k]? = some o := by
      have : (ops.toList.drop k)[0]? = some o := by rw [← hl]; rfl
      rw [List.getElem?_drop] at this; simpa using this
    have hl' : l = ops.toList.drop (k + 1) := by
      have : l = (o :: l).drop 1 := rfl
      rw [this, hl, List.drop_drop]
    rw [List.length_cons, List.range'_succ]
    simp only [linD] at h
    split at h
    · cases h
    · rename_i hw; exact .skip hi hw (ih _ _ _ _ _ hl' h hQ)
    · rename_i hw
      split at h
      · rename_i d s2 hr
        exact .cons hi hw fun π w a next Q' hc hv hn => runOp_ok hcall hr π w a next Q' hc hv fun d' st' v w' π' ⟨e1, e2⟩ => by
          subst e1; subst e2
          exact hn _ _ v w' π' (ih _ _ _ _ _ hl' h hQ)
      · cases h

/-- Code, evaluated. -/
def acode (P : Program) (N : FuncId → List D → St → Option (Option (D × St))) : Nat → Code → Fm → St → Option (AX × Fm × St)
  | 0, _, _, _ => none
  | n + 1, c, fr, st =>
    let call : FuncId → List D → St → Option (D × St) := fun g args s => match N g args s with
      | some r => r
      | none => match P.funcs[g]? with
        | none => none
        | some fn => match fn.body with
          | none => none
          | some c => match acode P N n c (Fm.init args (args.length + (fn.ntmps - args.length))) s with
            | some (.norm, f, s') => (resD P f s' fn.results.toList).map (·, s')
            | some (.ret, f, s') => (resD P f s' fn.results.toList).map (·, s')
            | _ => none
    match c with
    | .skip => some (.norm, fr, st)
    | .label _ => some (.norm, fr, st)
    | .exit id => some (.exit id, fr, st)
    | .ret => some (.ret, fr, st)
    | .scope x => acode P N n x fr st
    | .seq x y => match acode P N n x fr st with
      | some (.norm, f, s) => acode P N n y f s
      | r => r
    | .cond c x y => match fr.ev P c with
      | .bool true => acode P N n x fr st
      | .bool false => acode P N n y fr st
      | _ => none
    | .block id x => match acode P N n x fr st with
      | some (.exit i, f, s) => if i = id then some (.norm, f, s) else some (.exit i, f, s)
      | r => r
    | .loop x => match acode P N n x fr st with
      | some (.norm, f, s) => acode P N n (.loop x) f s
      | r => r
    | .region _ ops false => (linD P call ops ops.toList fr st).map fun r => (.norm, r.1, r.2)
    | .region _ ops true => (regionD P call ops fr st).map fun r => (.norm, r.1, r.2)
    | _ => none
def acall (P : Program) (N : FuncId → List D → St → Option (Option (D × St))) (n : Nat) : FuncId → List D → St → Option (D × St) := fun g args s => match N g args s with
      | some r => r
      | none => match P.funcs[g]? with
        | none => none
        | some fn => match fn.body with
          | none => none
          | some c => match acode P N n c (Fm.init args (args.length + (fn.ntmps - args.length))) s with
            | some (.norm, f, s') => (resD P f s' fn.results.toList).map (·, s')
            | some (.ret, f, s') => (resD P f s' fn.results.toList).map (·, s')
            | _ => none

/-- What is said of functions beforehand. -/
def NatOK (P : Program) (N : FuncId → List D → St → Option (Option (D × St))) : Prop :=
  ∀ g args s d s', N g args s = some (some (d, s')) → ACall P g args s fun x y => x = d ∧ y = s'

theorem AW.scope {c : Code} {Q : AX → Fm → St → Prop} (h : AW P c fr st Q) : AW P (.scope c) fr st Q := fun π w a hc =>
  wp_scope_straight (Code.wp_mono (fun e a' w' q => by cases e <;> exact q) (h π w a hc))
theorem AW.rounds_of {c : Code} {Q : AX → Fm → St → Prop} (h : ∃ n, ARounds P c Q n fr st) : AW P (.loop c) fr st Q := by
  obtain ⟨n, h⟩ := h; exact .loop n h

theorem acall_ok_of {N : FuncId → List D → St → Option (Option (D × St))} (hN : NatOK P N) {n : Nat}
    (ih : ∀ (c : Code) (fr : Fm) (st : St) (x : AX) (f : Fm) (s : St), acode P N n c fr st = some (x, f, s) → AW P c fr st fun x' f' s' => x' = x ∧ f' = f ∧ s' = s) : CallOK P (acall P N n) := by
  intro g args s d s' h
  unfold acall at h
  split at h
  · rename_i r hr
    subst h
    exact hN _ _ _ _ _ hr
  · split at h
    · cases h
    · rename_i fn hfn
      split at h
      · cases h
      · rename_i c hc
        have key : ∀ x f s2, (x = .norm ∨ x = .ret) → acode P N n c (Fm.init args (args.length + (fn.ntmps - args.length))) s = some (x, f, s2) → (resD P f s2 fn.results.toList).map (·, s2) = some (d, s') → ACall P g args s fun x y => x = d ∧ y = s' := by
          intro x f s2 hx hev hres
          rw [Option.map_eq_some_iff] at hres
          obtain ⟨d', hd', he⟩ := hres
          injection he with e1 e2; subst e1; subst e2
          exact .of_body hfn hc ((ih _ _ _ _ _ _ hev).mono fun x' f' s' ⟨h1, h2, h3⟩ => by
            subst h1; subst h2; subst h3
            exact ⟨hx, d', hd', rfl, rfl⟩)
        split at h
        · rename_i f s2 hev; exact key _ _ _ (.inl rfl) hev h
        · rename_i f s2 hev; exact key _ _ _ (.inr rfl) hev h
        · cases h

/-- A loop's rounds, counted. -/
theorem acode_ok (hm : P.follows .mixedOrders = true) {N : FuncId → List D → St → Option (Option (D × St))} (hN : NatOK P N) : ∀ (n : Nat) (c : Code) (fr : Fm) (st : St) (x : AX) (f : Fm) (s : St), acode P N n c fr st = some (x, f, s) →
    AW P c fr st (fun x' f' s' => x' = x ∧ f' = f ∧ s' = s) ∧ ∀ c', c = .loop c' → ∃ k, ARounds P c' (fun x' f' s' => x' = x ∧ f' = f ∧ s' = s) k fr st := by
  intro n
  induction n with
  | zero => intro c fr st x f s h; cases h
  | succ n ih =>
    intro c fr st x f s h
    have ih1 := fun c fr st x f s h => (ih c fr st x f s h).1
    have hcall : CallOK P (acall P N n) := acall_ok_of hN ih1
    have triv : ∀ {c : Code}, (∀ c', c ≠ .loop c') → AW P c fr st (fun x' f' s' => x' = x ∧ f' = f ∧ s' = s) → AW P c fr st (fun x' f' s' => x' = x ∧ f' = f ∧ s' = s) ∧ ∀ c', c = .loop c' → ∃ k, ARounds P c' (fun x' f' s' => x' = x ∧ f' = f ∧ s' = s) k fr st :=
      fun hne h => ⟨h, fun c' e => absurd e (hne c')⟩
    unfold acode at h
    cases c with
    | skip => simp only [Option.some.injEq, Prod.mk.injEq] at h; obtain ⟨rfl, rfl, rfl⟩ := h; exact triv (by simp) (.skip ⟨rfl, rfl, rfl⟩)
    | label l => simp only [Option.some.injEq, Prod.mk.injEq] at h; obtain ⟨rfl, rfl, rfl⟩ := h; exact triv (by simp) (.label ⟨rfl, rfl, rfl⟩)
    | exit id => simp only [Option.some.injEq, Prod.mk.injEq] at h; obtain ⟨rfl, rfl, rfl⟩ := h; exact triv (by simp) (.exit ⟨rfl, rfl, rfl⟩)
    | ret => simp only [Option.some.injEq, Prod.mk.injEq] at h; obtain ⟨rfl, rfl, rfl⟩ := h; exact triv (by simp) (.ret ⟨rfl, rfl, rfl⟩)
    | scope b => exact triv (by simp) (.scope (ih1 _ _ _ _ _ _ h))
    | seq y z =>
      refine triv (by simp) (.seq ?_)
      simp only at h
      split at h
      · rename_i f1 s1 h1
        refine (ih1 _ _ _ _ _ _ h1).mono fun x' f' s' ⟨e1, e2, e3⟩ => ?_
        subst e1; subst e2; subst e3
        rw [if_pos rfl]
        exact ih1 _ _ _ _ _ _ h
      · rename_i hne
        refine (ih1 _ _ _ _ _ _ h).mono fun x' f' s' ⟨e1, e2, e3⟩ => ?_
        subst e1; subst e2; subst e3
        rw [if_neg (fun e => by subst e; exact hne _ _ h)]
        exact ⟨rfl, rfl, rfl⟩
    | cond c y z =>
      simp only at h
      split at h
      · rename_i hc; exact triv (by simp) (.cond hc (ih1 _ _ _ _ _ _ h))
      · rename_i hc; exact triv (by simp) (.cond hc (ih1 _ _ _ _ _ _ h))
      · cases h
    | block id y =>
      refine triv (by simp) (.block ?_)
      simp only at h
      split at h
      · rename_i i f1 s1 h1
        refine (ih1 _ _ _ _ _ _ h1).mono fun x' f' s' ⟨e1, e2, e3⟩ => ?_
        subst e1; subst e2; subst e3
        by_cases e : i = id
        · subst e
          rw [if_pos rfl] at h ⊢
          simp only [Option.some.injEq, Prod.mk.injEq] at h
          obtain ⟨rfl, rfl, rfl⟩ := h
          exact ⟨rfl, rfl, rfl⟩
        · rw [if_neg e] at h
          rw [if_neg (by intro h; injection h with h; exact e h)]
          simp only [Option.some.injEq, Prod.mk.injEq] at h
          obtain ⟨rfl, rfl, rfl⟩ := h
          exact ⟨rfl, rfl, rfl⟩
      · rename_i hne
        refine (ih1 _ _ _ _ _ _ h).mono fun x' f' s' ⟨e1, e2, e3⟩ => ?_
        subst e1; subst e2; subst e3
        rw [if_neg (fun e => by subst e; exact hne _ _ _ h)]
        exact ⟨rfl, rfl, rfl⟩
    | loop y =>
      have key : ∃ k, ARounds P y (fun x' f' s' => x' = x ∧ f' = f ∧ s' = s) k fr st := by
        simp only at h
        split at h
        · rename_i f1 s1 h1
          obtain ⟨k, hk⟩ := (ih _ _ _ _ _ _ h).2 y rfl
          refine ⟨k + 1, (ih1 _ _ _ _ _ _ h1).mono fun x' f' s' ⟨e1, e2, e3⟩ => ?_⟩
          subst e1; subst e2; subst e3
          rw [if_pos rfl]; exact hk
        · rename_i hne
          refine ⟨1, (ih1 _ _ _ _ _ _ h).mono fun x' f' s' ⟨e1, e2, e3⟩ => ?_⟩
          subst e1; subst e2; subst e3
          rw [if_neg (fun e => by subst e; exact hne _ _ h)]
          exact ⟨rfl, rfl, rfl⟩
      refine ⟨.rounds_of key, fun c' e => ?_⟩
      injection e with e; subst e; exact key
    | region id ops draw =>
      cases draw with
      | false =>
        simp only [Option.map_eq_some_iff] at h
        obtain ⟨⟨f', s'⟩, h1, h2⟩ := h
        simp only [Prod.mk.injEq] at h2
        obtain ⟨rfl, rfl, rfl⟩ := h2
        refine triv (by simp) (.region ?_)
        have := linD_ok (ops := ops) (Q := fun f2 s2 => AX.norm = AX.norm ∧ f2 = f' ∧ s2 = s') hcall ops.toList 0 fr st f' s' rfl h1 ⟨rfl, rfl, rfl⟩
        rw [List.range_eq_range']
        simpa using this
      | true =>
        simp only [Option.map_eq_some_iff] at h
        obtain ⟨⟨f', s'⟩, h1, h2⟩ := h
        simp only [Prod.mk.injEq] at h2
        obtain ⟨rfl, rfl, rfl⟩ := h2
        exact triv (by simp) (AW.regionD hm hcall h1 ⟨rfl, rfl, rfl⟩)
    | _ => cases h
theorem acall_ok (hm : P.follows .mixedOrders = true) {N : FuncId → List D → St → Option (Option (D × St))} (hN : NatOK P N) (n : Nat) : CallOK P (acall P N n) := acall_ok_of hN fun c fr st x f s h => (acode_ok hm hN n c fr st x f s h).1
end Go.Proofs.YtdodnmeilhhhgaaGreatDoor.AM
