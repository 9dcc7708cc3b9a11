/- PART OF THE ABSTRACT MACHINE over the given model: Law. It carries no condition of its own. -/
import Derived.Test.YtdodnmeilhhhgaaGreatDoorAmPure
import Derived.ProofKit
import Derived.OpenShut
import Derived.ChangeBook
import Derived.ChangeStays
import Derived.WideKeyElems4
set_option linter.unusedVariables false
set_option linter.unusedSimpArgs false
noncomputable section
namespace Go.Proofs.YtdodnmeilhhhgaaGreatDoor.AM
open Go.ChangeShapes Go.WideShapes Go.RowKit Go.WideElems
variable {P : Program} {H : Type} {enc : TypeId × Value → H}

/-- What lies in old blocks is read as before. -/
theorem sameAt_of_heap {W W' : World} (hk : ∀ b, b < W.heap.size → W'.heap[b]? = W.heap[b]?) {p : MemPlace} (hp : p.block < W.heap.size) : W.sameAt W' p := by
  cases p with
  | cell b off =>
    show W'.cell? ⟨b, off, none⟩ = W.cell? ⟨b, off, none⟩
    unfold World.cell?; simp only; rw [hk b hp]
  | map b => exact hk b hp
theorem trodAll_kept (hl : laidOutB P = true) {W W' : World} (hk : ∀ b, b < W.heap.size → W'.heap[b]? = W.heap[b]?) : ∀ {ts : List TypeId} {vs : List Value} {ds : List (DataW H)} {p : List MemPlace},
    (∀ t ∈ ts, P.readableRec t = true ∧ t < P.types.size) → DataW.TrodAll enc P W 0 (fun _ => true) true ts vs ds p → DataW.TrodAll enc P W' 0 (fun b => decide (b < W.heap.size)) true ts vs ds p := by
  intro ts
  induction ts with
  | nil =>
    intro vs ds p _ h
    obtain ⟨rfl, rfl, rfl⟩ := trodAll_nil h
    rfl
  | cons t ts ih =>
    intro vs ds p hr h
    obtain ⟨v, vs1, d, ds1, a, b, rfl, rfl, rfl, ⟨n, h1⟩, h2⟩ := trodAll_cons h
    obtain ⟨r1, r2⟩ := hr t (by simp)
    have hlt := DataW.trod_lt n t _ _ h1
    exact ⟨a, b, ⟨n, DataW.trod_stays (kids_book hl r1) (book_sized r1) (fun h => by cases h) ⟨r2, book_self t⟩ h1 (fun p hp => sameAt_of_heap hk (hlt p hp)) (fun p hp => by simpa using hlt p hp)⟩,
      ih (fun t ht => hr t (by simp [ht])) h2, rfl⟩
theorem keptBut_of_heap {W W' : World} (ho : W'.os = W.os) (hout : W'.output = W.output) (hk : ∀ b, b < W.heap.size → W'.heap[b]? = W.heap[b]?) (may : MemPlace → Prop) : W.keptBut W' may := by
  refine ⟨ho, hout, fun i hi => ?_⟩
  rw [hk i hi]
  generalize W.heap[i]? = o
  rcases o with _ | o
  · rfl
  · cases o <;> first | exact ⟨rfl, rfl, rfl, fun _ _ => rfl⟩ | exact .inr ⟨rfl, rfl⟩ | rfl

theorem trodAll_length {W : World} {base : Nat} {sp : Nat → Bool} {held : Bool} : ∀ {ts : List TypeId} {vs : List Value} {ds : List (DataW H)} {p : List MemPlace}, DataW.TrodAll enc P W base sp held ts vs ds p → vs.length = ts.length := by
  intro ts
  induction ts with
  | nil => intro vs ds p h; obtain ⟨rfl, _, _⟩ := trodAll_nil h; rfl
  | cons t ts ih =>
    intro vs ds p h
    obtain ⟨v, vs1, d, ds1, a, b, rfl, rfl, rfl, _, h2⟩ := trodAll_cons h
    simp [ih h2]

/-- The store of which nothing is known. -/
def bareSt (P : Program) : St := { next := P.globals.size, tr := .leaf }
theorem bareSt_get (i : Nat) : (bareSt P).get i = none := rfl
theorem bareSt_bare : Bare P (bareSt P) := ⟨rfl, fun i b h => by rw [bareSt_get] at h; cases h⟩
theorem bareSt_rel (w : World) : Rel P (homeNm P) w (bareSt P) := by
  have hnm : ∀ i, i < P.globals.size → homeNm P i = some (i, 0) := fun i hi => if_pos hi
  refine ⟨fun i b hi => ?_, fun i j bi bj n base base' hi hj hw => ?_, fun i hi => ?_, fun g hg => hnm g hg, fun n hn => hn.elim, fun i b n base hi hp hh => hh⟩
  · rw [bareSt_get] at hi; cases hi
  · rw [bareSt_get] at hi; cases hi
  · exact if_neg (Nat.not_lt.2 hi)

/-- A store that owns nothing: the call leaves all that was there. -/
theorem fr_of_bare {S0 : St} (hb : Bare P S0) {w w' : World} {π' : Nm} {st' : St} (m : Mv (homeNm P) w S0 π' w' st') : Fr (fun _ => False) w w' :=
  m.fr.weaken fun n _ hn => bare_mut hb n (.inl hn)

/-- THE LAW'S CALL, from the abstract machine: true, and all arguments are read as before. -/
theorem post_of_true {fn : Func} {s : ChangeSpec} {apart : Bool} {t0 : TypeId} (hl : laidOutB P = true) (hpar : ∀ t ∈ fn.params.toList, P.readableRec t = true ∧ t < P.types.size)
    (hres : fn.resultTypes.toList = [t0]) (hbool : P.underlying t0 = some .bool) (hvars : s.vars = []) (hsize : fn.resultTypes.size = 1)
    {W W' : World} {args : Array Value} {ds gs : List (DataW H)} {before : List MemPlace} (hW : DataW.Whole enc P fn.params.toList s.vars apart W args.toList ds gs before)
    (hs : s.fn H (ds ++ gs) = { results := [.lit (.bool true)], args := ds }) (hf : Fr (fun _ => False) W W') : s.post enc P fn apart true false false W args (.bool true) W' := by
  have hk : ∀ b, b < W.heap.size → W'.heap[b]? = W.heap[b]? := fun b hb => hf.keep b hb id
  obtain ⟨p, q, hA, hV, e, hfz, hnd⟩ := id hW
  rw [hvars] at hV
  obtain ⟨rfl, rfl⟩ := trodVars_none hV
  refine ⟨ds, [], before, [], p, [], hW, ?_, ?_, ?_, keptBut_of_heap hf.os hf.output hk _, fun h => by cases h⟩
  · rw [hs, hres, hsize]; exact trodAll_mk1 (shut_bool hbool true)
  · rw [hs]; exact trodAll_kept hl hk hpar hA
  · rw [hs, hvars]; rfl

theorem all_undef {π : Nm} {M : Nat → Prop} {w : World} : ∀ (vs : List Value), All2 (VR P π M w) (List.replicate vs.length .undef) vs
  | [] => .nil
  | v :: vs => .cons (.undef v) (all_undef vs)

theorem calls_of_true {fn : Func} {s : ChangeSpec} {apart : Bool} {t0 : TypeId} {f : FuncId} {S0 : St} (hb : Bare P S0) (hl : laidOutB P = true) (hpar : ∀ t ∈ fn.params.toList, P.readableRec t = true ∧ t < P.types.size)
    (hres : fn.resultTypes.toList = [t0]) (hbool : P.underlying t0 = some .bool) (hvars : s.vars = []) (hsize : fn.resultTypes.size = 1)
    {W : World} {args : Array Value} {ds gs : List (DataW H)} {before : List MemPlace} (hW : DataW.Whole enc P fn.params.toList s.vars apart W args.toList ds gs before)
    (hs : s.fn H (ds ++ gs) = { results := [.lit (.bool true)], args := ds }) (hrel : Rel P (homeNm P) W S0)
    {xs : List D} (has : All2 (VR P (homeNm P) (Mut (homeNm P) S0) W) xs args.toList) (hc : ACall P f xs S0 fun d _ => d = .bool true) :
    Calls P f args W fun e W' => ∃ v, e = .returned v ∧ s.post enc P fn apart true false false W args v W' := by
  have := hc (homeNm P) W args.toList hrel has
  refine this.mono fun e W' q => ?_
  cases e with
  | returned v =>
    obtain ⟨r, st', π', rfl, rel, vr, m⟩ := q
    cases vr
    exact ⟨_, rfl, post_of_true hl hpar hres hbool hvars hsize hW hs (fr_of_bare hb m)⟩
  | panicked => exact q.elim
  | outgrown => exact q.elim

/-- What the evaluator says. -/
def isTrue : Option (D × St) → Bool
  | some (.bool b, _) => b
  | _ => false
def noNat : FuncId → List D → St → Option (Option (D × St)) := fun _ _ _ => none
theorem noNat_ok : NatOK P noNat := fun _ _ _ _ _ h => by cases h
theorem acall_of_eval (hm : P.follows .mixedOrders = true) {N : FuncId → List D → St → Option (Option (D × St))} (hN : NatOK P N) {n : Nat} {f : FuncId} {as : List D} {S0 : St} (h : isTrue (acall P N n f as S0) = true) : ACall P f as S0 fun d _ => d = .bool true := by
  generalize hr : acall P N n f as S0 = r at h
  match r, h with
  | some (.bool true, s'), _ => exact (acall_ok hm hN n f as S0 _ s' hr).mono fun d s q => q.1
end Go.Proofs.YtdodnmeilhhhgaaGreatDoor.AM
