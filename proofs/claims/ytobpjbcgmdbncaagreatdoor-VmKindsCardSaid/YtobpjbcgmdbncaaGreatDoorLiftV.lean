/- A part of the proof (own lemmas, no condition beyond those that each theorem states): the layer over the model that all of the proofs of this seat stand on. -/
import Derived.Test.YtobpjbcgmdbncaaGreatDoorLiftU
import Derived.ProofKit
set_option linter.unusedVariables false
set_option linter.unusedSectionVars false
set_option linter.unusedSimpArgs false
namespace Go.Lift
open Go Go.RowKit
variable [G : Glob]

section
variable {P : Program} {ty : Tys} {N : Nat} {M : Mem} {ρ : Rho} {h h' : Heap} {w : World}

/-- A call whose law is known, as the kit's word. -/
theorem ACalls.calls {g : FuncId} {fn : Func} {c : Code} (hf : P.funcs[g]? = some fn) (hb : fn.body = some c) (hname : (fn.name == "runtime.NumGoroutine") = false) {args : List AV} {Q : AV → Heap → Prop} (hc : ACalls P g args h Q) {vs : Array Value} (s : Sim M ρ h w) (hr : Rels M ρ args vs) :
    Calls P g vs w fun e w' => ∃ v r h' M' ρ', e = .returned v ∧ Step M ρ h w M' ρ' h' w' ∧ Sim M' ρ' h' w' ∧ Rel M' ρ' r v ∧ Q r h' := by
  let o : Oper := { dst := some 0, op := .move (.tmp 0), type := 0, pos := "", after := #[], guard := none }
  let a : Act := { tmps := #[Go.undef], defers := [] }
  have hout := hc.out M ρ w vs s hr o a (fun a' w' => ∃ v r h' M' ρ', a' = a.put (some 0) v ∧ Step M ρ h w M' ρ' h' w' ∧ Sim M' ρ' h' w' ∧ Rel M' ρ' r v ∧ Q r h') (fun _ _ _ => False)
    (fun v w' r h' M' ρ' h1 h2 h3 h4 => ⟨v, r, h', M', ρ', rfl, h1, h2, h3, h4⟩)
  have hrun : (callFunc g vs).run P w = .ok (.enter g vs) w := by
    simp only [callFunc, Sem.run_bind, run_program, Result.andThen_ok, hf, hname, hb, Option.isNone_some, Bool.false_eq_true, if_false, Sem.run_pure]
  rw [hrun] at hout
  refine Calls.mono (show Calls P g vs w _ from hout) ?_
  intro e w' he
  cases e with
  | returned v =>
    obtain ⟨v', r, h', M', ρ', e1, e2⟩ := he
    have : v = v' := by
      have := congrArg (fun a : Act => a.tmps[0]?) e1
      simpa [Act.put, a, o] using this
    subst this
    exact ⟨v, r, h', M', ρ', rfl, e2⟩
  | outgrown => obtain ⟨_, _, hx⟩ := he; exact hx.elim
  | _ => exact he.elim

/-- No object: a function's work leaves what was there. -/
def heap0 : Heap := fun _ => none
def rho0 : Rho := fun _ => none

theorem sim0 {w : World} (hg : ∀ g x, Glob.tab g = some x → Rel w.cell? rho0 x (.pointer (some ⟨g, 0, none⟩))) : Sim w.cell? rho0 heap0 w :=
  ⟨fun _ _ h => h, ⟨0, fun _ _ => rfl⟩, fun id o h => (by cases h), fun id id' o o' p p' h => (by cases h), fun id o p a v h => (by cases h), hg⟩

theorem below_of {M' : Mem} {ρ' : Rho} {w' : World} (s : Step M ρ heap0 w M' ρ' h' w') : Below w.heap.size w w' :=
  ⟨s.os, s.tape, s.output, s.size, fun k hk => s.keep k hk fun ⟨id, o, p, h1, _⟩ => (by cases h1)⟩

/-! ### What a law's row asks -/
section
variable {H : Type} {enc : TypeId × Value → H}

theorem trodAll_stay {ts : List TypeId} (hl : laidOutB P = true) {W W' : World} {sp : Nat → Bool} (hts : ∀ t ∈ ts, P.readableRec t = true ∧ t < P.types.size) :
    ∀ {ts' : List TypeId}, (∀ t ∈ ts', t ∈ ts) → ∀ {vs : List Value} {ds : List (DataW H)} {ps : List MemPlace}, DataW.TrodAll enc P W 0 (fun _ => true) true ts' vs ds ps → (∀ p ∈ ps, W.sameAt W' p) → (∀ p ∈ ps, sp p.block = true) → DataW.TrodAll enc P W' 0 sp true ts' vs ds ps
  | [], _, [], [], _, h, _, _ => h
  | t :: ts', ht, v :: vs, d :: ds, ps, h, h1, h2 => by
    obtain ⟨p, q, ha, hb, rfl⟩ := h
    obtain ⟨g1, g2⟩ := hts t (ht t (by simp))
    exact ⟨p, q, WideElems.Trod_stays hl g1 g2 ha (fun x hx => h1 x (by simp [hx])) (fun x hx => h2 x (by simp [hx])), trodAll_stay hl hts (fun t h => ht t (by simp [h])) hb (fun x hx => h1 x (by simp [hx])) (fun x hx => h2 x (by simp [hx])), rfl⟩
  | [], _, _ :: _, _, _, h, _, _ => h.elim
  | [], _, [], _ :: _, _, h, _, _ => h.elim
  | _ :: _, _, [], _, _, h, _, _ => h.elim
  | _ :: _, _, _ :: _, [], _, h, _, _ => h.elim

/-- A law that answered true over a world that it left as it was. -/
theorem law_post {fn : Func} {s : ChangeSpec} {bt : TypeId} (hl : laidOutB P = true) (hts : ∀ t ∈ fn.params.toList, P.readableRec t = true ∧ t < P.types.size) (hres : fn.resultTypes = #[bt]) (hbt : P.underlying bt = some .bool) (hv : s.vars = [])
    {W W' : World} {args : Array Value} {ds gs : List (DataW H)} {before : List MemPlace} (hs : s.fn H (ds ++ gs) = { results := [.lit (.bool true)], args := ds })
    (hW : DataW.Whole enc P fn.params.toList s.vars false W args.toList ds gs before) (hb : Below W.heap.size W W') : s.post enc P fn false true false false W args (.bool true) W' := by
  have hlt : ∀ p ∈ before, p.block < W.heap.size := fun p hp => by simpa using hW.lt p hp
  have hW0 := hW
  obtain ⟨p, q, hA, hV, hps, hz, hn⟩ := hW
  rw [hv] at hV
  have hgs : gs = [] ∧ q = [] := by
    cases gs with
    | nil => exact ⟨rfl, hV⟩
    | cons _ _ => exact hV.elim
  obtain ⟨rfl, rfl⟩ := hgs
  simp only [List.append_nil] at hps
  subst hps
  have hsame : ∀ x ∈ before, W.sameAt W' x := fun x hx => hb.same (hlt x hx)
  have hold : ∀ p ∈ before, (fun b => decide (b < W.heap.size)) p.block = true := fun p hp => by simpa using hlt p hp
  have hargs : ∀ sp : Nat → Bool, (∀ p ∈ before, sp p.block = true) → DataW.TrodAll enc P W' 0 sp true fn.params.toList args.toList ds before := fun sp hsp => trodAll_stay hl hts (fun _ h => h) hA hsame hsp
  have hvars : ∀ sp : Nat → Bool, DataW.TrodVars enc P W' sp s.vars ([] : List (DataW H)) [] := fun sp => by rw [hv]; rfl
  have hresl : ∀ (b : Nat) (sp : Nat → Bool) (hd : Bool), DataW.TrodAll enc P W' b sp hd fn.resultTypes.toList ((Value.bool true).resultList fn.resultTypes.size) [.lit (.bool true)] [] := fun b sp hd => by
    rw [hres]
    exact ChangeShapes.trodAll_mk1 (RowKit.shut_bool hbt true)
  refine ⟨ds, [], before, [], before, [], hW0, by rw [hs]; exact hresl _ _ _, by rw [hs]; exact hargs _ hold, by rw [hs]; exact hvars _, World.keptBut_mono (fun p hp => hp.elim) (hb.frame (fun _ => False)), fun _ => ?_⟩
  refine ⟨ok_one hres rfl (okWide_bool_mk hbt _), [.lit (.bool true)] ++ ds, [], before, ⟨before, [], ?_, hvars _, by simp, ?_, fun h => by cases h⟩, fun p hp _ => hp⟩
  · have := ChangeShapes.trodAll_append (hargs (fun _ => true) (fun _ _ => rfl)) (hresl 0 (fun _ => true) true)
    simpa using this
  · intro b off hp
    have := hz b off hp
    rw [hb.frozen (p := ⟨b, off, none⟩) (hlt _ hp)]
    exact this

end
end
end Go.Lift
