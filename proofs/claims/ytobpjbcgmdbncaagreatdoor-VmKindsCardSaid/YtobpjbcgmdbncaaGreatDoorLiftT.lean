/- A part of the proof (own lemmas, no condition beyond those that each theorem states): the layer over the model that all of the proofs of this seat stand on. -/
import Derived.Test.YtobpjbcgmdbncaaGreatDoorLiftN
set_option linter.unusedVariables false
set_option linter.unusedSectionVars false
set_option linter.unusedSimpArgs false
namespace Go.Lift
open Go Go.RowKit
variable [G : Glob]

section
variable {P : Program} {ty : Tys} {N : Nat} {E : Ent} {M : Mem} {ρ : Rho} {l : Lam} {env : Env} {loc : Loc} {h h' : Heap} {a : Act} {w : World} {esc : Nat → Bool}

/-- A row that is written no more: a slice that is read. -/
theorem Weak.row {id off n k : Nat} {cp : Option Nat} {g : Bool} {cs els : List AV} (cap : Bool) (hid : h id = some (.cells cs)) (hk : ∀ x ∈ els, elemOK k g x) (hl : (cs.drop off).take (n * k) = flat els) (hle : off + n * k ≤ cs.length) (hn : n = els.length) (hm : n ≤ 9223372036854775807)
    (h1 : ∀ x ∈ flat els, x.one = true) (hcap : cap = true → cp = some n) : Weak (.row id off n cp) h (.sl k g els (bif cap then .full else .no)) (updH h id none) := by
  intro M ρ w v s hr
  cases hr with
  | row _ _ _ c _ p hp hc =>
    obtain ⟨p', q1, q2, arr, el, q3, q4⟩ := s.obj id _ hid
    rw [hp] at q1; cases q1
    obtain ⟨s1, s2⟩ := step_freeze s hid hp q3 cs.length
    refine ⟨_, _, s1, s2, ?_⟩
    subst hn
    have hsz := q4.1
    have hrel : Rels M ρ (flat els) ((arr.toList.drop off).take (els.length * k)).toArray := by
      rw [← hl]
      refine ⟨by simp; omega, fun i hi => ?_⟩
      simp at hi
      have := q4.2 (off + i) (by omega)
      simp only [List.getD_eq_getElem?_getD, Array.getD_eq_getD_getElem?, List.getElem?_toArray, List.getElem?_take, List.getElem?_drop, show i < els.length * k by omega, if_true] at this ⊢
      simpa using this
    refine rel_sl (vs := (arr.toList.drop off).take (els.length * k) |>.toArray) hk hm (hrel.mono s1.mem s1.rho) (fun v hv => ?_) (fun j hj => ?_) ?_
    · exact one_all hrel (List.all_eq_true.2 h1) v hv
    · simp at hj
      rw [Addr.add_plain, memOn_get (Nat.zero_le _) (by omega) (by omega)]
      simp only [Array.getD_eq_getD_getElem?, List.getElem?_toArray, List.getElem?_take, List.getElem?_drop, show j < els.length * k by omega, if_true]
      simp
    · cases cap with
      | true =>
        have e := hcap rfl
        subst e
        exact hc.1
      | false =>
        cases cp with
        | none => exact hc
        | some k => exact hc.2

/-- The room behind a slice is given up. -/
theorem Weak.cap {k : Nat} {g : Bool} {els : List AV} {c : Cap} : Weak (.sl k g els c) h (.sl k g els .no) h := by
  intro M ρ w v s hr
  refine ⟨M, ρ, Step.refl _ _ _ _, s, ?_⟩
  cases hr with
  | sl _ _ _ _ ao n cc hn hm hk cv hv hh hc =>
    refine .sl k g els .no ao n cc hn hm hk cv hv hh ?_
    cases c with
    | full => exact Nat.le_of_eq hc.symm
    | nil => exact Nat.le_of_eq hc.1.symm
    | no => exact hc
    | own t => obtain ⟨p, o, _, _, _, _, h⟩ := hc; exact h

/-- A nil slice is one without elements. -/
theorem Weak.nils {k k' : Nat} {g g' : Bool} : Weak (.sl k g [] .nil) h (.sl k' g' [] .full) h := by
  intro M ρ w v s hr
  refine ⟨M, ρ, Step.refl _ _ _ _, s, ?_⟩
  cases hr with
  | sl _ _ _ _ ao n cc hn hm hk cv hv hh hc =>
    simp at hn
    subst hn
    exact .sl k' g' [] .full ao 0 cc rfl (by omega) (fun i hi => by omega) (fun _ _ => Go.undef) (fun i j hi => by omega) (fun i j hi => by omega) hc.1

theorem Weak.nil {k k' : Nat} {g g' : Bool} : Weak (.sl k g [] .full) h (.sl k' g' [] .full) h := by
  intro M ρ w v s hr
  refine ⟨M, ρ, Step.refl _ _ _ _, s, ?_⟩
  cases hr with
  | sl _ _ _ _ ao n cc hn hm hk cv hv hh hc =>
    simp at hn
    subst hn
    exact .sl k' g' [] .full ao 0 cc rfl (by omega) (fun i hi => by omega) (fun _ _ => Go.undef) (fun i j hi => by omega) (fun i j hi => by omega) hc

theorem rels_set {xs : List AV} {vs : Array Value} {i : Nat} {x : AV} (hi : i < xs.length) (hr : Rels M ρ xs vs) (hx : Rel M ρ x (vs.getD i Go.undef)) : Rels M ρ (xs.set i x) vs := by
  refine ⟨by simpa using hr.1, fun j hj => ?_⟩
  simp at hj
  simp only [List.getD_eq_getElem?_getD, List.getElem?_set]
  by_cases e : i = j
  · subst e; simpa [hi] using hx
  · simp only [e, if_false]
    have := hr.2 j hj
    simpa [List.getD_eq_getElem?_getD] using this

theorem Weak.tuple {xs : List AV} {x' : AV} (i : Nat) (hi : i < xs.length) (hw : Weak (xs.getD i .undef) h x' h') : Weak (.tuple xs) h (.tuple (xs.set i x')) h' := by
  intro M ρ w v s hr
  cases hr with
  | tuple _ vs hl hh =>
    obtain ⟨M', ρ', s1, s2, s3⟩ := hw M ρ w _ s (hh i hi)
    have := rels_set hi (Rels.mono s1.mem s1.rho ⟨hl, hh⟩) s3
    exact ⟨M', ρ', s1, s2, .tuple _ _ this.1 this.2⟩

theorem Weak.agg {xs : List AV} {x' : AV} (i : Nat) (hi : i < xs.length) (hw : Weak (xs.getD i .undef) h x' h') : Weak (.agg xs) h (.agg (xs.set i x')) h' := by
  intro M ρ w v s hr
  cases hr with
  | agg _ vs hl hh =>
    obtain ⟨M', ρ', s1, s2, s3⟩ := hw M ρ w _ s (hh i hi)
    have := rels_set hi (Rels.mono s1.mem s1.rho ⟨hl, hh⟩) s3
    exact ⟨M', ρ', s1, s2, .agg _ _ this.1 this.2⟩

/-- An argument is told of less, or frozen. -/
theorem ACalls.arg {g : FuncId} {args : List AV} {x' : AV} {Q : AV → Heap → Prop} (i : Nat) (hi : i < args.length) (hw : Weak (args.getD i .undef) h x' h') (hc : ACalls P g (args.set i x') h' Q) : ACalls P g args h Q := by
  refine ⟨fun M ρ w vs s hr o a next Qx hn => ?_⟩
  obtain ⟨M', ρ', s1, s2, s3⟩ := hw M ρ w _ s (hr.2 i hi)
  refine hc.out M' ρ' w vs s2 (rels_set hi (hr.mono s1.mem s1.rho) s3) o a next Qx fun v w' r h' M2 ρ2 t1 t2 t3 t4 => ?_
  exact hn v w' r h' M2 ρ2 (s1.trans t1) t2 t3 t4

/-- A slot is told of less, or frozen. -/
theorem ACode.slot {c : Code} {K : Kx} (s : Nat) {x' : AV} (hp : (env s).plain = true) (hp' : x'.plain = true) (hw : Weak (env s) h x' h') (hc : ACode P N c (updE env s x') loc h' K) : ACode P N c env loc h K := by
  refine ⟨fun E M ρ l a w F => ?_⟩
  obtain ⟨M', ρ', s1, s2, s3⟩ := hw M ρ w _ F.f.sim ((F.f.slot s).to hp)
  have F' := F.step s1 s2
  refine hc.out E M' ρ' l a w ⟨⟨F'.f.sim, F'.f.size, F'.f.defers, fun i => ?_, F'.f.lo, F'.f.linj, F'.f.lown, F'.f.lmem⟩, F'.st, F'.new, F'.lam⟩
  rw [updE_eq]
  by_cases e : i = s
  · subst e; rw [if_pos rfl]; exact RelS.of s3
  · rw [if_neg e]; exact F'.f.slot i

end
end Go.Lift
