/- A part of the proof (own lemmas, no condition beyond those that each theorem states): the layer over the model that all of the proofs of this seat stand on. -/
import Derived.Test.YtobpjbcgmdbncaaGreatDoorLiftF
import Derived.Laws.Tables
set_option linter.unusedVariables false
set_option linter.unusedSectionVars false
set_option linter.unusedSimpArgs false
namespace Go.Lift
open Go Go.RowKit
variable [G : Glob]
section
variable {P : Program} {ty : Tys} {N : Nat} {M : Mem} {ρ : Rho} {l : Lam} {env : Env} {loc : Loc} {h : Heap} {a : Act} {w : World}

theorem foldl_put (vs : List Value) : ∀ (j off : Nat) (cs : Array Value), off + j + vs.length ≤ cs.size →
    (vs.zipIdx j).foldl (fun cs (x : Value × Nat) => cs.setIfInBounds (off + x.2) x.1) cs = (cs.toList.take (off + j) ++ (vs ++ cs.toList.drop (off + j + vs.length))).toArray := by
  induction vs with
  | nil => intro j off cs hl; simp
  | cons v r ih =>
    intro j off cs hl
    simp only [List.zipIdx_cons, List.foldl_cons]
    rw [ih (j + 1) off _ (by simp at hl ⊢; omega)]
    congr 1
    simp only [Array.toList_setIfInBounds, List.length_cons]
    apply List.ext_getElem?
    intro i
    have hsz : off + j < cs.toList.length := by simp at hl ⊢; omega
    have hL : cs.toList.length = cs.size := by simp
    simp only [List.getElem?_append, List.length_take, List.length_set, List.getElem?_take, List.getElem?_set, List.getElem?_drop, List.length_cons, List.length_append, List.length_drop]
    simp only [List.length_cons] at hl
    by_cases h1 : i < off + j
    · simp [h1, show i < off + (j + 1) by omega, show i < min (off + (j + 1)) cs.size by omega, show i < min (off + j) cs.size by omega, show ¬ off + j = i by omega]
    · by_cases h2 : i = off + j
      · subst h2
        simp [show off + j < min (off + (j + 1)) cs.size by omega, show ¬ off + j < min (off + j) cs.size by omega, show off + j < off + (j + 1) by omega, show off + j - min (off + j) cs.size = 0 by omega]
        omega
      · simp only [show ¬ i < min (off + (j + 1)) cs.toList.length by omega, show ¬ i < min (off + j) cs.toList.length by omega, if_false]
        have e1 : i - min (off + (j + 1)) cs.toList.length = i - (off + j + 1) := by omega
        have e2 : i - min (off + j) cs.toList.length = (i - (off + j + 1)) + 1 := by omega
        rw [e1, e2]
        simp only [List.getElem?_cons_succ]
        by_cases h3 : i - (off + j + 1) < r.length
        · simp [h3]
        · simp only [h3, show ¬ (i - (off + j + 1) + 1 < r.length + 1) by omega, if_false]
          simp only [show ¬ off + j = off + (j + 1) + r.length + (i - (off + j + 1) - r.length) by omega, if_false]
          congr 1
          omega

theorem rels_splice {cs xs : List AV} {vs us : Array Value} (hc : Rels M ρ cs vs) (hx : Rels M ρ xs us) (o : Nat) (ho : o + xs.length ≤ cs.length) :
    Rels M ρ (cs.take o ++ (xs ++ cs.drop (o + xs.length))) (vs.toList.take o ++ (us.toList ++ vs.toList.drop (o + us.toList.length))).toArray := by
  have h1 := hc.1
  have h2 := hx.1
  refine ⟨by simp; omega, fun i hi => ?_⟩
  have hi' : i < cs.length := by simp at hi; omega
  simp only [List.getD_eq_getElem?_getD, Array.getD_eq_getD_getElem?, List.getElem?_toArray, List.getElem?_append, List.length_take, List.getElem?_take, List.getElem?_drop, Array.length_toList, Array.getElem?_toList]
  by_cases c1 : i < o
  · have := hc.2 i hi'
    simpa [List.getD_eq_getElem?_getD, Array.getD_eq_getD_getElem?, c1, show i < min o cs.length by omega, show i < min o vs.size by omega] using this
  · simp only [show ¬ i < min o cs.length by omega, show ¬ i < min o vs.size by omega, if_false]
    have e1 : i - min o cs.length = i - o := by omega
    have e2 : i - min o vs.size = i - o := by omega
    rw [e1, e2, ← h2]
    by_cases c2 : i - o < xs.length
    · have := hx.2 (i - o) c2
      simpa [List.getD_eq_getElem?_getD, Array.getD_eq_getD_getElem?, c2] using this
    · have := hc.2 i hi'
      simp only [c2, if_false]
      have e3 : o + xs.length + (i - o - xs.length) = i := by omega
      rw [e3]
      simpa [List.getD_eq_getElem?_getD, Array.getD_eq_getD_getElem?] using this

theorem run_fillA {place : Nat → Option (Nat × Nat)} : ∀ (ps : List (Nat × AV)) (vs : List (Nat × Value)) (cs cs' : List AV) (us : Array Value), Rels M ρ cs us → ps.length = vs.length →
    (∀ i, i < ps.length → (ps.getD i (0, .undef)).1 = (vs.getD i (0, Go.undef)).1 ∧ RelS M ρ l (ps.getD i (0, .undef)).2 (vs.getD i (0, Go.undef)).2) →
    fillA place cs ps = some cs' → ∃ us', Instr.fill place us vs = some us' ∧ Rels M ρ cs' us'
  | [], [], cs, cs', us, hc, _, _, hf => by
    simp only [fillA, Option.some.injEq] at hf
    subst hf
    exact ⟨us, rfl, hc⟩
  | (i, x) :: ps, (j, v) :: vs, cs, cs', us, hc, hl, hr, hf => by
    have h0 := hr 0 (by simp)
    simp only [List.getD_cons_zero] at h0
    obtain ⟨rfl, hx⟩ := h0
    simp only [fillA] at hf
    split at hf
    · cases hf
    · rename_i o sz hp
      split at hf
      · cases hf
      · rename_i hc0
        simp only [Bool.and_eq_true] at hc0
        obtain ⟨⟨⟨k1, k2⟩, k3⟩, k4⟩ := hc0
        have k3 := Nat.eq_of_beq_eq_true k3
        have k4 := Nat.le_of_ble_eq_true k4
        have hrx := (hx.to k2).cells k1
        have h1 := hrx.1
        have h2 := hc.1
        have hsp := rels_splice hc hrx o k4
        obtain ⟨us', e1, e2⟩ := run_fillA ps vs _ cs' _ hsp (by simpa using hl) (fun i hi => by
          have := hr (i + 1) (by simp; omega)
          simpa using this) hf
        refine ⟨us', ?_, e2⟩
        simp only [Instr.fill, hp]
        have g1 : ¬ v.cells.size ≠ sz := by omega
        have g2 : ¬ (o + v.cells.size > us.size) := by omega
        have hfold := foldl_put v.cells.toList 0 o us (by simp; omega)
        simp only [Nat.add_zero] at hfold
        simp only [g1, g2, false_or, if_false]
        have hz : v.cells.zipIdx.foldl (fun cs x => cs.setIfInBounds (o + x.2) x.1) us = (v.cells.toList.zipIdx 0).foldl (fun cs (x : Value × Nat) => cs.setIfInBounds (o + x.2) x.1) us := by
          rw [← Array.foldl_toList]
          simp
        have : (Array.foldl (fun cs x => match x with | (c, j) => cs.setIfInBounds (o + j) c) us v.cells.zipIdx) = Array.foldl (fun cs x => cs.setIfInBounds (o + x.2) x.1) us v.cells.zipIdx := rfl
        rw [this, hz, hfold]
        exact e1
  | [], _ :: _, _, _, _, _, hl, _, _ => by simp at hl
  | _ :: _, [], _, _, _, _, hl, _, _ => by simp at hl

theorem sizesOf_places (hT : TyOK P ty) : ∀ (fs : List Field) (ps : List (Nat × Nat)), sizesOf ty (fs.map fun f => (f.offset, f.type, f.name == "_")) = some ps →
    fs.mapM (fun f => (P.info? f.type).map fun i => (f.offset, i.size)) = some ps
  | [], ps, h => by simp [sizesOf] at h; subst h; rfl
  | f :: fs, ps, h => by
    simp only [List.map_cons, sizesOf] at h
    split at h
    · rename_i i q h1 h2
      simp only [Option.some.injEq] at h
      subst h
      obtain ⟨pi, d, g1, g2, g3, g4, g5, g6⟩ := gather_info (hT f.type _ h1)
      simp [g1, g4, sizesOf_places hT fs q h2]
    · cases h

theorem ofVal_cells {z : Value} (h : (ofVal z).known = true) : Rels M ρ (ofVal z).cells z.cells := (ofVal_rel M ρ z).cells h

theorem run_evBuild (hT : TyOK P ty) {t : TypeId} {ps : List (Nat × AV)} {vs : Array (Nat × Value)} (hl : ps.length = vs.toList.length)
    (hr : ∀ i, i < ps.length → (ps.getD i (0, .undef)).1 = (vs.toList.getD i (0, Go.undef)).1 ∧ RelS M ρ l (ps.getD i (0, .undef)).2 (vs.toList.getD i (0, Go.undef)).2)
    (hh : (evBuild ty t ps).holds) : ∃ r, (∀ w : World, (Instr.build t vs).run P w = .ok r w) ∧ RelS M ρ l (evBuild ty t ps).val r := by
  unfold evBuild at hh ⊢
  split at hh
  · rename_i fs hd gd b1 b2 z hi
    obtain ⟨pi, d, h1, h2, h3, h4, h5, h6⟩ := gather_info (hT t _ hi)
    obtain ⟨pf, rfl, hfs, _, _⟩ := ul_struct h6.symm
    subst hfs
    split at hh
    · simp [Res.holds] at hh
    rename_i hk
    split at hh
    · rename_i ls hs
      split at hh
      · rename_i cs hf
        have hz : Rels M ρ (ofVal z).cells z.cells := by
          exact ofVal_cells hk
        obtain ⟨us', e1, e2⟩ := run_fillA (l := l) ps vs.toList _ cs _ hz hl hr hf
        refine ⟨_, fun w => run_build w t vs us' ?_, RelS.of (.agg _ _ e2.1 e2.2)⟩
        simp only [Program.built, h1, h2, h3, sizesOf_places hT _ _ hs]
        have : (fun i : Nat => ls[i]?) = (fun i : Nat => ls.toArray[i]?) := by funext i; simp
        rw [this] at e1
        exact e1
      · simp [Res.holds] at hh
    · simp [Res.holds] at hh
  · rename_i n e b1 b2 z hi
    obtain ⟨pi, d, h1, h2, h3, h4, h5, h6⟩ := gather_info (hT t _ hi)
    obtain rfl := ul_array h6.symm
    split at hh
    · simp [Res.holds] at hh
    rename_i hk
    split at hh
    · rename_i i he
      obtain ⟨qi, d, g1, g2, g3, g4, g5, g6⟩ := gather_info (hT e _ he)
      split at hh
      · rename_i cs hf
        have hz : Rels M ρ (ofVal z).cells z.cells := by
          exact ofVal_cells hk
        obtain ⟨us', e1, e2⟩ := run_fillA (l := l) ps vs.toList _ cs _ hz hl hr hf
        refine ⟨_, fun w => run_build w t vs us' ?_, RelS.of (.agg _ _ e2.1 e2.2)⟩
        simp only [Program.built, h1, h2, h3, g1, g4]
        exact e1
      · simp [Res.holds] at hh
    · simp [Res.holds] at hh
  · simp [Res.holds] at hh

end
end Go.Lift
