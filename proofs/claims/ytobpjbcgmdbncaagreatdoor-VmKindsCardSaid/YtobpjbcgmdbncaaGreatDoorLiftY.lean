/- A part of the proof (own lemmas, no condition beyond those that each theorem states): the layer over the model that all of the proofs of this seat stand on. -/
import Derived.Test.YtobpjbcgmdbncaaGreatDoorLiftX
import Derived.Lib.LaidTab
import Derived.LaidHandle
import Derived.LaidLaws
set_option linter.unusedVariables false
set_option linter.unusedSimpArgs false
set_option linter.unusedSectionVars false
namespace Go.Lift
open Go Go.RowKit
variable [G : Glob]

/-! ### Package-level tables, from what a row lists -/
theorem laid_mem {P : Program} {W : World} : ∀ {l : List (String × DataW Unit)} {ps : List MemPlace}, DataW.LaidVars P W l ps → ∀ {n : String} {d : DataW Unit}, (n, d) ∈ l →
    ∃ g t cs fuel p, P.globalNamed n = some g ∧ (P.globals[g]?).map (·.type) = some t ∧ W.var? P n = some cs ∧ DataW.trod (fun _ => ()) P W 0 (fun _ => true) false fuel t cs.toList = some (d, p)
  | [], _, _, n, d, hm => by cases hm
  | (n', d') :: r, ps, h, n, d, hm => by
    obtain ⟨g, t, cs, fuel, p, q, h1, h2, h3, h4, h5, _⟩ := h
    rcases List.mem_cons.1 hm with e | e
    · cases e
      exact ⟨g, t, cs, fuel, p, h1, h2, h3, h4⟩
    · exact laid_mem h5 e

/-- A table of numbers on the list. -/
theorem tab_of {P : Program} {W : World} {l : List (String × DataW Unit)} (h : laidMet P l W) {name : String} {k : IntKind} {zs : List Int} {g : Nat} {t e : TypeId} {n : Nat} (hm : (name, Lib.tabData k zs) ∈ l)
    (hg : P.globalNamed name = some g) (hty : (P.globals[g]?).map (·.type) = some t) (ht : P.underlying t = some (.array n e)) (he : P.underlying e = some (.int k)) (hce : P.cellsOf e = 1) (hct : P.cellsOf t = n) :
    ∀ i, i < zs.length → W.cell? ⟨g, i, none⟩ = some (.int k (zs.getD i 0)) := by
  obtain ⟨ps, hl, _⟩ := h
  obtain ⟨g', t', cs, fuel, p, hg', ht', hvar, hd⟩ := laid_mem hl hm
  obtain rfl := Option.some.inj (hg.symm.trans hg')
  obtain rfl := Option.some.inj (hty.symm.trans ht')
  have hT : Lib.TabIs P W name k zs := by
    unfold Lib.TabIs
    rw [hvar, ← Lib.cells_of_tab ht he hce hct hd]
  exact fun i hi => hT.cell hg i hi

/-- What a pointer to a table of numbers stands for. -/
theorem rel_tab {W : World} {g : Nat} {k : IntKind} {zs : List Int} (h : ∀ i, i < zs.length → W.cell? ⟨g, i, none⟩ = some (.int k (zs.getD i 0))) :
    Rel W.cell? rho0 (.ept (.agg (zs.map (AV.int k))) zs.length true 0) (.pointer (some ⟨g, 0, none⟩)) := by
  refine .ept _ _ _ _ _ rfl (by simp [AV.cells]) rfl (fun j => .int k (zs.getD j 0)) (fun j hj => ?_) (fun j hj => ?_)
  · rw [Addr.add_plain, Nat.zero_add]
    exact h j (by omega)
  · have hj : j < zs.length := by omega
    have e : (AV.agg (zs.map (AV.int k))).cells.getD (0 + j) .undef = AV.int k (zs.getD j 0) := by
      simp [AV.cells, List.getD_eq_getElem?_getD, hj]
    rw [e]
    exact .int _ _

/-- One cell that holds something opaque. -/
theorem rel_cell {W : World} {g : Nat} {v : Value} (h1 : v.oneCell' = true) (h : W.cell? ⟨g, 0, none⟩ = some v) : Rel W.cell? rho0 (.ept (.opq v) 1 false 0) (.pointer (some ⟨g, 0, none⟩)) := by
  refine .ept _ _ _ _ _ rfl rfl rfl (fun _ => v) (fun j hj => ?_) (fun j hj => ?_)
  · have : j = 0 := by omega
    subst this
    exact h
  · have : j = 0 := by omega
    subst this
    exact .opq v h1

end Go.Lift
