/- A part of the proof (own lemmas, no condition beyond those that each theorem states): the layer over the model that all of the proofs of this seat stand on. -/
import Derived.Test.YtobpjbcgmdbncaaGreatDoorLiftXD
set_option linter.unusedVariables false
set_option linter.unusedSectionVars false
set_option linter.unusedSimpArgs false
namespace Go.Lift
open Go Go.RowKit
variable [G : Glob]

/-! ### Arguments of whatever plain type -/
def aggT (P : Program) (t : TypeId) : Bool := match P.underlying t with
  | some (.struct _) => true
  | _ => false

def Each {α β : Type} (Q : α → β → Prop) : List α → List β → Prop
  | [], [] => True
  | x :: xs, y :: ys => Q x y ∧ Each Q xs ys
  | _, _ => False

/-- What a row's reader finds at a type, so many levels deep. -/
def Shp (P : Program) : Nat → TypeId → AV → Prop
  | 0, _, _ => False
  | n + 1, t, av => match P.underlying t with
    | some .bool => ∃ b, av = .bool b
    | some (.int k) => ∃ m, av = .int k m ∧ (Lit.int k m).wf = true
    | some .string => ∃ s, av = .str s ∧ s.length ≤ maxLen
    | some (.slice e) => ∃ els, av = .sl (P.cellsOf e) (aggT P e) els .no ∧ els.length ≤ maxLen ∧ ∀ x ∈ els, Shp P n e x
    | some (.struct fs) => ∃ avs, av = .agg (flat avs) ∧ Each (fun (f : Field) a => Shp P n f.type a) fs.toList avs
    | _ => False

def laidF (P : Program) : List Field → Nat → Option Nat
  | [], off => some off
  | f :: r, off => match Nat.beq f.offset off with
    | true => laidF P r (off + P.cellsOf f.type)
    | false => none

def closedT (P : Program) (l : List TypeId) : Bool := l.all fun t => match P.underlying t with
  | some .bool => true
  | some (.int _) => true
  | some .string => true
  | some (.slice e) => l.contains e
  | some (.struct fs) => (fs.toList.all fun f => l.contains f.type) && (match laidF P fs.toList 0 with
    | some n => Nat.beq n (P.cellsOf t)
    | none => false)
  | _ => false

section
variable {P : Program} {W : World} {H : Type} {enc : TypeId × Value → H} {base : Nat} {l : List TypeId}

theorem flat_one {xs : List AV} (h : ∀ x ∈ xs, x.cells.all AV.one = true) : (flat xs).all AV.one = true := by
  rw [List.all_eq_true]
  intro x hx
  obtain ⟨y, hy, hxy⟩ := List.mem_flatMap.1 hx
  exact List.all_eq_true.1 (h y hy) x hxy

theorem each_mem {α β : Type} {Q : α → β → Prop} : ∀ {xs : List α} {ys : List β}, Each Q xs ys → ∀ y ∈ ys, ∃ x ∈ xs, Q x y
  | [], [], _, y, hy => by cases hy
  | x :: xs, z :: ys, h, y, hy => by
    rcases List.mem_cons.1 hy with e | e
    · subst e; exact ⟨x, List.mem_cons_self, h.1⟩
    · obtain ⟨x', h1, h2⟩ := each_mem h.2 y e
      exact ⟨x', List.mem_cons_of_mem _ h1, h2⟩
  | [], _ :: _, h, _, _ => h.elim
  | _ :: _, [], h, _, _ => h.elim

theorem shp_facts : ∀ (n : Nat) {t : TypeId} {av : AV}, Shp P n t av → av.known = true ∧ av.isAgg = aggT P t ∧ av.cells.all AV.one = true
  | 0, t, av, h => h.elim
  | n + 1, t, av, h => by
    unfold Shp at h
    split at h
    · rename_i hu; obtain ⟨b, rfl⟩ := h; exact ⟨rfl, by simp [aggT, hu, AV.isAgg], rfl⟩
    · rename_i hu; obtain ⟨b, rfl, _⟩ := h; exact ⟨rfl, by simp [aggT, hu, AV.isAgg], rfl⟩
    · rename_i hu; obtain ⟨b, rfl, _⟩ := h; exact ⟨rfl, by simp [aggT, hu, AV.isAgg], rfl⟩
    · rename_i hu; obtain ⟨b, rfl, _⟩ := h; exact ⟨rfl, by simp [aggT, hu, AV.isAgg], rfl⟩
    · rename_i hu
      obtain ⟨avs, rfl, he⟩ := h
      refine ⟨rfl, by simp [aggT, hu, AV.isAgg], flat_one fun x hx => ?_⟩
      obtain ⟨f, _, hf⟩ := each_mem he x hx
      exact (shp_facts n hf).2.2
    · exact h.elim

theorem fields_read {cs : List Value} {Q : Field → AV → Prop} : ∀ (fs : List Field) (off total : Nat), laidF P fs off = some total → total = cs.length → (∀ f ∈ fs, ∃ av : AV, Rels W.cell? rho0 av.cells ((cs.drop f.offset).take (P.cellsOf f.type)).toArray ∧ Q f av) →
    ∃ avs, Each Q fs avs ∧ Rels W.cell? rho0 (flat avs) (cs.drop off).toArray
  | [], off, total, h, ht, _ => by
    cases h
    subst ht
    exact ⟨[], trivial, by simp [flat]; exact Rels.nil⟩
  | f :: fs, off, total, h, ht, hf => by
    unfold laidF at h
    split at h
    · rename_i ho
      have ho := Nat.eq_of_beq_eq_true ho
      obtain ⟨avs, h1, h2⟩ := fields_read fs _ total h ht (fun g hg => hf g (List.mem_cons_of_mem _ hg))
      obtain ⟨av, g1, g2⟩ := hf f List.mem_cons_self
      refine ⟨av :: avs, ⟨g2, h1⟩, ?_⟩
      have e1 : cs.drop off = (cs.drop f.offset).take (P.cellsOf f.type) ++ cs.drop (off + P.cellsOf f.type) := by
        rw [ho, ← List.drop_drop, List.take_append_drop]
      have e2 : flat (av :: avs) = av.cells ++ flat avs := by simp [flat]
      rw [e1, e2]
      exact rels_app g1 h2
    · cases h

theorem reads_any (hl : closedT P l = true) : ∀ (n : Nat) (t : TypeId), t ∈ l → ∀ cs (x : DataW H × List MemPlace), DataW.trod enc P W base (fun _ => true) true n t cs = some x → ∃ av, Rels W.cell? rho0 av.cells cs.toArray ∧ Shp P n t av
  | 0, t, _, cs, x, h => by simp [DataW.trod] at h
  | n + 1, t, ht, cs, x, h => by
    have hc := List.all_eq_true.1 hl t ht
    split at hc
    · rename_i hu
      obtain ⟨b, h1, _⟩ := reads_bool (enc := enc) (P := P) (W := W) (base := base) hu (n + 1) cs x h
      exact ⟨_, h1, by unfold Shp; rw [hu]; exact ⟨b, rfl⟩⟩
    · rename_i k hu
      obtain ⟨b, h1, _, h2⟩ := reads_int (enc := enc) (P := P) (W := W) (base := base) hu (n + 1) cs x h
      exact ⟨_, h1, by unfold Shp; rw [hu]; exact ⟨b, rfl, h2⟩⟩
    · rename_i hu
      obtain ⟨b, h1, _, h2⟩ := reads_str (enc := enc) (P := P) (W := W) (base := base) hu (n + 1) cs x h
      exact ⟨_, h1, by unfold Shp; rw [hu]; exact ⟨b, rfl, h2⟩⟩
    · rename_i e hu
      have he : e ∈ l := by simpa using hc
      have hr : ReadsAt enc P W base n e (fun a : { av : AV // Shp P n e av } => a.1) (fun _ _ => True) := fun cs x h => by
        obtain ⟨av, h1, h2⟩ := reads_any hl n e he cs x h
        exact ⟨⟨av, h2⟩, h1, trivial⟩
      obtain ⟨els, h1, h2⟩ := reads_sl (k := P.cellsOf e) (g := aggT P e) hu rfl (fun a => shp_facts n a.2) hr cs x h
      refine ⟨_, h1, ?_⟩
      unfold Shp
      rw [hu]
      refine ⟨els.map (·.1), rfl, by simpa using h2.1, fun y hy => ?_⟩
      obtain ⟨a, _, rfl⟩ := List.mem_map.1 hy
      exact a.2
    · rename_i fs hu
      simp only [Bool.and_eq_true] at hc
      obtain ⟨xs, m, hm, rfl, hlen, hxl, hf⟩ := DataW.trod_struct hu h
      have hmn : m = n := by omega
      subst hmn
      split at hc
      · rename_i total htot
        have htc := Nat.eq_of_beq_eq_true hc.2
        obtain ⟨avs, g1, g2⟩ := fields_read (W := W) (cs := cs) (Q := fun f a => Shp P m f.type a) fs.toList 0 total htot (by rw [htc, hlen]) (fun f hfm => by
          obtain ⟨i, hi, rfl⟩ := List.getElem_of_mem hfm
          have hi' : i < fs.size := by simpa using hi
          have h2 := hf i fs[i] (by simp [hi'])
          have h3 : xs[i]? = some (xs[i]'(by omega)) := by simp [show i < xs.length by omega]
          rw [h3] at h2
          have h4 : fs[i].type ∈ l := by
            have := List.all_eq_true.1 hc.1 fs[i] (by simp)
            simpa using this
          simpa using reads_any hl m _ h4 _ _ h2)
        refine ⟨.agg (flat avs), by show Rels W.cell? rho0 (flat avs) cs.toArray; simpa using g2, ?_⟩
        unfold Shp
        rw [hu]
        exact ⟨avs, rfl, g1⟩
      · cases hc.2
    · cases hc

theorem arg_any (hl : closedT P l = true) {t : TypeId} (ht : t ∈ l) {v : Value} {d : DataW H} {ps : List MemPlace} {r : Reach} {b0 : Nat} (hval : Value.okWide P W r b0 t v) (hd : DataW.Trod enc P W base (fun _ => true) true t v d ps) :
    ∃ av n, Rel W.cell? rho0 av v ∧ Shp P n t av := by
  obtain ⟨n, hn⟩ := hd
  have hc := List.all_eq_true.1 hl t ht
  cases n with
  | zero => simp [DataW.trod] at hn
  | succ n =>
  have hr : ∀ m, ReadsAt enc P W base m t (fun a : { av : AV // ∃ n, Shp P n t av } => a.1) (fun _ _ => True) := fun m cs x h => by
    obtain ⟨av, h1, h2⟩ := reads_any hl m t ht cs x h
    exact ⟨⟨av, m, h2⟩, h1, trivial⟩
  split at hc
  · rename_i hu
    obtain ⟨a, h1, _⟩ := arg_one (okWide_cell hu rfl hval) hr (fun a => by
      obtain ⟨av, n, h⟩ := a
      cases n with
      | zero => exact h.elim
      | succ n => unfold Shp at h; rw [hu] at h; obtain ⟨b, rfl⟩ := h; rfl) ⟨n + 1, hn⟩
    exact ⟨_, a.2.choose, h1, a.2.choose_spec⟩
  · rename_i hu
    obtain ⟨a, h1, _⟩ := arg_one (okWide_cell hu rfl hval) hr (fun a => by
      obtain ⟨av, n, h⟩ := a
      cases n with
      | zero => exact h.elim
      | succ n => unfold Shp at h; rw [hu] at h; obtain ⟨b, rfl, _⟩ := h; rfl) ⟨n + 1, hn⟩
    exact ⟨_, a.2.choose, h1, a.2.choose_spec⟩
  · rename_i hu
    obtain ⟨a, h1, _⟩ := arg_one (okWide_cell hu rfl hval) hr (fun a => by
      obtain ⟨av, n, h⟩ := a
      cases n with
      | zero => exact h.elim
      | succ n => unfold Shp at h; rw [hu] at h; obtain ⟨b, rfl, _⟩ := h; rfl) ⟨n + 1, hn⟩
    exact ⟨_, a.2.choose, h1, a.2.choose_spec⟩
  · rename_i hu
    obtain ⟨a, h1, _⟩ := arg_one (okWide_cell hu rfl hval) hr (fun a => by
      obtain ⟨av, n, h⟩ := a
      cases n with
      | zero => exact h.elim
      | succ n => unfold Shp at h; rw [hu] at h; obtain ⟨b, rfl, _⟩ := h; rfl) ⟨n + 1, hn⟩
    exact ⟨_, a.2.choose, h1, a.2.choose_spec⟩
  · rename_i fs hu
    obtain ⟨a, h1, _⟩ := arg_struct hu hval hr (fun a => by
      obtain ⟨av, n, h⟩ := a
      cases n with
      | zero => exact h.elim
      | succ n => unfold Shp at h; rw [hu] at h; obtain ⟨b, rfl, _⟩ := h; rfl) ⟨n + 1, hn⟩
    exact ⟨_, a.2.choose, h1, a.2.choose_spec⟩
  · cases hc

end
/-! ### A world for the witness: the tables laid -/
mutual
def cellsOfD {H : Type} : DataW H → List Value
  | .lit (.int k n) => [.int k n]
  | .agg ps => cellsOfDs ps
  | _ => []
def cellsOfDs {H : Type} : List (DataW H) → List Value
  | [] => []
  | d :: r => cellsOfD d ++ cellsOfDs r
end
def layAll (heap : Array Obj) : List (Nat × Array Value) → Array Obj
  | [] => heap
  | (g, cs) :: r => layAll (heap.modify g fun
      | .cells _ t frozen => .cells cs t frozen
      | o => o) r

end Go.Lift
