/- A part of the proof (own lemmas, no condition beyond those that each theorem states): the layer over the model that all of the proofs of this seat stand on. -/
import Derived.Test.YtobpjbcgmdbncaaGreatDoorLiftV
set_option linter.unusedVariables false
set_option linter.unusedSimpArgs false
set_option linter.unusedSectionVars false
namespace Go.Lift
open Go Go.RowKit
variable [G : Glob]

section
variable {P : Program} {W : World} {H : Type} {enc : TypeId × Value → H} {base : Nat} {α β : Type}

/-- What the row's reader finds in these cells is f of something, of which ok is so. -/
def ReadsAt (enc : TypeId × Value → H) (P : Program) (W : World) (base n : Nat) (t : TypeId) (f : α → AV) (ok : α → DataW H → Prop) : Prop :=
  ∀ cs x, DataW.trod enc P W base (fun _ => true) true n t cs = some x → ∃ a, Rels W.cell? rho0 (f a).cells cs.toArray ∧ ok a x.1

def readBool (b : Bool) (d : DataW H) : Prop := d = .lit (.bool b)
def readInt (k : IntKind) (n : Int) (d : DataW H) : Prop := d = .lit (.int k n) ∧ (Lit.int k n).wf = true
def readStr (s : List UInt8) (d : DataW H) : Prop := d = .lit (.string s) ∧ s.length ≤ maxLen
def readSl (ok : α → DataW H → Prop) (l : List α) (d : DataW H) : Prop := l.length ≤ maxLen ∧ ((d = .nil ∧ l = []) ∨ ∃ ds sp, d = .slice ds sp ∧ ds.length = l.length ∧ ∀ i (h : i < l.length) (h' : i < ds.length), ok l[i] ds[i])

theorem rels_one {x : AV} {v : Value} {M : Mem} {ρ : Rho} (h : Rel M ρ x v) : Rels M ρ [x] #[v] := ⟨rfl, fun i hi => by
  have : i = 0 := by simp at hi; omega
  subst this; exact h⟩

theorem reads_bool {t : TypeId} (ht : P.underlying t = some .bool) (n : Nat) : ReadsAt enc P W base n t AV.bool readBool := fun cs x h => by
  obtain ⟨b, rfl, rfl⟩ := DataW.trod_bool ht h
  exact ⟨b, rels_one (.bool b), rfl⟩
theorem reads_int {t : TypeId} {k : IntKind} (ht : P.underlying t = some (.int k)) (n : Nat) : ReadsAt enc P W base n t (AV.int k) (readInt k) := fun cs x h => by
  obtain ⟨b, rfl, rfl, hw⟩ := DataW.trod_int ht h
  exact ⟨b, rels_one (.int k b), rfl, hw⟩
theorem reads_str {t : TypeId} (ht : P.underlying t = some .string) (n : Nat) : ReadsAt enc P W base n t AV.str readStr := fun cs x h => by
  obtain ⟨s, rfl, rfl, hl⟩ := DataW.trod_string ht h
  refine ⟨s.data.toList, rels_one ?_, rfl, by simpa using hl⟩
  have : Rel W.cell? rho0 (.str s.data.toList) (.string ⟨s.data.toList.toArray⟩) := .str _
  simpa using this

theorem reads_sl {t e : TypeId} {k : Nat} {g : Bool} {n : Nat} {f : α → AV} {ok : α → DataW H → Prop} (ht : P.underlying t = some (.slice e)) (hk : P.cellsOf e = k) (hg : ∀ a, (f a).known = true ∧ (f a).isAgg = g ∧ (f a).cells.all AV.one = true)
    (he : ReadsAt enc P W base n e f ok) : ReadsAt enc P W base (n + 1) t (fun l : List α => .sl k g (l.map f) .no) (readSl ok) := fun cs x h => by
  rcases DataW.trod_slice ht h with ⟨rfl, rfl⟩ | ⟨a, len, cap, elems, rest, m, hm, rfl, rfl, hb, hl, hcm, hlen, hel, _, _⟩
  · refine ⟨[], rels_one (.sl k g [] .no none 0 0 rfl (by omega) (fun i hi => by omega) (fun _ _ => Go.undef) (fun i j hi => by omega) (fun i j hi => by omega) (Nat.le_refl 0)), by simp [maxLen], .inl ⟨rfl, rfl⟩⟩
  · have hmn : m = n := by omega
    subst hmn
    have each : ∀ i : Nat, i < len → ∃ (y : DataW H × List MemPlace) (cs : List Value) (a' : α), elems[i]? = some y ∧ W.cells? base (a.add (i * k)) k = some cs ∧ Rels W.cell? rho0 (f a').cells cs.toArray ∧ ok a' y.1 := by
      intro i hi
      have h1 := hel i hi
      have h2 : elems[i]? = some elems[i] := by simp [hlen, hi]
      rw [h2, hk, Option.bind_eq_some_iff] at h1
      obtain ⟨cs, h3, h4⟩ := h1
      obtain ⟨a', h5, h6⟩ := he cs _ h4
      exact ⟨_, cs, a', h2, h3, h5, h6⟩
    have hpick : ∃ l : List α, l.length = len ∧ ∀ i (hi : i < l.length), ∃ (y : DataW H × List MemPlace) (cs : List Value), elems[i]? = some y ∧ W.cells? base (a.add (i * k)) k = some cs ∧ Rels W.cell? rho0 (f l[i]).cells cs.toArray ∧ ok l[i] y.1 := by
      have : ∀ m, m ≤ len → ∃ l : List α, l.length = m ∧ ∀ i (hi : i < l.length), ∃ (y : DataW H × List MemPlace) (cs : List Value), elems[i]? = some y ∧ W.cells? base (a.add (i * k)) k = some cs ∧ Rels W.cell? rho0 (f l[i]).cells cs.toArray ∧ ok l[i] y.1 := by
        intro m
        induction m with
        | zero => exact fun _ => ⟨[], rfl, fun i hi => by simp at hi⟩
        | succ m ih =>
          intro hm
          obtain ⟨l, h1, h2⟩ := ih (by omega)
          obtain ⟨y, cs, a', g1, g2, g3, g4⟩ := each m hm
          refine ⟨l ++ [a'], by simp [h1], fun i hi => ?_⟩
          by_cases e : i < l.length
          · obtain ⟨y, cs, q⟩ := h2 i e
            refine ⟨y, cs, ?_⟩
            rw [List.getElem_append_left e]; exact q
          · have : i = m := by simp at hi; omega
            subst this
            refine ⟨y, cs, ?_⟩
            have : (l ++ [a'])[i] = a' := by rw [List.getElem_append_right (by omega)]; simp [h1]
            rw [this]; exact ⟨g1, g2, g3, g4⟩
      exact this len (Nat.le_refl _)
    obtain ⟨l, hll, hli⟩ := hpick
    refine ⟨l, rels_one ?_, by show l.length ≤ maxLen; omega, .inr ⟨_, _, rfl, by simp [hlen, hll], fun i hi hi' => ?_⟩⟩
    · have info : ∀ i (hi : i < l.length), (f l[i]).cells.length = k ∧ ∀ j, j < k → ∃ v, W.cell? (a.add (i * k + j)) = some v ∧ Rel W.cell? rho0 ((f l[i]).cells.getD j .undef) v := fun i hi => by
        obtain ⟨y, cs, _, q2, q3, _⟩ := hli i hi
        obtain ⟨_, c1, c2⟩ := World.cells?_some q2
        have hlc : (f l[i]).cells.length = k := by have := q3.1; simp at this; omega
        refine ⟨hlc, fun j hj => ⟨cs[j]'(by omega), ?_, ?_⟩⟩
        · have := c2 j hj
          rw [Addr.add_add] at this
          rw [this]; simp [show j < cs.length by omega]
        · have := q3.2 j (by omega)
          simpa [Array.getD_eq_getD_getElem?, show j < cs.length by omega] using this
      have hget : ∀ i (hi : i < l.length), (l.map f).getD i .undef = f l[i] := fun i hi => by simp [List.getD_eq_getElem?_getD, hi]
      refine .sl k g (l.map f) .no (some a) len cap (by simp [hll]) (by simp only [maxLen] at hcm; omega) (fun i hi => ?_) (fun i j => (W.cell? (a.add (i * k + j))).getD Go.undef) (fun i j hi hj => ?_) (fun i j hi hj => ?_) hl
      · rw [hget i (by omega)]
        exact ⟨(info i (by omega)).1, (hg _).1, (hg _).2.1⟩
      · obtain ⟨v, q1, q2⟩ := (info i (by omega)).2 j hj
        rw [q1]
        refine ⟨?_, a, rfl, q1⟩
        have hlc := (info i (by omega)).1
        have h1 := List.all_eq_true.1 (hg l[i]).2.2 ((f l[i]).cells[j]'(by omega)) (by simp)
        have e1 : (f l[i]).cells.getD j .undef = (f l[i]).cells[j]'(by omega) := by simp [List.getD_eq_getElem?_getD, show j < (f l[i]).cells.length by omega]
        rw [e1] at q2
        exact q2.one h1
      · obtain ⟨v, q1, q2⟩ := (info i (by omega)).2 j hj
        rw [hget i (by omega), q1]
        exact q2
    · obtain ⟨y, cs, q1, _, _, q4⟩ := hli i hi
      have hi2 : i < elems.length := by omega
      have : y = elems[i] := by rw [List.getElem?_eq_getElem hi2] at q1; exact (Option.some.inj q1).symm
      subst this
      simpa using q4

theorem arg_struct {t : TypeId} {fs : Array Field} {v : Value} {d : DataW H} {ps : List MemPlace} {f : α → AV} {ok : α → DataW H → Prop} (ht : P.underlying t = some (.struct fs)) {r : Reach} {b0 : Nat} (hval : Value.okWide P W r b0 t v)
    (hr : ∀ n, ReadsAt enc P W base n t f ok) (hag : ∀ a, f a = .agg (f a).cells) (hd : DataW.Trod enc P W base (fun _ => true) true t v d ps) : ∃ a, Rel W.cell? rho0 (f a) v ∧ ok a d := by
  obtain ⟨n, hn⟩ := hd
  obtain ⟨a, h1, h2⟩ := hr n _ _ hn
  unfold Value.okWide at hval
  rw [ht] at hval
  obtain ⟨cs, rfl, _⟩ := hval
  refine ⟨a, ?_, h2⟩
  rw [hag a]
  have : (Value.agg cs).cells.toList.toArray = cs := by simp [Value.cells]
  rw [this] at h1
  exact .agg _ _ h1.1 h1.2

theorem arg_one {t : TypeId} {v : Value} {d : DataW H} {ps : List MemPlace} {f : α → AV} {ok : α → DataW H → Prop} {r : Reach} {b0 : Nat} (hval : Cell.okWide P W r b0 t v)
    (hr : ∀ n, ReadsAt enc P W base n t f ok) (hag : ∀ a, (f a).cells = [f a]) (hd : DataW.Trod enc P W base (fun _ => true) true t v d ps) : ∃ a, Rel W.cell? rho0 (f a) v ∧ ok a d := by
  obtain ⟨n, hn⟩ := hd
  obtain ⟨a, h1, h2⟩ := hr n _ _ hn
  have hc : v.cells = #[v] := by
    cases v with
    | agg cs =>
      unfold Cell.okWide at hval
      split at hval
      all_goals (first | (rename_i he; cases he; done) | skip)
      unfold Cell.ok at hval
      split at hval <;> simp_all
    | _ => rfl
  refine ⟨a, ?_, h2⟩
  rw [hag a, hc] at h1
  have := h1.2 0 (by simp)
  simpa using this

theorem okWide_cell {t : TypeId} {v : Value} {r : Reach} {b0 : Nat} {d : TypeDesc} (ht : P.underlying t = some d) (hd : (tyOfDesc P t d).agg = false) (hval : Value.okWide P W r b0 t v) : Cell.okWide P W r b0 t v := by
  unfold Value.okWide at hval
  rw [ht] at hval
  cases d <;> first | exact hval | (simp [tyOfDesc, Ty.agg] at hd)

end
end Go.Lift
