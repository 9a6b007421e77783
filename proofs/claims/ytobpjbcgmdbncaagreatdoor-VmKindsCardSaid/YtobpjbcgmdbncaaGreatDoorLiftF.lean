/- A part of the proof (own lemmas, no condition beyond those that each theorem states): the layer over the model that all of the proofs of this seat stand on. -/
import Derived.Test.YtobpjbcgmdbncaaGreatDoorLiftE
set_option linter.unusedVariables false
set_option linter.unusedSectionVars false
set_option linter.unusedSimpArgs false
namespace Go.Lift
open Go Go.RowKit
variable [G : Glob]
section
variable {P : Program} {ty : Tys} {N : Nat} {M : Mem} {ρ : Rho} {l : Lam} {env : Env} {loc : Loc} {h : Heap} {a : Act} {w : World}

/-- An optional bound: its number. -/
def ORel (M : Mem) (ρ : Rho) (l : Lam) : Option AV → Option Value → Prop
  | none, none => True
  | some x, some v => RelS M ρ l x v
  | _, _ => False

theorem intA_none {d n : Int} (h : intA none d = some n) : n = d := by simp [intA] at h; exact h.symm
theorem intA_some {x : AV} {d n : Int} {v : Value} (h : intA (some x) d = some n) (hv : RelS M ρ l x v) : ∃ k, v = .int k n := by
  cases x <;> simp [intA] at h
  subst h
  cases hv
  exact ⟨_, rfl⟩

theorem intA_ind (x : AV) (d d' : Int) : intA (some x) d = intA (some x) d' := by cases x <;> rfl

theorem run_bound {k : IntKind} {n : Int} {y : Nat} {code : BoundsCode} (h0 : 0 ≤ n) (h1 : n ≤ (y : Int)) : (Instr.sliceBound (.int k n) y code).run P w = .ok n.toNat w := by
  simp [Instr.sliceBound, asIntOf, h0, h1]

theorem run_bounds {isS : Bool} {len cap : Nat} {lo hi mx : Option AV} {lv hv mv : Option Value} {L H X : Int} (rl : ORel M ρ l lo lv) (rh : ORel M ρ l hi hv) (rm : ORel M ρ l mx mv)
    (hl : intA lo 0 = some L) (hh : intA hi len = some H) (hm : intA mx cap = some X) (h0 : 0 ≤ L) (h1 : L ≤ H) (h2 : H ≤ X) (h3 : X ≤ (cap : Int)) (hmx : mx ≠ none → hi ≠ none) :
    (Instr.sliceBounds isS len cap lv hv mv).run P w = .ok (L.toNat, H.toNat, X.toNat) w := by
  have e0 : ∀ z : Nat, ((z : Int)).toNat = z := fun z => by omega
  unfold Instr.sliceBounds
  cases mx with
  | none =>
    cases mv with
    | some _ => exact rm.elim
    | none =>
      have := intA_none hm
      subst this
      cases hi with
      | none =>
        cases hv with
        | some _ => exact rh.elim
        | none =>
          have := intA_none hh
          subst this
          cases lo with
          | none =>
            cases lv with
            | some _ => exact rl.elim
            | none => have := intA_none hl; subst this; simp [e0]
          | some x =>
            cases lv with
            | none => exact rl.elim
            | some u =>
              obtain ⟨k, rfl⟩ := intA_some hl rl
              simp [e0, run_bound h0 h1]
      | some y =>
        cases hv with
        | none => exact rh.elim
        | some z =>
          obtain ⟨k', rfl⟩ := intA_some hh rh
          have hH : H = (H.toNat : Int) := by omega
          cases lo with
          | none =>
            cases lv with
            | some _ => exact rl.elim
            | none => have := intA_none hl; subst this; simp [e0, run_bound (show 0 ≤ H by omega) h2]
          | some x =>
            cases lv with
            | none => exact rl.elim
            | some u =>
              obtain ⟨k, rfl⟩ := intA_some hl rl
              simp [e0, run_bound (show 0 ≤ H by omega) h2, run_bound (n := L) (y := H.toNat) h0 (by omega)]
  | some m =>
    cases mv with
    | none => exact rm.elim
    | some um =>
      obtain ⟨km, rfl⟩ := intA_some hm rm
      cases hi with
      | none => exact absurd rfl (hmx (by simp))
      | some y =>
        cases hv with
        | none => exact rh.elim
        | some z =>
          obtain ⟨k', rfl⟩ := intA_some hh rh
          cases lo with
          | none =>
            cases lv with
            | some _ => exact rl.elim
            | none => have := intA_none hl; subst this; simp [e0, run_bound (show 0 ≤ X by omega) h3, run_bound (n := H) (y := X.toNat) (show 0 ≤ H by omega) (by omega)]
          | some x =>
            cases lv with
            | none => exact rl.elim
            | some u =>
              obtain ⟨k, rfl⟩ := intA_some hl rl
              simp [e0, run_bound (show 0 ≤ X by omega) h3, run_bound (n := H) (y := X.toNat) (show 0 ≤ H by omega) (by omega), run_bound (n := L) (y := H.toNat) h0 (by omega)]

theorem str_extract (s : List UInt8) (x y : Nat) : (⟨s.toArray⟩ : ByteArray).extract x y = ⟨((s.take y).drop x).toArray⟩ := by
  apply ByteArray.ext
  rw [ByteArray.data_extract]
  apply Array.ext'
  simp [List.drop_take]

theorem getD_dropTake {α : Type} (els : List α) (d : α) (x y i : Nat) (hi : x + i < y) : ((els.take y).drop x).getD i d = els.getD (x + i) d := by
  simp [List.getD_eq_getElem?_getD, List.getElem?_drop, List.getElem?_take, hi]

/-- A part of what is only read. -/
theorem rel_cut {k : Nat} {g : Bool} {els : List AV} {cap cap' : Cap} {ad : Option Addr} {n c L H X : Nat} (hv : Rel M ρ (.sl k g els cap) (.slice ad n c)) (h1 : L ≤ H) (h2 : H ≤ els.length) (h3 : H ≤ X) (hX : X ≤ c)
    (hc : CapOK ρ k (H - L) (X - L) (if X = L then ad else ad.map (·.add (L * k))) cap') :
    Rel M ρ (.sl k g ((els.take H).drop L) cap') (.slice (if X = L then ad else ad.map (·.add (L * k))) (H - L) (X - L)) := by
  cases hv with
  | sl _ _ _ _ _ _ _ hn hm hk cv hcv hr hcap =>
    refine .sl k g _ cap' _ _ _ (by simp; omega) (by omega) (fun i hi => ?_) (fun i j => cv (L + i) j) (fun i j hi hj => ?_) (fun i j hi hj => ?_) hc
    · rw [getD_dropTake els .undef L H i (by omega)]
      exact hk (L + i) (by omega)
    · have hne : X ≠ L := by omega
      obtain ⟨e0, ad', e1, e2⟩ := hcv (L + i) j (by omega) hj
      subst e1
      refine ⟨e0, ad'.add (L * k), by simp [hne], ?_⟩
      rw [Addr.add_add]
      have : L * k + (i * k + j) = (L + i) * k + j := by rw [Nat.add_mul]; omega
      rw [this]; exact e2
    · rw [getD_dropTake els .undef L H i (by omega)]
      exact hr (L + i) j (by omega) hj

theorem sl_cap {k : Nat} {g : Bool} {els : List AV} {cap : Cap} {ad : Option Addr} {n c : Nat} (hv : Rel M ρ (.sl k g els cap) (.slice ad n c)) : n = els.length ∧ n ≤ c ∧ (cap.fulls = .full → c = n) := by
  cases hv with
  | sl _ _ _ _ _ _ _ hn hm hk cv hcv hr hcap =>
    refine ⟨hn, ?_, ?_⟩
    · cases cap with
      | full => exact Nat.le_of_eq hcap.symm
      | nil => exact Nat.le_of_eq hcap.1.symm
      | no => exact hcap
      | own t => obtain ⟨p, o, _, _, _, _, h⟩ := hcap; exact h
    · intro he
      cases cap with
      | full => exact hcap
      | nil => exact hcap.1
      | no => cases he
      | own t => cases he

theorem cutL_eq {α : Type} {lo hi : Option AV} {s : List α} {l h : Int} (e1 : intA lo 0 = some l) (e2 : intA hi s.length = some h) : cutL lo hi s l h = (s.take h.toNat).drop l.toNat := by
  unfold cutL
  split
  · simp only [intA, Option.some.injEq] at e2
    subst e2
    rw [List.take_of_length_le (by omega)]
  · split
    · simp only [intA, Option.some.injEq] at e1
      subst e1
      simp
    · rfl

theorem run_evSlice (hT : TyOK P ty) {t : TypeId} {x : AV} {lo hi mx : Option AV} {v : Value} {lv hv' mv : Option Value} (hv : RelS M ρ l x v) (rl : ORel M ρ l lo lv) (rh : ORel M ρ l hi hv') (rm : ORel M ρ l mx mv)
    (hh : (evSlice ty t x lo hi mx).holds) : ∃ r, (∀ w : World, (Instr.sliceAt t v lv hv' mv).run P w = .ok r w) ∧ RelS M ρ l (evSlice ty t x lo hi mx).val r := by
  unfold evSlice at hh ⊢
  split at hh
  · rename_i b1 b2 b3 hti
    obtain ⟨pi, d, h1, h2, h3, h4, h5, h6⟩ := gather_info (hT t _ hti)
    obtain rfl := ul_str h6.symm
    split at hh
    · rename_i s
      cases hv
      split at hh
      · rename_i L H e1 e2
        simp only [Res.holds, Res.val] at hh ⊢
        rw [cutL_eq e1 e2]
        have hb := fun w : World => run_bounds (P := P) (w := w) (isS := false) (cap := s.length) rl rh rm e1 e2 (X := s.length) rfl hh.1 hh.2.1 hh.2.2 (by omega) (fun h => absurd rfl h)
        refine ⟨_, fun w => ?_, RelS.of (.str _)⟩
        cases mv with
        | some _ => exact rm.elim
        | none =>
          simp only [Instr.sliceAt, Sem.run_bind, run_ul h2, Result.andThen_ok, Instr.slice, Option.isSome_none, Bool.false_eq_true, if_false, Sem.run_pure, str_size, hb, str_extract]
      · simp [Res.holds] at hh
    · simp [Res.holds] at hh
  · rename_i e b1 b2 b3 hti
    obtain ⟨pi, d, h1, h2, h3, h4, h5, h6⟩ := gather_info (hT t _ hti)
    obtain rfl := ul_slice h6.symm
    split at hh
    · simp [Res.holds] at hh
    · rename_i i he
      obtain ⟨qi, d, g1, g2, g3, g4, g5, g6⟩ := gather_info (hT e _ he)
      split at hh
      · rename_i k g els cap
        have hshape : ∃ ad n c, v = .slice ad n c := by cases hv with | sl _ _ _ _ ad n c => exact ⟨ad, n, c, rfl⟩
        obtain ⟨ad, n, c, rfl⟩ := hshape
        have hv : Rel M ρ (.sl k g els cap) (.slice ad n c) := hv
        obtain ⟨hn, hnc, hfull⟩ := sl_cap hv
        have e0 : ∀ z : Nat, ((z : Int)).toNat = z := fun z => by omega
        split at hh
        · simp [Res.holds] at hh
        · rename_i hk
          have hk := Nat.eq_of_beq_eq_true hk
          have run : ∀ (L H X : Nat), (∀ w : World, (Instr.sliceBounds true n c lv hv' mv).run P w = .ok (L, H, X) w) → ∀ w : World, (Instr.sliceAt t (.slice ad n c) lv hv' mv).run P w = .ok (.slice (if X = L then ad else ad.map (·.add (L * k))) (H - L) (X - L)) w := fun L H X hb w => by
            simp only [Instr.sliceAt, Sem.run_bind, run_ul h2, Result.andThen_ok, Instr.slice, hb, run_so g1, g4, hk, Sem.run_pure]
          split at hh
          · split at hh
            · split at hh
              · rename_i L e1
                simp only [Res.holds, Res.val] at hh ⊢
                have hb := fun w : World => run_bounds (P := P) (w := w) (isS := true) (len := n) (cap := c) rl rh rm e1 (H := n) rfl (X := c) rfl hh.1 (by omega) (by omega) (by omega) (fun h => absurd rfl h)
                simp only [e0] at hb
                refine ⟨_, run _ _ _ hb, RelS.of ?_⟩
                have ht : els.drop L.toNat = (els.take n).drop L.toNat := by rw [List.take_of_length_le (by omega)]
                rw [ht]
                refine rel_cut hv (by omega) (by omega) hnc (Nat.le_refl _) ?_
                cases cap with
                | full => show c - L.toNat = n - L.toNat; rw [hfull rfl]
                | nil => show c - L.toNat = n - L.toNat; rw [hfull rfl]
                | no => show n - L.toNat ≤ c - L.toNat; omega
                | own t => show n - L.toNat ≤ c - L.toNat; omega
              · simp [Res.holds] at hh
            · split at hh
              · rename_i hvv L H e1 e2
                simp only [Res.holds, Res.val] at hh ⊢
                have hb := fun w : World => run_bounds (P := P) (w := w) (isS := true) (len := n) (cap := c) rl rh rm e1 (H := H) (by rw [intA_ind _ _ 0]; exact e2) (X := c) rfl hh.1 hh.2.1 (by omega) (by omega) (fun h => absurd rfl h)
                simp only [e0] at hb
                rw [cutL_eq e1 (by rw [intA_ind _ _ 0]; exact e2)]
                exact ⟨_, run _ _ _ hb, RelS.of (rel_cut hv (by omega) (by omega) (by omega) (Nat.le_refl _) (show H.toNat - L.toNat ≤ c - L.toNat by omega))⟩
              · simp [Res.holds] at hh
          · split at hh
            · simp [Res.holds] at hh
            · split at hh
              · rename_i mvv hvv L H X e1 e2 e3
                simp only [Res.holds, Res.val] at hh ⊢
                obtain ⟨c1, c2, c3, c4⟩ := hh
                subst c3
                have hb := fun w : World => run_bounds (P := P) (w := w) (isS := true) (len := n) (cap := c) rl rh rm e1 (H := H) (by rw [intA_ind _ _ 0]; exact e2) (X := H) (by rw [intA_ind _ _ 0]; exact e3) c1 c2 (Int.le_refl _) (by omega) (fun _ h => by cases h)
                rw [cutL_eq e1 (by rw [intA_ind _ _ 0]; exact e2)]
                exact ⟨_, run _ _ _ hb, RelS.of (rel_cut hv (by omega) (by omega) (Nat.le_refl _) (by omega) rfl)⟩
              · simp [Res.holds] at hh
      · rename_i id off len cap
        cases hv with
        | row _ _ n c cp p hp hcap =>
          split at hh
          · split at hh
            · rename_i L H e1 e2
              split at hh
              · rename_i c0
                obtain ⟨hcap, hnc⟩ : c = c0 ∧ len ≤ c := hcap
                subst hcap
                simp only [Res.holds, Res.val] at hh ⊢
                obtain ⟨c1, c2, c3, c5⟩ := hh
                have hb := fun w : World => run_bounds (P := P) (w := w) (isS := true) (len := len) (cap := c) rl rh rm e1 e2 (X := c) rfl c1 c2 (by omega) (by omega) (fun h => absurd rfl h)
                refine ⟨.slice (some ⟨p.b, off + L.toNat * i.size, none⟩) (H.toNat - L.toNat) (c - L.toNat), fun w => ?_, RelS.of (.row _ _ _ _ _ p hp ⟨rfl, by omega⟩)⟩
                simp only [Instr.sliceAt, Sem.run_bind, run_ul h2, Result.andThen_ok, Instr.slice, hb, run_so g1, g4, Sem.run_pure, Option.map_some, Addr.add_plain]
                rcases c5 with c5 | c5
                · have : c ≠ L.toNat := by omega
                  simp [this]
                · subst c5
                  simp
              · have hcap : len ≤ c := hcap
                simp only [Res.holds, Res.val] at hh ⊢
                obtain ⟨c1, c2, c3, c5⟩ := hh
                have hb := fun w : World => run_bounds (P := P) (w := w) (isS := true) (len := len) (cap := c) rl rh rm e1 e2 (X := c) rfl c1 c2 (by omega) (by omega) (fun h => absurd rfl h)
                refine ⟨.slice (some ⟨p.b, off + L.toNat * i.size, none⟩) (H.toNat - L.toNat) (c - L.toNat), fun w => ?_, RelS.of (.row _ _ _ _ _ p hp (show H.toNat - L.toNat ≤ c - L.toNat by omega))⟩
                simp only [Instr.sliceAt, Sem.run_bind, run_ul h2, Result.andThen_ok, Instr.slice, hb, run_so g1, g4, Sem.run_pure, Option.map_some, Addr.add_plain]
                rcases c5 with c5 | c5
                · have : c ≠ L.toNat := by omega
                  simp [this]
                · subst c5
                  simp
            · simp [Res.holds] at hh
          · split at hh
            · simp [Res.holds] at hh
            · split at hh
              · rename_i mvv hvv L H X e1 e2 e3
                simp only [Res.holds, Res.val] at hh ⊢
                obtain ⟨c1, c2, c3, c4, c5⟩ := hh
                have hcl : len ≤ c := by cases cap with | none => exact hcap | some k => exact hcap.2
                have hb := fun w : World => run_bounds (P := P) (w := w) (isS := true) (len := len) (cap := c) rl rh rm e1 (H := H) (by rw [intA_ind _ _ 0]; exact e2) (X := X) (by rw [intA_ind _ _ 0]; exact e3) c1 c2 c3 (by omega) (fun _ h => by cases h)
                refine ⟨.slice (some ⟨p.b, off + L.toNat * i.size, none⟩) (H.toNat - L.toNat) (X.toNat - L.toNat), fun w => ?_, RelS.of (.row _ _ _ _ _ p hp ⟨rfl, by omega⟩)⟩
                simp only [Instr.sliceAt, Sem.run_bind, run_ul h2, Result.andThen_ok, Instr.slice, hb, run_so g1, g4, Sem.run_pure, Option.map_some, Addr.add_plain]
                rcases c5 with c5 | c5
                · have : X.toNat ≠ L.toNat := by omega
                  simp [this]
                · subst c5
                  simp
              · simp [Res.holds] at hh
      · simp [Res.holds] at hh
  · simp [Res.holds] at hh

end
end Go.Lift
