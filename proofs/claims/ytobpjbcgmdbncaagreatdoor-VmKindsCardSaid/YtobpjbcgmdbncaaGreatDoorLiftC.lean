/- A part of the proof (own lemmas, no condition beyond those that each theorem states): the layer over the model that all of the proofs of this seat stand on. -/
import Derived.Test.YtobpjbcgmdbncaaGreatDoorLiftB
/- What 'evS' reckons is what the model's run gives. -/
set_option linter.unusedVariables false
set_option linter.unusedSectionVars false
set_option linter.unusedSimpArgs false
namespace Go.Lift
open Go Go.RowKit
variable [G : Glob]

theorem Addr.add_add (a : Addr) (n m : Nat) : (a.add n).add m = a.add (n + m) := by
  unfold Addr.add
  by_cases h1 : n = 0
  · simp [h1]
  · by_cases h2 : m = 0
    · simp [h1, h2]
    · have : n + m ≠ 0 := by omega
      simp [h1, h2, this, Nat.add_assoc]
theorem Addr.add_plain (b o n : Nat) : (⟨b, o, none⟩ : Addr).add n = ⟨b, o + n, none⟩ := by
  unfold Addr.add
  by_cases h : n = 0 <;> simp [h]
theorem Addr.add_zero (a : Addr) : a.add 0 = a := by simp [Addr.add]

theorem getD_map_range (n : Nat) (f : Nat → Value) (i : Nat) (h : i < n) : (((List.range n).map f).toArray).getD i Go.undef = f i := by
  simp [Array.getD_eq_getD_getElem?, h]

section
variable {P : Program} {ty : Tys} {N : Nat} {M : Mem} {ρ : Rho} {l : Lam} {env : Env} {loc : Loc} {h : Heap} {a : Act} {w : World}

theorem run_loadVar {t : TypeId} {pi : TypeInfo} {d : TypeDesc} (hi : P.info? t = some pi) (hd : P.underlying t = some d) (ad : Addr) (f : Nat → Value)
    (hc : ∀ j, j < pi.size → w.cell? (ad.add j) = some (f j)) (h1 : (tyOfDesc P t d).agg = true ∨ pi.size = 1) :
    (loadVar t ad).run P w = .ok (match (tyOfDesc P t d).agg with | true => .agg ((List.range pi.size).map f).toArray | false => f 0) w := by
  simp only [loadVar, Sem.run_bind, run_ag hd, Result.andThen_ok]
  cases hg : (tyOfDesc P t d).agg with
  | true =>
    simp only [if_true, Sem.run_bind, run_so hi, Result.andThen_ok, run_loadCells w ad pi.size f hc]
    rfl
  | false =>
    have hs : pi.size = 1 := by rcases h1 with h | h; (rw [hg] at h; cases h); exact h
    have := hc 0 (by omega)
    rw [Addr.add_zero] at this
    simp [this]

theorem rels_take {cs : List AV} {f : Nat → Value} {off n : Nat} (hn : off + n ≤ cs.length) (h : ∀ j, j < n → Rel M ρ (cs.getD (off + j) .undef) (f j)) :
    Rel M ρ (.agg ((cs.drop off).take n)) (.agg ((List.range n).map f).toArray) := by
  refine .agg _ _ (by simp; omega) fun i hi => ?_
  have hi' : i < n := by simp at hi; omega
  rw [getD_map_range n f i hi']
  have : ((cs.drop off).take n).getD i .undef = cs.getD (off + i) .undef := by
    simp [List.getD_eq_getElem?_getD, List.getElem?_take, hi', List.getElem?_drop]
  rw [this]
  exact h i hi'

/-- What is read, and the function's own variables, are as they were. -/
structure SameR (M : Mem) (loc : Loc) (l : Lam) (w w' : World) : Prop where
  mem : ∀ x v, M x = some v → w'.cell? x = some v
  blk : ∀ d cs b, loc d = some cs → l d = some b → w'.heap[b]? = w.heap[b]?

theorem ESim.same (f : ESim M ρ l env loc a w) : SameR M loc l w w := ⟨f.mem, fun _ _ _ _ _ => rfl⟩

theorem run_evLoad (hT : TyOK P ty) (f : ESim M ρ l env loc a w) {t : TypeId} {p : AV} {v : Value} (hv : RelS M ρ l p v) (hh : (evLoad ty loc t p).holds) :
    ∃ u, (∀ w', SameR M loc l w w' → (Instr.loadAt t v).run P w' = .ok u w') ∧ Rel M ρ (evLoad ty loc t p).val u := by
  unfold evLoad at hh ⊢
  cases hi : ty t with
  | none => simp [hi, Res.holds] at hh
  | some i =>
    obtain ⟨pi, d, h1, h2, h3, h4, h5, h6⟩ := gather_info (hT t i hi)
    simp only [hi] at hh ⊢
    have hag : i.desc.agg = (tyOfDesc P t d).agg := by rw [h6]
    cases p with
    | ept x k g off =>
      obtain ⟨hx, hk, hg, cv, ad, rfl, hm, hr⟩ : x.known = true ∧ x.cells.length = k ∧ x.isAgg = g ∧ ∃ cv : Nat → Value, ∃ ad, v = .pointer (some ad) ∧ (∀ j, off + j < k → M (ad.add j) = some (cv j)) ∧ ∀ j, off + j < k → Rel M ρ (x.cells.getD (off + j) .undef) (cv j) := by
        cases hv with
        | ept x k g off ad hx hk hg cv hm hr => exact ⟨hx, hk, hg, cv, ad, rfl, hm, hr⟩
      simp only [Instr.loadAt, Instr.sureAddr, Sem.run_bind, Sem.run_pure, Result.andThen_ok] at *
      cases hc : (Nat.beq off 0 && Nat.beq i.size k && (i.desc.agg == g)) with
      | true =>
        simp only [hc]
        simp only [Bool.and_eq_true, beq_iff_eq] at hc
        obtain ⟨⟨c1, c2⟩, c3⟩ := hc
        have c1 := Nat.eq_of_beq_eq_true c1
        have c2 := Nat.eq_of_beq_eq_true c2
        subst c1
        simp only [Nat.zero_add] at hm hr
        have hload := fun (w' : World) (sm : SameR M loc l w w') => run_loadVar (w := w') h1 h2 ad cv (fun j hj => sm.mem _ _ (hm j (by omega))) (by
          cases hgg : (tyOfDesc P t d).agg with
          | true => exact .inl rfl
          | false =>
            right
            have : x.isAgg = false := by rw [hg, ← c3, hag, hgg]
            have hl : x.cells.length = 1 := by cases x <;> first | rfl | (simp [AV.isAgg] at this)
            omega)
        refine ⟨_, hload, ?_⟩
        cases hgg : (tyOfDesc P t d).agg with
        | true =>
          have : x.isAgg = true := by rw [hg, ← c3, hag, hgg]
          cases x with
          | agg cs =>
            simp only [AV.cells] at *
            have := rels_take (M := M) (ρ := ρ) (cs := cs) (f := cv) (off := 0) (n := pi.size) (by omega) (fun j hj => by simpa using hr j (by omega))
            rw [List.drop_zero, List.take_of_length_le (by omega)] at this
            exact this
          | _ => simp [AV.isAgg] at this
        | false =>
          have : x.isAgg = false := by rw [hg, ← c3, hag, hgg]
          have hl : x.cells = [x] := by cases x <;> first | rfl | (simp [AV.isAgg] at this)
          have := hr 0 (by have := congrArg List.length hl; simp at this; omega)
          rw [hl] at this
          exact this
      | false =>
        simp only [hc] at hh ⊢
        cases hc2 : (Nat.ble (off + i.size) k && (i.desc.agg || Nat.beq i.size 1)) with
        | false => simp [hc2, Res.holds] at hh
        | true =>
          simp only [hc2]
          simp only [Bool.and_eq_true, Bool.or_eq_true] at hc2
          obtain ⟨c1, c2⟩ := hc2
          have c1 := Nat.le_of_ble_eq_true c1
          have hload := fun (w' : World) (sm : SameR M loc l w w') => run_loadVar (w := w') h1 h2 ad cv (fun j hj => sm.mem _ _ (hm j (by omega))) (by
            rcases c2 with c2 | c2
            · exact .inl (by rw [← hag]; exact c2)
            · exact .inr (by have := Nat.eq_of_beq_eq_true c2; omega))
          refine ⟨_, hload, ?_⟩
          rw [hag]
          cases hgg : (tyOfDesc P t d).agg with
          | true => simp only [Res.val, partA, ← h4]; exact rels_take (by omega) (fun j hj => hr j (by omega))
          | false =>
            have hs : i.size = 1 := by
              rcases c2 with c2 | c2
              · rw [hag, hgg] at c2; cases c2
              · exact Nat.eq_of_beq_eq_true c2
            simp only [Res.val, partA]
            exact hr 0 (by omega)
    | lptr d' off =>
      obtain ⟨b, hb, rfl⟩ := hv
      simp only [Instr.loadAt, Instr.sureAddr, Sem.run_bind, Sem.run_pure, Result.andThen_ok] at *
      cases hl : loc d' with
      | none => simp [hl, Res.holds] at hh
      | some cs =>
        simp only [hl] at hh ⊢
        obtain ⟨b', hb', arr, el, ha, hr⟩ := f.lo d' cs hl
        rw [hb] at hb'
        cases hb'
        cases hc2 : (Nat.ble (off + i.size) cs.length && (i.desc.agg || Nat.beq i.size 1)) with
        | false => simp [hc2, Res.holds] at hh
        | true =>
          simp only [hc2]
          simp only [Bool.and_eq_true, Bool.or_eq_true] at hc2
          obtain ⟨c1, c2⟩ := hc2
          have c1 := Nat.le_of_ble_eq_true c1
          have hcell : ∀ w', SameR M loc l w w' → ∀ j, j < pi.size → w'.cell? ((⟨b, off, none⟩ : Addr).add j) = some (arr.getD (off + j) Go.undef) := fun w' sm j hj => by
            rw [Addr.add_plain]
            have : off + j < arr.size := by have := hr.1; omega
            have ha := (sm.blk d' cs b hl hb).trans ha
            simp [World.cell?, ha, Array.getD_eq_getD_getElem?, this]
          have hload := fun (w' : World) (sm : SameR M loc l w w') => run_loadVar (w := w') h1 h2 ⟨b, off, none⟩ (fun j => arr.getD (off + j) Go.undef) (hcell w' sm) (by
            rcases c2 with c2 | c2
            · exact .inl (by rw [← hag]; exact c2)
            · exact .inr (by have := Nat.eq_of_beq_eq_true c2; omega))
          refine ⟨_, hload, ?_⟩
          rw [hag]
          cases hgg : (tyOfDesc P t d).agg with
          | true => simp only [Res.val, partA, ← h4]; exact rels_take (by omega) (fun j hj => hr.2 _ (by omega))
          | false =>
            have hs : i.size = 1 := by
              rcases c2 with c2 | c2
              · rw [hag, hgg] at c2; cases c2
              · exact Nat.eq_of_beq_eq_true c2
            simp only [Res.val, partA]
            have := hr.2 off (by omega)
            simpa using this
    | _ => simp [Res.holds] at hh

theorem RelS.ptrs {x : AV} {v : Value} (hp : isPtr x = true) (hv : RelS M ρ l x v) : ∃ ad, v = .pointer (some ad) ∧ ∀ n, RelS M ρ l (addOff x n) (.pointer (some (ad.add n))) := by
  cases x with
  | ept x k g off =>
    cases hv with
    | ept x k g off ad hx hk hg cv hm hr =>
      refine ⟨ad, rfl, fun n => .ept x k g (off + n) (ad.add n) hx hk hg (fun j => cv (n + j)) (fun j hj => ?_) (fun j hj => ?_)⟩
      · rw [Addr.add_add]; exact hm _ (by omega)
      · have := hr (n + j) (by omega)
        rwa [← Nat.add_assoc] at this
  | lptr d off =>
    obtain ⟨b, hb, rfl⟩ := hv
    exact ⟨_, rfl, fun n => ⟨b, hb, by rw [Addr.add_plain]⟩⟩
  | ptr d off =>
    cases hv with
    | ptr id off p hp => exact ⟨_, rfl, fun n => by rw [Addr.add_plain]; exact .ptr _ _ p hp⟩
  | _ => simp [isPtr] at hp

theorem ul_slice {d : TypeDesc} {t e : TypeId} (h : tyOfDesc P t d = .slice e) : d = .slice e := by
  cases d <;> simp [tyOfDesc] at h ⊢; exact h
theorem ul_array {d : TypeDesc} {t e : TypeId} {n : Nat} (h : tyOfDesc P t d = .array n e) : d = .array n e := by
  cases d <;> simp [tyOfDesc] at h ⊢; exact h
theorem ul_str {d : TypeDesc} {t : TypeId} (h : tyOfDesc P t d = .str) : d = .string := by
  cases d <;> simp [tyOfDesc] at h ⊢
theorem ul_int {d : TypeDesc} {t : TypeId} {k : IntKind} (h : tyOfDesc P t d = .int k) : d = .int k := by
  cases d <;> simp [tyOfDesc] at h ⊢; exact h
theorem ul_bool {d : TypeDesc} {t : TypeId} (h : tyOfDesc P t d = .bool) : d = .bool := by
  cases d <;> simp [tyOfDesc] at h ⊢
theorem ul_struct {d : TypeDesc} {t : TypeId} {fs : List (Nat × TypeId × Bool)} {x y : Bool} (h : tyOfDesc P t d = .struct fs x y) : ∃ pf, d = .struct pf ∧ fs = pf.toList.map (fun f => (f.offset, f.type, f.name == "_")) ∧ x = P.stoodInHeld t ∧ y = P.eqGuardType P.depth t := by
  cases d <;> simp [tyOfDesc] at h ⊢
  obtain ⟨h1, h2, h3⟩ := h
  exact ⟨h1.symm, h2.symm, h3.symm⟩
theorem ul_iface {d : TypeDesc} {t : TypeId} {b : Bool} (h : tyOfDesc P t d = .iface b) : ∃ ms, d = .interface ms := by
  cases d <;> simp [tyOfDesc] at h ⊢

theorem run_evField (hT : TyOK P ty) {t : TypeId} {fi o : Nat} {i : TInfo} (hf : evField ty t fi = some (o, i)) :
    ∃ pf fd pi d, P.underlying t = some (.struct pf) ∧ pf[fi]? = some fd ∧ fd.offset = o ∧ P.info? fd.type = some pi ∧ P.underlying fd.type = some d ∧ pi.size = i.size ∧ i.desc = tyOfDesc P fd.type d := by
  unfold evField at hf
  split at hf
  · rename_i fs hd gd b1 b2 b3 hi
    obtain ⟨pi, d, h1, h2, h3, h4, h5, h6⟩ := gather_info (hT t _ hi)
    obtain ⟨pf, rfl, hfs, _, _⟩ := ul_struct h6.symm
    split at hf
    · rename_i o' ft b hb
      split at hf
      · rename_i i' hi'
        simp only [Option.some.injEq, Prod.mk.injEq] at hf
        obtain ⟨rfl, rfl⟩ := hf
        obtain ⟨pi', d', g1, g2, g3, g4, g5, g6⟩ := gather_info (hT ft _ hi')
        rw [hfs] at hb
        simp only [List.getElem?_map, Array.getElem?_toList, Option.map_eq_some_iff, Prod.mk.injEq] at hb
        obtain ⟨fd, q1, q2, q3, q4⟩ := hb
        subst q3
        exact ⟨pf, fd, pi', d', h2, q1, q2, g1, g2, g4, g6⟩
      · cases hf
    · cases hf
  · cases hf

theorem run_fieldAddr (hT : TyOK P ty) {t : TypeId} {fi o : Nat} {i : TInfo} (hf : evField ty t fi = some (o, i)) {x : AV} {v : Value} (hp : isPtr x = true) (hs : Nat.ble 1 i.size = true) (hv : RelS M ρ l x v) :
    ∃ u, (∀ w : World, (Instr.fieldAt t v fi).run P w = .ok u w) ∧ RelS M ρ l (addOff x o) u := by
  obtain ⟨pf, fd, pi, d, h1, h2, h3, h4, h5, h6, h7⟩ := run_evField hT hf
  obtain ⟨ad, rfl, hadd⟩ := hv.ptrs hp
  have hs := Nat.le_of_ble_eq_true hs
  refine ⟨_, fun w => ?_, hadd o⟩
  have : pi.size ≠ 0 := by omega
  simp [Instr.fieldAt, Instr.sureAddr, run_ul h1, h2, fieldPlace, run_so h4, this, h3]

theorem run_part {t : TypeId} {pi : TypeInfo} {d : TypeDesc} (hi : P.info? t = some pi) (hd : P.underlying t = some d) {cs : List AV} {vs : Array Value} (hr : Rels M ρ cs vs) (off : Nat) (hn : off + pi.size ≤ cs.length)
    (h1 : (tyOfDesc P t d).agg = true ∨ pi.size = 1) : ∃ u, (∀ w : World, (part t vs off).run P w = .ok u w) ∧ Rel M ρ (partA (tyOfDesc P t d).agg pi.size cs off) u := by
  have hl := hr.1
  cases hg : (tyOfDesc P t d).agg with
  | true =>
    refine ⟨.agg (vs.extract off (off + pi.size)), fun w => by simp only [part, Sem.run_bind, run_ag hd, Result.andThen_ok, hg, if_true, run_so hi, Sem.run_pure], .agg _ _ (by simp; omega) fun j hj => ?_⟩
    have hj' : j < pi.size := by simp at hj; omega
    have e1 : ((cs.drop off).take pi.size).getD j .undef = cs.getD (off + j) .undef := by
      simp [List.getD_eq_getElem?_getD, List.getElem?_take, hj', List.getElem?_drop]
    have e2 : (vs.extract off (off + pi.size)).getD j Go.undef = vs.getD (off + j) Go.undef := by
      simp only [Array.getD_eq_getD_getElem?, Array.getElem?_extract]
      rw [if_pos (by omega)]
    simp only [e1, e2]
    exact hr.2 _ (by omega)
  | false =>
    have hs : pi.size = 1 := by rcases h1 with h | h; (rw [hg] at h; cases h); exact h
    have hlt : off < vs.size := by omega
    have := hr.2 off (by omega)
    have hv : vs[off]? = some vs[off] := by simp [hlt]
    refine ⟨vs[off], fun w => by simp only [part, Sem.run_bind, run_ag hd, Result.andThen_ok, hg, Bool.false_eq_true, if_false, hv, Sem.run_pure], ?_⟩
    simpa [partA, Array.getD_eq_getD_getElem?, hv] using this

theorem run_indexAddr (hT : TyOK P ty) {t : TypeId} {x ix : AV} {v u : Value} (hv : RelS M ρ l x v) (hu : RelS M ρ l ix u) (hh : (evIndexAddr ty t x ix).holds) :
    ∃ r, (∀ w : World, (Instr.indexAt t v u).run P w = .ok r w) ∧ RelS M ρ l (evIndexAddr ty t x ix).val r := by
  unfold evIndexAddr at hh ⊢
  cases ix with
  | int ik n =>
    cases hu
    simp only at hh ⊢
    split at hh
    · rename_i e b1 b2 b3 hi
      obtain ⟨pi, d, h1, h2, h3, h4, h5, h6⟩ := gather_info (hT t _ hi)
      obtain rfl := ul_slice h6.symm
      cases he : ty e with
      | none => simp [he, Res.holds] at hh
      | some i =>
        obtain ⟨qi, d, g1, g2, g3, g4, g5, g6⟩ := gather_info (hT e _ he)
        simp only [he, hi] at hh ⊢
        cases x with
        | sl k g els cap =>
          simp only at hh ⊢
          cases hc : (Nat.beq i.size k && Nat.ble 1 k) with
          | false => simp [hc, Res.holds] at hh
          | true =>
            simp only [hc, Res.holds, Res.val] at hh ⊢
            simp only [Bool.and_eq_true] at hc
            have hc' := Nat.eq_of_beq_eq_true hc.1
            have hk1 := Nat.le_of_ble_eq_true hc.2
            obtain ⟨p1, p2⟩ := hh
            cases hv with
            | sl k g els cap ad m c hn hm hk cv hcv hr hcap =>
              have hlt : n.toNat < els.length := by omega
              obtain ⟨q1, q2, q3⟩ := hk n.toNat (by omega)
              · obtain ⟨_, ad', e1, e2⟩ := hcv n.toNat 0 (by omega) (by omega)
                subst e1
                refine ⟨_, fun w => ?_, RelS.of (.ept _ k g 0 (ad'.add (n.toNat * k)) q2 q1 q3 (fun j => cv n.toNat j) (fun j hj => ?_) (fun j hj => ?_))⟩
                · have : n < (els.length : Int) := p2
                  simp only [Instr.indexAt, asIntOf, Sem.run_bind, Sem.run_pure, Result.andThen_ok, run_ul h2]
                  subst hn
                  simp [p1, p2, run_so g1, g4, hc']
                · obtain ⟨_, ad2, f1, f2⟩ := hcv n.toNat j (by omega) (by omega)
                  cases f1
                  rw [Addr.add_add]; exact f2
                · have := hr n.toNat j (by omega) (by omega)
                  simpa using this
        | row id off len cap =>
          simp only [Res.holds, Res.val] at hh ⊢
          obtain ⟨p1, p2⟩ := hh
          cases hv with
          | row id off m c cp p hp hcap =>
            refine ⟨_, fun w => ?_, RelS.of (.ptr id _ p hp)⟩
            simp only [Instr.indexAt, asIntOf, Sem.run_bind, Sem.run_pure, Result.andThen_ok, run_ul h2]
            simp [p1, p2, run_so g1, g4, Addr.add_plain]
        | _ => simp [Res.holds] at hh
    · rename_i len e b1 b2 b3 hi
      obtain ⟨pi, d, h1, h2, h3, h4, h5, h6⟩ := gather_info (hT t _ hi)
      obtain rfl := ul_array h6.symm
      cases he : ty e with
      | none => simp [he, Res.holds] at hh
      | some i =>
        obtain ⟨qi, d, g1, g2, g3, g4, g5, g6⟩ := gather_info (hT e _ he)
        simp only [he, hi] at hh ⊢
        cases hc : (isPtr x && Nat.ble 1 i.size) with
        | false => simp [hc, Res.holds] at hh
        | true =>
          simp only [hc, Res.holds, Res.val] at hh ⊢
          simp only [Bool.and_eq_true] at hc
          obtain ⟨ad, rfl, hadd⟩ := hv.ptrs hc.1
          refine ⟨_, fun w => ?_, hadd _⟩
          simp only [Instr.indexAt, asIntOf, Sem.run_bind, Sem.run_pure, Result.andThen_ok, run_ul h2, Instr.sureAddr]
          simp [hh.1, hh.2, run_so g1, g4]
    · simp [Res.holds] at hh
  | _ => simp [Res.holds] at hh

end
end Go.Lift
