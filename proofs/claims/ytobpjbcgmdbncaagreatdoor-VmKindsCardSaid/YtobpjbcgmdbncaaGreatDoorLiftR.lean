/- A part of the proof (own lemmas, no condition beyond those that each theorem states): the layer over the model that all of the proofs of this seat stand on. -/
import Derived.Test.YtobpjbcgmdbncaaGreatDoorLiftQ
set_option linter.unusedVariables false
set_option linter.unusedSectionVars false
set_option linter.unusedSimpArgs false
namespace Go.Lift
open Go Go.RowKit
variable [G : Glob]

section
variable {P : Program} {ty : Tys} {N : Nat} {E : Ent} {M : Mem} {ρ : Rho} {l : Lam} {env : Env} {loc : Loc} {h : Heap} {a : Act} {w : World} {esc : Nat → Bool} {fr : Option Nat} {st : Bool}

/-! ### A new row, by what it holds -/
/-- A new row, whole, read from now on. -/
theorem next_slice (F : Fr N E M ρ l env loc h a w) {d : Nat} (hd : d < N) {k : Nat} {g : Bool} {els : List AV} {arr : Array Value} {el : TypeId} (hkk : ∀ x ∈ els, elemOK k g x) (hn : els.length ≤ 9223372036854775807) (hr : Rels M ρ (flat els) arr) (h1 : ∀ v ∈ arr.toList, v.oneCell' = true)
    {K : Kt} (hK : K (updE env d (.sl k g els .full)) loc h) {next : Act → World → Prop} (hf : FrOK fr ρ h) (hnx : Goes N E M ρ h w st fr K next) :
    next (a.put (some d) (.slice (some ⟨w.heap.size, 0, none⟩) els.length els.length)) { w with heap := w.heap.push (.cells arr el) } := by
  obtain ⟨s1, s2, s3⟩ := step_row (el := el) (fz := (0, 0)) (w' := { w with heap := w.heap.push (.cells arr el) }) F.f.sim arr.size (Nat.le_refl _) rfl rfl rfl rfl
  have hrel : Rel (memRow M w.heap.size arr.size arr) ρ (.sl k g els .full) (.slice (some ⟨w.heap.size, 0, none⟩) els.length els.length) :=
    rel_sl hkk hn (hr.mono s1.mem s1.rho) h1 (fun j hj => by rw [Addr.add_plain, Nat.zero_add]; exact s3 j hj) rfl
  exact hnx _ _ _ _ _ _ _ _ s1.mem (s1.stay st) fr_same ((F.step s1 s2).put (d := some d) (fun t ht => by cases ht; exact hd) (RelS.of hrel)) hK

/-- A new row: its head is read, the rest is a token's. -/
theorem next_own (F : Fr N E M ρ l env loc h a w) {d : Nat} (hd : d < N) {k c : Nat} {g : Bool} {els : List AV} {arr : Array Value} {el : TypeId} (hkk : ∀ x ∈ els, elemOK k g x) (hn : els.length ≤ 9223372036854775807) (hle : els.length ≤ c) (hsz : arr.size = c * k)
    (hr : Rels M ρ (flat els) (arr.toList.take (els.length * k)).toArray) (h1 : ∀ v ∈ arr.toList, v.oneCell' = true)
    {K : Kt} (hK : Fresh fr h fun t => K (updE env d (.sl k g els (.own t))) loc (updH h t (some .tail))) {next : Act → World → Prop} (hf : FrOK fr ρ h) (hnx : Goes N E M ρ h w st fr K next) :
    next (a.put (some d) (.slice (some ⟨w.heap.size, 0, none⟩) els.length c)) { w with heap := w.heap.push (.cells arr el) } := by
  have hlen : els.length * k ≤ arr.size := by rw [hsz]; exact Nat.mul_le_mul_right _ hle
  obtain ⟨id, i1, i2, hk, hid⟩ := Fresh.pick F.f.sim hf hK
  obtain ⟨s1, s2, s3⟩ := step_tail (el := el) (w' := { w with heap := w.heap.push (.cells arr el) }) F.f.sim (els.length * k) hlen i1 i2 rfl rfl rfl rfl
  have hrel : Rel (memRow M w.heap.size (els.length * k) arr) (updR ρ id ⟨w.heap.size, els.length * k, arr.size⟩) (.sl k g els (.own id)) (.slice (some ⟨w.heap.size, 0, none⟩) els.length c) := by
    refine rel_sl hkk hn (hr.mono s1.mem s1.rho) (fun v hv => h1 v ?_) (fun j hj => ?_) ⟨⟨w.heap.size, els.length * k, arr.size⟩, 0, by simp [updR], rfl, by simp, by simp [hsz], hle⟩
    · exact List.mem_of_mem_take hv
    · have hj : j < els.length * k := by simp at hj; omega
      rw [Addr.add_plain, Nat.zero_add, s3 j hj]
      simp [Array.getD_eq_getD_getElem?, List.getElem?_take, hj]
  exact hnx _ _ _ _ _ _ _ _ s1.mem (s1.stay st) (fr_upd hid (updH_same _ _ _)) ((F.step s1 s2).put (d := some d) (fun t ht => by cases ht; exact hd) (RelS.of hrel)) hk

/-- A new row that is written: an object. -/
theorem next_row (F : Fr N E M ρ l env loc h a w) {d : Nat} (hd : d < N) {n c : Nat} (hnc : n ≤ c) {cs : List AV} {arr : Array Value} {el : TypeId} (hr : Rels M ρ cs arr)
    {K : Kt} (hK : Fresh fr h fun t => K (updE env d (.row t 0 n (some c))) loc (updH h t (some (.cells cs)))) {next : Act → World → Prop} (hf : FrOK fr ρ h) (hnx : Goes N E M ρ h w st fr K next) :
    next (a.put (some d) (.slice (some ⟨w.heap.size, 0, none⟩) n c)) { w with heap := w.heap.push (.cells arr el) } := by
  obtain ⟨id, i1, i2, hk, hid⟩ := Fresh.pick F.f.sim hf hK
  obtain ⟨s1, s2⟩ := step_obj (o := .cells cs) (ob := .cells arr el) (w' := { w with heap := w.heap.push (.cells arr el) }) (p := ⟨w.heap.size, 0, 0⟩) F.f.sim i1 i2 rfl rfl rfl rfl rfl
    ⟨arr, el, by simp, hr.pre.mono (fun _ _ h => h) (updR_mono i1)⟩
  exact hnx _ _ _ _ _ _ _ _ s1.mem (s1.stay st) (fr_upd hid (updH_same _ _ _)) ((F.step s1 s2).put (d := some d) (fun t ht => by cases ht; exact hd) (RelS.of (.row id 0 n c (some c) ⟨w.heap.size, 0, 0⟩ (by simp [updR]) ⟨rfl, hnc⟩))) hk

/-! ### A row that is spelt out -/
theorem fillA_row {k : Nat} : ∀ (ps : List (Nat × AV)) (i : Nat) (cs : List AV), idxOK i ps = true → (∀ p ∈ ps, p.2.known = true ∧ p.2.plain = true ∧ p.2.cells.length = k) → cs.length = (i + ps.length) * k →
    fillA (fun j => some (j * k, k)) cs ps = some (cs.take (i * k) ++ flat (ps.map (·.2)))
  | [], i, cs, _, _, hl => by
    simp only [List.length_nil, Nat.add_zero] at hl
    simp [fillA, flat, List.take_of_length_le (Nat.le_of_eq hl)]
  | (j, v) :: r, i, cs, hi, hp, hl => by
    simp only [idxOK, Bool.and_eq_true] at hi
    have hij := Nat.eq_of_beq_eq_true hi.1
    subst hij
    obtain ⟨h1, h2, h3⟩ := hp (i, v) (by simp)
    simp only at h1 h2 h3
    have hl' : cs.length = i * k + k + r.length * k := by rw [hl]; simp only [List.length_cons]; rw [Nat.add_mul, Nat.succ_mul]; omega
    have hc : (v.known && v.plain && Nat.beq v.cells.length k && Nat.ble (i * k + v.cells.length) cs.length) = true := by
      simp only [h1, h2, h3, Bool.and_eq_true, Nat.beq_eq, Nat.ble_eq, true_and, Bool.true_and]
      omega
    simp only [fillA, hc]
    rw [fillA_row r (i + 1) _ hi.2 (fun p hp' => hp p (List.mem_cons_of_mem _ hp')) (by
      simp only [List.length_append, List.length_take, List.length_drop, h3]
      rw [Nat.add_mul, Nat.add_mul]
      omega)]
    congr 1
    have e1 : (cs.take (i * k) ++ (v.cells ++ cs.drop (i * k + v.cells.length))).take ((i + 1) * k) = cs.take (i * k) ++ v.cells := by
      rw [List.take_append, List.length_take, Nat.min_eq_left (by omega), List.take_append, h3, List.take_of_length_le (by simp; rw [Nat.add_mul]; omega)]
      rw [List.take_of_length_le (l := v.cells) (by rw [h3, Nat.add_mul]; omega)]
      have : (i + 1) * k - i * k - k = 0 := by rw [Nat.add_mul]; omega
      simp [this]
    rw [e1]
    simp [flat]

theorem evBuildSlice_sound (hT : TyOK P ty) (F : Fr N E M ρ l env loc h a w) {o : Oper} {t e : TypeId} {len : Nat} {ps : Array (Nat × Operand)} {i : TInfo} (ho : o.op = .buildSlice t len ps) {bt : TInfo} (htt : ty t = some bt) (hbt : bt.desc = .slice e) (hi : ty e = some i)
    (hd : ∀ t, o.dst = some t → t < N) {K : Kt} (hK : evBuildSlice esc fr o.dst i len (ps.toList.map fun p => (p.1, evO env p.2)) env loc h K) {next : Act → World → Prop} (hf : FrOK fr ρ h) (hn : Goes N E M ρ h w st fr K next) (Q : Exit → Act → World → Prop) : o.wp P a w next Q := by
  obtain ⟨pi, ds, g1, g2, g3, g4, g5, g6⟩ := gather_info (hT e i hi)
  obtain ⟨_, d1, _, f2, _, _, _, f6⟩ := gather_info (hT t bt htt)
  have hu : P.underlying t = some (.slice e) := by rw [f2, ul_slice (f6.symm.trans hbt)]
  unfold evBuildSlice at hK
  split at hK
  · exact hK.elim
  rename_i d hdd
  split at hK
  · exact hK.elim
  rename_i hc
  simp only [Bool.and_eq_true] at hc
  obtain ⟨⟨⟨⟨c1, c2⟩, c3⟩, c4⟩, c5⟩ := hc
  have c3 := Nat.eq_of_beq_eq_true c3
  have c5 := Nat.le_of_ble_eq_true c5
  obtain ⟨z1, z2, z3, z4, z5, z6⟩ := zOK_to c1
  generalize hps : (ps.toList.map fun p => (p.1, evO env p.2)) = aps at c2 c3 c4 hK
  have hel : ∀ p ∈ aps, p.2.known = true ∧ p.2.plain = true ∧ p.2.cells.length = i.size ∧ p.2.isAgg = i.desc.agg ∧ p.2.cells.all AV.one = true := fun p hp => by
    have := List.all_eq_true.1 c4 p hp
    simp only [Bool.and_eq_true, storeOK, beq_iff_eq] at this
    exact ⟨this.1.1.1.1, this.1.1.1.2, Nat.eq_of_beq_eq_true this.1.2, this.2, this.1.1.2⟩
  let vs : Array (Nat × Value) := ps.map fun (j, x) => (j, a.eval x)
  have hzs : i.zero.cells.size = i.size := by
    have := (ofVal_cells (M := M) (ρ := ρ) z1).1
    omega
  generalize hzz : (Array.range (len * pi.size)).map (fun j => i.zero.cells[j % i.zero.cells.size]!) = zeros
  have hzl : zeros.size = len * i.size := by rw [← hzz]; simp [g4]
  have hfA := fillA_row (k := i.size) aps 0 (List.replicate (len * i.size) .undef) c2 (fun p hp => by obtain ⟨q1, q2, q3, _⟩ := hel p hp; exact ⟨q1, q2, q3⟩) (by simp [c3])
  simp only [Nat.zero_mul, List.take_zero, List.nil_append] at hfA
  have hund : Rels M ρ (List.replicate (len * i.size) .undef) zeros := ⟨by simp [hzl], fun j hj => by
    simp at hj
    simp only [List.getD_eq_getElem?_getD, List.getElem?_replicate, hj, if_true, Option.getD_some]
    exact .undef _⟩
  obtain ⟨cells, hfill, hrel⟩ := run_fillA (M := M) (ρ := ρ) (l := l) (place := fun j => some (j * i.size, i.size)) aps vs.toList _ _ zeros hund (by simp [vs, ← hps]) (by
    intro j hj
    rw [← hps] at hj ⊢
    simp at hj
    have hx := F.f.ev ps[j].2
    simp [vs, List.getD_eq_getElem?_getD, hj, hx]) hfA
  have hlen : (aps.map (·.2)).length = len := by simp [c3]
  have hcl : cells.size = len * i.size := by
    have := hrel.1
    rw [flat_length (k := i.size) (fun x hx => by
      obtain ⟨p, hp, rfl⟩ := List.mem_map.1 hx
      exact (hel p hp).2.2.1), hlen] at this
    exact this.symm
  have hone : ∀ v ∈ cells.toList, v.oneCell' = true := one_all hrel (by
    rw [List.all_eq_true]
    intro x hx
    obtain ⟨y, hy, hx⟩ := List.mem_flatMap.1 hx
    obtain ⟨p, hp, rfl⟩ := List.mem_map.1 hy
    exact List.all_eq_true.1 (hel p hp).2.2.2.2 x hx)
  have hkk : ∀ x ∈ aps.map (·.2), elemOK i.size i.desc.agg x := fun x hx => by
    obtain ⟨p, hp, rfl⟩ := List.mem_map.1 hx
    exact ⟨(hel p hp).2.2.1, (hel p hp).1, (hel p hp).2.2.2.1⟩
  have hlb : len ≤ 16777216 := by
    have : len * 1 ≤ len * i.size := Nat.mul_le_mul_left _ z5
    omega
  have hrun : (Instr.buildSlice t len vs).run P w = .ok (.slice (some ⟨w.heap.size, 0, none⟩) len len) { w with heap := w.heap.push (.cells cells e) } := by
    have hlt : ¬ (16777216 < len * pi.size) := by rw [g4]; omega
    by_cases h0 : len * pi.size = 0
    · have hzz0 : zeros = #[] := by apply Array.eq_empty_of_size_eq_zero; rw [hzl, ← g4]; exact h0
      have hfill0 := hfill
      rw [hzz0] at hfill0
      simp only [Instr.buildSlice, Sem.run_bind, run_ul hu, Result.andThen_ok, run_so g1, h0]
      simp [g4, show Array.range 0 = (#[] : Array Nat) from rfl, hfill0, newRow]
    · simp only [Instr.buildSlice, Sem.run_bind, run_ul hu, Result.andThen_ok, run_so g1]
      simp only [gt_iff_lt, show (2 : Nat) ^ 24 = 16777216 from rfl, hlt, if_false, h0, Sem.run_bind, Sem.run_pure, Result.andThen_ok, run_zv g1 g3]
      rw [hzz]
      simp [g4, hfill, newRow]
  refine upon_of_value (v := .slice (some ⟨w.heap.size, 0, none⟩) len len) (w' := { w with heap := w.heap.push (.cells cells e) }) (by simp only [execOp, ho]; simp [vs] at hrun; simp [hrun]) ?_
  rw [hdd]
  split at hK
  · have := next_slice (el := e) F (hd d hdd) hkk (by omega) hrel hone hK hf hn
    rw [hlen] at this
    exact this
  · exact next_row (el := e) F (hd d hdd) (Nat.le_refl _) hrel hK hf hn

theorem replicate_cells {cs : List AV} {zs : Array Value} (hr : Rels M ρ cs zs) (k : Nat) (hk : zs.size = k) (h1 : 1 ≤ k) : ∀ n, Rels M ρ (List.replicate n cs).flatten (madeCells zs (n * k))
  | 0 => by simpa [madeCells, show Array.range 0 = (#[] : Array Nat) from rfl] using Rels.nil
  | n + 1 => by
    have ih := replicate_cells hr k hk h1 n
    have hl := hr.1
    have hlen : ∀ n, (List.replicate n cs).flatten.length = n * k := fun n => by
      rw [List.length_flatten]; simp; rw [← hk, hl]
    refine ⟨by rw [hlen, size_madeCells], fun j hj => ?_⟩
    rw [hlen] at hj
    have hm : (madeCells zs ((n + 1) * k)).getD j Go.undef = zs.getD (j % k) Go.undef := by
      have : j % k < zs.size := by rw [hk]; exact Nat.mod_lt _ h1
      simp [madeCells, Array.getD_eq_getD_getElem?, hj, hk, this, Array.getElem!_eq_getD, default]
      rw [Array.getElem?_eq_getElem this]
      rfl
    have hc : ∀ n j, j < n * k → (List.replicate n cs).flatten.getD j .undef = cs.getD (j % k) .undef := by
      intro n
      induction n with
      | zero => intro j hj; omega
      | succ n ihn =>
        intro j hj
        simp only [List.replicate_succ, List.flatten_cons, List.getD_eq_getElem?_getD] at ihn ⊢
        by_cases hjk : j < k
        · rw [List.getElem?_append_left (by omega), Nat.mod_eq_of_lt hjk]
        · rw [List.getElem?_append_right (by omega), hl, hk, ihn (j - k) (by rw [Nat.add_mul] at hj; omega)]
          rw [Nat.mod_eq_sub_mod (a := j) (by omega)]
    rw [hm, hc _ _ hj]
    exact hr.2 _ (by rw [hl, hk]; exact Nat.mod_lt _ h1)

theorem zerosA_eq (zs : List AV) (k n : Nat) : zerosA k zs n = (List.replicate n zs).flatten := by
  unfold zerosA
  split
  · rename_i z
    induction n with
    | zero => rfl
    | succ n ih => rw [List.replicate_succ, List.replicate_succ, List.flatten_cons, ← ih]; rfl
  · rfl

theorem evMakeSlice_sound (hT : TyOK P ty) (F : Fr N E M ρ l env loc h a w) {o : Oper} {t e : TypeId} {lv cv : Operand} {i : TInfo} (ho : o.op = .makeSlice t lv cv) {bt : TInfo} (htt : ty t = some bt) (hbt : bt.desc = .slice e) (hi : ty e = some i)
    (hd : ∀ t, o.dst = some t → t < N) {K : Kt} (hK : evMakeSlice esc fr o.dst i (evO env lv) (evO env cv) env loc h K) {next : Act → World → Prop} (hf : FrOK fr ρ h) (hn : Goes N E M ρ h w st fr K next) (Q : Exit → Act → World → Prop) : o.wp P a w next Q := by
  obtain ⟨pi, ds, g1, g2, g3, g4, g5, g6⟩ := gather_info (hT e i hi)
  obtain ⟨_, d1, _, f2, _, _, _, f6⟩ := gather_info (hT t bt htt)
  have hu : P.underlying t = some (.slice e) := by rw [f2, ul_slice (f6.symm.trans hbt)]
  unfold evMakeSlice at hK
  split at hK
  · exact hK.elim
  rename_i d hdd
  split at hK
  · exact hK.elim
  rename_i c1
  obtain ⟨z1, z2, z3, z4, z5, z6⟩ := zOK_to c1
  split at hK
  · rename_i k1 n k2 c hl hc
    obtain ⟨⟨b0, b1, b2⟩, hK⟩ := hK
    have hvl := F.f.ev lv
    have hvc := F.f.ev cv
    rw [hl] at hvl
    rw [hc] at hvc
    have hvl : Rel M ρ (.int k1 n) (a.eval lv) := hvl
    have hvc : Rel M ρ (.int k2 c) (a.eval cv) := hvc
    generalize hql : a.eval lv = ql at hvl
    generalize hqc : a.eval cv = qc at hvc
    cases hvl
    cases hvc
    have hzr := ofVal_cells (M := M) (ρ := ρ) z1
    have hzs : i.zero.cells.size = i.size := by have := hzr.1; omega
    have hcb : c ≤ 281474976710656 := by
      have h1 : (1 : Int) ≤ (i.bytes : Int) := by omega
      have : 1 * c ≤ (i.bytes : Int) * c := Int.mul_le_mul_of_nonneg_right h1 (by omega)
      omega
    have hrun := run_make (P := P) w t e pi i.zero hu g1 g3 k1 k2 n c b0 b1 (by rw [g5]; exact b2) (by omega)
    have hmade := replicate_cells hzr i.size hzs z5 c.toNat
    rw [g4] at hrun
    have hone : ∀ v ∈ (madeCells i.zero.cells (c.toNat * i.size)).toList, v.oneCell' = true := one_all hmade (by
      rw [List.all_eq_true]
      intro x hx
      obtain ⟨y, hy, hx⟩ := List.mem_flatten.1 hx
      rw [List.eq_of_mem_replicate hy] at hx
      exact List.all_eq_true.1 z4 x hx)
    refine upon_of_value (v := .slice (some ⟨w.heap.size, 0, none⟩) n.toNat c.toNat) (w' := { w with heap := w.heap.push (.cells (madeCells i.zero.cells (c.toNat * i.size)) e) }) (by simp only [execOp, ho, hql, hqc, Sem.run_bind, hrun, Result.andThen_ok, Sem.run_pure]; rfl) ?_
    rw [hdd]
    split at hK
    · have := next_own (el := e) (k := i.size) (g := i.desc.agg) (els := List.replicate n.toNat (ofVal i.zero)) (c := c.toNat) F (hd d hdd) (fun x hx => by
        rw [List.eq_of_mem_replicate hx]; exact ⟨z2, z1, z3⟩) (by simp; omega) (by simp; omega) (size_madeCells _ _) (by
        have hm2 := replicate_cells hzr i.size hzs z5 n.toNat
        have e1 : flat (List.replicate n.toNat (ofVal i.zero)) = (List.replicate n.toNat (ofVal i.zero).cells).flatten := by simp [flat, List.flatMap]
        rw [e1]
        have e2 : ((madeCells i.zero.cells (c.toNat * i.size)).toList.take ((List.replicate n.toNat (ofVal i.zero)).length * i.size)).toArray = madeCells i.zero.cells (n.toNat * i.size) := by
          have hle : n.toNat * i.size ≤ c.toNat * i.size := Nat.mul_le_mul_right _ (by omega)
          apply Array.ext
          · simp only [List.size_toArray, List.length_take, Array.length_toList, size_madeCells, List.length_replicate]; exact Nat.min_eq_left hle
          · intro j h1 h2
            simp [madeCells]
        rw [e2]
        exact hm2) hone hK hf hn
      simpa using this
    · refine next_row (el := e) F (hd d hdd) (by omega) ?_ hK hf hn
      rw [zerosA_eq]; exact hmade
  · exact hK.elim

end
end Go.Lift
