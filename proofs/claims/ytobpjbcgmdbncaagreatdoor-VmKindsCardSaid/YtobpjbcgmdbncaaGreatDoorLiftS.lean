/- A part of the proof (own lemmas, no condition beyond those that each theorem states): the layer over the model that all of the proofs of this seat stand on. -/
import Derived.Test.YtobpjbcgmdbncaaGreatDoorLiftZ
set_option linter.unusedVariables false
set_option linter.unusedSectionVars false
set_option linter.unusedSimpArgs false
namespace Go.Lift
open Go Go.RowKit
variable [G : Glob]

section
variable {P : Program} {ty : Tys} {N : Nat} {E : Ent} {M : Mem} {ρ : Rho} {l : Lam} {env : Env} {loc : Loc} {h : Heap} {a : Act} {w : World} {esc : Nat → Bool} {fr : Option Nat} {st : Bool}

theorem isBytes_to (hT : TyOK P ty) {t : TypeId} (h : isBytes ty t = true) : ∃ e, P.underlying t = some (.slice e) ∧ P.underlying e = some (.int .u8) := by
  unfold isBytes at h
  split at h
  · rename_i e b1 b2 z ht
    split at h
    · rename_i c1 c2 z2 he
      obtain ⟨_, d, _, f2, _, _, _, f6⟩ := gather_info (hT t _ ht)
      obtain ⟨_, d', _, f2', _, _, _, f6'⟩ := gather_info (hT e _ he)
      refine ⟨e, by rw [f2, ul_slice f6.symm], by rw [f2', ul_int f6'.symm]⟩
    · cases h
  · cases h
theorem isStr_to (hT : TyOK P ty) {t : TypeId} (h : isStr ty t = true) : P.underlying t = some .string := by
  unfold isStr at h
  split at h
  · rename_i b1 b2 z ht
    obtain ⟨_, d, _, f2, _, _, _, f6⟩ := gather_info (hT t _ ht)
    rw [f2, ul_str f6.symm]
  · cases h

theorem run_bytes_none {src dst e : TypeId} (c : Nat) (hs : P.underlying src = some (.slice e)) (he : P.underlying e = some (.int .u8)) (hd : P.underlying dst = some .string) :
    (convert src dst (.slice none 0 c)).run P w = .ok (.string ⟨#[]⟩) w := by
  rw [run_convert_bytes_string w src dst e none 0 c hs he hd]
  simp [Conv.bytesToString]
  rfl

theorem evBytes_sound (hT : TyOK P ty) (F : Fr N E M ρ l env loc h a w) {o : Oper} {s d : TypeId} {x : Operand} (ho : o.op = .convert s d x) (ht : (isStr ty s = true ∧ isBytes ty d = true ∧ ∃ b, evO env x = .str b) ∨ (isBytes ty s = true ∧ isStr ty d = true ∧ ∀ b, evO env x ≠ .str b))
    (hd : ∀ t, o.dst = some t → t < N) {K : Kt} (hK : evBytes o.dst (evO env x) env loc h K) {next : Act → World → Prop} (hf : FrOK fr ρ h) (hn : Goes N E M ρ h w st fr K next) (Q : Exit → Act → World → Prop) : o.wp P a w next Q := by
  have hv := F.f.ev x
  have fin : ∀ {r : List UInt8}, (convert s d (a.eval x)).run P w = .ok (.string ⟨r.toArray⟩) w → K (putE env o.dst (.str r)) loc h → o.wp P a w next Q := by
    intro r hr hk
    refine upon_of_value (v := .string ⟨r.toArray⟩) (w' := w) (by simp [execOp, ho, hr]) ?_
    exact hn _ _ _ _ _ _ _ _ (fun _ _ h => h) (stay_same st) fr_same (F.put hd (RelS.of (.str r))) hk
  rcases ht with ⟨h1, h2, b, hb⟩ | ⟨h1, h2, hne⟩
  · have hu := isStr_to hT h1
    obtain ⟨e, he1, he2⟩ := isBytes_to hT h2
    rw [hb] at hK hv
    have hv : Rel M ρ (.str b) (a.eval x) := hv
    generalize hq : a.eval x = q at hv
    cases hv
    have hrun := run_bytes_of_string (P := P) w s d e ⟨b.toArray⟩ hu he1 he2
    have hsz := str_size b
    have hge := grownCap_ge w b.length 0 e
    rw [hsz] at hrun
    generalize grownCap w b.length 0 e = gc at hge hrun
    generalize hrow : bytesRow ⟨b.toArray⟩ gc = arr at hrun
    have hn' : b.length ≤ arr.size := by rw [← hrow]; simp [bytesRow]
    have hget : ∀ j, j < b.length → arr.getD j Go.undef = (byteCells ⟨b.toArray⟩).toArray.getD j Go.undef := fun j hj => by
      rw [← hrow]
      simp [bytesRow, byteCells, Array.getD_eq_getD_getElem?, Array.getElem?_append, hj]
    obtain ⟨s1, s2, s3⟩ := step_row (el := e) (fz := (arr.size, arr.size + 1)) (w' := w.drew.alloc (.cells arr e (arr.size, arr.size + 1))) F.f.sim b.length hn' rfl rfl rfl rfl
    obtain ⟨hbl, hK⟩ := hK
    have hrel : Rel (memRow M w.heap.size b.length arr) ρ (.sl 1 false (b.map byteA) .no) (.slice (some ⟨w.heap.size, 0, none⟩) b.length gc) := by
      have := rel_sl (M := memRow M w.heap.size b.length arr) (ρ := ρ) (k := 1) (g := false) (els := b.map byteA) (cap := .no) (c := gc) (ad := ⟨w.heap.size, 0, none⟩) (vs := (byteCells ⟨b.toArray⟩).toArray) (fun x hx => by
        obtain ⟨y, _, rfl⟩ := List.mem_map.1 hx; exact ⟨rfl, rfl, rfl⟩) (by simpa using hbl) (by rw [map_byteA_flat]; exact rels_bytes b) (fun v hv => by
        simp [byteCells] at hv
        obtain ⟨y, _, rfl⟩ := hv
        rfl) (fun j hj => by
        have hj : j < b.length := by simpa [byteCells] using hj
        rw [Addr.add_plain, Nat.zero_add, s3 j hj, hget j hj]) (by simpa [CapOK] using hge)
      simpa using this
    refine upon_of_value (v := .slice (some ⟨w.heap.size, 0, none⟩) b.length gc) (w' := w.drew.alloc (.cells arr e (arr.size, arr.size + 1))) (by simp only [execOp, ho, hq, Sem.run_bind, hrun, Result.andThen_ok, Sem.run_pure]) ?_
    exact hn _ _ _ _ _ _ _ _ s1.mem (s1.stay st) fr_same ((F.step s1 s2).put hd (RelS.of hrel)) hK
  · obtain ⟨e, he1, he2⟩ := isBytes_to hT h1
    have hu := isStr_to hT h2
    unfold evBytes at hK
    split at hK
    · rename_i b hb; exact absurd hb (hne b)
    · rename_i k g els cap hx
      split at hK
      · exact hK.elim
      rename_i hk
      have hk := Nat.eq_of_beq_eq_true hk
      subst hk
      obtain ⟨r, hr, hK⟩ := hK
      rw [hx] at hv
      obtain ⟨ao, n, c, vs, hve, hn', hm', hcap, hkk, hl, hrr, h1, hmem⟩ := sl_flat (M := M) (ρ := ρ) hv
      subst hr
      rw [map_byteA_flat] at hrr
      have hvs : ∀ j (hj : j < r.length), vs[j]? = some (.int .u8 (r[j].toNat : Int)) := fun j hj => by
        have := hrr.2 j (by simpa using hj)
        have e1 : (r.map byteA).getD j .undef = byteA r[j] := by simp [List.getD_eq_getElem?_getD, hj]
        have hjv : j < vs.length := by rw [hl, hn']; simpa using hj
        have e2 : vs.toArray.getD j Go.undef = vs[j] := by simp [Array.getD_eq_getD_getElem?, hjv]
        rw [e1, e2] at this
        have e3 : vs[j]? = some vs[j] := by simp [hjv]
        rw [e3]
        generalize vs[j] = q at this
        cases this
        rfl
      refine fin (r := r) ?_ hK
      rw [hve]
      cases ao with
      | none =>
        have : r = [] := by
          cases r with
          | nil => rfl
          | cons b r =>
            obtain ⟨ad, e, _⟩ := hmem 0 _ (hvs 0 (by simp))
            cases e
        subst this
        have hn0 : n = 0 := by simpa using hn'
        subst hn0
        exact run_bytes_none c he1 he2 hu
      | some ad =>
        have hnl : n = r.length := by simpa using hn'
        subst hnl
        refine run_convert_bytes_back w s d e ad c r he1 he2 hu fun j hj => ?_
        obtain ⟨ad', e, hmm⟩ := hmem j _ (hvs j hj)
        cases e
        exact F.f.sim.mem _ _ hmm
    · rename_i id off len cap hx
      obtain ⟨cs, r, hid, hle, hr, hK⟩ := hK
      rw [hx] at hv
      have hv : Rel M ρ (.row id off len cap) (a.eval x) := hv
      generalize hq : a.eval x = q at hv
      cases hv with
      | row _ _ _ cap _ p hp hcp =>
        obtain ⟨p', q1, q2, arr, el, q3, q4⟩ := F.f.sim.obj id _ hid
        rw [hp] at q1; cases q1
        have hlen : len = r.length := by
          have := congrArg List.length hr
          simp at this
          omega
        subst hlen
        refine fin (r := r) ?_ hK
        rw [hq]
        refine run_convert_bytes_back w s d e _ cap r he1 he2 hu fun j hj => ?_
        have hsz := q4.1
        have h2 := q4.2 (off + j) (by omega)
        have e1 : cs.getD (off + j) .undef = byteA r[j] := by
          have := congrArg (fun l => l.getD j .undef) hr
          simp only [List.getD_eq_getElem?_getD, List.getElem?_take, hj, if_true, List.getElem?_drop, List.getElem?_map] at this ⊢
          rw [this]
          simp [hj]
        rw [e1] at h2
        have hlt : off + j < arr.size := by omega
        have e2 : arr.getD (off + j) Go.undef = arr[off + j] := by simp [Array.getD_eq_getD_getElem?, hlt]
        rw [e2] at h2
        rw [Addr.add_plain]
        simp only [World.cell?, q3]
        simp only [Option.isSome_none, Bool.false_eq_true, if_false]
        rw [Array.getElem?_eq_getElem hlt]
        generalize arr[off + j] = q at h2
        cases h2
        rfl
    · exact hK.elim

theorem nilQ_to {y : Operand} (h : nilQ y = true) : y = .const (.slice none 0 0) := by
  unfold nilQ at h
  split at h
  · rfl
  · cases h

theorem evNilS_sound (hT : TyOK P ty) (F : Fr N E M ρ l env loc h a w) {o : Oper} {op : BinOp} {t yt : TypeId} {x y : Operand} (ho : o.op = .binOp op t x y yt) (hy : nilQ y = true) (ht : isSl ty t = true)
    (hd : ∀ t, o.dst = some t → t < N) {K : Kt} (hK : evNilS o.dst op (evO env x) env loc h K) {next : Act → World → Prop} (hf : FrOK fr ρ h) (hn : Goes N E M ρ h w st fr K next) (Q : Exit → Act → World → Prop) : o.wp P a w next Q := by
  obtain rfl := nilQ_to hy
  have hsl : ∃ e, P.underlying t = some (.slice e) := by
    unfold isSl at ht
    split at ht
    · rename_i e b1 b2 z htt
      obtain ⟨_, d, _, f2, _, _, _, f6⟩ := gather_info (hT t _ htt)
      exact ⟨e, by rw [f2, ul_slice f6.symm]⟩
    · cases ht
  obtain ⟨e, hu⟩ := hsl
  have fin : ∀ {b : Bool}, (∀ w : World, (execOp a.eval o).run P w = .ok (.value (.bool b)) w) → K (putE env o.dst (.bool b)) loc h → o.wp P a w next Q := by
    intro b hr hk
    refine upon_of_value (v := .bool b) (w' := w) (hr w) ?_
    exact hn _ _ _ _ _ _ _ _ (fun _ _ h => h) (stay_same st) fr_same (F.put hd (RelS.of (.bool b))) hk
  have run : ∀ (ao : Option Addr) (n c : Nat), a.eval x = .slice ao n c → (op = .eql → ∀ w : World, (execOp a.eval o).run P w = .ok (.value (.bool ao.isNone)) w) ∧ (op = .neq → ∀ w : World, (execOp a.eval o).run P w = .ok (.value (.bool !ao.isNone)) w) := by
    intro ao n c hx
    have hev : a.eval (.const (.slice none 0 0)) = .slice none 0 0 := rfl
    constructor
    · rintro rfl w
      have h1 : (binOp .eql t (.slice ao n c) (.slice none 0 0)).run P w = .ok (.bool ao.isNone) w := by
        show ((do pure (Value.bool (← Op.equal t (.slice ao n c) (.slice none 0 0)))) : Sem Value).run P w = _
        rw [Sem.run_bind, run_equal_slice_nil w t e ao n c hu]; rfl
      simp [execOp, ho, hx, hev, eqGuard, h1]
    · rintro rfl w
      have h1 : (binOp .neq t (.slice ao n c) (.slice none 0 0)).run P w = .ok (.bool !ao.isNone) w := by
        show ((do pure (Value.bool (!(← Op.equal t (.slice ao n c) (.slice none 0 0))))) : Sem Value).run P w = _
        rw [Sem.run_bind, run_equal_slice_nil w t e ao n c hu]; rfl
      simp [execOp, ho, hx, hev, eqGuard, h1]
  have hv := F.f.ev x
  unfold evNilS at hK
  split at hK
  · rename_i k g els cap hx
    rw [hx] at hv
    obtain ⟨ao, n, c, vs, hve, hn', hm', hcap, hkk, hl, hrr, h1, hmem⟩ := sl_flat (M := M) (ρ := ρ) hv
    have hnil : ao.isNone = true → els = [] ∨ k = 0 := by
      intro hh
      cases ao with
      | some a => cases hh
      | none =>
        have : vs = [] := by
          cases vs with
          | nil => rfl
          | cons v r => obtain ⟨ad, e, _⟩ := hmem 0 v rfl; cases e
        rw [this] at hl
        have hz : n * k = 0 := hl.symm
        rcases Nat.mul_eq_zero.1 hz with h | h
        · left; apply List.eq_nil_of_length_eq_zero; omega
        · exact .inr h
    obtain ⟨r1, r2⟩ := run ao n c hve
    split at hK
    · have hao : ao.isNone = true := by
        obtain ⟨_, _, e⟩ := hcap
        rw [e]; rfl
      rw [hao] at r1 r2
      split at hK
      · exact fin (r1 rfl) hK
      · exact fin (r2 rfl) hK
      · exact hK.elim
    · split at hK
      · exact fin (r1 rfl) (hK _ hnil)
      · exact fin (r2 rfl) (hK _ hnil)
      · exact hK.elim
  · rename_i id off len cap hx
    rw [hx] at hv
    have hv : Rel M ρ (.row id off len cap) (a.eval x) := hv
    generalize hq : a.eval x = q at hv
    cases hv with
    | row _ _ _ _ p hp =>
      obtain ⟨r1, r2⟩ := run _ _ _ hq
      split at hK
      · exact fin (r1 rfl) hK
      · exact fin (r2 rfl) hK
      · exact hK.elim
  · exact hK.elim

theorem evOp_sound (hT : TyOK P ty) (F : Fr N E M ρ l env loc h a w) (o : Oper) (hst : isStore o.op = true → st = true) {K : Kt} (hK : evOp P ty N esc fr o env loc h K) {next : Act → World → Prop} (hf : FrOK fr ρ h) (hn : Goes N E M ρ h w st fr K next) (Q : Exit → Act → World → Prop) : o.wp P a w next Q := by
  unfold evOp at hK
  split at hK
  · rename_i t len ps ho
    split at hK
    · exact hK.elim
    rename_i hd
    have hd := dstOK_to hd
    split at hK
    · rename_i e b1 b2 z htt
      split at hK
      · rename_i i hi
        exact evBuildSlice_sound hT F ho htt rfl hi hd hK hf hn Q
      · exact hK.elim
    · exact hK.elim
  · rename_i t lv cv ho
    split at hK
    · exact hK.elim
    rename_i hd
    have hd := dstOK_to hd
    split at hK
    · rename_i e b1 b2 z htt
      split at hK
      · rename_i i hi
        exact evMakeSlice_sound hT F ho htt rfl hi hd hK hf hn Q
      · exact hK.elim
    · exact hK.elim
  · rename_i s d x ho
    split at hK
    · rename_i hc
      split at hK
      · exact hK.elim
      rename_i hd
      have hd := dstOK_to hd
      have hbs : ∀ t, isStr ty t = true → isBytes ty t = true → False := fun t h1 h2 => by
        obtain ⟨e, g1, _⟩ := isBytes_to hT h2
        rw [isStr_to hT h1] at g1
        cases g1
      simp only [Bool.or_eq_true, Bool.and_eq_true] at hc
      split at hK
      · rename_i b h1 hx
        rw [← hx] at hK
        refine evBytes_sound hT F ho (.inl ⟨h1, ?_, b, hx⟩) hd hK hf hn Q
        rcases hc with hc | hc
        · exact (hbs s h1 hc.1).elim
        · exact hc.2
      · rename_i k g els c h1 hx
        rw [← hx] at hK
        refine evBytes_sound hT F ho (.inr ?_) hd hK hf hn Q
        rcases hc with hc | hc
        · exact ⟨hc.1, hc.2, fun b hb => by rw [hx] at hb; cases hb⟩
        · rw [h1] at hc; cases hc.1
      · rename_i b1 b2 b3 b4 h1 hx
        rw [← hx] at hK
        refine evBytes_sound hT F ho (.inr ?_) hd hK hf hn Q
        rcases hc with hc | hc
        · exact ⟨hc.1, hc.2, fun b hb => by rw [hx] at hb; cases hb⟩
        · rw [h1] at hc; cases hc.1
      · exact hK.elim
    · exact evOpA_sound hT F o hst hK hf hn Q
  · rename_i op t x y yt ho
    split at hK
    · rename_i hc
      simp only [Bool.and_eq_true] at hc
      split at hK
      · exact hK.elim
      rename_i hd
      have hd := dstOK_to hd
      exact evNilS_sound hT F ho hc.1 hc.2 hd hK hf hn Q
    · exact evOpA_sound hT F o hst hK hf hn Q
  · rename_i c ho
    split at hK
    · rename_i hc
      split at hK
      · exact hK.elim
      rename_i hd
      have hd := dstOK_to hd
      split at hK
      · rename_i t u x y hts has
        split at hK
        · rename_i e b1 b2 z htt
          split at hK
          · rename_i i hi
            split at hK
            · rename_i e' c1 c2 z' hut
              exact evAppend_sound hT F ho hc hts has htt rfl hi hut (.inl ⟨e', rfl⟩) hd hK hf hn Q
            · rename_i c1 c2 z' hut
              exact evAppend_sound hT F ho hc hts has htt rfl hi hut (.inr rfl) hd hK hf hn Q
            · exact hK.elim
          · exact hK.elim
        · exact hK.elim
      · exact hK.elim
    · rename_i hc
      split at hK
      · rename_i t x hts has
        split at hK
        · exact evOpA_sound hT F o hst hK hf hn Q
        · rename_i ke hm
          split at hK
          · exact hK.elim
          rename_i hd
          have hd := dstOK_to hd
          exact evMapLen_sound F ho hc hts has (mapOf_to (k := ke.1) (e := ke.2) hT hm) hd hK hf hn Q
      · exact evOpA_sound hT F o hst hK hf hn Q
    · rename_i hc
      split at hK
      · rename_i t ts x ix hts has
        split at hK
        · exact hK.elim
        · rename_i kt et hm
          split at hK
          · exact hK.elim
          rename_i hd
          have hd := dstOK_to hd
          exact evDelete_sound (t2 := t) hT F ho hc hts has (mapOf_to hT hm) hd hK hf hn Q
      · exact hK.elim
    · exact evOpA_sound hT F o hst hK hf hn Q
  · rename_i t x ix ho
    split at hK
    · exact hK.elim
    rename_i hd
    have hd := dstOK_to hd
    split at hK
    · exact hK.elim
    rename_i kt et hm
    split at hK
    · exact hK.elim
    rename_i e he
    exact evMapEntry_sound hT F ho (mapOf_to hT hm) he hd hK hf hn Q
  · rename_i t x sx xv ho
    split at hK
    · exact hK.elim
    rename_i hd
    have hd := dstOK_to hd
    exact evEntryStore_sound F ho hd hK hf hn Q
  · rename_i t rs ho
    split at hK
    · exact hK.elim
    rename_i hd
    have hd := dstOK_to hd
    split at hK
    · exact hK.elim
    rename_i ke hm
    exact evMakeMap_sound F ho (mapOf_to (k := ke.1) (e := ke.2) hT hm) hd hK hf hn Q
  · rename_i t x ix ok ho
    split at hK
    · exact hK.elim
    rename_i hd
    have hd := dstOK_to hd
    split at hK
    · exact hK.elim
    rename_i kt et hm
    split at hK
    · exact hK.elim
    rename_i e he
    exact evLookup_sound hT F ho (mapOf_to hT hm) he hd hK hf hn Q
  · rename_i t x ix xv ho
    split at hK
    · exact hK.elim
    rename_i hd
    have hd := dstOK_to hd
    split at hK
    · exact hK.elim
    rename_i kt et hm
    exact evMapUpdate_sound hT F (.inl ho) (mapOf_to hT hm) hd hK hf hn Q
  · rename_i t x ix xv ho
    split at hK
    · exact hK.elim
    rename_i hd
    have hd := dstOK_to hd
    split at hK
    · exact hK.elim
    rename_i kt et hm
    exact evMapUpdate_sound hT F (.inr ho) (mapOf_to hT hm) hd hK hf hn Q
  · exact evOpA_sound hT F o hst hK hf hn Q

end
end Go.Lift
