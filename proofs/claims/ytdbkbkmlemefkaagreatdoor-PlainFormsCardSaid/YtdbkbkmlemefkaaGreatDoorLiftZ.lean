/- A part of the proof (own lemmas, no condition beyond those that each theorem states): the layer over the model that all of the proofs of this seat stand on. -/
import Derived.Test.YtdbkbkmlemefkaaGreatDoorLiftR
import Derived.MapKept
/- Maps: what the layer reckons of them is what the model's run gives. -/
set_option linter.unusedVariables false
set_option linter.unusedSectionVars false
set_option linter.unusedSimpArgs false
namespace Go.Lift
open Go Go.RowKit
variable [G : Glob]

section
variable {P : Program} {ty : Tys} {N : Nat} {E : Ent} {M : Mem} {ρ : Rho} {l : Lam} {env : Env} {loc : Loc} {h : Heap} {a : Act} {w : World} {esc : Nat → Bool} {fr : Option Nat} {st : Bool}

theorem bytes_eq (a b : List UInt8) : ((⟨a.toArray⟩ : ByteArray) == ⟨b.toArray⟩) = (a == b) := by
  have : ((⟨a.toArray⟩ : ByteArray) == ⟨b.toArray⟩) = (a.toArray == b.toArray) := rfl
  rw [this]; simp

/-- Two keys of a plain kind, held against the model. -/
theorem keyEq_to (hT : TyOK P ty) {t : TypeId} {x y : AV} {v u : Value} {b : Bool} (hk : keyEq ty t x y = some b) (hv : Rel M ρ x v) (hu : Rel M ρ y u) :
    ∃ d, P.underlying t = some d ∧ MapKept.IsKey d v ∧ Instr.sameNow d v u = some b ∧ (b = true → u = v) ∧ Instr.sameBits 10000 v v = true := by
  unfold keyEq at hk
  split at hk
  · rename_i b1 b2 b3 hi
    obtain ⟨pi, dd, h1, h2, h3, h4, h5, h6⟩ := gather_info (hT t _ hi)
    obtain rfl := ul_bool h6.symm
    split at hk
    · cases hv; cases hu
      have hk := Option.some.inj hk
      refine ⟨_, h2, trivial, by rw [← hk]; rfl, fun e => ?_, by simp [Instr.sameBits]⟩
      rw [e] at hk
      rw [eq_of_beq hk]
    · cases hk
  · rename_i k b1 b2 b3 hi
    obtain ⟨pi, dd, h1, h2, h3, h4, h5, h6⟩ := gather_info (hT t _ hi)
    obtain rfl := ul_int h6.symm
    split at hk
    · split at hk
      · rename_i hkk
        simp only [Bool.and_eq_true, decide_eq_true_eq] at hkk
        obtain ⟨rfl, rfl⟩ := hkk
        cases hv; cases hu
        have hk := Option.some.inj hk
        refine ⟨_, h2, rfl, by rw [← hk]; simp [Instr.sameNow], fun e => ?_, by simp [Instr.sameBits]⟩
        rw [e] at hk
        rw [eq_of_beq hk]
      · cases hk
    · cases hk
  · rename_i b1 b2 b3 hi
    obtain ⟨pi, dd, h1, h2, h3, h4, h5, h6⟩ := gather_info (hT t _ hi)
    obtain rfl := ul_str h6.symm
    split at hk
    · cases hv; cases hu
      have hk := Option.some.inj hk
      refine ⟨_, h2, trivial, by rw [← hk]; simp only [Instr.sameNow, bytes_eq], fun e => ?_, by simp [Instr.sameBits, bytes_eq]⟩
      rw [e] at hk
      rw [eq_of_beq hk]
    · cases hk
  · cases hk

theorem findA_to (hT : TyOK P ty) {t : TypeId} {key : AV} {kv : Value} {d : TypeDesc} (hkey : Rel M ρ key kv) (hd : P.underlying t = some d) :
    ∀ (es : List (AV × AV)) (el : List MapEntry) (i : Nat) (r : Option (Nat × AV)), es.length = el.length → (∀ j (h : j < el.length), Rel M ρ ((es.getD j (.undef, .undef)).1) el[j].key ∧ Rel M ρ ((es.getD j (.undef, .undef)).2) el[j].val) →
      findA (keyEq ty t) key es i = some r →
      (r = none ∧ Instr.findNow d kv el i = some none) ∨ ∃ j x e, r = some (i + j, x) ∧ el[j]? = some e ∧ es[j]? = some (((es.getD j (.undef, .undef)).1), x) ∧ Rel M ρ x e.val ∧ e.key = kv ∧ Instr.findNow d kv el i = some (some (i + j, e.val))
  | [], [], i, r, _, _, hf => by
    simp [findA] at hf
    exact .inl ⟨hf.symm, rfl⟩
  | [], _ :: _, _, _, hl, _, _ => by simp at hl
  | _ :: _, [], _, _, hl, _, _ => by simp at hl
  | (k, x) :: es, e :: el, i, r, hl, hr, hf => by
    have h0 := hr 0 (by simp)
    simp only [List.getD_eq_getElem?_getD, List.getElem?_cons_zero, Option.getD_some, List.getElem_cons_zero] at h0
    unfold findA at hf
    split at hf
    · rename_i hq
      cases hf
      obtain ⟨d', g1, g2, g3, g4, g5⟩ := keyEq_to hT hq hkey h0.1
      rw [hd] at g1; cases g1
      exact .inr ⟨0, x, e, rfl, rfl, by simp, h0.2, g4 rfl, by simp [Instr.findNow, g3]⟩
    · rename_i hq
      obtain ⟨d', g1, g2, g3, g4, g5⟩ := keyEq_to hT hq hkey h0.1
      rw [hd] at g1; cases g1
      rcases findA_to hT hkey hd es el (i + 1) r (by simpa using hl) (fun j hj => by
        have := hr (j + 1) (by simp; omega)
        simpa using this) hf with ⟨q1, q2⟩ | ⟨j, y, e', q1, q2, q3, q4, q5, q6⟩
      · exact .inl ⟨q1, by simp [Instr.findNow, g3, q2]⟩
      · refine .inr ⟨j + 1, y, e', by rw [q1]; congr 2; omega, by simpa using q2, by simpa using q3, q4, q5, ?_⟩
        simp only [Instr.findNow, g3, q6]
        congr 3; omega
    · cases hf

theorem ul_map {t : TypeId} {d : TypeDesc} {k e : TypeId} (h : tyOfDesc P t d = .map k e) : d = .map k e := by
  cases d <;> simp [tyOfDesc] at h
  rw [h.1, h.2]

theorem mapOf_to (hT : TyOK P ty) {t k e : TypeId} (h : mapOf ty t = some (k, e)) : P.underlying t = some (.map k e) := by
  unfold mapOf at h
  split at h
  · rename_i k' e' b1 b2 z ht
    cases h
    obtain ⟨_, d, _, f2, _, _, _, f6⟩ := gather_info (hT t _ ht)
    rw [f2, ul_map f6.symm]
  · cases h

theorem keyOK_to (hT : TyOK P ty) {t : TypeId} {x : AV} {v : Value} (h : keyOK ty t x = true) (hv : Rel M ρ x v) : ∃ d, P.underlying t = some d ∧ MapKept.IsKey d v ∧ Instr.sameBits 10000 v v = true := by
  unfold keyOK at h
  split at h
  · rename_i b hb
    obtain ⟨d, g1, g2, _, _, g5⟩ := keyEq_to hT hb hv hv
    exact ⟨d, g1, g2, g5⟩
  · cases h

theorem keyOK_plain {t : TypeId} {x : AV} (h : keyOK ty t x = true) : x.plain = true := by
  cases x <;> first | rfl | (exfalso; revert h; unfold keyOK keyEq; cases ty t with
    | none => simp
    | some i => cases i with
      | mk d a b c => cases d <;> simp)

theorem evMakeMap_sound (F : Fr N E M ρ l env loc h a w) {o : Oper} {t : TypeId} {rs : Option Operand} (ho : o.op = .makeMap t rs) {k e : TypeId} (hu : P.underlying t = some (.map k e))
    (hd : ∀ t, o.dst = some t → t < N) {K : Kt} (hK : evMakeMap fr o.dst (rs.map (evO env)) env loc h K) {next : Act → World → Prop} (hf : FrOK fr ρ h) (hn : Goes N E M ρ h w st fr K next) (Q : Exit → Act → World → Prop) : o.wp P a w next Q := by
  unfold evMakeMap at hK
  split at hK
  · exact hK.elim
  rename_i d hdd
  have fin : (execOp a.eval o).run P w = .ok (.value (.map (some w.heap.size))) (w.alloc (.map #[] 0)) → (Fresh fr h fun id => K (updE env d (.map id)) loc (updH h id (some (.map [])))) → o.wp P a w next Q := by
    intro hrun hk
    refine upon_of_value hrun ?_
    obtain ⟨id, i1, i2, hk, hid⟩ := Fresh.pick F.f.sim hf hk
    obtain ⟨s1, s2⟩ := step_obj (o := .map []) (ob := .map #[] 0) (w' := w.alloc (.map #[] 0)) (p := ⟨w.heap.size, 0, 0⟩) F.f.sim i1 i2 rfl rfl rfl rfl rfl
      ⟨#[], 0, by show (w.heap.push (.map #[] 0))[w.heap.size]? = _; simp, rfl, fun i hi => by simp at hi⟩
    have hput := (F.step s1 s2).put (d := o.dst) hd (RelS.of (.map id ⟨w.heap.size, 0, 0⟩ (by simp [updR])))
    rw [hdd] at hput ⊢
    exact hn _ _ _ _ _ _ _ _ s1.mem (s1.stay st) (fr_upd hid (updH_same _ _ _)) hput hk
  cases hr : rs with
  | none =>
    rw [hr] at hK
    have hnew : (newObj (.map #[] 0)).run P w = .ok w.heap.size (w.alloc (.map #[] 0)) := rfl
    exact fin (by simp [execOp, ho, hr, Instr.makeMap, hnew]) hK
  | some x =>
    rw [hr] at hK
    simp only [Option.map_some] at hK
    have hv := F.f.ev x
    cases hx : evO env x <;> rw [hx] at hK hv <;> simp only at hK
    case int kk n =>
      have hv : Rel M ρ (.int kk n) (a.eval x) := hv
      generalize hq : a.eval x = q at hv
      cases hv
      have hnew : (newObj (.map #[] 0)).run P w = .ok w.heap.size (w.alloc (.map #[] 0)) := rfl
      exact fin (by simp [execOp, ho, hr, hq, Instr.makeMap, run_underlying hu, asInt, asIntOf, hnew]) hK

theorem evLookup_sound (hT : TyOK P ty) (F : Fr N E M ρ l env loc h a w) {o : Oper} {t kt et : TypeId} {x ix : Operand} {ok : Bool} {e : TInfo} (ho : o.op = .lookup t x ix ok) (hu : P.underlying t = some (.map kt et)) (he : ty et = some e)
    (hd : ∀ t, o.dst = some t → t < N) {K : Kt} (hK : evLookup ty o.dst kt e (evO env x) (evO env ix) ok env loc h K) {next : Act → World → Prop} (hf : FrOK fr ρ h) (hn : Goes N E M ρ h w st fr K next) (Q : Exit → Act → World → Prop) : o.wp P a w next Q := by
  obtain ⟨pi, ds, g1, g2, g3, g4, g5, g6⟩ := gather_info (hT et e he)
  unfold evLookup at hK
  split at hK
  · exact hK.elim
  rename_i hc
  simp only [Bool.and_eq_true] at hc
  obtain ⟨hko, hzk⟩ := hc
  have hkey := (F.f.ev ix).to (keyOK_plain hko)
  obtain ⟨dk, k1, k2, k3⟩ := keyOK_to hT hko hkey
  split at hK
  · rename_i id hx
    obtain ⟨es, r, hid, hfi, hK⟩ := hK
    have hvx := F.f.ev x
    rw [hx] at hvx
    have hvx : Rel M ρ (.map id) (a.eval x) := hvx
    generalize hq : a.eval x = q at hvx
    cases hvx with
    | map _ p hp =>
      obtain ⟨p', q1, q2, ents, clock, q3, q4, q5⟩ := F.f.sim.obj id _ hid
      rw [hp] at q1; cases q1
      have hz := run_zv (P := P) (w := w) g1 g3
      have hck := MapKept.run_checkKey (w := w) k1 k2 ents.isEmpty 9999
      have fin : ∀ {u : Value} {y : AV}, (Instr.lookup t (.map (some p.b)) (a.eval ix) ok).run P w = .ok u w → Rel M ρ y u → K (putE env o.dst y) loc h → o.wp P a w next Q := by
        intro u y hrun hr hk
        refine upon_of_value (v := u) (w' := w) (by simp [execOp, ho, hq, hrun]) ?_
        exact hn _ _ _ _ _ _ _ _ (fun _ _ h => h) (stay_same st) fr_same (F.put hd (RelS.of hr)) hk
      have two : ∀ {y : AV} {u : Value} {b : Bool}, Rel M ρ y u → Rel M ρ (.tuple [y, .bool b]) (.tuple #[u, .bool b]) := fun hy => .tuple _ _ rfl fun i hi => by
        have hi2 : i < 2 := hi
        match i, hi2 with
        | 0, _ => exact hy
        | 1, _ => exact .bool _
      rcases findA_to hT hkey k1 es ents.toList 0 r (by simpa using q4) (fun j hj => by simpa using q5 j (by simpa using hj)) hfi with ⟨rfl, hfn⟩ | ⟨j, y, e', rfl, f2, f3, f4, f5, f6⟩
      · have hfk := MapKept.run_findKey (w := w) k1 hfn
        cases ok with
        | true => exact fin (u := .tuple #[e.zero, .bool false]) (by simp [Instr.lookup, run_underlying hu, MapKept.run_getObj_map q3, hck, hfk, hz, Result.andThen]) (two (ofVal_rel M ρ e.zero)) hK
        | false => exact fin (u := e.zero) (by simp [Instr.lookup, run_underlying hu, MapKept.run_getObj_map q3, hck, hfk, hz, Result.andThen]) (ofVal_rel M ρ e.zero) hK
      · have hfk := MapKept.run_findKey (w := w) k1 f6
        cases ok with
        | true => exact fin (u := .tuple #[e'.val, .bool true]) (by simp [Instr.lookup, run_underlying hu, MapKept.run_getObj_map q3, hck, hfk, hz, Result.andThen]) (two f4) hK
        | false => exact fin (u := e'.val) (by simp [Instr.lookup, run_underlying hu, MapKept.run_getObj_map q3, hck, hfk, hz, Result.andThen]) f4 hK
  · exact hK.elim

theorem evMapUpdate_sound (hT : TyOK P ty) (F : Fr N E M ρ l env loc h a w) {o : Oper} {t kt et : TypeId} {x ix xv : Operand} (ho : o.op = .mapUpdate t x ix xv ∨ o.op = .insert t x ix xv) (hu : P.underlying t = some (.map kt et))
    (hd : ∀ t, o.dst = some t → t < N) {K : Kt} (hK : evMapUpdate ty o.dst kt (evO env x) (evO env ix) (evO env xv) env loc h K) {next : Act → World → Prop} (hf : FrOK fr ρ h) (hn : Goes N E M ρ h w st fr K next) (Q : Exit → Act → World → Prop) : o.wp P a w next Q := by
  unfold evMapUpdate at hK
  split at hK
  · exact hK.elim
  rename_i hc
  simp only [Bool.and_eq_true] at hc
  obtain ⟨hko, hvp⟩ := hc
  have hkey := (F.f.ev ix).to (keyOK_plain hko)
  have hval := (F.f.ev xv).to hvp
  obtain ⟨dk, k1, k2, k3⟩ := keyOK_to hT hko hkey
  split at hK
  · rename_i id hx
    obtain ⟨es, r, hid, hfi, hK⟩ := hK
    have hvx := F.f.ev x
    rw [hx] at hvx
    have hvx : Rel M ρ (.map id) (a.eval x) := hvx
    generalize hq : a.eval x = q at hvx
    cases hvx with
    | map _ p hp =>
      obtain ⟨p', q1, q2, ents, clock, q3, q4, q5⟩ := F.f.sim.obj id _ hid
      rw [hp] at q1; cases q1
      have hck := MapKept.run_checkKey (w := w) k1 k2 false 9999
      have fin : ∀ {ents' : Array MapEntry} {clock' : Nat} {es' : List (AV × AV)}, (Instr.mapUpdate t (.map (some p.b)) (a.eval ix) (a.eval xv)).run P w = .ok () { w with heap := w.heap.setIfInBounds p.b (.map ents' clock') } → EntsOK M ρ es' ents' → K (putE env o.dst .undef) loc (updH h id (some (.map es'))) → o.wp P a w next Q := by
        intro ents' clock' es' hrun hr hk
        have hset := MapKept.heap_set (o' := .map ents' clock') q3
        obtain ⟨s1, s2⟩ := step_set (w' := { w with heap := w.heap.setIfInBounds p.b (.map ents' clock') }) (o' := .map es') F.f.sim hid hp (by simp) (fun b hb => hset.2 b hb) rfl rfl rfl (by simp) ⟨ents', clock', hset.1, hr⟩
        have hu := hn _ _ _ _ _ _ _ _ s1.mem (s1.stay st) fr_same ((F.step s1 s2).put (d := o.dst) (x := .undef) (v := Go.undef) hd (RelS.of (.undef _))) hk
        unfold Oper.wp
        have : (execOp a.eval o).run P w = .ok .skip { w with heap := w.heap.setIfInBounds p.b (.map ents' clock') } := by
          rcases ho with ho | ho <;> simp only [execOp, ho, hq, Sem.run_bind, hrun, Result.andThen_ok, Sem.run_pure]
        rw [this]
        exact hu
      rcases findA_to hT hkey k1 es ents.toList 0 r (by simpa using q4) (fun j hj => by simpa using q5 j (by simpa using hj)) hfi with ⟨rfl, hfn⟩ | ⟨j, y, e', rfl, f2, f3, f4, f5, f6⟩
      · have hfk := MapKept.run_findKey (w := w) k1 hfn
        refine fin (ents' := ents.push { key := a.eval ix, val := a.eval xv, born := clock }) (clock' := clock + 1) (by simp [Instr.mapUpdate, run_underlying hu, MapKept.run_getObj_map q3, hck, hfk, MapKept.run_setObj_map _ q3, Result.andThen]) ?_ hK
        have hset : setA es (evO env ix) (evO env xv) none = es ++ [(evO env ix, evO env xv)] := rfl
        rw [hset]
        refine ⟨by simp [q4], fun i hi => ?_⟩
        simp only [Array.size_push] at hi
        by_cases hie : i < ents.size
        · have := q5 i hie
          simp only [List.getD_eq_getElem?_getD] at this ⊢
          rw [List.getElem?_append_left (by omega), Array.getElem_push_lt hie]
          exact this
        · have hie2 : i = ents.size := by omega
          have e1 : (ents.push { key := a.eval ix, val := a.eval xv, born := clock })[i]'(by simpa using hi) = { key := a.eval ix, val := a.eval xv, born := clock } := by
            subst hie2; simp
          rw [e1]
          have e2 : (es ++ [(evO env ix, evO env xv)]).getD i (.undef, .undef) = (evO env ix, evO env xv) := by
            rw [hie2, ← q4]; simp
          rw [e2]
          exact ⟨hkey, hval⟩
      · have hfk := MapKept.run_findKey (w := w) k1 f6
        simp only [Nat.zero_add] at hfk hK
        have hje : ents[j]? = some e' := by simpa using f2
        have hk2 : e'.key = a.eval ix := f5
        have hke : (Instr.keyThatStays (((ents[j]?).map (·.key)).getD (a.eval ix)) (a.eval ix)).run P w = .ok (a.eval ix) w := by
          rw [hje]
          simp only [Option.map_some, Option.getD_some, hk2, Instr.keyThatStays, k3, if_true, Sem.run_pure]
        refine fin (ents' := ents.modify j fun e => { e with key := a.eval ix, val := a.eval xv }) (clock' := clock) (by
          simp only [hje, Option.map_some, Option.getD_some] at hke
          simp [Instr.mapUpdate, run_underlying hu, MapKept.run_getObj_map q3, hck, hfk, hje, hke, MapKept.run_setObj_map _ q3, Result.andThen]) ?_ hK
        refine ⟨by simp [setA, q4], fun i hi => ?_⟩
        simp only [Array.size_modify] at hi
        have := q5 i hi
        rw [Array.getElem_modify]
        simp only [setA, List.getD_eq_getElem?_getD, List.getElem?_set] at this ⊢
        by_cases hij : j = i
        · subst hij
          simp only [if_true]
          rw [if_pos (by omega)]
          exact ⟨hkey, hval⟩
        · simp only [hij, if_false]
          exact this
  · exact hK.elim

theorem evMapLen_sound (F : Fr N E M ρ l env loc h a w) {o : Oper} {c : Call} {t k e : TypeId} {x : Operand} (ho : o.op = .call c) (hc : c.callee = .builtin .len) (hts : c.argTypes.toList = [t]) (has : c.args.toList = [x]) (hu : P.underlying t = some (.map k e))
    (hd : ∀ t, o.dst = some t → t < N) {K : Kt} (hK : evMapLen o.dst (evO env x) env loc h K) {next : Act → World → Prop} (hf : FrOK fr ρ h) (hn : Goes N E M ρ h w st fr K next) (Q : Exit → Act → World → Prop) : o.wp P a w next Q := by
  have e1 : c.argTypes = #[t] := by apply Array.ext'; exact hts
  have e2 : c.args = #[x] := by apply Array.ext'; exact has
  unfold evMapLen at hK
  split at hK
  · rename_i id hx
    obtain ⟨es, hid, hK⟩ := hK
    have hvx := F.f.ev x
    rw [hx] at hvx
    have hvx : Rel M ρ (.map id) (a.eval x) := hvx
    generalize hq : a.eval x = q at hvx
    cases hvx with
    | map _ p hp =>
      obtain ⟨p', q1, q2, ents, clock, q3, q4, q5⟩ := F.f.sim.obj id _ hid
      rw [hp] at q1; cases q1
      refine upon_of_value (v := .int .i64 es.length) (w' := w) ?_ (hn _ _ _ _ _ _ _ _ (fun _ _ h => h) (stay_same st) fr_same (F.put hd (RelS.of (.int _ _))) hK)
      simp [execOp, ho, resolve, hc, e1, e2, invoke, builtin, hq, Builtin.len_, run_underlying hu, MapKept.run_getObj_map q3, goInt, Result.andThen, q4]
  · exact hK.elim

end
end Go.Lift
