/- A part of the proof (own lemmas, no condition beyond those that each theorem states): the layer over the model that all of the proofs of this seat stand on. -/
import Derived.Test.YtobpjbcgmdbncaaGreatDoorLiftR
import Derived.MapKept
/- Maps: what the layer reckons of them is what the model's run gives. -/
set_option linter.unusedVariables false
set_option linter.unusedSectionVars false
set_option linter.unusedSimpArgs false
namespace Go.Lift
open Go Go.RowKit
variable [G : Glob]

section
variable {P : Program} {ty : Tys} {N : Nat} {E : Ent} {M : Mem} {ρ : Rho} {l : Lam} {env : Env} {loc : Loc} {h : Heap} {a : Act} {w : World} {esc : Nat → Bool} {fr : Option Nat} {st : Bool}

theorem bytes_eq (a b : List UInt8) : ((⟨a.toArray⟩ : ByteArray) == ⟨b.toArray⟩) = (a == b) := by
  have : ((⟨a.toArray⟩ : ByteArray) == ⟨b.toArray⟩) = (a.toArray == b.toArray) := rfl
  rw [this]; simp

/-- Two cells of a plain kind. -/
theorem eq1_val (hT : TyOK P ty) {t : TypeId} {x y : AV} {v u : Value} {b : Bool} (hk : eq1 ty t x y = some b) (hv : Rel M ρ x v) (hu : Rel M ρ y u) :
    (b = true → u = v) ∧ (∀ n, Instr.sameBits n v v = true) ∧ (∀ n e (w : World), (Instr.checkKey e (n + 1) t v).run P w = .ok () w) ∧ ∃ i, ty t = some i ∧ i.desc.agg = false := by
  unfold eq1 at hk
  split at hk
  · rename_i b1 b2 b3 hi
    obtain ⟨pi, dd, h1, h2, h3, h4, h5, h6⟩ := gather_info (hT t _ hi)
    obtain rfl := ul_bool h6.symm
    split at hk
    · cases hv; cases hu
      have hk := Option.some.inj hk
      exact ⟨fun e => by rw [e] at hk; rw [eq_of_beq hk], fun n => by simp [Instr.sameBits], fun n e w => MapKept.run_checkKey (k := .bool _) h2 trivial e n, _, hi, rfl⟩
    · cases hk
  · rename_i k b1 b2 b3 hi
    obtain ⟨pi, dd, h1, h2, h3, h4, h5, h6⟩ := gather_info (hT t _ hi)
    obtain rfl := ul_int h6.symm
    split at hk
    · cases hv; cases hu
      split at hk
      · rename_i hkk
        subst hkk
        have hk := Option.some.inj hk
        refine ⟨fun e => by rw [e] at hk; rw [eq_of_beq hk], fun n => by simp [Instr.sameBits], fun n e w => ?_, _, hi, rfl⟩
        unfold Instr.checkKey
        simp only [Sem.run_bind, run_underlying h2, Result.andThen]
        rfl
      · cases hk
    · cases hk
  · rename_i b1 b2 b3 hi
    obtain ⟨pi, dd, h1, h2, h3, h4, h5, h6⟩ := gather_info (hT t _ hi)
    obtain rfl := ul_str h6.symm
    split at hk
    · cases hv; cases hu
      have hk := Option.some.inj hk
      exact ⟨fun e => by rw [e] at hk; rw [eq_of_beq hk], fun n => by simp [Instr.sameBits, bytes_eq], fun n e w => MapKept.run_checkKey (k := .string _) h2 trivial e n, _, hi, rfl⟩
    · cases hk
  · cases hk

theorem eq1_known {t : TypeId} {x y : AV} {b : Bool} (h : eq1 ty t x y = some b) : x ≠ .undef ∧ y ≠ .undef := by
  constructor <;> rintro rfl <;> revert h <;> unfold eq1
  · cases ty t with
    | none => simp
    | some i => cases i with
      | mk d a b c => cases d <;> simp
  · cases ty t with
    | none => simp
    | some i => cases i with
      | mk d a b c => cases d <;> cases x <;> simp

theorem run_forIn {α : Type} {g : α → PUnit → Sem (ForInStep PUnit)} : ∀ (fs : List α) (w : World), (∀ f ∈ fs, ∀ w : World, (g f PUnit.unit).run P w = .ok (.yield PUnit.unit) w) → (forIn fs PUnit.unit g).run P w = .ok PUnit.unit w
  | [], w, _ => by simp
  | f :: fs, w, h => by
    rw [List.forIn_cons]
    simp only [Sem.run_bind, h f (by simp) w, Result.andThen_ok]
    exact run_forIn fs w fun f hf => h f (by simp [hf])

/-- The fields of a key, a cell each. -/
theorem keyFs_to (hT : TyOK P ty) {xs ys : List AV} {vs us : Array Value} (hv : Rels M ρ xs vs) (hu : Rels M ρ ys us) :
    ∀ (fs : List Field) (off : Nat) (b : Bool), keyFs ty xs ys (fs.map fun f => (f.offset, f.type, f.name == "_")) off = some b →
      xs.length = off + fs.length ∧ ys.length = off + fs.length ∧ eqFs ty xs ys (fs.map fun f => (f.offset, f.type, f.name == "_")) = some b ∧
      (∀ j, off ≤ j → j < xs.length → (b = true → us.getD j Go.undef = vs.getD j Go.undef) ∧ ∀ n, Instr.sameBits n (vs.getD j Go.undef) (vs.getD j Go.undef) = true) ∧
      (∀ f ∈ fs, f.name ≠ "_" ∧ ∃ v, (∀ w : World, (part f.type vs f.offset).run P w = .ok v w) ∧ ∀ n e (w : World), (Instr.checkKey e (n + 1) f.type v).run P w = .ok () w)
  | [], off, b, h => by
    simp only [List.map_nil, keyFs] at h
    split at h
    · rename_i hl
      simp only [Bool.and_eq_true] at hl
      cases h
      have e1 := Nat.eq_of_beq_eq_true hl.1
      have e2 := Nat.eq_of_beq_eq_true hl.2
      exact ⟨by simpa using e1, by simpa using e2, rfl, fun j h1 h2 => by omega, fun f hf => by cases hf⟩
    · cases h
  | f :: fs, off, b, h => by
    simp only [List.map_cons, keyFs] at h
    split at h
    · rename_i ho
      simp only [Bool.and_eq_true, Bool.not_eq_true'] at ho
      have e0 := Nat.eq_of_beq_eq_true ho.1
      split at h
      · rename_i p q h1 h2
        cases h
        obtain ⟨g1, g2, g3, g4, g5⟩ := keyFs_to hT hv hu fs (off + 1) q h2
        obtain ⟨k1, k2⟩ := eq1_known h1
        have hx : f.offset < xs.length := by rw [e0]; omega
        have hy : f.offset < ys.length := by rw [e0]; omega
        obtain ⟨v1, v2, v3, i, v4, v5⟩ := eq1_val hT h1 (hv.2 _ hx) (hu.2 _ hy)
        obtain ⟨pi, dd, t1, t2, t3, t4, t5, t6⟩ := gather_info (hT f.type _ v4)
        refine ⟨by simp; omega, by simp; omega, ?_, fun j hj1 hj2 => ?_, fun f' hf' => ?_⟩
        · simp only [List.map_cons, eqFs, ho.2, h1, g3]
        · by_cases hje : j = off
          · subst hje
            rw [e0] at v1 v2
            exact ⟨fun e => v1 (by simp at e; exact e.1), v2⟩
          · obtain ⟨q1, q2⟩ := g4 j (by omega) hj2
            exact ⟨fun e => q1 (by simp at e; exact e.2), q2⟩
        · cases hf' with
          | head =>
            have hne : f.name ≠ "_" := by simpa using ho.2
            refine ⟨hne, _, fun w => ?_, fun n e w => v3 n e w⟩
            have hlt : f.offset < vs.size := by have := hv.1; omega
            simp [part, run_ag t2, ← t6, v5, hlt, Array.getD_eq_getD_getElem?]
          | tail _ hf' => exact g5 f' hf'
      · cases h
    · cases h

/-- A key stays itself. -/
structure KeyRuns (P : Program) (t : TypeId) (v : Value) : Prop where
  check : ∀ (e : Bool) (w : World), (Instr.checkKey e 10000 t v).run P w = .ok () w
  bits : Instr.sameBits 10000 v v = true

/-- How a key is held against an entry's. -/
structure KeySame (P : Program) (t : TypeId) (d : TypeDesc) (v u : Value) (b : Bool) : Prop where
  now : (∀ fs, d ≠ .struct fs) → Instr.sameNow d v u = some b
  ask : (∃ fs, d = .struct fs) → ∀ w : World, (Op.equal t v u).run P w = .ok b w
  like : b = true → u = v

/-- Two keys, held against the model. -/
theorem keyEq_to (hT : TyOK P ty) {t : TypeId} {x y : AV} {v u : Value} {b : Bool} (hk : keyEq ty t x y = some b) (hv : Rel M ρ x v) (hu : Rel M ρ y u) :
    ∃ d, P.underlying t = some d ∧ KeyRuns P t v ∧ KeySame P t d v u b := by
  unfold keyEq at hk
  split at hk
  · rename_i b1 b2 b3 hi
    obtain ⟨pi, dd, h1, h2, h3, h4, h5, h6⟩ := gather_info (hT t _ hi)
    obtain rfl := ul_bool h6.symm
    split at hk
    · cases hv; cases hu
      have hk := Option.some.inj hk
      refine ⟨_, h2, ⟨fun e w => MapKept.run_checkKey (k := .bool _) h2 trivial e 9999, by simp [Instr.sameBits]⟩, fun _ => (by rw [← hk]; rfl), fun ⟨fs, e⟩ => (by cases e), fun e => ?_⟩
      rw [e] at hk
      rw [eq_of_beq hk]
    · cases hk
  · rename_i k b1 b2 b3 hi
    obtain ⟨pi, dd, h1, h2, h3, h4, h5, h6⟩ := gather_info (hT t _ hi)
    obtain rfl := ul_int h6.symm
    split at hk
    · split at hk
      · rename_i hkk
        simp only [Bool.and_eq_true, decide_eq_true_eq] at hkk
        obtain ⟨rfl, rfl⟩ := hkk
        cases hv; cases hu
        have hk := Option.some.inj hk
        refine ⟨_, h2, ⟨fun e w => MapKept.run_checkKey (k := .int _ _) h2 rfl e 9999, by simp [Instr.sameBits]⟩, fun _ => (by rw [← hk]; simp [Instr.sameNow]), fun ⟨fs, e⟩ => (by cases e), fun e => ?_⟩
        rw [e] at hk
        rw [eq_of_beq hk]
      · cases hk
    · cases hk
  · rename_i b1 b2 b3 hi
    obtain ⟨pi, dd, h1, h2, h3, h4, h5, h6⟩ := gather_info (hT t _ hi)
    obtain rfl := ul_str h6.symm
    split at hk
    · cases hv; cases hu
      have hk := Option.some.inj hk
      refine ⟨_, h2, ⟨fun e w => MapKept.run_checkKey (k := .string _) h2 trivial e 9999, by simp [Instr.sameBits, bytes_eq]⟩, fun _ => (by rw [← hk]; simp only [Instr.sameNow, bytes_eq]), fun ⟨fs, e⟩ => (by cases e), fun e => ?_⟩
      rw [e] at hk
      rw [eq_of_beq hk]
    · cases hk
  · rename_i fs b1 b2 b3 hi
    obtain ⟨pi, d, h1, h2, h3, h4, h5, h6⟩ := gather_info (hT t _ hi)
    obtain ⟨pf, rfl, hfs, hheld, hgrd⟩ := ul_struct h6.symm
    subst hfs
    split at hk
    · rename_i xs ys
      cases hv with
      | agg _ vs hl hr =>
        cases hu with
        | agg _ us hl' hr' =>
          have hfo : P.underlying t = some (.struct (P.fieldsOf t)) := by simp [Program.fieldsOf, h2]
          have hfe : P.fieldsOf t = pf := by simp [Program.fieldsOf, h2]
          obtain ⟨g1, g2, g3, g4, g5⟩ := keyFs_to hT (M := M) (ρ := ρ) ⟨hl, hr⟩ ⟨hl', hr'⟩ pf.toList 0 b hk
          refine ⟨_, h2, ⟨fun e w => ?_, ?_⟩, fun hn => (hn _ rfl).elim, fun _ w => ?_, fun e => ?_⟩
          · unfold Instr.checkKey
            simp only [Sem.run_bind, run_underlying h2, Result.andThen_ok]
            rw [← Array.forIn_toList]
            rw [run_forIn pf.toList w fun f hf w => ?_]
            · rfl
            obtain ⟨q1, v, q2, q3⟩ := g5 f hf
            simp only [ne_eq, q1, not_false_eq_true, if_true, Sem.run_bind, q2, Result.andThen_ok, q3 9998, Sem.run_pure]
          · simp only [Instr.sameBits, beq_self_eq_true, Bool.true_and, List.all_eq_true]
            intro p hp
            obtain ⟨i, hi1, hi2⟩ := List.mem_iff_getElem.1 hp
            simp only [List.length_zip, Array.length_toList, Nat.min_self] at hi1
            have := (g4 i (Nat.zero_le _) (by omega)).2 9999
            rw [List.getElem_zip] at hi2
            rw [← hi2]
            simpa [Array.getD_eq_getD_getElem?, hi1] using this
          · have hrun := run_eqFs (w := w) hT (M := M) (ρ := ρ) ⟨hl, hr⟩ ⟨hl', hr'⟩ 9998 pf.toList b g3
            have he1 := run_equalIn_struct (P := P) w 9999 t vs us hfo hheld.symm
            rw [hfe, hrun] at he1
            exact he1
          · have : us = vs := by
              apply Array.ext (by omega)
              intro i i1 i2
              have := (g4 i (Nat.zero_le _) (by omega)).1 e
              simpa [Array.getD_eq_getD_getElem?, i1, i2] using this
            rw [this]
    · cases hk
  · cases hk

/-- What is found among entries. -/
structure Found (P : Program) (t : TypeId) (d : TypeDesc) (kv : Value) (el : List MapEntry) (i : Nat) (r : Option (Nat × Value)) : Prop where
  now : (∀ fs, d ≠ .struct fs) → Instr.findNow d kv el i = some r
  ask : (∃ fs, d = .struct fs) → ∀ w : World, (Instr.findAsking t kv el i).run P w = .ok r w

theorem Found.run {t : TypeId} {d : TypeDesc} {kv : Value} {el : List MapEntry} {r : Option (Nat × Value)} (hd : P.underlying t = some d) (f : Found P t d kv el 0 r) (w : World) : (Instr.findKey t kv el).run P w = .ok r w := by
  by_cases hs : ∃ fs, d = .struct fs
  · have h := f.ask hs w
    obtain ⟨fs, rfl⟩ := hs
    simp only [Instr.findKey, Sem.run_bind, run_underlying hd, Result.andThen_ok]
    cases el with
    | nil =>
      simp only [Instr.findAsking, Sem.run_pure] at h
      simp only [Instr.findNow, Sem.run_pure]
      exact h
    | cons e el =>
      have e0 : Instr.findNow (.struct fs) kv (e :: el) 0 = none := by
        unfold Instr.findNow
        have : Instr.sameNow (.struct fs) kv e.key = none := by cases kv <;> rfl
        rw [this]
      rw [e0]
      exact h
  · exact MapKept.run_findKey hd (f.now fun fs e => hs ⟨fs, e⟩)

theorem findA_to (hT : TyOK P ty) {t : TypeId} {key : AV} {kv : Value} {d : TypeDesc} (hkey : Rel M ρ key kv) (hd : P.underlying t = some d) :
    ∀ (es : List (AV × AV)) (el : List MapEntry) (i : Nat) (r : Option (Nat × AV)), es.length = el.length → (∀ j (h : j < el.length), Rel M ρ ((es.getD j (.undef, .undef)).1) el[j].key ∧ Rel M ρ ((es.getD j (.undef, .undef)).2) el[j].val) →
      findA (keyEq ty t) key es i = some r →
      (r = none ∧ Found P t d kv el i none) ∨ ∃ j x e, r = some (i + j, x) ∧ el[j]? = some e ∧ es[j]? = some (((es.getD j (.undef, .undef)).1), x) ∧ Rel M ρ x e.val ∧ e.key = kv ∧ Found P t d kv el i (some (i + j, e.val))
  | [], [], i, r, _, _, hf => by
    simp [findA] at hf
    exact .inl ⟨hf.symm, fun _ => rfl, fun _ w => rfl⟩
  | [], _ :: _, _, _, hl, _, _ => by simp at hl
  | _ :: _, [], _, _, hl, _, _ => by simp at hl
  | (k, x) :: es, e :: el, i, r, hl, hr, hf => by
    have h0 := hr 0 (by simp)
    simp only [List.getD_eq_getElem?_getD, List.getElem?_cons_zero, Option.getD_some, List.getElem_cons_zero] at h0
    unfold findA at hf
    split at hf
    · rename_i hq
      cases hf
      obtain ⟨d', g1, _, g3⟩ := keyEq_to hT hq hkey h0.1
      rw [hd] at g1; cases g1
      exact .inr ⟨0, x, e, rfl, rfl, by simp, h0.2, g3.like rfl, fun hn => by simp [Instr.findNow, g3.now hn], fun hs w => by simp [Instr.findAsking, g3.ask hs w]⟩
    · rename_i hq
      obtain ⟨d', g1, _, g3⟩ := keyEq_to hT hq hkey h0.1
      rw [hd] at g1; cases g1
      rcases findA_to hT hkey hd es el (i + 1) r (by simpa using hl) (fun j hj => by
        have := hr (j + 1) (by simp; omega)
        simpa using this) hf with ⟨q1, q2⟩ | ⟨j, y, e', q1, q2, q3, q4, q5, q6⟩
      · exact .inl ⟨q1, fun hn => by simp [Instr.findNow, g3.now hn, q2.now hn], fun hs w => by simp [Instr.findAsking, g3.ask hs w, q2.ask hs w]⟩
      · have e1 : i + 1 + j = i + (j + 1) := by omega
        rw [e1] at q1 q6
        exact .inr ⟨j + 1, y, e', q1, by simpa using q2, by simpa using q3, q4, q5, fun hn => by simp [Instr.findNow, g3.now hn, q6.now hn], fun hs w => by simp [Instr.findAsking, g3.ask hs w, q6.ask hs w]⟩
    · cases hf

theorem ul_map {t : TypeId} {d : TypeDesc} {k e : TypeId} (h : tyOfDesc P t d = .map k e) : d = .map k e := by
  cases d <;> simp [tyOfDesc] at h
  rw [h.1, h.2]

theorem mapOf_to (hT : TyOK P ty) {t k e : TypeId} (h : mapOf ty t = some (k, e)) : P.underlying t = some (.map k e) := by
  unfold mapOf at h
  split at h
  · rename_i k' e' b1 b2 z ht
    cases h
    obtain ⟨_, d, _, f2, _, _, _, f6⟩ := gather_info (hT t _ ht)
    rw [f2, ul_map f6.symm]
  · cases h

theorem keyOK_to (hT : TyOK P ty) {t : TypeId} {x : AV} {v : Value} (h : keyOK ty t x = true) (hv : Rel M ρ x v) : ∃ d, P.underlying t = some d ∧ KeyRuns P t v := by
  unfold keyOK at h
  split at h
  · rename_i b hb
    obtain ⟨d, g1, g2, _⟩ := keyEq_to hT hb hv hv
    exact ⟨d, g1, g2⟩
  · cases h

theorem keyOK_plain {t : TypeId} {x : AV} (h : keyOK ty t x = true) : x.plain = true := by
  cases x <;> first | rfl | (exfalso; revert h; unfold keyOK keyEq; cases ty t with
    | none => simp
    | some i => cases i with
      | mk d a b c => cases d with
        | struct fs p q => cases p <;> cases q <;> simp
        | _ => simp)

theorem evMakeMap_sound (F : Fr N E M ρ l env loc h a w) {o : Oper} {t : TypeId} {rs : Option Operand} (ho : o.op = .makeMap t rs) {k e : TypeId} (hu : P.underlying t = some (.map k e))
    (hd : ∀ t, o.dst = some t → t < N) {K : Kt} (hK : evMakeMap fr o.dst (rs.map (evO env)) env loc h K) {next : Act → World → Prop} (hf : FrOK fr ρ h) (hn : Goes N E M ρ h w st fr K next) (Q : Exit → Act → World → Prop) : o.wp P a w next Q := by
  unfold evMakeMap at hK
  split at hK
  · exact hK.elim
  rename_i d hdd
  have fin : (execOp a.eval o).run P w = .ok (.value (.map (some w.heap.size))) (w.alloc (.map #[] 0)) → (Fresh fr h fun id => K (updE env d (.map id)) loc (updH h id (some (.map [] true)))) → o.wp P a w next Q := by
    intro hrun hk
    refine upon_of_value hrun ?_
    obtain ⟨id, i1, i2, hk, hid⟩ := Fresh.pick F.f.sim hf hk
    obtain ⟨s1, s2⟩ := step_obj (o := .map [] true) (ob := .map #[] 0) (w' := w.alloc (.map #[] 0)) (p := ⟨w.heap.size, 0, 0⟩) F.f.sim i1 i2 rfl rfl rfl rfl rfl
      ⟨#[], 0, by show (w.heap.push (.map #[] 0))[w.heap.size]? = _; simp, ⟨rfl, fun i hi => by simp at hi⟩, fun _ => ⟨rfl, fun i hi => by simp at hi⟩⟩
    have hput := (F.step s1 s2).put (d := o.dst) hd (RelS.of (.map id ⟨w.heap.size, 0, 0⟩ (by simp [updR])))
    rw [hdd] at hput ⊢
    exact hn _ _ _ _ _ _ _ _ s1.mem (s1.stay st) (fr_upd hid (updH_same _ _ _)) hput hk
  cases hr : rs with
  | none =>
    rw [hr] at hK
    have hnew : (newObj (.map #[] 0)).run P w = .ok w.heap.size (w.alloc (.map #[] 0)) := rfl
    exact fin (by simp [execOp, ho, hr, Instr.makeMap, hnew]) hK
  | some x =>
    rw [hr] at hK
    simp only [Option.map_some] at hK
    have hv := F.f.ev x
    cases hx : evO env x <;> rw [hx] at hK hv <;> simp only at hK
    case int kk n =>
      have hv : Rel M ρ (.int kk n) (a.eval x) := hv
      generalize hq : a.eval x = q at hv
      cases hv
      have hnew : (newObj (.map #[] 0)).run P w = .ok w.heap.size (w.alloc (.map #[] 0)) := rfl
      exact fin (by simp [execOp, ho, hr, hq, Instr.makeMap, run_underlying hu, asInt, asIntOf, hnew]) hK

theorem ents_push {es : List (AV × AV)} {ents : Array MapEntry} {key x : AV} {e : MapEntry} (h : EntsOK M ρ es ents) (hk : Rel M ρ key e.key) (hx : Rel M ρ x e.val) : EntsOK M ρ (es ++ [(key, x)]) (ents.push e) := by
  obtain ⟨q4, q5⟩ := h
  refine ⟨by simp [q4], fun i hi => ?_⟩
  simp only [Array.size_push] at hi
  by_cases hie : i < ents.size
  · have := q5 i hie
    simp only [List.getD_eq_getElem?_getD] at this ⊢
    rw [List.getElem?_append_left (by omega), Array.getElem_push_lt hie]
    exact this
  · have hie2 : i = ents.size := by omega
    have e1 : (ents.push e)[i]'(by simpa using hi) = e := by
      subst hie2; simp
    rw [e1]
    have e2 : (es ++ [(key, x)]).getD i (.undef, .undef) = (key, x) := by
      rw [hie2, ← q4]; simp
    rw [e2]
    exact ⟨hk, hx⟩

theorem ents_set {es : List (AV × AV)} {ents : Array MapEntry} {key x : AV} {j : Nat} {f : MapEntry → MapEntry} (h : EntsOK M ρ es ents) (hf : ∀ e, ents[j]? = some e → Rel M ρ key (f e).key ∧ Rel M ρ x (f e).val) : EntsOK M ρ (es.set j (key, x)) (ents.modify j f) := by
  obtain ⟨q4, q5⟩ := h
  refine ⟨by simp [q4], fun i hi => ?_⟩
  simp only [Array.size_modify] at hi
  have := q5 i hi
  rw [Array.getElem_modify]
  simp only [List.getD_eq_getElem?_getD, List.getElem?_set] at this ⊢
  by_cases hij : j = i
  · subst hij
    simp only [if_true]
    rw [if_pos (by omega)]
    exact hf _ (by simp [hi])
  · simp only [hij, if_false]
    exact this

theorem ents_erase {es : List (AV × AV)} {ents : Array MapEntry} {j : Nat} (h : EntsOK M ρ es ents) (hj : j < ents.size) : EntsOK M ρ (es.eraseIdx j) (ents.eraseIdxIfInBounds j) := by
  obtain ⟨q4, q5⟩ := h
  rw [show ents.eraseIdxIfInBounds j = ents.eraseIdx j hj by simp [Array.eraseIdxIfInBounds, hj]]
  refine ⟨by simp [List.length_eraseIdx, q4, hj], fun i hi => ?_⟩
  simp only [Array.size_eraseIdx] at hi
  rw [Array.getElem_eraseIdx]
  simp only [List.getD_eq_getElem?_getD, List.getElem?_eraseIdx] at q5 ⊢
  by_cases hij : i < j
  · simp only [hij, if_true, dif_pos]
    exact q5 i (by omega)
  · simp only [hij, if_false, dif_neg, not_false_eq_true]
    exact q5 (i + 1) (by omega)

/-- Entries that bear their numbers. -/
def Stamps (c : Bool) (ents : Array MapEntry) (clock : Nat) : Prop := c = true → clock = ents.size ∧ ∀ i (h : i < ents.size), ents[i].born = i

theorem stamps_push {c : Bool} {ents : Array MapEntry} {clock : Nat} (h : Stamps c ents clock) (k v : Value) : Stamps c (ents.push { key := k, val := v, born := clock }) (clock + 1) := fun hc => by
  obtain ⟨h1, h2⟩ := h hc
  refine ⟨by simp [h1], fun i hi => ?_⟩
  simp only [Array.size_push] at hi
  by_cases hie : i < ents.size
  · rw [Array.getElem_push_lt hie]; exact h2 i hie
  · have : i = ents.size := by omega
    subst this
    simp [h1]

theorem stamps_modify {c : Bool} {ents : Array MapEntry} {clock : Nat} (h : Stamps c ents clock) (j : Nat) {f : MapEntry → MapEntry} (hf : ∀ e, (f e).born = e.born) : Stamps c (ents.modify j f) clock := fun hc => by
  obtain ⟨h1, h2⟩ := h hc
  refine ⟨by simp [h1], fun i hi => ?_⟩
  simp only [Array.size_modify] at hi
  rw [Array.getElem_modify]
  split
  · rw [hf]; exact h2 i hi
  · exact h2 i hi

theorem stamps_find {ents : Array MapEntry} (h : ∀ i (h : i < ents.size), ents[i].born = i) {n : Nat} (hn : n < ents.size) : ents.findIdx? (fun e => (e.born : Int) == (n : Int)) = some n := by
  rw [Array.findIdx?_eq_some_iff_getElem]
  refine ⟨hn, by simp [h n hn], fun j hj => ?_⟩
  simp [h j (by omega)]
  omega

theorem run_stays {k : Value} (h : Instr.sameBits 10000 k k = true) (w : World) : (Instr.keyThatStays k k).run P w = .ok k w := by
  simp [Instr.keyThatStays, h]

theorem evLookup_sound (hT : TyOK P ty) (F : Fr N E M ρ l env loc h a w) {o : Oper} {t kt et : TypeId} {x ix : Operand} {ok : Bool} {e : TInfo} (ho : o.op = .lookup t x ix ok) (hu : P.underlying t = some (.map kt et)) (he : ty et = some e)
    (hd : ∀ t, o.dst = some t → t < N) {K : Kt} (hK : evLookup ty o.dst kt e (evO env x) (evO env ix) ok env loc h K) {next : Act → World → Prop} (hf : FrOK fr ρ h) (hn : Goes N E M ρ h w st fr K next) (Q : Exit → Act → World → Prop) : o.wp P a w next Q := by
  obtain ⟨pi, ds, g1, g2, g3, g4, g5, g6⟩ := gather_info (hT et e he)
  unfold evLookup at hK
  split at hK
  · exact hK.elim
  rename_i hc
  simp only [Bool.and_eq_true] at hc
  obtain ⟨hko, hzk⟩ := hc
  have hkey := (F.f.ev ix).to (keyOK_plain hko)
  obtain ⟨dk, k1, k2⟩ := keyOK_to hT hko hkey
  split at hK
  · rename_i id hx
    obtain ⟨es, c, r, hid, hfi, hK⟩ := hK
    have hvx := F.f.ev x
    rw [hx] at hvx
    have hvx : Rel M ρ (.map id) (a.eval x) := hvx
    generalize hq : a.eval x = q at hvx
    cases hvx with
    | map _ p hp =>
      obtain ⟨p', q1, q2, ents, clock, q3, ⟨q4, q5⟩, q6⟩ := F.f.sim.obj id _ hid
      rw [hp] at q1; cases q1
      have hz := run_zv (P := P) (w := w) g1 g3
      have hck := k2.check ents.isEmpty w
      have fin : ∀ {u : Value} {y : AV}, (Instr.lookup t (.map (some p.b)) (a.eval ix) ok).run P w = .ok u w → Rel M ρ y u → K (putE env o.dst y) loc h → o.wp P a w next Q := by
        intro u y hrun hr hk
        refine upon_of_value (v := u) (w' := w) (by simp [execOp, ho, hq, hrun]) ?_
        exact hn _ _ _ _ _ _ _ _ (fun _ _ h => h) (stay_same st) fr_same (F.put hd (RelS.of hr)) hk
      have two : ∀ {y : AV} {u : Value} {b : Bool}, Rel M ρ y u → Rel M ρ (.tuple [y, .bool b]) (.tuple #[u, .bool b]) := fun hy => .tuple _ _ rfl fun i hi => by
        have hi2 : i < 2 := hi
        match i, hi2 with
        | 0, _ => exact hy
        | 1, _ => exact .bool _
      rcases findA_to hT hkey k1 es ents.toList 0 r (by simpa using q4) (fun j hj => by simpa using q5 j (by simpa using hj)) hfi with ⟨rfl, hfn⟩ | ⟨j, y, e', rfl, f2, f3, f4, f5, f6⟩
      · have hfk := hfn.run k1 w
        cases ok with
        | true => exact fin (u := .tuple #[e.zero, .bool false]) (by simp [Instr.lookup, run_underlying hu, MapKept.run_getObj_map q3, hck, hfk, hz, Result.andThen]) (two (ofVal_rel M ρ e.zero)) hK
        | false => exact fin (u := e.zero) (by simp [Instr.lookup, run_underlying hu, MapKept.run_getObj_map q3, hck, hfk, hz, Result.andThen]) (ofVal_rel M ρ e.zero) hK
      · have hfk := f6.run k1 w
        simp only [Nat.zero_add] at hfk
        cases ok with
        | true => exact fin (u := .tuple #[e'.val, .bool true]) (by simp [Instr.lookup, run_underlying hu, MapKept.run_getObj_map q3, hck, hfk, hz, Result.andThen]) (two f4) hK
        | false => exact fin (u := e'.val) (by simp [Instr.lookup, run_underlying hu, MapKept.run_getObj_map q3, hck, hfk, hz, Result.andThen]) f4 hK
  · exact hK.elim

/-- A step that leaves a map otherwise. -/
theorem map_step (F : Fr N E M ρ l env loc h a w) {o : Oper} {id : Nat} {es es' : List (AV × AV)} {c c' : Bool} {p : Pl} {ents ents' : Array MapEntry} {clock clock' : Nat} {x : AV} {v : Value} (hid : h id = some (.map es c)) (hp : ρ id = some p) (q3 : w.heap[p.b]? = some (.map ents clock))
    (hd : ∀ t, o.dst = some t → t < N) {K : Kt} {next : Act → World → Prop} (hn : Goes N E M ρ h w st fr K next) (hr : EntsOK M ρ es' ents') (hs : Stamps c' ents' clock') (hx : Rel M ρ x v) (hk : K (putE env o.dst x) loc (updH h id (some (.map es' c')))) :
    next (a.put o.dst v) { w with heap := w.heap.setIfInBounds p.b (.map ents' clock') } := by
  have hset := MapKept.heap_set (o' := .map ents' clock') q3
  obtain ⟨s1, s2⟩ := step_set (w' := { w with heap := w.heap.setIfInBounds p.b (.map ents' clock') }) (o' := .map es' c') F.f.sim hid hp (by simp) (fun b hb => hset.2 b hb) rfl rfl rfl (by simp) ⟨ents', clock', hset.1, hr, hs⟩
  exact hn _ _ _ _ _ _ _ _ s1.mem (s1.stay st) fr_same ((F.step s1 s2).put (d := o.dst) (x := x) (v := v) hd (RelS.of hx)) hk

theorem evMapUpdate_sound (hT : TyOK P ty) (F : Fr N E M ρ l env loc h a w) {o : Oper} {t kt et : TypeId} {x ix xv : Operand} (ho : o.op = .mapUpdate t x ix xv ∨ o.op = .insert t x ix xv) (hu : P.underlying t = some (.map kt et))
    (hd : ∀ t, o.dst = some t → t < N) {K : Kt} (hK : evMapUpdate ty o.dst kt (evO env x) (evO env ix) (evO env xv) env loc h K) {next : Act → World → Prop} (hf : FrOK fr ρ h) (hn : Goes N E M ρ h w st fr K next) (Q : Exit → Act → World → Prop) : o.wp P a w next Q := by
  unfold evMapUpdate at hK
  split at hK
  · exact hK.elim
  rename_i hc
  simp only [Bool.and_eq_true] at hc
  obtain ⟨hko, hvp⟩ := hc
  have hkey := (F.f.ev ix).to (keyOK_plain hko)
  have hval := (F.f.ev xv).to hvp
  obtain ⟨dk, k1, k2⟩ := keyOK_to hT hko hkey
  split at hK
  · rename_i id hx
    obtain ⟨es, c, r, hid, hfi, hK⟩ := hK
    have hvx := F.f.ev x
    rw [hx] at hvx
    have hvx : Rel M ρ (.map id) (a.eval x) := hvx
    generalize hq : a.eval x = q at hvx
    cases hvx with
    | map _ p hp =>
      obtain ⟨p', q1, q2, ents, clock, q3, q45, q6⟩ := F.f.sim.obj id _ hid
      obtain ⟨q4, q5⟩ := q45
      rw [hp] at q1; cases q1
      have hck := k2.check false w
      have fin : ∀ {ents' : Array MapEntry} {clock' : Nat} {es' : List (AV × AV)}, (Instr.mapUpdate t (.map (some p.b)) (a.eval ix) (a.eval xv)).run P w = .ok () { w with heap := w.heap.setIfInBounds p.b (.map ents' clock') } → EntsOK M ρ es' ents' → Stamps c ents' clock' → K (putE env o.dst .undef) loc (updH h id (some (.map es' c))) → o.wp P a w next Q := by
        intro ents' clock' es' hrun hr hs hk
        have hu := map_step (o := o) F hid hp q3 hd hn hr hs (.undef _ : Rel M ρ .undef Go.undef) hk
        unfold Oper.wp
        have : (execOp a.eval o).run P w = .ok .skip { w with heap := w.heap.setIfInBounds p.b (.map ents' clock') } := by
          rcases ho with ho | ho <;> simp only [execOp, ho, hq, Sem.run_bind, hrun, Result.andThen_ok, Sem.run_pure]
        rw [this]
        exact hu
      rcases findA_to hT hkey k1 es ents.toList 0 r (by simpa using q4) (fun j hj => by simpa using q5 j (by simpa using hj)) hfi with ⟨rfl, hfn⟩ | ⟨j, y, e', rfl, f2, f3, f4, f5, f6⟩
      · have hfk := hfn.run k1 w
        exact fin (ents' := ents.push { key := a.eval ix, val := a.eval xv, born := clock }) (clock' := clock + 1) (by simp [Instr.mapUpdate, run_underlying hu, MapKept.run_getObj_map q3, hck, hfk, MapKept.run_setObj_map _ q3, Result.andThen]) (ents_push ⟨q4, q5⟩ hkey hval) (stamps_push q6 _ _) hK
      · have hfk := f6.run k1 w
        simp only [Nat.zero_add] at hfk hK
        have hje : ents[j]? = some e' := by simpa using f2
        have hk2 : e'.key = a.eval ix := f5
        have hke : (Instr.keyThatStays (((ents[j]?).map (·.key)).getD (a.eval ix)) (a.eval ix)).run P w = .ok (a.eval ix) w := by
          rw [hje]
          simp only [Option.map_some, Option.getD_some, hk2, run_stays k2.bits]
        exact fin (ents' := ents.modify j fun e => { e with key := a.eval ix, val := a.eval xv }) (clock' := clock) (by
          simp only [hje, Option.map_some, Option.getD_some] at hke
          simp [Instr.mapUpdate, run_underlying hu, MapKept.run_getObj_map q3, hck, hfk, hje, hke, MapKept.run_setObj_map _ q3, Result.andThen]) (ents_set ⟨q4, q5⟩ fun e _ => ⟨hkey, hval⟩) (stamps_modify q6 j fun _ => rfl) hK
  · exact hK.elim

theorem evDelete_sound (hT : TyOK P ty) (F : Fr N E M ρ l env loc h a w) {o : Oper} {c : Call} {t t2 kt et : TypeId} {ts : List TypeId} {x ix : Operand} (ho : o.op = .call c) (hc : c.callee = .builtin .delete) (hts : c.argTypes.toList = t :: ts) (has : c.args.toList = [x, ix]) (hu : P.underlying t = some (.map kt et))
    (hd : ∀ t, o.dst = some t → t < N) {K : Kt} (hK : evDelete ty o.dst kt (evO env x) (evO env ix) env loc h K) {next : Act → World → Prop} (hf : FrOK fr ρ h) (hn : Goes N E M ρ h w st fr K next) (Q : Exit → Act → World → Prop) : o.wp P a w next Q := by
  have e1 : c.argTypes = (t :: ts).toArray := by apply Array.ext'; simpa using hts
  have e2 : c.args = #[x, ix] := by apply Array.ext'; exact has
  unfold evDelete at hK
  split at hK
  · exact hK.elim
  rename_i hko
  have hkey := (F.f.ev ix).to (keyOK_plain hko)
  obtain ⟨dk, k1, k2⟩ := keyOK_to hT hko hkey
  split at hK
  · rename_i id hx
    obtain ⟨es, c', r, hid, hfi, hK⟩ := hK
    have hvx := F.f.ev x
    rw [hx] at hvx
    have hvx : Rel M ρ (.map id) (a.eval x) := hvx
    generalize hq : a.eval x = q at hvx
    cases hvx with
    | map _ p hp =>
      obtain ⟨p', q1, q2, ents, clock, q3, q45, q6⟩ := F.f.sim.obj id _ hid
      obtain ⟨q4, q5⟩ := q45
      rw [hp] at q1; cases q1
      have hck := k2.check ents.isEmpty w
      have fin : ∀ {ents' : Array MapEntry} {es' : List (AV × AV)}, (execOp a.eval o).run P w = .ok (.value (.tuple #[])) { w with heap := w.heap.setIfInBounds p.b (.map ents' clock) } → EntsOK M ρ es' ents' → K (putE env o.dst .undef) loc (updH h id (some (.map es' false))) → o.wp P a w next Q := by
        intro ents' es' hrun hr hk
        exact upon_of_value hrun (map_step (o := o) F hid hp q3 hd hn hr (fun h => by cases h) (.undef _ : Rel M ρ .undef (.tuple #[])) hk)
      rcases findA_to hT hkey k1 es ents.toList 0 r (by simpa using q4) (fun j hj => by simpa using q5 j (by simpa using hj)) hfi with ⟨rfl, hfn⟩ | ⟨j, y, e', rfl, f2, f3, f4, f5, f6⟩
      · have hfk := hfn.run k1 w
        exact fin (ents' := ents) (by simp [execOp, ho, resolve, hc, e1, e2, invoke, builtin, hq, Builtin.delete_, run_underlying hu, MapKept.run_getObj_map q3, hck, hfk, MapKept.run_setObj_map _ q3, Result.andThen]) ⟨q4, q5⟩ hK
      · have hfk := f6.run k1 w
        simp only [Nat.zero_add] at hfk hK
        have hjs : j < ents.size := by
          have := (List.getElem?_eq_some_iff.1 f2).1
          simpa using this
        exact fin (ents' := ents.eraseIdxIfInBounds j) (by simp [execOp, ho, resolve, hc, e1, e2, invoke, builtin, hq, Builtin.delete_, run_underlying hu, MapKept.run_getObj_map q3, hck, hfk, MapKept.run_setObj_map _ q3, Result.andThen]) (ents_erase ⟨q4, q5⟩ hjs) hK
  · exact hK.elim

theorem two_rel {x : AV} {v : Value} {n : Int} (hx : Rel M ρ x v) : Rel M ρ (.tuple [x, .int .i64 n]) (.tuple #[v, .int .i64 n]) := .tuple _ _ rfl fun i hi => by
  have hi2 : i < 2 := hi
  match i, hi2 with
  | 0, _ => exact hx
  | 1, _ => exact .int _ _

theorem evMapEntry_sound (hT : TyOK P ty) (F : Fr N E M ρ l env loc h a w) {o : Oper} {t kt et : TypeId} {x ix : Operand} {e : TInfo} (ho : o.op = .mapEntry t x ix) (hu : P.underlying t = some (.map kt et)) (he : ty et = some e)
    (hd : ∀ t, o.dst = some t → t < N) {K : Kt} (hK : evMapEntry ty o.dst kt e (evO env x) (evO env ix) env loc h K) {next : Act → World → Prop} (hf : FrOK fr ρ h) (hn : Goes N E M ρ h w st fr K next) (Q : Exit → Act → World → Prop) : o.wp P a w next Q := by
  obtain ⟨pi, ds, g1, g2, g3, g4, g5, g6⟩ := gather_info (hT et e he)
  unfold evMapEntry at hK
  split at hK
  · exact hK.elim
  rename_i hc
  simp only [Bool.and_eq_true] at hc
  obtain ⟨hko, hzk⟩ := hc
  have hkey := (F.f.ev ix).to (keyOK_plain hko)
  obtain ⟨dk, k1, k2⟩ := keyOK_to hT hko hkey
  split at hK
  · rename_i id hx
    obtain ⟨es, r, hid, hfi, hK⟩ := hK
    have hvx := F.f.ev x
    rw [hx] at hvx
    have hvx : Rel M ρ (.map id) (a.eval x) := hvx
    generalize hq : a.eval x = q at hvx
    cases hvx with
    | map _ p hp =>
      obtain ⟨p', q1, q2, ents, clock, q3, q45, q6⟩ := F.f.sim.obj id _ hid
      obtain ⟨q4, q5⟩ := q45
      obtain ⟨c1, c2⟩ := q6 rfl
      rw [hp] at q1; cases q1
      have hz := run_zv (P := P) (w := w) g1 g3
      have hck := k2.check false w
      have fin : ∀ {ents' : Array MapEntry} {clock' : Nat} {es' : List (AV × AV)} {x : AV} {v : Value}, (Instr.mapEntry t (.map (some p.b)) (a.eval ix)).run P w = .ok v { w with heap := w.heap.setIfInBounds p.b (.map ents' clock') } → EntsOK M ρ es' ents' → Stamps true ents' clock' → Rel M ρ x v → K (putE env o.dst x) loc (updH h id (some (.map es' true))) → o.wp P a w next Q := by
        intro ents' clock' es' x v hrun hr hs hx hk
        exact upon_of_value (by simp [execOp, ho, hq, hrun]) (map_step (o := o) F hid hp q3 hd hn hr hs hx hk)
      rcases findA_to hT hkey k1 es ents.toList 0 r (by simpa using q4) (fun j hj => by simpa using q5 j (by simpa using hj)) hfi with ⟨rfl, hfn⟩ | ⟨j, y, e', rfl, f2, f3, f4, f5, f6⟩
      · have hfk := hfn.run k1 w
        simp only at hK
        refine fin (ents' := ents.push { key := a.eval ix, val := e.zero, born := clock }) (clock' := clock + 1) (v := .tuple #[e.zero, goInt clock]) (by simp [Instr.mapEntry, run_underlying hu, MapKept.run_getObj_map q3, hck, hfk, hz, MapKept.run_setObj_map _ q3, Result.andThen]) (ents_push ⟨q4, q5⟩ hkey (ofVal_rel M ρ e.zero)) (stamps_push (fun _ => ⟨c1, c2⟩) _ _) ?_ hK
        have : (clock : Int) = es.length := by omega
        rw [goInt, this]
        exact two_rel (ofVal_rel M ρ e.zero)
      · have hfk := f6.run k1 w
        simp only [Nat.zero_add] at hfk hK
        have hje : ents[j]? = some e' := by simpa using f2
        have hk2 : e'.key = a.eval ix := f5
        have hjs : j < ents.size := (Array.getElem?_eq_some_iff.1 hje).1
        have hb : e'.born = j := by
          have h1 := c2 j hjs
          have h2 := (Array.getElem?_eq_some_iff.1 hje).2
          rw [← h2]; exact h1
        have hke : (Instr.keyThatStays e'.key (a.eval ix)).run P w = .ok (a.eval ix) w := by
          rw [hk2]; exact run_stays k2.bits w
        refine fin (ents' := ents.modify j fun e => { e with key := a.eval ix }) (clock' := clock) (by
          simp [Instr.mapEntry, run_underlying hu, MapKept.run_getObj_map q3, hck, hfk, hje, hke, MapKept.run_setObj_map _ q3, Result.andThen]
          rfl) (ents_set ⟨q4, q5⟩ fun e he => ⟨hkey, ?_⟩) (stamps_modify (fun _ => ⟨c1, c2⟩) j fun _ => rfl) ?_ hK
        · rw [hje] at he; cases he
          exact f4
        · rw [hb]; exact two_rel f4
  · exact hK.elim

theorem evEntryStore_sound (F : Fr N E M ρ l env loc h a w) {o : Oper} {t : TypeId} {x sx xv : Operand} (ho : o.op = .entryStore t x sx xv)
    (hd : ∀ t, o.dst = some t → t < N) {K : Kt} (hK : evEntryStore o.dst (evO env x) (evO env sx) (evO env xv) env loc h K) {next : Act → World → Prop} (hf : FrOK fr ρ h) (hn : Goes N E M ρ h w st fr K next) (Q : Exit → Act → World → Prop) : o.wp P a w next Q := by
  unfold evEntryStore at hK
  split at hK
  · exact hK.elim
  rename_i hvp
  have hval := (F.f.ev xv).to hvp
  split at hK
  · rename_i id kk i hx hs
    obtain ⟨es, hid, hi, hK⟩ := hK
    have hvx := F.f.ev x
    rw [hx] at hvx
    have hvx : Rel M ρ (.map id) (a.eval x) := hvx
    generalize hq : a.eval x = q at hvx
    have hvs := F.f.ev sx
    rw [hs] at hvs
    have hvs : Rel M ρ (.int kk (.ofNat i)) (a.eval sx) := hvs
    generalize hqs : a.eval sx = qs at hvs
    cases hvs
    cases hvx with
    | map _ p hp =>
      obtain ⟨p', q1, q2, ents, clock, q3, q45, q6⟩ := F.f.sim.obj id _ hid
      obtain ⟨q4, q5⟩ := q45
      obtain ⟨c1, c2⟩ := q6 rfl
      rw [hp] at q1; cases q1
      have hfi := stamps_find c2 (n := i) (by omega)
      have hrun : (Instr.entryStore t (.map (some p.b)) (.int kk (.ofNat i)) (a.eval xv)).run P w = .ok () { w with heap := w.heap.setIfInBounds p.b (.map (ents.modify i fun e => { e with val := a.eval xv }) clock) } := by
        simp [Instr.entryStore, MapKept.run_getObj_map q3, asInt, asIntOf, Result.andThen]
        rw [hfi]
        simp [MapKept.run_setObj_map _ q3]
      have hu := map_step (o := o) F hid hp q3 hd hn (ents' := ents.modify i fun e => { e with val := a.eval xv }) (ents_set (key := (es.getD i (.undef, .undef)).1) (x := evO env xv) ⟨q4, q5⟩ fun e he => ⟨?_, hval⟩) (stamps_modify (fun _ => ⟨c1, c2⟩) i fun _ => rfl) (.undef _ : Rel M ρ .undef Go.undef) hK
      · unfold Oper.wp
        have : (execOp a.eval o).run P w = .ok .skip { w with heap := w.heap.setIfInBounds p.b (.map (ents.modify i fun e => { e with val := a.eval xv }) clock) } := by
          simp only [execOp, ho, hq, hqs, Sem.run_bind, hrun, Result.andThen_ok, Sem.run_pure]
        rw [this]
        exact hu
      · obtain ⟨h1, h2⟩ := Array.getElem?_eq_some_iff.1 he
        rw [← h2]
        exact (q5 i h1).1
  · exact hK.elim

theorem evMapLen_sound (F : Fr N E M ρ l env loc h a w) {o : Oper} {c : Call} {t k e : TypeId} {x : Operand} (ho : o.op = .call c) (hc : c.callee = .builtin .len) (hts : c.argTypes.toList = [t]) (has : c.args.toList = [x]) (hu : P.underlying t = some (.map k e))
    (hd : ∀ t, o.dst = some t → t < N) {K : Kt} (hK : evMapLen o.dst (evO env x) env loc h K) {next : Act → World → Prop} (hf : FrOK fr ρ h) (hn : Goes N E M ρ h w st fr K next) (Q : Exit → Act → World → Prop) : o.wp P a w next Q := by
  have e1 : c.argTypes = #[t] := by apply Array.ext'; exact hts
  have e2 : c.args = #[x] := by apply Array.ext'; exact has
  unfold evMapLen at hK
  split at hK
  · rename_i id hx
    obtain ⟨es, c', hid, hK⟩ := hK
    have hvx := F.f.ev x
    rw [hx] at hvx
    have hvx : Rel M ρ (.map id) (a.eval x) := hvx
    generalize hq : a.eval x = q at hvx
    cases hvx with
    | map _ p hp =>
      obtain ⟨p', q1, q2, ents, clock, q3, ⟨q4, q5⟩, q6⟩ := F.f.sim.obj id _ hid
      rw [hp] at q1; cases q1
      refine upon_of_value (v := .int .i64 es.length) (w' := w) ?_ (hn _ _ _ _ _ _ _ _ (fun _ _ h => h) (stay_same st) fr_same (F.put hd (RelS.of (.int _ _))) hK)
      simp [execOp, ho, resolve, hc, e1, e2, invoke, builtin, hq, Builtin.len_, run_underlying hu, MapKept.run_getObj_map q3, goInt, Result.andThen, q4]
  · exact hK.elim

end
end Go.Lift
