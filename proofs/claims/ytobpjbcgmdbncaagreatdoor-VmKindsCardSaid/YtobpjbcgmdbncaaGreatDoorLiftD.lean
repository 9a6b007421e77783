/- A part of the proof (own lemmas, no condition beyond those that each theorem states): the layer over the model that all of the proofs of this seat stand on. -/
import Derived.Test.YtobpjbcgmdbncaaGreatDoorLiftC
set_option linter.unusedVariables false
set_option linter.unusedSectionVars false
set_option linter.unusedSimpArgs false
namespace Go.Lift
open Go Go.RowKit
variable [G : Glob]
section
variable {P : Program} {ty : Tys} {N : Nat} {M : Mem} {ρ : Rho} {l : Lam} {env : Env} {loc : Loc} {h : Heap} {a : Act} {w : World}

theorem str_get (s : List UInt8) (n : Nat) (h : n < s.length) : (⟨s.toArray⟩ : ByteArray)[n]? = some (s.getD n 0) := by
  have h1 : n < (⟨s.toArray⟩ : ByteArray).size := by show n < s.toArray.size; simpa using h
  have h2 : (⟨s.toArray⟩ : ByteArray)[n]? = some ((⟨s.toArray⟩ : ByteArray)[n]'h1) := by simp [h1]
  rw [h2]
  congr 1
  show s.toArray[n] = _
  simp [List.getD_eq_getElem?_getD, h]

theorem str_size (s : List UInt8) : (⟨s.toArray⟩ : ByteArray).size = s.length := by show s.toArray.size = _; simp

theorem run_index (hT : TyOK P ty) {t : TypeId} {x ix : AV} {v u : Value} (hv : RelS M ρ l x v) (hu : RelS M ρ l ix u) (hh : (evIndex ty t x ix).holds) :
    ∃ r, (∀ w : World, (Instr.index t v u).run P w = .ok r w) ∧ RelS M ρ l (evIndex ty t x ix).val r := by
  unfold evIndex at hh ⊢
  cases ix with
  | int ik n =>
    cases hu
    simp only at hh ⊢
    cases x with
    | str s =>
      cases hv
      simp only at hh ⊢
      split at hh
      · rename_i b1 b2 b3 hi
        obtain ⟨pi, d, h1, h2, h3, h4, h5, h6⟩ := gather_info (hT t _ hi)
        obtain rfl := ul_str h6.symm
        simp only [hi, Res.holds, Res.val] at hh ⊢
        refine ⟨_, fun w => ?_, RelS.of (.int .u8 _)⟩
        have hlt : n.toNat < s.length := by omega
        simp only [Instr.index, asIntOf, Sem.run_bind, Sem.run_pure, Result.andThen_ok, run_ul h2, hh.1, if_true, str_get s _ hlt]
        rfl
      · simp [Res.holds] at hh
    | agg cs =>
      cases hv with
      | agg cs vs hl hr =>
        simp only at hh ⊢
        split at hh
        · rename_i len e b1 b2 b3 hi
          obtain ⟨pi, d, h1, h2, h3, h4, h5, h6⟩ := gather_info (hT t _ hi)
          obtain rfl := ul_array h6.symm
          cases he : ty e with
          | none => simp [he, Res.holds] at hh
          | some i =>
            obtain ⟨qi, d, g1, g2, g3, g4, g5, g6⟩ := gather_info (hT e _ he)
            simp only [he, hi] at hh ⊢
            cases hc : (i.desc.agg || Nat.beq i.size 1) with
            | false => simp [hc, Res.holds] at hh
            | true =>
              simp only [hc, Res.holds, Res.val] at hh ⊢
              simp only [Bool.or_eq_true] at hc
              obtain ⟨u, e1, e2⟩ := run_part g1 g2 (M := M) (ρ := ρ) (cs := cs) (vs := vs) ⟨hl, hr⟩ (n.toNat * i.size) (by omega) (by
                rcases hc with hc | hc
                · exact .inl (by rw [← g6]; exact hc)
                · exact .inr (by have := Nat.eq_of_beq_eq_true hc; omega))
              rw [← g6, g4] at e2
              refine ⟨u, fun w => ?_, RelS.of e2⟩
              simp only [Instr.index, asIntOf, Sem.run_bind, Sem.run_pure, Result.andThen_ok, run_ul h2]
              simp [hh.1, hh.2.1, run_so g1, g4, e1]
        · simp [Res.holds] at hh
    | _ => simp [Res.holds] at hh
  | _ => simp [Res.holds] at hh

theorem run_len (hT : TyOK P ty) {t : TypeId} {x : AV} {v : Value} (hv : RelS M ρ l x v) (hh : (evLen ty t x).holds) (ts : Array TypeId) (rt : TypeId) (ht : ts[0]? = some t) (args : Array Value) (h0 : args[0]? = some v) :
    ∃ r, (∀ w : World, (Builtin.len_ ts rt args).run P w = .ok r w) ∧ RelS M ρ l (evLen ty t x).val r := by
  unfold evLen at hh ⊢
  split at hh
  · rename_i b1 b2 b3 hi
    obtain ⟨pi, d, h1, h2, h3, h4, h5, h6⟩ := gather_info (hT t _ hi)
    obtain rfl := ul_str h6.symm
    cases x with
    | str s =>
      cases hv
      refine ⟨_, fun w => ?_, RelS.of (.int .i64 _)⟩
      simp only [Builtin.len_, ht, h0, Sem.run_bind, run_ul h2, Result.andThen_ok, Sem.run_pure, goInt, str_size]
    | _ => simp [Res.holds] at hh
  · rename_i e b1 b2 b3 hi
    obtain ⟨pi, d, h1, h2, h3, h4, h5, h6⟩ := gather_info (hT t _ hi)
    obtain rfl := ul_slice h6.symm
    cases x with
    | sl k g els cap =>
      cases hv with
      | sl k g els cap ad m c hn hm hk cv hcv hr hcap =>
        subst hn
        refine ⟨_, fun w => ?_, RelS.of (.int .i64 _)⟩
        simp only [Builtin.len_, ht, h0, Sem.run_bind, run_ul h2, Result.andThen_ok, Sem.run_pure, goInt]
    | row id off len cap =>
      cases hv with
      | row id off m c cp p hp hcap =>
        refine ⟨_, fun w => ?_, RelS.of (.int .i64 _)⟩
        simp only [Builtin.len_, ht, h0, Sem.run_bind, run_ul h2, Result.andThen_ok, Sem.run_pure, goInt]
    | _ => simp [Res.holds] at hh
  · rename_i n e b1 b2 b3 hi
    obtain ⟨pi, d, h1, h2, h3, h4, h5, h6⟩ := gather_info (hT t _ hi)
    obtain rfl := ul_array h6.symm
    refine ⟨_, fun w => ?_, RelS.of (.int .i64 _)⟩
    simp only [Builtin.len_, ht, h0, Sem.run_bind, run_ul h2, Result.andThen_ok, Sem.run_pure, goInt]
  · simp [Res.holds] at hh

theorem run_minmax (mx : Bool) {xs : List AV} {vs : Array Value} (hv : xs.length = vs.size ∧ ∀ i, i < xs.length → RelS M ρ l (xs.getD i .undef) (vs.getD i Go.undef)) (hh : (evMinMax mx xs).holds) (ts : Array TypeId) (rt : TypeId) :
    ∃ r, (∀ w : World, (match mx with | true => Builtin.max_ ts rt vs | false => Builtin.min_ ts rt vs).run P w = .ok r w) ∧ RelS M ρ l (evMinMax mx xs).val r := by
  unfold evMinMax at hh ⊢
  split at hh
  · rename_i k x k' y
    obtain ⟨hl, hr⟩ := hv
    have r0 := hr 0 (by simp)
    have r1 := hr 1 (by simp)
    obtain ⟨vl⟩ := vs
    match vl, hl with
    | [v0, v1], _ =>
      simp only [List.getD_cons_zero, List.getD_cons_succ] at r0 r1
      cases r0
      cases r1
      cases mx
      · exact ⟨_, fun _ => rfl, RelS.of (.int _ _)⟩
      · exact ⟨_, fun _ => rfl, RelS.of (.int _ _)⟩
  · simp [Res.holds] at hh

theorem bytes_toList (s : List UInt8) : (⟨s.toArray⟩ : ByteArray).toList = s := by
  rw [ByteArray.toList_eq]

theorem run_evStr {op : BinOp} {x y : List UInt8} (hh : (evStr op x y).holds) : ∃ r, (∀ w : World, (Op.stringOp op ⟨x.toArray⟩ ⟨y.toArray⟩).run P w = .ok r w) ∧ Rel M ρ (evStr op x y).val r := by
  cases op with
  | add =>
    simp only [evStr, Res.holds, Res.val] at hh ⊢
    have e : (⟨x.toArray⟩ ++ ⟨y.toArray⟩ : ByteArray) = ⟨(x ++ y).toArray⟩ := by
      apply ByteArray.ext
      rw [ByteArray.data_append]
      simp
    refine ⟨.string ⟨(x ++ y).toArray⟩, fun w => ?_, .str _⟩
    have : ¬ (((((⟨x.toArray⟩ : ByteArray).size + (⟨y.toArray⟩ : ByteArray).size : Nat) : Int)) > IntKind.i64.max) := by
      rw [str_size, str_size]
      have : IntKind.i64.max = 9223372036854775807 := by decide
      omega
    simp only [Op.stringOp, this, if_false, Sem.run_pure, e]
  | eql => exact ⟨_, fun _ => rfl, by simp only [evStr, Res.val, bytes_toList]; exact .bool _⟩
  | neq => exact ⟨_, fun _ => rfl, by simp only [evStr, Res.val, bytes_toList]; exact .bool _⟩
  | lss => exact ⟨_, fun _ => rfl, by simp only [evStr, Res.val, bytes_toList]; exact .bool _⟩
  | leq => exact ⟨_, fun _ => rfl, by simp only [evStr, Res.val, bytes_toList]; exact .bool _⟩
  | gtr => exact ⟨_, fun _ => rfl, by simp only [evStr, Res.val, bytes_toList]; exact .bool _⟩
  | geq => exact ⟨_, fun _ => rfl, by simp only [evStr, Res.val, bytes_toList]; exact .bool _⟩
  | _ => simp [evStr, Res.holds] at hh

theorem run_eq1 (hT : TyOK P ty) {t : TypeId} {x y : AV} {v u : Value} {b : Bool} (hv : Rel M ρ x v) (hu : Rel M ρ y u) (he : eq1 ty t x y = some b) (d : Nat) :
    (Op.equalIn (d + 1) t v u).run P w = .ok b w := by
  unfold eq1 at he
  split at he
  · rename_i b1 b2 b3 hi
    obtain ⟨pi, dd, h1, h2, h3, h4, h5, h6⟩ := gather_info (hT t _ hi)
    obtain rfl := ul_bool h6.symm
    split at he
    · cases hv; cases hu
      simp at he
      rw [run_equalIn_bool' w d t _ _ h2]
      simp [← he]
    · cases he
  · rename_i k b1 b2 b3 hi
    obtain ⟨pi, dd, h1, h2, h3, h4, h5, h6⟩ := gather_info (hT t _ hi)
    obtain rfl := ul_int h6.symm
    split at he
    · cases hv; cases hu
      split at he
      · rename_i hk
        subst hk
        simp at he
        rw [run_equalIn_int w d t _ _ _ _ h2]
        simp [← he]
      · cases he
    · cases he
  · rename_i b1 b2 b3 hi
    obtain ⟨pi, dd, h1, h2, h3, h4, h5, h6⟩ := gather_info (hT t _ hi)
    obtain rfl := ul_str h6.symm
    split at he
    · cases hv; cases hu
      simp at he
      rw [run_equalIn_string w d t _ _ h2, bytes_toList, bytes_toList]
      simp [← he]
    · cases he
  · cases he

theorem run_eqFs (hT : TyOK P ty) {xs ys : List AV} {vs us : Array Value} (hv : Rels M ρ xs vs) (hu : Rels M ρ ys us) (d : Nat) :
    ∀ (fs : List Field) (b : Bool), eqFs ty xs ys (fs.map fun f => (f.offset, f.type, f.name == "_")) = some b → (Op.eqFields (d + 1) vs us fs).run P w = .ok b w := by
  intro fs
  induction fs with
  | nil => intro b hb; simp [eqFs] at hb; subst hb; rfl
  | cons f fs ih =>
    intro b hb
    simp only [List.map_cons, eqFs] at hb
    cases hbl : (f.name == "_") with
    | true =>
      rw [hbl] at hb
      have : f.name = "_" := by simpa using hbl
      simp only [Op.eqFields, this, ne_eq, not_true, if_false]
      exact ih b hb
    | false =>
      rw [hbl] at hb
      have hne : f.name ≠ "_" := by simpa using hbl
      simp only at hb
      split at hb
      · rename_i p q h1 h2
        simp only [Option.some.injEq] at hb
        subst hb
        have ht : ∃ i, ty f.type = some i ∧ i.desc.agg = false := by
          unfold eq1 at h1
          split at h1
          · rename_i hi; exact ⟨_, hi, rfl⟩
          · rename_i hi; exact ⟨_, hi, rfl⟩
          · rename_i hi; exact ⟨_, hi, rfl⟩
          · cases h1
        obtain ⟨i, hi, hag⟩ := ht
        obtain ⟨pi, dd, g1, g2, g3, g4, g5, g6⟩ := gather_info (hT f.type _ hi)
        have hkx : ∀ {zs : List AV}, (zs.getD f.offset .undef) ≠ .undef → f.offset < zs.length := by
          intro zs hz
          by_cases hlt : f.offset < zs.length
          · exact hlt
          · exact absurd (by simp [List.getD_eq_getElem?_getD, List.getElem?_eq_none (Nat.le_of_not_lt hlt)]) hz
        have hx : f.offset < xs.length := hkx (fun e => by rw [e] at h1; simp [eq1] at h1; split at h1 <;> simp at h1)
        have hy : f.offset < ys.length := hkx (fun e => by rw [e] at h1; simp only [eq1] at h1; split at h1 <;> (try cases h1) <;> (split at h1 <;> simp_all))
        have pv : (part f.type vs f.offset).run P w = .ok (vs.getD f.offset Go.undef) w := by
          have hlt : f.offset < vs.size := by have := hv.1; omega
          simp [part, run_ag g2, ← g6, hag, hlt, Array.getD_eq_getD_getElem?]
        have pu : (part f.type us f.offset).run P w = .ok (us.getD f.offset Go.undef) w := by
          have hlt : f.offset < us.size := by have := hu.1; omega
          simp [part, run_ag g2, ← g6, hag, hlt, Array.getD_eq_getD_getElem?]
        simp only [Op.eqFields, ne_eq, hne, not_false_eq_true, if_true, Sem.run_bind, pv, pu, Result.andThen_ok, run_eq1 hT (hv.2 _ hx) (hu.2 _ hy) h1 d]
        cases p with
        | true => simp [ih q h2]
        | false => simp
      · cases hb

end
end Go.Lift
