/- A part of the proof (own lemmas, no condition beyond those that each theorem states): the layer over the model that all of the proofs of this seat stand on. -/
import Derived.Test.YtobpjbcgmdbncaaGreatDoorLiftD
set_option linter.unusedVariables false
set_option linter.unusedSectionVars false
set_option linter.unusedSimpArgs false
namespace Go.Lift
open Go Go.RowKit
variable [G : Glob]
section
variable {P : Program} {ty : Tys} {N : Nat} {M : Mem} {ρ : Rho} {l : Lam} {env : Env} {loc : Loc} {h : Heap} {a : Act} {w : World}

theorem RelS.of_to {x : AV} {v : Value} (hv : RelS M ρ l x v) (hp : x.plain = true) : Rel M ρ x v := hv.to hp

theorem run_eqNilI {t tt : TypeId} {v : Value} {ms : Array (String × TypeId)} (h2 : P.underlying t = some (.interface ms)) (d : Nat) :
    (Op.equalIn (d + 1) t .nilIface (.iface tt v)).run P w = .ok false w ∧ (Op.equalIn (d + 1) t (.iface tt v) .nilIface).run P w = .ok false w := by
  constructor <;> simp [Op.equalIn, run_ul h2]

theorem run_evEq (hT : TyOK P ty) {t : TypeId} {x y : AV} {v u : Value} {b : Bool} (hv : Rel M ρ x v) (hu : Rel M ρ y u) (he : evEq ty t x y = some b) (op : BinOp) (hop : op = .eql ∨ op = .neq) (ox oy : Operand) :
    (eqGuard op t ox oy v u).run P w = .ok () w ∧ (binOp .eql t v u).run P w = .ok (.bool b) w ∧ (binOp .neq t v u).run P w = .ok (.bool !b) w := by
  unfold evEq at he
  split at he
  · -- bools
    cases hv; cases hu
    rename_i a b'
    have h1 := run_eq1 (w := w) hT (M := M) (ρ := ρ) (.bool a) (.bool b') he 9999
    refine ⟨by rcases hop with rfl | rfl <;> rfl, ?_, ?_⟩
    · show ((do pure (Value.bool (← Op.equal t (.bool a) (.bool b')))) : Sem Value).run P w = _
      simp [Op.equal, Op.maxDepth, h1]
    · show ((do pure (Value.bool (!(← Op.equal t (.bool a) (.bool b'))))) : Sem Value).run P w = _
      simp [Op.equal, Op.maxDepth, h1]
  · -- structs
    rename_i xs ys
    cases hv with
    | agg _ vs hl hr =>
      cases hu with
      | agg _ us hl' hr' =>
        split at he
        · rename_i fs b1 b2 b3 hi
          obtain ⟨pi, d, h1, h2, h3, h4, h5, h6⟩ := gather_info (hT t _ hi)
          obtain ⟨pf, rfl, hfs, hheld, hgrd⟩ := ul_struct h6.symm
          subst hfs
          have hfo : P.underlying t = some (.struct (P.fieldsOf t)) := by simp [Program.fieldsOf, h2]
          have hfe : P.fieldsOf t = pf := by simp [Program.fieldsOf, h2]
          have hrun := run_eqFs (w := w) hT (M := M) (ρ := ρ) ⟨hl, hr⟩ ⟨hl', hr'⟩ 9998 pf.toList b he
          have he1 := run_equalIn_struct (P := P) w 9999 t vs us hfo hheld.symm
          rw [hfe, hrun] at he1
          refine ⟨run_eqGuard_agg w op t ox oy vs us hgrd.symm, ?_, ?_⟩
          · rw [run_eql_struct, he1]; rfl
          · rw [run_neq_struct, he1]; rfl
        · cases he
  · cases hv
    cases hu with
    | iface tt x v hx =>
      split at he
      · rename_i b0 b1 b2 b3 hi
        simp only [Option.some.injEq] at he
        subst he
        obtain ⟨pi, d, h1, h2, h3, h4, h5, h6⟩ := gather_info (hT t _ hi)
        obtain ⟨ms, rfl⟩ := ul_iface h6.symm
        refine ⟨by rcases hop with rfl | rfl <;> rfl, ?_, ?_⟩
        · show ((do pure (Value.bool (← Op.equal t .nilIface (.iface _ v)))) : Sem Value).run P w = _
          simp only [Op.equal, Op.maxDepth, Sem.run_bind, (run_eqNilI (P := P) (w := w) h2 9999).1, (run_eqNilI (P := P) (w := w) h2 9999).2, Result.andThen_ok]; rfl
        · show ((do pure (Value.bool (!(← Op.equal t .nilIface (.iface _ v))))) : Sem Value).run P w = _
          simp only [Op.equal, Op.maxDepth, Sem.run_bind, (run_eqNilI (P := P) (w := w) h2 9999).1, (run_eqNilI (P := P) (w := w) h2 9999).2, Result.andThen_ok]; rfl
      · cases he
  · cases hu
    cases hv with
    | iface tt x v hx =>
      split at he
      · rename_i b0 b1 b2 b3 hi
        simp only [Option.some.injEq] at he
        subst he
        obtain ⟨pi, d, h1, h2, h3, h4, h5, h6⟩ := gather_info (hT t _ hi)
        obtain ⟨ms, rfl⟩ := ul_iface h6.symm
        refine ⟨by rcases hop with rfl | rfl <;> rfl, ?_, ?_⟩
        · show ((do pure (Value.bool (← Op.equal t (.iface _ v) .nilIface))) : Sem Value).run P w = _
          simp only [Op.equal, Op.maxDepth, Sem.run_bind, (run_eqNilI (P := P) (w := w) h2 9999).1, (run_eqNilI (P := P) (w := w) h2 9999).2, Result.andThen_ok]; rfl
        · show ((do pure (Value.bool (!(← Op.equal t (.iface _ v) .nilIface)))) : Sem Value).run P w = _
          simp only [Op.equal, Op.maxDepth, Sem.run_bind, (run_eqNilI (P := P) (w := w) h2 9999).1, (run_eqNilI (P := P) (w := w) h2 9999).2, Result.andThen_ok]; rfl
      · cases he
  · cases he

theorem run_eqNN {t : TypeId} {ms : Array (String × TypeId)} (h2 : P.underlying t = some (.interface ms)) (d : Nat) : (Op.equalIn (d + 1) t .nilIface .nilIface).run P w = .ok true w := by
  simp [Op.equalIn, run_ul h2]

theorem run_evNil (hT : TyOK P ty) {op : BinOp} {t : TypeId} {ox oy : Operand} {x y : AV} {v u : Value} {b : Bool} (hv : RelS M ρ l x v) (hu : RelS M ρ l y u) (he : evNil ty op t ox oy x y = some b) :
    (do eqGuard op t ox oy v u; binOp op t v u : Sem Value).run P w = .ok (.bool b) w := by
  unfold evNil at he
  split at he
  · cases he
  rename_i hc
  split at he
  · have hv : Rel M ρ (.opq .nilIface) v := hv
    have hu : Rel M ρ (.opq .nilIface) u := hu
    cases hv
    cases hu
    split at he
    · rename_i b0 b1 b2 b3 hi
      obtain ⟨pi, d, h1, h2, h3, h4, h5, h6⟩ := gather_info (hT t _ hi)
      obtain ⟨ms, rfl⟩ := ul_iface h6.symm
      have hq := run_eqNN (P := P) (w := w) h2 9999
      have hg : ∀ op, (eqGuard op t ox oy .nilIface .nilIface) = pure () := by
        intro op
        simp only [Bool.or_eq_true] at hc
        rcases hc with hc | hc
        · cases ox <;> first | (cases hc; done) | (cases op <;> rfl)
        · cases oy <;> first | (cases hc; done) | (cases op <;> cases ox <;> rfl)
      have he1 : (binOp .eql t .nilIface .nilIface).run P w = .ok (.bool true) w := by
        show ((do pure (Value.bool (← Op.equal t .nilIface .nilIface))) : Sem Value).run P w = _
        simp only [Op.equal, Op.maxDepth, Sem.run_bind, hq, Result.andThen_ok]; rfl
      have he2 : (binOp .neq t .nilIface .nilIface).run P w = .ok (.bool false) w := by
        show ((do pure (Value.bool (!(← Op.equal t .nilIface .nilIface)))) : Sem Value).run P w = _
        simp only [Op.equal, Op.maxDepth, Sem.run_bind, hq, Result.andThen_ok]; rfl
      rw [hg]
      split at he
      · cases he
        simp only [Sem.run_bind, Sem.run_pure, Result.andThen_ok, he1]
      · cases he
        simp only [Sem.run_bind, Sem.run_pure, Result.andThen_ok, he2]
      · cases he
    · cases he
  · cases he

theorem run_evArith {op : BinOp} {k : IntKind} {x y : Int} (hs : isShift op = false) (t : TypeId) (ox oy : Operand) (hh : (evArith op k x y).holds) :
    ∃ r, (∀ w : World, (do eqGuard op t ox oy (.int k x) (.int k y); binOp op t (.int k x) (.int k y) : Sem Value).run P w = .ok r w) ∧ Rel M ρ (evArith op k x y).val r := by
  have hb : ∀ s : Sem Value, (if k ≠ k then (stuck "BinOp: operands of different kinds" : Sem Value) else s) = s := fun s => by simp
  have hg : ∀ w : World, (eqGuard op t ox oy (.int k x) (.int k y)).run P w = .ok () w := fun w => by cases op <;> rfl
  cases op with
  | shl => simp [isShift] at hs
  | shr => simp [isShift] at hs
  | quo =>
    simp only [evArith, Res.holds, Res.val] at hh ⊢
    refine ⟨_, fun w => ?_, .int _ _⟩
    simp only [Sem.run_bind, hg, Result.andThen_ok, binOp, hb, Op.intDiv, hh, if_false]
    rfl
  | rem =>
    simp only [evArith, Res.holds, Res.val] at hh ⊢
    refine ⟨_, fun w => ?_, .int _ _⟩
    simp only [Sem.run_bind, hg, Result.andThen_ok, binOp, hb, Op.intDiv, hh, if_false]
    rfl
  | add => exact ⟨_, fun w => by simp only [Sem.run_bind, hg, Result.andThen_ok, binOp, hb]; rfl, .int _ _⟩
  | sub => exact ⟨_, fun w => by simp only [Sem.run_bind, hg, Result.andThen_ok, binOp, hb]; rfl, .int _ _⟩
  | mul => exact ⟨_, fun w => by simp only [Sem.run_bind, hg, Result.andThen_ok, binOp, hb]; rfl, .int _ _⟩
  | and => exact ⟨_, fun w => by simp only [Sem.run_bind, hg, Result.andThen_ok, binOp, hb]; rfl, .int _ _⟩
  | or => exact ⟨_, fun w => by simp only [Sem.run_bind, hg, Result.andThen_ok, binOp, hb]; rfl, .int _ _⟩
  | xor => exact ⟨_, fun w => by simp only [Sem.run_bind, hg, Result.andThen_ok, binOp, hb]; rfl, .int _ _⟩
  | andNot => exact ⟨_, fun w => by simp only [Sem.run_bind, hg, Result.andThen_ok, binOp, hb]; rfl, .int _ _⟩
  | eql => exact ⟨_, fun w => by simp only [Sem.run_bind, hg, Result.andThen_ok, binOp, hb]; rfl, .bool _⟩
  | neq => exact ⟨_, fun w => by simp only [Sem.run_bind, hg, Result.andThen_ok, binOp, hb]; rfl, .bool _⟩
  | lss => exact ⟨_, fun w => by simp only [Sem.run_bind, hg, Result.andThen_ok, binOp, hb]; rfl, .bool _⟩
  | leq => exact ⟨_, fun w => by simp only [Sem.run_bind, hg, Result.andThen_ok, binOp, hb]; rfl, .bool _⟩
  | gtr => exact ⟨_, fun w => by simp only [Sem.run_bind, hg, Result.andThen_ok, binOp, hb]; rfl, .bool _⟩
  | geq => exact ⟨_, fun w => by simp only [Sem.run_bind, hg, Result.andThen_ok, binOp, hb]; rfl, .bool _⟩

theorem run_evBin (hT : TyOK P ty) {op : BinOp} {t : TypeId} {x y : AV} {v u : Value} (hv : RelS M ρ l x v) (hu : RelS M ρ l y u) (ox oy : Operand) (hh : (evBin ty op t x y).holds) :
    ∃ r, (∀ w : World, (do eqGuard op t ox oy v u; binOp op t v u : Sem Value).run P w = .ok r w) ∧ RelS M ρ l (evBin ty op t x y).val r := by
  unfold evBin at hh ⊢
  split at hh
  · rename_i k x k' y
    cases hv; cases hu
    cases hs : isShift op with
    | true =>
      simp only [hs] at hh ⊢
      cases op <;> simp [isShift] at hs
      · simp only [evShift, Res.holds, Res.val] at hh ⊢
        refine ⟨_, fun w => ?_, RelS.of (.int _ _)⟩
        have : ¬ y < 0 := by omega
        simp [eqGuard, binOp, Op.shift, this]
      · simp only [evShift, Res.holds, Res.val] at hh ⊢
        refine ⟨_, fun w => ?_, RelS.of (.int _ _)⟩
        have : ¬ y < 0 := by omega
        simp [eqGuard, binOp, Op.shift, this]
    | false =>
      simp only [hs] at hh ⊢
      cases hk : decide (k = k') with
      | false => simp [hk, Res.holds] at hh
      | true =>
        simp only [hk] at hh ⊢
        have := of_decide_eq_true hk
        subst this
        obtain ⟨r, h1, h2⟩ := run_evArith (P := P) (M := M) (ρ := ρ) hs t ox oy hh
        exact ⟨r, h1, RelS.of h2⟩
  · rename_i x y
    cases hv; cases hu
    obtain ⟨r, h1, h2⟩ := run_evStr (P := P) (M := M) (ρ := ρ) hh
    refine ⟨r, fun w => ?_, RelS.of h2⟩
    have g : (eqGuard op t ox oy (.string ⟨x.toArray⟩) (.string ⟨y.toArray⟩)).run P w = .ok () w := by cases op <;> rfl
    have b : binOp op t (.string ⟨x.toArray⟩) (.string ⟨y.toArray⟩) = Op.stringOp op ⟨x.toArray⟩ ⟨y.toArray⟩ := by cases op <;> rfl
    simp only [Sem.run_bind, g, Result.andThen_ok, b, h1]
  · rename_i n1 n2
    have hpl : ∀ {b}, evEq ty t x y = some b → x.plain = true ∧ y.plain = true := by
      intro b hb
      unfold evEq at hb
      split at hb <;> first | exact ⟨rfl, rfl⟩ | (cases hb)
    split at hh
    · cases he : evEq ty t x y with
      | none => simp [he, Res.holds] at hh
      | some b =>
        obtain ⟨p1, p2⟩ := hpl he
        refine ⟨_, fun w => ?_, RelS.of (.bool b)⟩
        obtain ⟨g1, g2, g3⟩ := run_evEq (w := w) hT (hv.to p1) (hu.to p2) he .eql (.inl rfl) ox oy
        simp only [Sem.run_bind, g1, Result.andThen_ok, g2]
    · cases he : evEq ty t x y with
      | none => simp [he, Res.holds] at hh
      | some b =>
        obtain ⟨p1, p2⟩ := hpl he
        refine ⟨_, fun w => ?_, RelS.of (.bool !b)⟩
        obtain ⟨g1, g2, g3⟩ := run_evEq (w := w) hT (hv.to p1) (hu.to p2) he .neq (.inr rfl) ox oy
        simp only [Sem.run_bind, g1, Result.andThen_ok, g3]
    · simp [Res.holds] at hh

theorem run_evUn {op : UnOp} {x : AV} {v : Value} (hv : RelS M ρ l x v) (hh : (evUn op x).holds) : ∃ r, (∀ w : World, (Op.unary op v).run P w = .ok r w) ∧ RelS M ρ l (evUn op x).val r := by
  unfold evUn at hh ⊢
  split at hh
  · cases hv; exact ⟨_, fun _ => rfl, RelS.of (.bool _)⟩
  · cases hv; exact ⟨_, fun _ => rfl, RelS.of (.int _ _)⟩
  · cases hv; exact ⟨_, fun _ => rfl, RelS.of (.int _ _)⟩
  · simp [Res.holds] at hh

theorem run_evConv (hT : TyOK P ty) {s d : TypeId} {x : AV} {v : Value} (hv : RelS M ρ l x v) (hh : (evConv ty s d x).holds) : ∃ r, (∀ w : World, (convert s d v).run P w = .ok r w) ∧ RelS M ρ l (evConv ty s d x).val r := by
  unfold evConv at hh ⊢
  split at hh
  · rename_i k b1 b2 b3 hi
    obtain ⟨pi, dd, h1, h2, h3, h4, h5, h6⟩ := gather_info (hT d _ hi)
    obtain rfl := ul_int h6.symm
    cases x with
    | int k' n =>
      simp only at hh ⊢
      cases hs : ty s with
      | none => simp [hs, Res.holds] at hh
      | some i =>
        obtain ⟨qi, ds, g1, g2, g3, g4, g5, g6⟩ := gather_info (hT s _ hs)
        cases hv
        refine ⟨_, fun w => ?_, RelS.of (.int k _)⟩
        simp only [convert, Sem.run_bind, run_ul g2, run_ul h2, Result.andThen_ok]
        cases ds <;> rfl
    | _ => simp [Res.holds] at hh
  · rename_i b1 b2 b3 hi
    obtain ⟨pi, dd, h1, h2, h3, h4, h5, h6⟩ := gather_info (hT d _ hi)
    obtain rfl := ul_str h6.symm
    cases x with
    | str n =>
      simp only at hh ⊢
      cases hs : ty s with
      | none => simp [hs, Res.holds] at hh
      | some i =>
        obtain ⟨qi, ds, g1, g2, g3, g4, g5, g6⟩ := gather_info (hT s _ hs)
        cases hv
        refine ⟨_, fun w => ?_, RelS.of (.str n)⟩
        simp only [convert, Sem.run_bind, run_ul g2, run_ul h2, Result.andThen_ok]
        cases ds <;> rfl
    | _ => simp [Res.holds] at hh
  · simp [Res.holds] at hh

theorem run_evExtract {x : AV} {n : Nat} {v : Value} (hv : RelS M ρ l x v) (hh : (evExtract x n).holds) : ∃ r, (∀ w : World, (Instr.extract v n).run P w = .ok r w) ∧ RelS M ρ l (evExtract x n).val r := by
  unfold evExtract at hh ⊢
  split at hh
  · rename_i xs
    cases hv with
    | tuple _ vs hl hr =>
      split at hh
      · rename_i y hy
        have hlt : n < xs.length := (List.getElem?_eq_some_iff.1 hy).1
        have h1 := hr n hlt
        have h2 : vs[n]? = some (vs.getD n Go.undef) := by
          have : n < vs.size := by omega
          simp [Array.getD_eq_getD_getElem?, this]
        refine ⟨_, fun w => by simp only [Instr.extract, h2]; rfl, RelS.of ?_⟩
        have h3 : xs.getD n .undef = y := by simp [List.getD_eq_getElem?_getD, hy]
        rw [h3] at h1
        exact h1
      · simp [Res.holds] at hh
  · simp [Res.holds] at hh

end
end Go.Lift
