/- A part of the proof (own lemmas, no condition beyond those that each theorem states): the layer over the model that all of the proofs of this seat stand on. -/
import Derived.Test.YtobpjbcgmdbncaaGreatDoorLiftG
set_option linter.unusedVariables false
set_option linter.unusedSectionVars false
set_option linter.unusedSimpArgs false
namespace Go.Lift
open Go Go.RowKit
variable [G : Glob]
section
variable {P : Program} {ty : Tys} {N : Nat} {M : Mem} {ρ : Rho} {l : Lam} {env : Env} {loc : Loc} {h : Heap} {a : Act} {w : World}

theorem ESim.oev (f : ESim M ρ l env loc a w) (x : Option Operand) : ORel M ρ l (x.map (evO env)) (x.map a.eval) := by
  cases x with
  | none => trivial
  | some x => exact f.ev x

theorem ESim.evs (f : ESim M ρ l env loc a w) (xs : Array Operand) : (xs.toList.map (evO env)).length = (xs.map a.eval).size ∧ ∀ i, i < (xs.toList.map (evO env)).length → RelS M ρ l ((xs.toList.map (evO env)).getD i .undef) ((xs.map a.eval).getD i Go.undef) := by
  refine ⟨by simp, fun i hi => ?_⟩
  simp at hi
  have h1 : (xs.toList.map (evO env))[i]? = some (evO env xs[i]) := by simp [hi]
  have h2 : (xs.map a.eval)[i]? = some (a.eval xs[i]) := by simp [hi]
  simp only [List.getD_eq_getElem?_getD, Array.getD_eq_getD_getElem?, h1, h2]
  exact f.ev xs[i]

theorem ESim.evsR (f : ESim M ρ l env loc a w) (xs : Array Operand) (hp : xs.toList.all (fun x => (evO env x).plain) = true) : Rels M ρ (xs.toList.map (evO env)) (xs.map a.eval) := by
  obtain ⟨h1, h2⟩ := f.evs xs
  refine ⟨h1, fun i hi => (h2 i hi).to ?_⟩
  simp at hi
  have h3 : (xs.toList.map (evO env))[i]? = some (evO env xs[i]) := by simp [hi]
  simp only [List.getD_eq_getElem?_getD, h3]
  exact List.all_eq_true.1 hp xs[i] (by simp)

theorem ptrs_nil {x : AV} {v : Value} (hp : nilOK x = true) (hv : RelS M ρ l x v) : (∃ ad, v = .pointer (some ad)) ∨ ∃ f c d, v = .func (.func f) c d := by
  cases x with
  | ept x k g off => cases hv with | ept _ _ _ _ ad => exact .inl ⟨_, rfl⟩
  | lptr d off => obtain ⟨b, hb, rfl⟩ := hv; exact .inl ⟨_, rfl⟩
  | ptr d off => cases hv; exact .inl ⟨_, rfl⟩
  | func fn c d =>
    cases fn with
    | func f => cases hv; exact .inr ⟨_, _, _, rfl⟩
    | _ => simp [nilOK] at hp
  | _ => simp [nilOK] at hp

def isLoad : Op → Bool
  | .load _ _ => true
  | _ => false

theorem run_evS (hT : TyOK P ty) (f : ESim M ρ l env loc a w) (o : Oper) (hh : (evS ty env loc o.op).holds) :
    ∃ v, (∀ w', (isLoad o.op = true → SameR M loc l w w') → (execOp a.eval o).run P w' = .ok (.value v) w') ∧ RelS M ρ l (evS ty env loc o.op).val v := by
  obtain ⟨dst, op, type, pos, after, guard⟩ := o
  have lift : ∀ {s : Sem Value} {x : AV} {C : World → Prop}, (∃ r, (∀ w : World, s.run P w = .ok r w) ∧ RelS M ρ l x r) → ∃ v, (∀ w : World, C w → (do pure (Next.value (← s)) : Sem Next).run P w = .ok (.value v) w) ∧ RelS M ρ l x v := by
    rintro s x C ⟨r, h1, h2⟩
    exact ⟨r, fun w _ => by simp [h1], h2⟩
  cases op with
  | move x => exact ⟨_, fun _ _ => rfl, f.ev x⟩
  | assign x => exact ⟨_, fun _ _ => rfl, f.ev x⟩
  | pick c x y =>
    have hc := f.ev c
    simp only [evS, evPick] at hh ⊢
    split at hh
    · rename_i e
      rw [e] at hc
      have hc : Rel M ρ (.bool true) (a.eval c) := hc
      generalize hq : a.eval c = q at hc
      cases hc
      refine ⟨a.eval x, fun w _ => ?_, f.ev x⟩
      simp [execOp, hq, asBool]
    · rename_i e
      rw [e] at hc
      have hc : Rel M ρ (.bool false) (a.eval c) := hc
      generalize hq : a.eval c = q at hc
      cases hc
      refine ⟨a.eval y, fun w _ => ?_, f.ev y⟩
      simp [execOp, hq, asBool]
    · simp [Res.holds] at hh
  | load t p =>
    obtain ⟨u, h1, h2⟩ := run_evLoad hT f (f.ev p) hh
    exact ⟨u, fun w' sm => by simp [execOp, h1 w' (sm rfl)], RelS.of h2⟩
  | binOp op t x y yt =>
    simp only [evS] at hh ⊢
    split at hh
    · rename_i b hb
      exact lift ⟨.bool b, fun w => run_evNil hT (f.ev x) (f.ev y) hb, RelS.of (.bool b)⟩
    · obtain ⟨r, h1, h2⟩ := run_evBin hT (f.ev x) (f.ev y) x y hh
      exact lift ⟨r, h1, h2⟩
  | unOp op t x => exact lift (run_evUn (f.ev x) hh)
  | convert s d x => exact lift (run_evConv hT (f.ev x) hh)
  | fieldAddr t x fi =>
    simp only [evS] at hh ⊢
    split at hh
    · rename_i o i he
      split at hh
      · rename_i hc
        simp only [Bool.and_eq_true] at hc
        exact lift (run_fieldAddr hT he hc.1 hc.2 (f.ev x))
      · simp [Res.holds] at hh
    · simp [Res.holds] at hh
  | field t x fi =>
    simp only [evS] at hh ⊢
    split at hh
    · rename_i o i he
      obtain ⟨pf, fd, pi, d, g1, g2, g3, g4, g5, g6, g7⟩ := run_evField hT he
      have hx := f.ev x
      split at hh
      · rename_i cs hcs
        rw [hcs] at hx
        have hx : Rel M ρ (.agg cs) (a.eval x) := hx
        generalize hq : a.eval x = q at hx
        cases hx with
        | agg _ vs hl hr =>
          split at hh
          · rename_i hc
            simp only [Bool.and_eq_true, Bool.or_eq_true] at hc
            obtain ⟨c1, c2⟩ := hc
            have c1 := Nat.le_of_ble_eq_true c1
            obtain ⟨u, e1, e2⟩ := run_part g4 g5 (M := M) (ρ := ρ) (cs := cs) (vs := vs) ⟨hl, hr⟩ o (by omega) (by
              rcases c2 with c2 | c2
              · exact .inl (by rw [← g7]; exact c2)
              · exact .inr (by have := Nat.eq_of_beq_eq_true c2; omega))
            rw [← g7, g6] at e2
            refine ⟨u, fun w _ => ?_, RelS.of e2⟩
            simp [execOp, hq, Instr.field, run_ul g1, g2, asAgg, g3, e1]
          · simp [Res.holds] at hh
      · simp [Res.holds] at hh
    · simp [Res.holds] at hh
  | nilCheck x =>
    simp only [evS] at hh ⊢
    split at hh
    · rename_i hn
      refine ⟨a.eval x, fun w _ => ?_, f.ev x⟩
      rcases ptrs_nil hn (f.ev x) with ⟨ad, e⟩ | ⟨g, c, d, e⟩ <;> (simp only [execOp, e]; rfl)
    · simp [Res.holds] at hh
  | indexAddr t x i => exact lift (run_indexAddr hT (f.ev x) (f.ev i) hh)
  | index t x i => exact lift (run_index hT (f.ev x) (f.ev i) hh)
  | slice t x lo hi mx => exact lift (run_evSlice hT (f.ev x) (f.oev lo) (f.oev hi) (f.oev mx) hh)
  | extract x n => exact lift (run_evExtract (f.ev x) hh)
  | build t ps =>
    refine lift (run_evBuild hT (by simp) (fun i hi => ?_) hh)
    simp at hi
    have h1 : (ps.toList.map fun p => (p.1, evO env p.2))[i]? = some (ps[i].1, evO env ps[i].2) := by simp [hi]
    have h2 : (ps.map fun (p : Nat × Operand) => (p.1, a.eval p.2)).toList[i]? = some (ps[i].1, a.eval ps[i].2) := by simp [hi]
    have h3 : (ps.map fun (x : Nat × Operand) => match x with | (i, x) => (i, a.eval x)) = ps.map fun (p : Nat × Operand) => (p.1, a.eval p.2) := rfl
    rw [h3]
    simp only [List.getD_eq_getElem?_getD, h1, h2]
    exact ⟨rfl, f.ev _⟩
  | makeInterface t x =>
    simp only [evS] at hh ⊢
    split at hh
    · simp [Res.holds] at hh
    · rename_i i hne hi
      obtain ⟨pi, d, h1, h2, h3, h4, h5, h6⟩ := gather_info (hT t _ hi)
      split at hh
      · rename_i hp
        refine lift ⟨_, fun w => ?_, RelS.of (.iface t _ _ ((f.ev x).to hp))⟩
        simp only [Instr.makeInterface, Sem.run_bind, run_ul h2, Result.andThen_ok]
        cases d with
        | interface ms =>
          cases i with
          | mk de s b z =>
            simp only [tyOfDesc] at h6
            subst h6
            exact absurd rfl (hne ms.isEmpty s b z)
        | _ => rfl
      · simp [Res.holds] at hh
    · simp [Res.holds] at hh
  | makeFunc fn first captured =>
    simp only [evS] at hh ⊢
    split at hh
    · rename_i hp
      simp only [Bool.and_eq_true] at hp
      obtain ⟨a1, a2⟩ := f.evsR first hp.1
      obtain ⟨b1, b2⟩ := f.evsR captured hp.2
      exact lift ⟨_, fun _ => rfl, RelS.of (.func fn _ _ _ _ a1 b1 a2 b2)⟩
    · simp [Res.holds] at hh
  | call c =>
    simp only [evS] at hh ⊢
    split at hh
    · rename_i hc
      split at hh
      · rename_i t x ht hx
        have h0 : (c.args.map a.eval)[0]? = some (a.eval x) := by simp [hx]
        obtain ⟨r, h1, h2⟩ := run_len hT (f.ev x) hh c.argTypes type ht (c.args.map a.eval) h0
        refine ⟨r, fun w _ => ?_, h2⟩
        simp [execOp, resolve, hc, invoke, builtin, h1]
      · simp [Res.holds] at hh
    · rename_i hc
      obtain ⟨r, h1, h2⟩ := run_minmax (P := P) true (f.evs c.args) hh c.argTypes type
      refine ⟨r, fun w _ => ?_, h2⟩
      simp only at h1
      simp [execOp, resolve, hc, invoke, builtin, h1]
    · rename_i hc
      obtain ⟨r, h1, h2⟩ := run_minmax (P := P) false (f.evs c.args) hh c.argTypes type
      refine ⟨r, fun w _ => ?_, h2⟩
      simp only at h1
      simp [execOp, resolve, hc, invoke, builtin, h1]
    · simp [Res.holds] at hh
  | _ => simp [evS, Res.holds] at hh

end
end Go.Lift
