/- A part of the proof (own lemmas, no condition beyond those that each theorem states): the layer over the model that all of the proofs of this seat stand on. -/
import Derived.Test.YtobpjbcgmdbncaaGreatDoorLiftT
import Derived.Tactics
import Derived.LoopN
import Derived.Laws.BitsLemmas
import Derived.Laws.Bits64
set_option linter.unusedVariables false
set_option linter.unusedSectionVars false
set_option linter.unusedSimpArgs false
namespace Go.Lift
open Go Go.RowKit
variable [G : Glob]

section
variable {P : Program} {ty : Tys} {N : Nat} {E : Ent} {M : Mem} {ρ : Rho} {l : Lam} {env : Env} {loc : Loc} {h h' : Heap} {a : Act} {w : World} {esc : Nat → Bool} {S : Nat → Prop}

/-- A loop of at most n rounds, each by itself. -/
structure ARounds (P : Program) (N : Nat) (c : Code) (n : Nat) (env : Env) (loc : Loc) (h : Heap) (K : Kx) : Prop where
  out : ∀ E M ρ l a w, Fr N E M ρ l env loc h a w → Code.rounds P c (Post N E K) n a w

theorem ACode.rounds {c : Code} {K : Kx} (n : Nat) (hK : ARounds P N c n env loc h K) : ACode P N (.loop c) env loc h K :=
  ⟨fun E M ρ l a w F => wp_loop_rounds n (hK.out E M ρ l a w F)⟩

theorem ARounds.step (hT : TyOK P ty) (esc : Nat → Bool) {c : Code} {n : Nat} {K : Kx} (hK : vcg P ty N esc c env loc h fun e env loc h => match e with
    | .normal => ARounds P N c n env loc h K
    | e => K e env loc h) : ARounds P N c (n + 1) env loc h K := by
  refine ⟨fun E M ρ l a w F => ?_⟩
  rw [rounds_succ]
  refine wp_mono ((vcg_sound hT c hK).out E M ρ l a w F) ?_
  rintro e a w ⟨env', loc', h', M', ρ', l', F', hk⟩
  cases e with
  | normal => exact hk.out E M' ρ' l' a w F'
  | _ => exact ⟨env', loc', h', M', ρ', l', F', hk⟩

theorem wi64 {n : Int} (h1 : -9223372036854775808 ≤ n) (h2 : n < 9223372036854775808) : IntKind.i64.wrap n = n := by rw [IntKind.wrap_i64]; omega
theorem wu64 {n : Int} (h1 : 0 ≤ n) (h2 : n < 18446744073709551616) : IntKind.u64.wrap n = n := by rw [IntKind.wrap_u64]; omega
theorem wu32 {n : Int} (h1 : 0 ≤ n) (h2 : n < 4294967296) : IntKind.u32.wrap n = n := by rw [IntKind.wrap_u32]; omega
theorem wu8 {n : Int} (h1 : 0 ≤ n) (h2 : n < 256) : IntKind.u8.wrap n = n := by rw [IntKind.wrap_u8]; omega
theorem int_congr {k : IntKind} {n m : Int} (h : n = m) : AV.int k n = AV.int k m := by rw [h]

theorem putAll {cs vs : List AV} (hl : vs.length = cs.length) : putCells cs 0 vs = vs := by
  rw [putCells_eq (by omega)]
  simp [hl]

theorem hle_new {id : Nat} {o : Option AObj} (hid : h id = none) : HLe h (updH h id o) := fun i => by
  by_cases e : i = id
  · subst e; exact .inl hid
  · exact .inr (by rw [updH_ne _ _ _ e])
theorem hle_new2 {id : Nat} {o o' : Option AObj} (hid : h id = none) : HLe h (updH (updH h id o) id o') := fun i => by
  by_cases e : i = id
  · subst e; exact .inl hid
  · exact .inr (by rw [updH_ne _ _ _ e, updH_ne _ _ _ e])

theorem ACalls.at {g : FuncId} {args args' : List AV} {Q : AV → Heap → Prop} (e : args = args') (c : ACalls P g args' h Q) : ACalls P g args h Q := e ▸ c

end
end Go.Lift
