/- A part of the proof (own lemmas, no condition beyond those that each theorem states): the layer over the model that all of the proofs of this seat stand on. -/
import Derived.Test.YtobpjbcgmdbncaaGreatDoorLiftW
set_option linter.unusedVariables false
set_option linter.unusedSimpArgs false
set_option linter.unusedSectionVars false
namespace Go.Lift
open Go Go.RowKit
variable [G : Glob]

section
variable {P : Program} {ty : Tys} {N : Nat} {E : Ent} {M : Mem} {ρ : Rho} {l : Lam} {env : Env} {loc : Loc} {h h' : Heap} {a : Act} {w : World} {esc : Nat → Bool}

theorem updH_none {id i : Nat} {o : AObj} (e : updH h id (some o) i = none) : i ≠ id ∧ h i = none := by
  by_cases c : i = id
  · subst c; rw [updH_same] at e; cases e
  · exact ⟨c, by rw [updH_ne _ _ _ c] at e; exact e⟩
theorem hle_under {id i : Nat} {o o' : Option AObj} (hid : h id = none) : HLe (updH h i o) (updH (updH h id o') i o) := fun k => by
  by_cases c : k = i
  · subst c; exact .inr (by rw [updH_same, updH_same])
  · rw [updH_ne _ _ _ c, updH_ne _ _ _ c]
    exact hle_new hid k

/-- A call whose law is the kit's. -/
theorem ACalls.of_calls {g : FuncId} {fn : Func} {c : Code} (hf : P.funcs[g]? = some fn) (hb : fn.body = some c) (hname : (fn.name == "runtime.NumGoroutine") = false) {args : List AV} {Q : AV → Heap → Prop}
    (H : ∀ M ρ w vs, Sim M ρ h w → Rels M ρ args vs → Calls P g vs w fun e w' => ∃ v r h' M' ρ', e = .returned v ∧ Step M ρ h w M' ρ' h' w' ∧ Sim M' ρ' h' w' ∧ Rel M' ρ' r v ∧ Q r h') : ACalls P g args h Q := by
  refine ⟨fun M ρ w vs hs hr o a next Qx hnext => ?_⟩
  have hrun : (callFunc g vs).run P w = .ok (.enter g vs) w := by
    simp only [callFunc, Sem.run_bind, run_program, Result.andThen_ok, hf, hname, hb, Option.isNone_some, Bool.false_eq_true, if_false, Sem.run_pure]
  rw [hrun]
  show Calls P g vs w _
  refine Calls.mono (H M ρ w vs hs hr) ?_
  rintro e w' ⟨v, r, h', M', ρ', rfl, s1, s2, s3, s4⟩
  exact hnext v w' r h' M' ρ' s1 s2 s3 s4

/-- A new block that nothing is known of. -/
theorem step_alloc (s : Sim M ρ h w) (arr : Array Value) (el : TypeId) : Step M ρ h w M ρ h (w.alloc (.cells arr el)) ∧ Sim M ρ h (w.alloc (.cells arr el)) := by
  have hM : memRow M w.heap.size 0 arr = M := by
    funext x
    unfold memRow
    split
    · rename_i e
      simp only [Nat.not_lt_zero, and_false, if_false]
      cases hm : M x with
      | none => rfl
      | some v =>
        have := cell_lt (s.mem x v hm)
        omega
    · rfl
  obtain ⟨s1, s2, _⟩ := step_row (el := el) (fz := (0, 0)) (w' := w.alloc (.cells arr el)) s 0 (Nat.zero_le _) rfl rfl rfl rfl
  rw [hM] at s1 s2
  exact ⟨s1, s2⟩

/-- The first cell of an object of one cell is set. -/
theorem step_setCell (s : Sim M ρ h w) {id : Nat} {p : Pl} {x y : AV} {v : Value} (hid : h id = some (.cells [x])) (hp : ρ id = some p) (hy : Rel M ρ y v) :
    Step M ρ h w M ρ (updH h id (some (.cells [y]))) (w.setCell ⟨p.b, 0, none⟩ v) ∧ Sim M ρ (updH h id (some (.cells [y]))) (w.setCell ⟨p.b, 0, none⟩ v) := by
  obtain ⟨p', q1, q2, arr, el, q3, q4⟩ := s.obj id _ hid
  rw [hp] at q1; cases q1
  have hsz : 1 ≤ arr.size := q4.1
  refine step_set (o' := .cells [y]) s hid hp (by simp [World.setCell]) (fun b hb => Below.heap_setCell w ⟨p.b, 0, none⟩ v b hb) rfl rfl rfl (by simp) ⟨arr.setIfInBounds 0 v, el, ?_, by simpa using hsz, fun i hi => ?_⟩
  · simp only [World.setCell, Array.getElem?_modify, if_true, q3, Option.map_some]; rfl
  · have hi1 : i < 1 := hi
    have : i = 0 := by omega
    subst this
    simpa [Array.getD_eq_getD_getElem?, show 0 < arr.size by omega] using hy

/-! ### A body cut in two: the ways that lead to the cut meet there -/
def takeSeq : Nat → Code → Code
  | 0, _ => .skip
  | n + 1, .seq x y => .seq x (takeSeq n y)
  | _ + 1, _ => .skip
def dropSeq : Nat → Code → Code
  | 0, c => c
  | n + 1, .seq _ y => dropSeq n y
  | _ + 1, c => c

theorem cut_ind (hT : TyOK P ty) {K1 K : Kx} (he : ∀ e env loc h, e ≠ .normal → K1 e env loc h → K e env loc h) : ∀ (n : Nat) (c : Code) {env : Env} {loc : Loc} {h : Heap}, vcg P ty N esc (takeSeq n c) env loc h K1 →
    (∀ env loc h, K1 .normal env loc h → ACode P N (dropSeq n c) env loc h K) → ACode P N c env loc h K
  | 0, c, env, loc, h, hv, hp => hp _ _ _ hv
  | n + 1, c, env, loc, h, hv, hp => by
    cases c with
    | seq x y =>
      refine ⟨fun E M ρ l a w F => wp_seq (wp_mono ((vcg_sound hT x hv).out E M ρ l a w F) ?_)⟩
      rintro e a w ⟨env, loc, h, M, ρ, l, F, k⟩
      cases e with
      | normal => exact (cut_ind hT he n y k hp).out E M ρ l a w F
      | _ => exact ⟨env, loc, h, M, ρ, l, F, he _ _ _ _ (by simp) k⟩
    | _ => exact hp _ _ _ hv

/-- The cut: of the slots that matter behind it, told or kept. -/
theorem ACode.cut (hT : TyOK P ty) (esc : Nat → Bool) (n : Nat) {ι : Type} (J : ι → Prop) (ks kl : List Nat) (ue : ι → List (Nat × AV)) (ul : ι → List (Nat × List AV)) (uh : ι → Heap) {c : Code} {K : Kx}
    (hp : ∀ i, J i → plainsE (ue i) = true) (hk : ∀ i, J i → lptrOK env kl (ul i) ks = true)
    (pre : vcg P ty N esc (takeSeq n c) env loc h fun e env' loc' h' => match e with
      | .normal => ∃ i, J i ∧ AgainK ks kl env loc env' loc' h' (ue i) (ul i) (uh i)
      | e => K e env' loc' h')
    (post : ∀ i, J i → ACode P N (dropSeq n c) (overE (ue i) (keepE ks env)) (overL (ul i) (keepL kl loc)) (uh i) K) : ACode P N c env loc h K := by
  refine ⟨fun E M ρ l a w F => ?_⟩
  have hloc := F.ptrs
  refine (cut_ind hT (K := K) (fun e env loc h hne k => ?_) n c pre (fun env' loc' h' k => ?_)).out E M ρ l a w F
  · cases e <;> first | exact absurd rfl hne | exact k
  · obtain ⟨i, hi, a1, a2, a3, a4, a5⟩ := k
    refine ⟨fun E M ρ l a w F' => ?_⟩
    exact (post i hi).out _ _ _ _ _ _ (F'.le (overE_le a1 (keepE_le a4)) (overL_le a2 (keepL_le a5)) a3 (head_ptr (hp i hi) (hk i hi) hloc))

/-- The first n parts by reckoning; then another rule. -/
theorem ACode.upto (hT : TyOK P ty) (esc : Nat → Bool) (n : Nat) {c : Code} {K : Kx} (hK : vcg P ty N esc (takeSeq n c) env loc h fun e env loc h => match e with
    | .normal => ACode P N (dropSeq n c) env loc h K
    | e => K e env loc h) : ACode P N c env loc h K :=
  cut_ind hT (K := K) (fun e env loc h hne k => by cases e <;> first | exact absurd rfl hne | exact k) n c hK (fun _ _ _ k => k)

/-- By reckoning on. -/
theorem ACode.go (hT : TyOK P ty) (esc : Nat → Bool) {c : Code} {K : Kx} (hK : vcg P ty N esc c env loc h K) : ACode P N c env loc h K := vcg_sound hT c hK

theorem ACode.blockC {id : Nat} {c : Code} {K : Kx} (hK : ACode P N c env loc h fun e env loc h => match e with
    | .exit i => match Nat.beq i id with
      | true => K .normal env loc h
      | false => K (.exit i) env loc h
    | e => K e env loc h) : ACode P N (.block id c) env loc h K := by
  refine ⟨fun E M ρ l a w F => wp_block (wp_mono (hK.out E M ρ l a w F) ?_)⟩
  rintro e a w ⟨env, loc, h, M, ρ, l, F, hk⟩
  cases e with
  | exit i =>
    simp only [Exit.inBlock]
    simp only at hk
    cases hb : Nat.beq i id with
    | true =>
      rw [hb] at hk
      rw [if_pos (Nat.eq_of_beq_eq_true hb)]
      exact ⟨env, loc, h, M, ρ, l, F, hk⟩
    | false =>
      rw [hb] at hk
      have : i ≠ id := fun e => by subst e; simp at hb
      rw [if_neg this]
      exact ⟨env, loc, h, M, ρ, l, F, hk⟩
  | _ => exact ⟨env, loc, h, M, ρ, l, F, hk⟩

theorem ACode.seqC {x y : Code} {K1 K : Kx} (hx : ACode P N x env loc h K1) (hn : ∀ env loc h, K1 .normal env loc h → ACode P N y env loc h K) (he : ∀ e env loc h, e ≠ .normal → K1 e env loc h → K e env loc h) : ACode P N (.seq x y) env loc h K := by
  refine ⟨fun E M ρ l a w F => wp_seq (wp_mono (hx.out E M ρ l a w F) ?_)⟩
  rintro e a w ⟨env, loc, h, M, ρ, l, F, k⟩
  cases e with
  | normal => exact (hn _ _ _ k).out E M ρ l a w F
  | _ => exact ⟨env, loc, h, M, ρ, l, F, he _ _ _ _ (by simp) k⟩

/-- The loop rule, its round a piece of code of which anything may be shown. -/
theorem ACode.loopC {ι : Type} (I : ι → Prop) (μ : ι → Nat) (ks kl : List Nat) (ue : ι → List (Nat × AV)) (ul : ι → List (Nat × List AV)) (uh : ι → Heap) {c : Code} {K : Kx} (i0 : ι) (h0 : I i0)
    (s1 : agreeE (ue i0) env) (s2 : agreeL (ul i0) loc) (s3 : HLe (uh i0) h) (hp : ∀ i, I i → plainsE (ue i) = true) (hk : ∀ i, I i → lptrOK env kl (ul i) ks = true)
    (round : ∀ i, I i → ACode P N c (overE (ue i) (keepE ks env)) (overL (ul i) (keepL kl loc)) (uh i) fun e env' loc' h' => match e with
      | .normal => ∃ j, I j ∧ μ j < μ i ∧ AgainK ks kl env loc env' loc' h' (ue j) (ul j) (uh j)
      | e => K e env' loc' h') : ACode P N (.loop c) env loc h K := by
  refine ⟨fun E M ρ l a w F => ?_⟩
  have hloc := F.ptrs
  have F0 := F.le (overE_le s1 (keepE_le (sameE_refl env ks))) (overL_le s2 (keepL_le (sameL_refl loc kl))) s3 (head_ptr (hp i0 h0) (hk i0 h0) hloc)
  refine wp_loop_fam (fun i a w => I i ∧ ∃ M ρ l, Fr N E M ρ l (overE (ue i) (keepE ks env)) (overL (ul i) (keepL kl loc)) (uh i) a w) μ i0 ⟨h0, _, _, _, F0⟩ ?_
  rintro i a w ⟨hi, M, ρ, l, F⟩
  refine wp_mono ((round i hi).out E M ρ l a w F) ?_
  rintro e a w ⟨env', loc', h', M', ρ', l', F', hk'⟩
  cases e with
  | normal =>
    obtain ⟨j, hj, hlt, a1, a2, a3, a4, a5⟩ := hk'
    exact ⟨j, hlt, hj, _, _, _, F'.le (overE_le a1 (keepE_le a4)) (overL_le a2 (keepL_le a5)) a3 (head_ptr (hp j hj) (hk j hj) hloc)⟩
  | _ => exact ⟨env', loc', h', M', ρ', l', F', hk'⟩

end
end Go.Lift
