/- A part of the proof (own lemmas, no condition beyond those that each theorem states): the layer over the model that all of the proofs of this seat stand on. -/
import Derived.Test.YtobpjbcgmdbncaaGreatDoorLiftS
set_option linter.unusedVariables false
set_option linter.unusedSectionVars false
set_option linter.unusedSimpArgs false
namespace Go.Lift
open Go Go.RowKit
variable [G : Glob]

def branch (b : Bool) (X Y : Prop) : Prop :=
  match b with
  | true => X
  | false => Y
theorem branch_of {b : Bool} {X Y : Prop} (h1 : b = true → X) (h2 : b = false → Y) : branch b X Y := by
  cases b
  · exact h2 rfl
  · exact h1 rfl

/-- What stands in the slot of an operation that was passed over. -/
def skipV : AV := .tuple []

def evGuard (P : Program) (ty : Tys) (N : Nat) (esc : Nat → Bool) (fr : Option Nat) (all : List Oper) (o : Oper) (env : Env) (loc : Loc) (h : Heap) (K : Kt) : Prop :=
  match o.guard with
  | none => evOp P ty N esc fr o env loc h K
  | some (j, want) => match (all[j]?).bind (·.dst) with
    | none => False
    | some dj => match Nat.blt dj N && dstOK N o.dst with
      | false => False
      | true => match env dj with
        | .bool b => match want with
          | true => branch b (evOp P ty N esc fr o (updE env dj (.bool true)) loc h K) (K (putE (updE env dj (.bool false)) o.dst skipV) loc h)
          | false => branch b (K (putE (updE env dj (.bool true)) o.dst skipV) loc h) (evOp P ty N esc fr o (updE env dj (.bool false)) loc h K)
        | .tuple [] => K (putE env o.dst skipV) loc h
        | _ => False

def evOps (P : Program) (ty : Tys) (N : Nat) (esc : Nat → Bool) (all : List Oper) : List Oper → Env → Loc → Heap → Kt → Prop
  | [], env, loc, h, K => K env loc h
  | o :: r, env, loc, h, K => evGuard P ty N esc none all o env loc h fun env loc h => evOps P ty N esc all r env loc h K

section
variable {P : Program} {ty : Tys} {N : Nat} {E : Ent} {M : Mem} {ρ : Rho} {l : Lam} {env : Env} {loc : Loc} {h : Heap} {a : Act} {w : World} {esc : Nat → Bool} {fr : Option Nat} {st : Bool}

/-- A way of coming to the end of a piece of code. -/
abbrev Kx := Exit → Kt

/-- What the model is asked for: an end of which K holds. -/
def Post (N : Nat) (E : Ent) (K : Kx) : Exit → Act → World → Prop :=
  fun e a w => ∃ env loc h M ρ l, Fr N E M ρ l env loc h a w ∧ K e env loc h

structure ACode (P : Program) (N : Nat) (c : Code) (env : Env) (loc : Loc) (h : Heap) (K : Kx) : Prop where
  out : ∀ E M ρ l a w, Fr N E M ρ l env loc h a w → c.wp P (Post N E K) a w

def vcg (P : Program) (ty : Tys) (N : Nat) (esc : Nat → Bool) : Code → Env → Loc → Heap → Kx → Prop
  | .skip, env, loc, h, K => K .normal env loc h
  | .label _, env, loc, h, K => K .normal env loc h
  | .region id ops draw, env, loc, h, K => match draw with
    | false => evOps P ty N esc ops.toList ops.toList env loc h fun env loc h => K .normal env loc h
    | true => ACode P N (.region id ops true) env loc h K
  | .seq x y, env, loc, h, K => vcg P ty N esc x env loc h fun e env loc h => match e with
    | .normal => vcg P ty N esc y env loc h K
    | e => K e env loc h
  | .cond c x y, env, loc, h, K => match evO env c with
    | .bool b => branch b (vcg P ty N esc x env loc h K) (vcg P ty N esc y env loc h K)
    | _ => False
  | .block id c, env, loc, h, K => vcg P ty N esc c env loc h fun e env loc h => match e with
    | .exit i => match Nat.beq i id with
      | true => K .normal env loc h
      | false => K (.exit i) env loc h
    | e => K e env loc h
  | .loop c, env, loc, h, K => ACode P N (.loop c) env loc h K
  | .exit id, env, loc, h, K => K (.exit id) env loc h
  | .ret, env, loc, h, K => K .ret env loc h
  | _, _, _, _, _ => False

theorem yielded_eq {ops : Array Oper} {a : Act} {j dj : Nat} {b : Bool} (h1 : (ops.toList[j]?).bind (·.dst) = some dj) (hb : a.tmps.getD dj Go.undef = .bool b) : yielded ops a.tmps j = some b := by
  unfold yielded
  have h1 : (ops[j]?).bind (·.dst) = some dj := by simpa using h1
  rw [h1]
  simp only [Option.bind_some]
  cases hq : a.tmps[dj]? with
  | none => simp [Array.getD_eq_getD_getElem?, hq, Go.undef] at hb
  | some v =>
    have : v = .bool b := by simpa [Array.getD_eq_getD_getElem?, hq] using hb
    subst this; rfl

theorem yielded_skip {ops : Array Oper} {a : Act} {j dj : Nat} (h1 : (ops.toList[j]?).bind (·.dst) = some dj) (hb : a.tmps.getD dj Go.undef = .tuple #[]) : yielded ops a.tmps j = none := by
  unfold yielded
  have h1 : (ops[j]?).bind (·.dst) = some dj := by simpa using h1
  rw [h1]
  simp only [Option.bind_some]
  cases hq : a.tmps[dj]? with
  | none => rfl
  | some v =>
    have : v = .tuple #[] := by simpa [Array.getD_eq_getD_getElem?, hq] using hb
    subst this; rfl

theorem updE_self {e : Env} {d : Nat} {v : AV} (h : e d = v) : updE e d v = e := by
  funext i
  rw [updE_eq]
  by_cases hi : i = d
  · rw [if_pos hi, hi, h]
  · rw [if_neg hi]

/-- One operation of a region, its guard held against what stands. -/
theorem evGuard_sound (hT : TyOK P ty) (F : Fr N E M ρ l env loc h a w) {ops : Array Oper} (o : Oper) (hst : isStore o.op = true → st = true) {K : Kt} (hK : evGuard P ty N esc fr ops.toList o env loc h K) {next : Act → World → Prop} (hf : FrOK fr ρ h) (hn : Goes N E M ρ h w st fr K next) (Q : Exit → Act → World → Prop) :
    if Region.wanted o (yielded ops a.tmps) then o.wp P a w next Q else next (a.put o.dst Go.undef) w := by
  unfold evGuard at hK
  split at hK
  · rename_i hg
    have : Region.wanted o (yielded ops a.tmps) = true := by simp [Region.wanted, hg]
    rw [this, if_pos rfl]
    exact evOp_sound hT F o hst hK hf hn Q
  · rename_i j want hg
    split at hK
    · exact hK.elim
    rename_i dj hdj
    split at hK
    · exact hK.elim
    rename_i hlt
    simp only [Bool.and_eq_true] at hlt
    have hd := dstOK_to hlt.2
    have hs := F.f.slot dj
    have skip : ∀ {env'}, Fr N E M ρ l env' loc h a w → Fr N E M ρ l (putE env' o.dst skipV) loc h (a.put o.dst Go.undef) w := fun F' => F'.put hd (RelS.of (.tuple [] #[] rfl (fun i hi => by simp at hi)))
    split at hK
    · rename_i b hb
      rw [hb] at hs
      have hv : a.tmps.getD dj Go.undef = .bool b := by
        generalize a.tmps.getD dj Go.undef = q at hs
        cases hs; rfl
      have hy := yielded_eq hdj hv
      have hw : ∀ b', b = b' → Region.wanted o (yielded ops a.tmps) = (want == b') := fun b' e => by
        subst e
        unfold Region.wanted
        rw [hg]
        simp only [hy]
        cases want <;> cases b <;> rfl
      cases want
      · cases b
        · rw [hw false rfl, updE_self hb] at *
          exact evOp_sound hT F o hst hK hf hn Q
        · rw [hw true rfl, updE_self hb] at *
          exact hn _ _ _ _ _ _ _ _ (fun _ _ h => h) (stay_same st) fr_same (skip F) hK
      · cases b
        · rw [hw false rfl, updE_self hb] at *
          exact hn _ _ _ _ _ _ _ _ (fun _ _ h => h) (stay_same st) fr_same (skip F) hK
        · rw [hw true rfl, updE_self hb] at *
          exact evOp_sound hT F o hst hK hf hn Q
    · rename_i hb
      rw [hb] at hs
      have hv : a.tmps.getD dj Go.undef = .tuple #[] := by
        generalize a.tmps.getD dj Go.undef = q at hs
        cases hs with
        | tuple _ vs hl hr =>
          have : vs = #[] := by simpa using hl.symm
          rw [this]
      have hy := yielded_skip hdj hv
      have hw : Region.wanted o (yielded ops a.tmps) = false := by
        unfold Region.wanted
        rw [hg]
        simp [hy]
      rw [hw]
      exact hn _ _ _ _ _ _ _ _ (fun _ _ h => h) (stay_same st) fr_same (skip F) hK
    · exact hK.elim

theorem evOps_sound (hT : TyOK P ty) {ops : Array Oper} {K : Kx} : ∀ (r : List Oper) (i : Nat), (∀ j, r[j]? = ops[i + j]?) → i + r.length = ops.size → ∀ {env loc h M ρ l a w}, Fr N E M ρ l env loc h a w →
    evOps P ty N esc ops.toList r env loc h (fun env loc h => K .normal env loc h) → wpOps P ops (Post N E K) (List.range' i r.length) a w
  | [], i, _, _, env, loc, h, M, ρ, l, a, w, F, hK => by
    simp only [List.length_nil, List.range'_zero, wpOps]
    exact ⟨env, loc, h, M, ρ, l, F, hK⟩
  | o :: r, i, hr, hl, env, loc, h, M, ρ, l, a, w, F, hK => by
    have ho : ops[i]? = some o := by have := hr 0; simpa using this.symm
    simp only [List.length_cons, List.range'_succ, wpOps, ho]
    have := evGuard_sound (next := wpOps P ops (Post N E K) (List.range' (i + 1) r.length)) (st := true) hT F o (fun _ => rfl) hK (fun _ hn => by cases hn) (fun env loc h M ρ l a w _ _ _ F' hK' => evOps_sound hT r (i + 1) (fun j => by
      have := hr (j + 1)
      simp only [List.getElem?_cons_succ] at this
      rw [this]; congr 1; omega) (by simp at hl; omega) F' hK') (Post N E K)
    split
    · rename_i hw
      rw [if_pos hw] at this
      exact .inl this
    · rename_i hw
      rw [if_neg hw] at this
      exact this

theorem vcg_sound (hT : TyOK P ty) : ∀ (c : Code) {env loc h K}, vcg P ty N esc c env loc h K → ACode P N c env loc h K := by
  intro c
  induction c with
  | skip => exact fun hK => ⟨fun E M ρ l a w F => wp_skip ⟨_, _, _, _, _, _, F, hK⟩⟩
  | label n => exact fun hK => ⟨fun E M ρ l a w F => wp_label ⟨_, _, _, _, _, _, F, hK⟩⟩
  | exit id => exact fun hK => ⟨fun E M ρ l a w F => wp_exit ⟨_, _, _, _, _, _, F, hK⟩⟩
  | ret => exact fun hK => ⟨fun E M ρ l a w F => wp_ret ⟨_, _, _, _, _, _, F, hK⟩⟩
  | loop c ih => exact fun hK => hK
  | region id ops draw =>
    intro env loc h K hK
    cases draw with
    | true => exact hK
    | false =>
      refine ⟨fun E M ρ l a w F => wp_region ?_⟩
      rw [List.range_eq_range']
      have := evOps_sound hT (ops := ops) (K := K) ops.toList 0 (fun j => by simp) (by simp) F hK
      simpa using this
  | seq x y ihx ihy =>
    intro env loc h K hK
    refine ⟨fun E M ρ l a w F => wp_seq (wp_mono ((ihx hK).out E M ρ l a w F) ?_)⟩
    rintro e a w ⟨env, loc, h, M, ρ, l, F, hk⟩
    cases e with
    | normal => exact (ihy hk).out E M ρ l a w F
    | _ => exact ⟨env, loc, h, M, ρ, l, F, hk⟩
  | cond c x y ihx ihy =>
    intro env loc h K hK
    refine ⟨fun E M ρ l a w F => ?_⟩
    simp only [vcg] at hK
    split at hK
    · rename_i b hb
      have hv := F.f.ev c
      rw [hb] at hv
      generalize hq : a.eval c = q at hv
      cases hv
      refine wp_cond hq ?_
      cases b with
      | true => exact (ihx hK).out E M ρ l a w F
      | false => exact (ihy hK).out E M ρ l a w F
    · exact hK.elim
  | block id c ih =>
    intro env loc h K hK
    refine ⟨fun E M ρ l a w F => wp_block (wp_mono ((ih hK).out E M ρ l a w F) ?_)⟩
    rintro e a w ⟨env, loc, h, M, ρ, l, F, hk⟩
    cases e with
    | exit i =>
      simp only [Exit.inBlock]
      simp only at hk
      cases hb : Nat.beq i id with
      | true =>
        rw [hb] at hk
        rw [if_pos (Nat.eq_of_beq_eq_true hb)]
        exact ⟨env, loc, h, M, ρ, l, F, hk⟩
      | false =>
        rw [hb] at hk
        have : i ≠ id := fun e => by subst e; simp at hb
        rw [if_neg this]
        exact ⟨env, loc, h, M, ρ, l, F, hk⟩
    | _ => exact ⟨env, loc, h, M, ρ, l, F, hk⟩
  | _ => exact fun hK => hK.elim

end
end Go.Lift
