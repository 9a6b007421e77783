/- A part of the proof (own lemmas, no condition beyond those that each theorem states): the layer over the model that all of the proofs of this seat stand on. -/
import Derived.Test.YtdgnciclfeojnaaGreatDoorLiftM
import Derived.OrdersHeld
set_option linter.unusedVariables false
set_option linter.unusedSectionVars false
set_option linter.unusedSimpArgs false
namespace Go.Lift
open Go Go.RowKit
variable [G : Glob]

/-- Where an operation that touches nothing goes on, its guard held against what stands. -/
def evStill (ty : Tys) (N : Nat) (all : List Oper) (o : Oper) (env : Env) (loc : Loc) (K : Env → Prop) : Prop :=
  match dstOK N o.dst with
  | false => False
  | true => match o.guard with
    | none => goOn (evS ty env loc o.op) fun v => K (putE env o.dst v)
    | some (j, want) => match (all[j]?).bind (·.dst) with
      | none => False
      | some dj => match Nat.blt dj N with
        | false => False
        | true => match env dj with
          | .bool b => match want with
            | true => branch b (goOn (evS ty (updE env dj (.bool true)) loc o.op) fun v => K (putE (updE env dj (.bool true)) o.dst v)) (K (putE (updE env dj (.bool false)) o.dst skipV))
            | false => branch b (K (putE (updE env dj (.bool true)) o.dst skipV)) (goOn (evS ty (updE env dj (.bool false)) loc o.op) fun v => K (putE (updE env dj (.bool false)) o.dst v))
          | .tuple [] => K (putE env o.dst skipV)
          | _ => False

/-- A region in an order of ours: those that touch nothing are marked, the others stand in the one order that there is. -/
def evD (P : Program) (ty : Tys) (N : Nat) (esc : Nat → Bool) (all : List Oper) : List (Bool × Nat) → Env → Loc → Heap → Kt → Prop
  | [], env, loc, h, K => K env loc h
  | (still, i) :: r, env, loc, h, K => match all[i]? with
    | none => False
    | some o => match still with
      | true => evStill ty N all o env loc fun env => evD P ty N esc all r env loc h K
      | false => evGuard P ty N esc all o env loc h fun env loc h => evD P ty N esc all r env loc h K

/-- Does the order hold? -/
def drawOK (ops : Array Oper) : List (Bool × Nat) → Array Bool → Bool
  | [], listed => (Region.ready .any ops listed).isEmpty
  | (still, i) :: r, listed => (match still with
    | true => (Region.ready .any ops listed).contains i && Region.free .any ops listed i
    | false => match Region.ready .any ops listed with
      | [j] => Nat.beq j i
      | _ => false) && drawOK ops r (listed.setIfInBounds i true)

/-- Where something is stored, or a variable is made, no load may be taken ahead. -/
def stillOK (ops : Array Oper) (σ : List (Bool × Nat)) : Bool :=
  Region.noSelect ops && Nat.beq σ.length ops.size && (!(ops.toList.any fun o => isStore o.op) || σ.all fun x => match ops[x.2]? with
    | some o => !x.1 || !isLoad o.op
    | none => false)

section
variable {P : Program} {ty : Tys} {N : Nat} {E : Ent} {M : Mem} {ρ : Rho} {l : Lam} {env : Env} {loc : Loc} {h : Heap} {a : Act} {w : World} {esc : Nat → Bool} {S : Nat → Prop}

/-- An operation that is no store and makes no variable leaves the function's own variables. -/
theorem evOpA_loc {o : Oper} (hn : isStore o.op = false) {K : Kt} (hK : evOpA P ty N esc o env loc h K) : evOpA P ty N esc o env loc h fun env' loc' h' => loc' = loc ∧ K env' loc' h' := by
  have go : ∀ {r : Res} {K K' : AV → Prop}, goOn r K → (∀ v, K v → K' v) → goOn r K' := by
    intro r K K' h hk
    cases r with
    | v x => rw [goOn, force_eq] at *; exact hk _ h
    | ask x => obtain ⟨v, e, h⟩ := h; exact ⟨v, e, hk _ h⟩
    | cond c x => rw [goOn, force_eq] at *; exact ⟨h.1, hk _ h.2⟩
    | bad => exact h
  unfold evOpA at hK ⊢
  split at hK
  · exact hK.elim
  split at hK
  · rename_i ho; rw [ho] at hn; cases hn
  · rename_i ho; rw [ho] at hn; cases hn
  · rename_i ho; rw [ho] at hn; cases hn
  · split at hK
    · split at hK
      · exact hK.elim
      split at hK
      · exact hK.elim
      obtain ⟨hle, hK⟩ := chk_to hK
      refine chk_of hle ?_
      unfold evLoadK at hK ⊢
      split at hK
      · exact hK.elim
      rw [force_eq] at *
      exact ⟨rfl, hK⟩
    · split at hK
      · exact hK.elim
      obtain ⟨cs, h1, h2, hK⟩ := hK
      refine ⟨cs, h1, h2, ?_⟩
      unfold evLoadP at hK ⊢
      split at hK
      · exact hK.elim
      obtain ⟨v, e, hK⟩ := hK
      exact ⟨v, e, rfl, hK⟩
    · exact go hK fun v h => ⟨rfl, h⟩
  · split at hK
    · unfold evCall at hK ⊢
      split at hK
      · split at hK
        · exact hK.elim
        · exact hK.mono fun r h' hk => ⟨rfl, hk⟩
      · exact hK.elim
    · exact go hK fun v h => ⟨rfl, h⟩
  · exact go hK fun v h => ⟨rfl, h⟩


theorem evOp_loc {o : Oper} (hn : isStore o.op = false) {K : Kt} (hK : evOp P ty N esc o env loc h K) : evOp P ty N esc o env loc h fun env' loc' h' => loc' = loc ∧ K env' loc' h' := by
  have bytes : ∀ {x : AV}, evBytes o.dst x env loc h K → evBytes o.dst x env loc h fun env' loc' h' => loc' = loc ∧ K env' loc' h' := by
    intro x hK
    unfold evBytes at hK ⊢
    split at hK
    · exact ⟨hK.1, rfl, hK.2⟩
    · split at hK
      · exact hK.elim
      · obtain ⟨r, h1, h2⟩ := hK
        exact ⟨r, h1, rfl, h2⟩
    · obtain ⟨cs, r, h1, h2, h3, h4⟩ := hK
      exact ⟨cs, r, h1, h2, h3, rfl, h4⟩
    · exact hK.elim
  have app : ∀ {i : TInfo} {x y : AV}, evAppend o.dst i x y env loc h K → evAppend o.dst i x y env loc h fun env' loc' h' => loc' = loc ∧ K env' loc' h' := by
    intro i x y hK
    unfold evAppend at hK ⊢
    split at hK
    · exact hK.elim
    split at hK
    · split at hK
      · exact hK.elim
      split at hK
      · split at hK
        · exact hK.elim
        · exact ⟨hK.1, hK.2.1, fun t ht => ⟨rfl, hK.2.2 t ht⟩⟩
      · split at hK
        · exact hK.elim
        · rcases branch'_to hK with ⟨h1, h2⟩ | ⟨h1, h2, h3⟩
          · rw [h1]; exact ⟨rfl, h2⟩
          · rw [h1]; exact ⟨h2, fun t ht => ⟨rfl, h3 t ht⟩⟩
      · exact hK.elim
    · exact hK.elim
  have row : ∀ {i : TInfo} {len : Nat} {ps : List (Nat × AV)}, evBuildSlice esc o.dst i len ps env loc h K → evBuildSlice esc o.dst i len ps env loc h fun env' loc' h' => loc' = loc ∧ K env' loc' h' := by
    intro i len ps hK
    unfold evBuildSlice at hK ⊢
    split at hK
    · exact hK.elim
    split at hK
    · exact hK.elim
    split at hK
    · exact ⟨rfl, hK⟩
    · exact fun id hid => ⟨rfl, hK id hid⟩
  have mk : ∀ {i : TInfo} {x y : AV}, evMakeSlice esc o.dst i x y env loc h K → evMakeSlice esc o.dst i x y env loc h fun env' loc' h' => loc' = loc ∧ K env' loc' h' := by
    intro i x y hK
    unfold evMakeSlice at hK ⊢
    split at hK
    · exact hK.elim
    split at hK
    · exact hK.elim
    split at hK
    · refine ⟨hK.1, ?_⟩
      have hK := hK.2
      split at hK
      · exact fun id hid => ⟨rfl, hK id hid⟩
      · exact fun id hid => ⟨rfl, hK id hid⟩
    · exact hK.elim
  unfold evOp at hK ⊢
  split at hK
  · split at hK
    · exact hK.elim
    split at hK
    · split at hK
      · exact row hK
      · exact hK.elim
    · exact hK.elim
  · split at hK
    · exact hK.elim
    split at hK
    · split at hK
      · exact mk hK
      · exact hK.elim
    · exact hK.elim
  · split at hK
    · split at hK
      · exact hK.elim
      split at hK
      · exact bytes hK
      · exact bytes hK
      · exact bytes hK
      · exact hK.elim
    · exact evOpA_loc hn hK
  · split at hK
    · split at hK
      · exact hK.elim
      · unfold evNilS at hK ⊢
        split at hK
        · split at hK
          · exact fun b hb => ⟨rfl, hK b hb⟩
          · exact fun b hb => ⟨rfl, hK b hb⟩
          · exact hK.elim
        · split at hK
          · exact ⟨rfl, hK⟩
          · exact ⟨rfl, hK⟩
          · exact hK.elim
        · exact hK.elim
    · exact evOpA_loc hn hK
  · split at hK
    · split at hK
      · exact hK.elim
      split at hK
      · split at hK
        · split at hK
          · split at hK
            · exact app hK
            · exact app hK
            · exact hK.elim
          · exact hK.elim
        · exact hK.elim
      · exact hK.elim
    · exact evOpA_loc hn hK
  · exact evOpA_loc hn hK

theorem branch_mono {b : Bool} {X Y X' Y' : Prop} (h : branch b X Y) (hx : X → X') (hy : Y → Y') : branch b X' Y' := by
  cases b
  · exact hy h
  · exact hx h

theorem evGuard_loc {all : List Oper} {o : Oper} (hn : isStore o.op = false) {K : Kt} (hK : evGuard P ty N esc all o env loc h K) : evGuard P ty N esc all o env loc h fun env' loc' h' => loc' = loc ∧ K env' loc' h' := by
  unfold evGuard at hK ⊢
  split at hK
  · exact evOp_loc hn hK
  split at hK
  · exact hK.elim
  split at hK
  · exact hK.elim
  split at hK
  · split at hK
    · exact branch_mono hK (evOp_loc hn) fun h => ⟨rfl, h⟩
    · exact branch_mono hK (fun h => ⟨rfl, h⟩) (evOp_loc hn)
  · exact ⟨rfl, hK⟩
  · exact hK.elim

/-- What stays through a region: what is read, and the function's own variables. -/
structure Held (M : Mem) (S : Nat → Prop) (w0 : World) (w : World) : Prop where
  mem : ∀ x v, M x = some v → w.cell? x = some v
  blk : ∀ b, S b → w.heap[b]? = w0.heap[b]?

theorem wpAnyH_mono {ops : Array Oper} {Q : Exit → Act → World → Prop} {md : Region.Mode} {C C' : World → Prop} (hC : ∀ w, C w → C' w) : ∀ (fuel : Nat) (listed : Array Bool) (a : Act) (w : World), wpAnyH P md ops Q C fuel listed a w → wpAnyH P md ops Q C' fuel listed a w
  | 0, _, _, _, h => h
  | fuel + 1, _, _, _, h => ⟨h.1, fun i hi => wpOp_mono (fun a' w' h' => ⟨hC _ h'.1, wpAnyH_mono hC fuel _ a' w' h'.2⟩) (h.2 i hi)⟩

/-- The value that an operation gives which touches nothing. -/
theorem still_yields (hT : TyOK P ty) (F : Fr N E M ρ l env loc h a w) {o : Oper} (hd : ∀ t, o.dst = some t → t < N) (hl : isLoad o.op = true → ∀ d cs b, loc d = some cs → l d = some b → S b) {K : Env → Prop} (hK : goOn (evS ty env loc o.op) fun v => K (putE env o.dst v)) :
    ∃ v env', (∀ w', Held M S w w' → (execOp a.eval o).run P w' = .ok (.value v) w') ∧ Fr N E M ρ l env' loc h (a.put o.dst v) w ∧ K env' := by
  obtain ⟨h1, h2⟩ := goOn_to hK
  obtain ⟨v, e1, e2⟩ := run_evS hT F.f.e o h1
  exact ⟨v, _, fun w' hw => e1 w' fun hld => ⟨hw.mem, fun d cs b g1 g2 => hw.blk b (hl hld d cs b g1 g2)⟩, F.put hd e2, h2⟩

theorem evStill_sound (hT : TyOK P ty) (F : Fr N E M ρ l env loc h a w) {ops : Array Oper} {o : Oper} (hl : isLoad o.op = true → ∀ d cs b, loc d = some cs → l d = some b → S b) {K : Env → Prop} (hK : evStill ty N ops.toList o env loc K) :
    ∃ v env', YieldsIf P ops (Held M S w) o v a ∧ Fr N E M ρ l env' loc h (a.put o.dst v) w ∧ K env' := by
  unfold evStill at hK
  split at hK
  · exact hK.elim
  rename_i hd
  have hd := dstOK_to hd
  split at hK
  · rename_i hg
    have hw : Region.wanted o (yielded ops a.tmps) = true := by simp [Region.wanted, hg]
    obtain ⟨v, env', h1, h2, h3⟩ := still_yields (S := S) hT F hd hl hK
    exact ⟨v, env', .inl ⟨hw, h1⟩, h2, h3⟩
  · rename_i j want hg
    split at hK
    · exact hK.elim
    rename_i dj hdj
    split at hK
    · exact hK.elim
    have hs := F.f.slot dj
    have skip : Fr N E M ρ l (putE env o.dst skipV) loc h (a.put o.dst Go.undef) w := F.put hd (RelS.of (.tuple [] #[] rfl (fun i hi => by simp at hi)))
    split at hK
    · rename_i b hb
      rw [hb] at hs
      have hv : a.tmps.getD dj Go.undef = .bool b := by
        generalize a.tmps.getD dj Go.undef = q at hs
        cases hs; rfl
      have hy := yielded_eq hdj hv
      have hw : ∀ b', b = b' → Region.wanted o (yielded ops a.tmps) = (want == b') := fun b' e => by
        subst e
        unfold Region.wanted
        rw [hg]
        simp only [hy]
        cases want <;> cases b <;> rfl
      cases want
      · cases b
        · have hw := hw false rfl
          simp only [updE_self hb] at hK
          obtain ⟨v, env', h1, h2, h3⟩ := still_yields (S := S) hT F hd hl hK
          exact ⟨v, env', .inl ⟨hw, h1⟩, h2, h3⟩
        · have hw := hw true rfl
          simp only [updE_self hb] at hK
          exact ⟨_, _, .inr ⟨hw, rfl⟩, skip, hK⟩
      · cases b
        · have hw := hw false rfl
          simp only [updE_self hb] at hK
          exact ⟨_, _, .inr ⟨hw, rfl⟩, skip, hK⟩
        · have hw := hw true rfl
          simp only [updE_self hb] at hK
          obtain ⟨v, env', h1, h2, h3⟩ := still_yields (S := S) hT F hd hl hK
          exact ⟨v, env', .inl ⟨hw, h1⟩, h2, h3⟩
    · rename_i hb
      rw [hb] at hs
      have hv : a.tmps.getD dj Go.undef = .tuple #[] := by
        generalize a.tmps.getD dj Go.undef = q at hs
        cases hs with
        | tuple _ vs hl hr =>
          have : vs = #[] := by simpa using hl.symm
          rw [this]
      have hy := yielded_skip hdj hv
      have hw : Region.wanted o (yielded ops a.tmps) = false := by
        unfold Region.wanted
        rw [hg]
        simp [hy]
      exact ⟨_, _, .inr ⟨hw, rfl⟩, skip, hK⟩
    · exact hK.elim

theorem evD_sound (hT : TyOK P ty) {ops : Array Oper} {K : Kx} {Q : Exit → Act → World → Prop} (hQ : ∀ c a w, ¬ Q (.panic c) a w) (hQn : ∀ env loc h M ρ l a w, Fr N E M ρ l env loc h a w → K .normal env loc h → Q .normal a w)
    (hs : Region.noSelect ops = true) (ld : Bool) (hst : ld = true → ∀ o ∈ ops.toList, isStore o.op = false) (hS0 : ld = false → ∀ b, ¬ S b) :
    ∀ (σ : List (Bool × Nat)) (listed : Array Bool) (env : Env) (loc : Loc) (h : Heap) (M : Mem) (ρ : Rho) (l : Lam) (a : Act) (w : World), Fr N E M ρ l env loc h a w → drawOK ops σ listed = true →
      (ld = false → ∀ x ∈ σ, ∀ o, ops[x.2]? = some o → x.1 = true → isLoad o.op = false) → SOK S h ρ w → (ld = true → ∀ d cs b, loc d = some cs → l d = some b → S b) →
      evD P ty N esc ops.toList σ env loc h (fun env loc h => K .normal env loc h) → wpAnyH P .any ops Q (Held M S w) σ.length listed a w := by
  intro σ
  induction σ with
  | nil =>
    intro listed env loc h M ρ l a w F hd _ _ _ hK
    refine wpAnyH_done ?_ (hQn _ _ _ _ _ _ _ _ F hK) 0
    simpa [drawOK] using hd
  | cons x σ ih =>
    obtain ⟨still, i⟩ := x
    intro listed env loc h M ρ l a w F hd hld hSO hSl hK
    simp only [drawOK, Bool.and_eq_true] at hd
    obtain ⟨hd1, hd2⟩ := hd
    simp only [evD] at hK
    split at hK
    · exact hK.elim
    rename_i o ho
    have ho' : ops[i]? = some o := by simpa using ho
    have hmem : o ∈ ops.toList := List.mem_of_getElem? ho
    split at hK
    · simp only [Bool.and_eq_true] at hd1
      obtain ⟨v, env', h1, h2, h3⟩ := evStill_sound (S := S) hT F (ops := ops) (o := o) (fun hl => by
        cases ld with
        | true => exact hSl rfl
        | false => have := hld rfl (true, i) List.mem_cons_self o ho' rfl; rw [hl] at this; cases this) hK
      refine wpAnyH_take ho' hs hd1.2 hd1.1 (fun c a w hq => absurd hq (hQ c _ w)) h1 ⟨F.f.sim.mem, fun _ _ => rfl⟩ ?_
      exact ih _ env' loc h M ρ l _ w h2 hd2 (fun e x hx => hld e x (List.mem_cons_of_mem _ hx)) hSO hSl h3
    · have hready : Region.ready .any ops listed = [i] := by
        simp only at hd1
        split at hd1
        · rename_i j hj
          rw [hj, Nat.eq_of_beq_eq_true hd1]
        · cases hd1
      refine wpAnyH_all hready (by simp) fun j hj => ?_
      have : j = i := by simpa using hj
      subst this
      unfold wpOp
      simp only [ho']
      have hSE : isStore o.op = true → ∀ b, ¬ S b := fun hst' => by
        cases ld with
        | true => rw [hst rfl o hmem] at hst'; cases hst'
        | false => exact hS0 rfl
      have key : Goes N E M l w S (fun env' loc' h' => (isStore o.op = false → loc' = loc) ∧ evD P ty N esc ops.toList σ env' loc' h' fun env loc h => K .normal env loc h) (fun a' w' => Held M S w w' ∧ wpAnyH P .any ops Q (Held M S w) σ.length (listed.setIfInBounds j true) a' w') := by
        intro env' loc' h' M' ρ' l' a' w' hm hb F' hk
        have hheld : Held M S w w' := ⟨fun x v hx => F'.f.sim.mem x v (hm x v hx), fun b hSb => (hb b hSb).1⟩
        refine ⟨hheld, wpAnyH_mono (C := Held M' S w') (fun w2 h2 => ⟨fun x v hx => h2.mem x v (hm x v hx), fun b hSb => (h2.blk b hSb).trans (hb b hSb).1⟩) _ _ _ _ ?_⟩
        refine ih _ env' loc' h' M' ρ' l' a' w' F' hd2 (fun e x hx => hld e x (List.mem_cons_of_mem _ hx)) (fun b hSb => ⟨(hb b hSb).2.1, (hb b hSb).2.2.1⟩) (fun e d cs b g1 g2 => ?_) hk.2
        have hloc := hk.1 (hst e o hmem)
        rw [hloc] at g1
        obtain ⟨b0, q1, _⟩ := F.f.lo d cs g1
        have hSb := hSl e d cs b0 g1 q1
        have := (hb b0 hSb).2.2.2 d q1
        rw [g2] at this
        cases this
        exact hSb
      have hK' : evGuard P ty N esc ops.toList o env loc h (fun env' loc' h' => (isStore o.op = false → loc' = loc) ∧ evD P ty N esc ops.toList σ env' loc' h' fun env loc h => K .normal env loc h) := by
        cases hq : isStore o.op with
        | false =>
          have := evGuard_loc hq hK
          simpa [hq] using this
        | true => simpa [hq] using hK
      have := evGuard_sound hT F o hSE hK' hSO key Q
      split
      · rename_i hw; rw [if_pos hw] at this; exact .inl this
      · rename_i hw; rw [if_neg hw] at this; exact this

/-- A region whose order is drawn, by an order of ours. -/
theorem ACode.draw (hT : TyOK P ty) (hm : P.follows .mixedOrders = true) (esc : Nat → Bool) {id : Nat} {ops : Array Oper} {K : Kx} (σ : List (Bool × Nat)) (hd : drawOK ops σ (Array.replicate ops.size false) = true) (hs : stillOK ops σ = true)
    (hK : evD P ty N esc ops.toList σ env loc h fun env loc h => K .normal env loc h) : ACode P N (.region id ops true) env loc h K := by
  refine ⟨fun E M ρ l a w F => ?_⟩
  simp only [stillOK, Bool.and_eq_true] at hs
  obtain ⟨⟨h1, h2⟩, h3⟩ := hs
  have h2 := Nat.eq_of_beq_eq_true h2
  refine wp_mono (Q := fun e a w => match e with | .normal => Post N E K .normal a w | _ => False) ?_ fun e a w hq => by
    cases e <;> first | exact hq | exact hq.elim
  obtain ⟨s1, s2⟩ := step_same F.f.sim (w' := { w with drawn := w.drawn + 1 }) rfl rfl rfl rfl
  have F' := F.step s1 s2
  let ld := !(ops.toList.any fun o => isStore o.op)
  refine wp_region_held (S := Held M (fun b => ld = true ∧ ∃ d cs, loc d = some cs ∧ l d = some b) { w with drawn := w.drawn + 1 }) hm ?_
  suffices hq : wpAnyH P .any ops (fun e a w => match e with | .normal => Post N E K .normal a w | _ => False) (Held M (fun b => ld = true ∧ ∃ d cs, loc d = some cs ∧ l d = some b) { w with drawn := w.drawn + 1 }) σ.length (Array.replicate ops.size false) a { w with drawn := w.drawn + 1 } by
    rw [h2] at hq; exact hq
  refine evD_sound (S := fun b => ld = true ∧ ∃ d cs, loc d = some cs ∧ l d = some b) hT (K := K) (fun c a w hq => hq) (fun env loc h M ρ l a w F hk => ⟨env, loc, h, M, ρ, l, F, hk⟩) h1 ld (fun e o ho => ?_) (fun e b hb => by rw [e] at hb; cases hb.1) σ _ env loc h M ρ l a _ F' hd (fun e x hx o ho hx1 => ?_) (fun b hb => ?_) (fun e d cs b g1 g2 => ⟨e, d, cs, g1, g2⟩) hK
  · simp only [ld, Bool.not_eq_true', List.any_eq_false] at e
    have := e o ho
    simpa using this
  · simp only [Bool.or_eq_true, Bool.not_eq_true'] at h3
    rcases h3 with h3 | h3
    · simp only [ld, h3] at e; cases e
    · have := List.all_eq_true.1 h3 x hx
      simp only [ho, hx1] at this
      simpa using this
  · obtain ⟨_, d, cs, g1, g2⟩ := hb
    obtain ⟨b', q1, q2, _⟩ := F'.f.lo d cs g1
    rw [g2] at q1
    cases q1
    exact ⟨q2, F'.f.lown d cs b g1 g2⟩

end
end Go.Lift
