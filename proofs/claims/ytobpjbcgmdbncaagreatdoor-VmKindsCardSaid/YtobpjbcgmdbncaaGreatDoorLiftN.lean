/- A part of the proof (own lemmas, no condition beyond those that each theorem states): the layer over the model that all of the proofs of this seat stand on. -/
import Derived.Test.YtobpjbcgmdbncaaGreatDoorLiftM
import Derived.OrdersHeld
set_option linter.unusedVariables false
set_option linter.unusedSectionVars false
set_option linter.unusedSimpArgs false
namespace Go.Lift
open Go Go.RowKit
variable [G : Glob]

/-- Where an operation that touches nothing goes on, its guard held against what stands. -/
def evStillW (core : Env → (AV → Prop) → Prop) (N : Nat) (all : List Oper) (o : Oper) (env : Env) (K : Env → Prop) : Prop :=
  match dstOK N o.dst with
  | false => False
  | true => match o.guard with
    | none => core env fun v => K (putE env o.dst v)
    | some (j, want) => match (all[j]?).bind (·.dst) with
      | none => False
      | some dj => match Nat.blt dj N with
        | false => False
        | true => match env dj with
          | .bool b => match want with
            | true => branch b (core (updE env dj (.bool true)) fun v => K (putE (updE env dj (.bool true)) o.dst v)) (K (putE (updE env dj (.bool false)) o.dst skipV))
            | false => branch b (K (putE (updE env dj (.bool true)) o.dst skipV)) (core (updE env dj (.bool false)) fun v => K (putE (updE env dj (.bool false)) o.dst v))
          | .tuple [] => K (putE env o.dst skipV)
          | _ => False

/-- A look at an object's cells. -/
def evPeek (ty : Tys) (h : Heap) (op : Op) (env : Env) (K : AV → Prop) : Prop :=
  match op with
  | .load t p => match evO env p with
    | .ptr id off => match ty t with
      | none => False
      | some i => match i.desc.agg || Nat.beq i.size 1 with
        | false => False
        | true => ∃ cs, h id = some (.cells cs) ∧ off + i.size ≤ cs.length ∧ ∃ v, partA i.desc.agg i.size cs off = v ∧ K v
    | _ => False
  | _ => False

/-- A region in an order of ours: 'true': it touches nothing, or reads what none stores to ahead of it; 'none': it looks at an object that none of those ahead of it touches; 'false': the only one that may come. -/
def evD (P : Program) (ty : Tys) (N : Nat) (esc : Nat → Bool) (all : List Oper) : List (Option Bool × Nat) → Env → Loc → Heap → Kt → Prop
  | [], env, loc, h, K => K env loc h
  | (mark, i) :: r, env, loc, h, K => match all[i]? with
    | none => False
    | some o => match mark with
      | some true => evStillW (fun env K => goOn (evS ty env loc o.op) K) N all o env fun env => evD P ty N esc all r env loc h K
      | none => evStillW (evPeek ty h o.op) N all o env fun env => evD P ty N esc all r env loc h K
      | some false => evGuard P ty N esc none all o env loc h fun env loc h => evD P ty N esc all r env loc h K

/-- Does number j wait for number i, through others? -/
def reach (ops : Array Oper) : Nat → Nat → Nat → Bool
  | 0, _, _ => false
  | n + 1, j, i => match ops[j]? with
    | none => false
    | some o => o.after.toList.any fun e => Region.binds .any e && (Nat.beq e.on i || reach ops n e.on i)

def listedAt (listed : Array Bool) (j : Nat) : Bool := listed.getD j true

/-- Each of those that may still come ahead of number i is apart from it, and is none of the late ones. -/
def freeK (ops : Array Oper) (listed : Array Bool) (i : Nat) (late : Nat → Bool) : Bool :=
  match ops[i]? with
  | none => false
  | some oi => (List.range ops.size).all fun j => Nat.beq j i || listedAt listed j || (match ops[j]? with
    | none => false
    | some oj => (oj.after.toList.any fun e => Region.binds .any e && Nat.beq e.on i) || (oi.apart ops oj && !late j)) || reach ops ops.size j i

def storeAt (ops : Array Oper) (j : Nat) : Bool :=
  match ops[j]? with
  | none => true
  | some o => isStore o.op

/-- Those that an order takes for themselves. -/
def lateOf (σ : List (Option Bool × Nat)) (j : Nat) : Bool := σ.any fun x => Nat.beq x.2 j && (match x.1 with | some false => true | _ => false)

/-- Does the order hold? -/
def drawOK' (ops : Array Oper) (late : Nat → Bool) : List (Option Bool × Nat) → Array Bool → Bool
  | [], listed => (Region.ready .any ops listed).isEmpty
  | (mark, i) :: r, listed => (match mark with
    | some true => (Region.ready .any ops listed).contains i && freeK ops listed i (match ops[i]? with
      | some o => match isLoad o.op with
        | true => storeAt ops
        | false => fun _ => false
      | none => fun _ => true)
    | none => (Region.ready .any ops listed).contains i && freeK ops listed i late
    | some false => match Region.ready .any ops listed with
      | [j] => Nat.beq j i
      | _ => false) && drawOK' ops late r (listed.setIfInBounds i true)
def drawOK (ops : Array Oper) (σ : List (Option Bool × Nat)) (listed : Array Bool) : Bool := drawOK' ops (lateOf σ) σ listed

def stillOK (ops : Array Oper) (σ : List (Option Bool × Nat)) : Bool := Region.noSelect ops && Nat.beq σ.length ops.size

section
variable {P : Program} {ops : Array Oper} {Q : Exit → Act → World → Prop}

/-! ### Whatever order is picked: and each step is as it is told -/
def wpAnyK (P : Program) (ops : Array Oper) (Q : Exit → Act → World → Prop) (R : Nat → World → World → Prop) : Nat → Array Bool → Act → World → Prop
  | 0, listed, a, w => Region.ready .any ops listed = [] ∧ Q .normal a w
  | fuel + 1, listed, a, w => (Region.ready .any ops listed = [] → Q .normal a w) ∧
    ∀ i ∈ Region.ready .any ops listed, wpOp P ops Q i (fun a' w' => R i w w' ∧ wpAnyK P ops Q R fuel (listed.setIfInBounds i true) a' w') a w

variable {R R' : Nat → World → World → Prop}

theorem wpAny_of_K : ∀ (fuel : Nat) (listed : Array Bool) (a : Act) (w : World), wpAnyK P ops Q R fuel listed a w → wpAny P .any ops Q fuel listed a w
  | 0, _, _, _, h => h
  | fuel + 1, _, _, _, h => ⟨h.1, fun i hi => wpOp_mono (fun a' w' h' => wpAny_of_K fuel _ a' w' h'.2) (h.2 i hi)⟩

theorem wpAnyK_mono (hR : ∀ i w w', R i w w' → R' i w w') : ∀ (fuel : Nat) (listed : Array Bool) (a : Act) (w : World), wpAnyK P ops Q R fuel listed a w → wpAnyK P ops Q R' fuel listed a w
  | 0, _, _, _, h => h
  | fuel + 1, _, _, _, h => ⟨h.1, fun i hi => wpOp_mono (fun a' w' h' => ⟨hR _ _ _ h'.1, wpAnyK_mono hR fuel _ a' w' h'.2⟩) (h.2 i hi)⟩

theorem wpAnyK_done {listed : Array Bool} {a : Act} {w : World} (hr : Region.ready .any ops listed = []) (h : Q .normal a w) : ∀ fuel, wpAnyK P ops Q R fuel listed a w
  | 0 => ⟨hr, h⟩
  | _ + 1 => ⟨fun _ => h, by rw [hr]; simp⟩

/-- What has come waits for nothing that has not. -/
def Closed (ops : Array Oper) (listed : Array Bool) : Prop := ∀ k o, ops[k]? = some o → listed.getD k false = true → ∀ e ∈ o.after, Region.binds .any e = true → listed.getD e.on false = true

theorem closed_set {listed : Array Bool} {i : Nat} (hc : Closed ops listed) (hr : i ∈ Region.ready .any ops listed) : Closed ops (listed.setIfInBounds i true) := by
  intro k o hk hl e he hb
  obtain ⟨_, oi, hoi, hall⟩ := mem_ready.1 hr
  by_cases hik : i = k
  · subst hik
    rw [hoi] at hk
    cases hk
    exact getD_set_true (hall e he hb)
  · rw [getD_set_ne false hik] at hl
    exact getD_set_true (hc k o hk hl e he hb)

theorem reach_listed {listed : Array Bool} (hc : Closed ops listed) {i : Nat} : ∀ (n j : Nat), listed.getD j false = true → reach ops n j i = true → listed.getD i false = true
  | 0, _, _, h => by cases h
  | n + 1, j, hj, h => by
    unfold reach at h
    split at h
    · cases h
    · rename_i o ho
      obtain ⟨e, he, h2⟩ := List.any_eq_true.1 h
      simp only [Bool.and_eq_true, Bool.or_eq_true] at h2
      have hl := hc j o ho hj e (by simpa using he) h2.1
      rcases h2.2 with h3 | h3
      · rw [← Nat.eq_of_beq_eq_true h3]; exact hl
      · exact reach_listed hc n e.on hl h3

theorem not_ready {listed : Array Bool} (hc : Closed ops listed) {i j : Nat} {n : Nat} (hr : reach ops n j i = true) (hi : i ∈ Region.ready .any ops listed) (hj : j ∈ Region.ready .any ops listed) : False := by
  obtain ⟨h0, oi, hoi, _⟩ := mem_ready.1 hi
  obtain ⟨_, oj, hoj, hall⟩ := mem_ready.1 hj
  have hit : listed.getD i false = true := by
    cases n with
    | zero => cases hr
    | succ n =>
      unfold reach at hr
      rw [hoj] at hr
      obtain ⟨e, he, h2⟩ := List.any_eq_true.1 hr
      simp only [Bool.and_eq_true, Bool.or_eq_true] at h2
      have hl := hall e (by simpa using he) h2.1
      rcases h2.2 with h3 | h3
      · rw [← Nat.eq_of_beq_eq_true h3]; exact hl
      · exact reach_listed hc n e.on hl h3
  rcases Nat.lt_or_ge i listed.size with h' | h'
  · simp [h'] at h0 hit; rw [h0] at hit; cases hit
  · simp [Array.getElem?_eq_none h'] at hit

/-- One that may come now may be taken first, if those that may come ahead of it leave it what it looks at. -/
theorem wpAnyK_first {i : Nat} {oi : Oper} {v : Value} {S : World → Prop} {ok : Nat → Prop} (hi : ops[i]? = some oi) (hsel : ∀ (j : Nat) (o : Oper) cs b, ops[j]? = some o → o.op ≠ .select cs b)
    (hQ : ∀ c a w, Q (.panic c) (a.put oi.dst v) w → Q (.panic c) a w) (hkeep : ∀ j, ok j → ∀ w w', S w → R j w w' → S w') (hself : ∀ w, S w → R i w w) :
    ∀ (fuel : Nat) (listed : Array Bool) (a : Act) (w : World), Closed ops listed →
      (∀ j oj, ops[j]? = some oj → j ≠ i → listed.getD j true = false → (∃ e ∈ oj.after, Region.binds .any e = true ∧ e.on = i) ∨ (oi.apart ops oj = true ∧ ok j) ∨ ∃ n, reach ops n j i = true) →
      i ∈ Region.ready .any ops listed → YieldsIf P ops S oi v a → S w →
      wpAnyK P ops Q R fuel (listed.setIfInBounds i true) (a.put oi.dst v) w → wpAnyK P ops Q R (fuel + 1) listed a w := by
  intro fuel
  induction fuel with
  | zero =>
    intro listed a w _ _ hr hy hS H
    refine ⟨fun h => (by rw [h] at hr; cases hr), fun j hj => ?_⟩
    by_cases hji : j = i
    · subst hji; exact hy.wpOp hi hS ⟨hself w hS, H⟩
    · have := ready_mono hj hji
      rw [H.1] at this
      cases this
  | succ fuel ih =>
    intro listed a w hc hfree hr hy hS H
    refine ⟨fun h => (by rw [h] at hr; cases hr), fun j hj => ?_⟩
    by_cases hji : j = i
    · subst hji; exact hy.wpOp hi hS ⟨hself w hS, H⟩
    · have h1 := H.2 j (ready_mono hj hji)
      obtain ⟨hjun, oj, hoj, hall⟩ := mem_ready.1 hj
      rcases hfree j oj hoj hji hjun with ⟨e, he, hb, heq⟩ | ⟨hap, hok⟩ | ⟨n, hre⟩
      · exfalso
        have h1 := hall e he hb
        have h0 := (mem_ready.1 hr).1
        rw [heq] at h1
        rcases Nat.lt_or_ge i listed.size with h' | h'
        · simp [h'] at h0 h1; rw [h0] at h1; cases h1
        · simp [Array.getElem?_eq_none h'] at h1
      · have h2 := wpOp_putIf hoj hap (fun cs b => hsel i oi cs b hi) (fun cs b => hsel j oj cs b hoj) hQ hy h1
        have hfree' : ∀ k ok', ops[k]? = some ok' → k ≠ i → (listed.setIfInBounds j true).getD k true = false → (∃ e ∈ ok'.after, Region.binds .any e = true ∧ e.on = i) ∨ (oi.apart ops ok' = true ∧ ok k) ∨ ∃ n, reach ops n k i = true := fun k ok' hk hki hun => by
          refine hfree k ok' hk hki ?_
          by_cases hjk : j = k
          · subst hjk; exact hjun
          · rw [getD_set_ne true hjk] at hun; exact hun
        refine wpOp_mono (fun a' w' h3 => ⟨h3.2.1, ih (listed.setIfInBounds j true) a' w' (closed_set hc hj) hfree' (ready_mono hr (Ne.symm hji)) h3.1 (hkeep j hok w w' hS h3.2.1) ?_⟩) h2
        rw [Array.setIfInBounds_comm _ _ hji]
        exact h3.2.2
      · exact (not_ready hc hre hr hj).elim

theorem freeK_spec {listed : Array Bool} {i : Nat} {late : Nat → Bool} {oi : Oper} (hi : ops[i]? = some oi) (hf : freeK ops listed i late = true) :
    ∀ j oj, ops[j]? = some oj → j ≠ i → listed.getD j true = false → (∃ e ∈ oj.after, Region.binds .any e = true ∧ e.on = i) ∨ (oi.apart ops oj = true ∧ late j = false) ∨ ∃ n, reach ops n j i = true := by
  intro j oj hj hne hun
  unfold freeK at hf
  rw [hi] at hf
  have hlt : j < ops.size := (Array.getElem?_eq_some_iff.1 hj).1
  have := List.all_eq_true.1 hf j (List.mem_range.2 hlt)
  rw [hj] at this
  simp only [Bool.or_eq_true, Bool.and_eq_true, Bool.not_eq_true', listedAt] at this
  rcases this with ((h | h) | (h | h)) | h
  · exact absurd (Nat.eq_of_beq_eq_true h) hne
  · rw [hun] at h; cases h
  · obtain ⟨e, he, h2⟩ := List.any_eq_true.1 h
    simp only [Bool.and_eq_true] at h2
    exact .inl ⟨e, by simpa using he, h2.1, Nat.eq_of_beq_eq_true h2.2⟩
  · exact .inr (.inl h)
  · exact .inr (.inr ⟨_, h⟩)

end

section
variable {P : Program} {ty : Tys} {N : Nat} {E : Ent} {M : Mem} {ρ : Rho} {l : Lam} {env : Env} {loc : Loc} {h : Heap} {a : Act} {w : World} {esc : Nat → Bool}

/-- What a step keeps that is no store; what one keeps that touches nothing. -/
def StepR (ops : Array Oper) (late : Nat → Bool) (M : Mem) (S : Nat → Prop) (j : Nat) (w w' : World) : Prop :=
  (storeAt ops j = false → (∀ x v, M x = some v → w.cell? x = some v → w'.cell? x = some v) ∧ ∀ b, S b → w'.heap[b]? = w.heap[b]?) ∧ (late j = false → w'.heap = w.heap)

def nonOwn (h : Heap) (ρ : Rho) (w : World) (b : Nat) : Prop := b < w.heap.size ∧ ¬ Own h ρ b

/-- The value that an operation gives which touches nothing. -/
theorem core_still (hT : TyOK P ty) (F : Fr N E M ρ l env loc h a w) {o : Oper} {K : AV → Prop} (hK : goOn (evS ty env loc o.op) K) :
    ∃ v x, (∀ w' : World, (isLoad o.op = true → (∀ x v, M x = some v → w'.cell? x = some v) ∧ ∀ b, nonOwn h ρ w b → w'.heap[b]? = w.heap[b]?) → (execOp a.eval o).run P w' = .ok (.value v) w') ∧ RelS M ρ l x v ∧ K x := by
  obtain ⟨h1, h2⟩ := goOn_to hK
  obtain ⟨v, e1, e2⟩ := run_evS hT F.f.e o h1
  refine ⟨v, _, fun w' hw => e1 w' fun hl => ⟨(hw hl).1, fun d cs b g1 g2 => (hw hl).2 b ?_⟩, e2, h2⟩
  obtain ⟨b', q1, q2, _⟩ := F.f.lo d cs g1
  rw [g2] at q1
  cases q1
  exact ⟨q2, F.f.lown d cs b g1 g2⟩

theorem core_peek (hT : TyOK P ty) (F : Fr N E M ρ l env loc h a w) {o : Oper} {K : AV → Prop} (hK : evPeek ty h o.op env K) :
    ∃ v x, (∀ w' : World, w'.heap = w.heap → (execOp a.eval o).run P w' = .ok (.value v) w') ∧ RelS M ρ l x v ∧ K x := by
  unfold evPeek at hK
  split at hK
  · rename_i t p ho
    split at hK
    · rename_i id off he
      split at hK
      · exact hK.elim
      rename_i i hi
      split at hK
      · exact hK.elim
      rename_i h1
      obtain ⟨cs, hid, hle, v, rfl, hK⟩ := hK
      have hp := F.f.ev p
      rw [he] at hp
      generalize hq : a.eval p = q at hp
      cases hp with
      | ptr _ _ pl hpl =>
        obtain ⟨pl', q1, q2, arr, el, q3, q4⟩ := F.f.sim.obj id _ hid
        rw [hpl] at q1; cases q1
        obtain ⟨u, e1, e2⟩ := run_loadAt (M := M) (ρ := ρ) hT hi q3 q4 hle h1
        exact ⟨u, _, fun w' hw => by simp [execOp, ho, hq, e1 w' (by rw [hw])], RelS.of e2, hK⟩
    · exact hK.elim
  · exact hK.elim

theorem evStillW_sound {S : World → Prop} {core : Env → (AV → Prop) → Prop} (F : Fr N E M ρ l env loc h a w) {ops : Array Oper} {o : Oper} {K : Env → Prop}
    (hcore : ∀ env' K', Fr N E M ρ l env' loc h a w → core env' K' → ∃ v x, (∀ w' : World, S w' → (execOp a.eval o).run P w' = .ok (.value v) w') ∧ RelS M ρ l x v ∧ K' x) (hK : evStillW core N ops.toList o env K) :
    ∃ v env', YieldsIf P ops S o v a ∧ Fr N E M ρ l env' loc h (a.put o.dst v) w ∧ K env' := by
  unfold evStillW at hK
  split at hK
  · exact hK.elim
  rename_i hd
  have hd := dstOK_to hd
  split at hK
  · rename_i hg
    have hw : Region.wanted o (yielded ops a.tmps) = true := by simp [Region.wanted, hg]
    obtain ⟨v, x, h1, h2, h3⟩ := hcore _ _ F hK
    exact ⟨v, _, .inl ⟨hw, h1⟩, F.put hd h2, h3⟩
  · rename_i j want hg
    split at hK
    · exact hK.elim
    rename_i dj hdj
    split at hK
    · exact hK.elim
    have hs := F.f.slot dj
    have skip : Fr N E M ρ l (putE env o.dst skipV) loc h (a.put o.dst Go.undef) w := F.put hd (RelS.of (.tuple [] #[] rfl (fun i hi => by simp at hi)))
    split at hK
    · rename_i b hb
      rw [hb] at hs
      have hv : a.tmps.getD dj Go.undef = .bool b := by
        generalize a.tmps.getD dj Go.undef = q at hs
        cases hs; rfl
      have hy := yielded_eq hdj hv
      have hw : ∀ b', b = b' → Region.wanted o (yielded ops a.tmps) = (want == b') := fun b' e => by
        subst e
        unfold Region.wanted
        rw [hg]
        simp only [hy]
        cases want <;> cases b <;> rfl
      cases want
      · cases b
        · have hw := hw false rfl
          simp only [updE_self hb] at hK
          obtain ⟨v, x, h1, h2, h3⟩ := hcore _ _ F hK
          exact ⟨v, _, .inl ⟨hw, h1⟩, F.put hd h2, h3⟩
        · have hw := hw true rfl
          simp only [updE_self hb] at hK
          exact ⟨_, _, .inr ⟨hw, rfl⟩, skip, hK⟩
      · cases b
        · have hw := hw false rfl
          simp only [updE_self hb] at hK
          exact ⟨_, _, .inr ⟨hw, rfl⟩, skip, hK⟩
        · have hw := hw true rfl
          simp only [updE_self hb] at hK
          obtain ⟨v, x, h1, h2, h3⟩ := hcore _ _ F hK
          exact ⟨v, _, .inl ⟨hw, h1⟩, F.put hd h2, h3⟩
    · rename_i hb
      rw [hb] at hs
      have hv : a.tmps.getD dj Go.undef = .tuple #[] := by
        generalize a.tmps.getD dj Go.undef = q at hs
        cases hs with
        | tuple _ vs hl hr =>
          have : vs = #[] := by simpa using hl.symm
          rw [this]
      have hy := yielded_skip hdj hv
      have hw : Region.wanted o (yielded ops a.tmps) = false := by
        unfold Region.wanted
        rw [hg]
        simp [hy]
      exact ⟨_, _, .inr ⟨hw, rfl⟩, skip, hK⟩
    · exact hK.elim

/-- One step that is taken by its mark. -/
theorem still_take (hT : TyOK P ty) {ops : Array Oper} {late : Nat → Bool} {Q : Exit → Act → World → Prop} (hQ : ∀ c a w, ¬ Q (.panic c) a w) (hs : Region.noSelect ops = true) {i : Nat} {o : Oper} (ho : ops[i]? = some o) {listed : Array Bool} (hc : Closed ops listed) {fuel : Nat}
    (F : Fr N E M ρ l env loc h a w) {K : Env → Prop}
    (hK : (evStillW (fun env K => goOn (evS ty env loc o.op) K) N ops.toList o env K ∧ (Region.ready .any ops listed).contains i = true ∧ freeK ops listed i (match isLoad o.op with | true => storeAt ops | false => fun _ => false) = true) ∨
      (evStillW (evPeek ty h o.op) N ops.toList o env K ∧ (Region.ready .any ops listed).contains i = true ∧ freeK ops listed i late = true))
    (hn : ∀ v env', Fr N E M ρ l env' loc h (a.put o.dst v) w → K env' → wpAnyK P ops Q (StepR ops late M (nonOwn h ρ w)) fuel (listed.setIfInBounds i true) (a.put o.dst v) w) :
    wpAnyK P ops Q (StepR ops late M (nonOwn h ρ w)) (fuel + 1) listed a w := by
  rcases hK with ⟨hK, hr, hf⟩ | ⟨hK, hr, hf⟩
  · obtain ⟨v, env', h1, h2, h3⟩ := evStillW_sound (S := fun w' => isLoad o.op = true → (∀ x v, M x = some v → w'.cell? x = some v) ∧ ∀ b, nonOwn h ρ w b → w'.heap[b]? = w.heap[b]?) F (fun env' K' F' hc => core_still hT F' hc) hK
    refine wpAnyK_first (ok := fun j => isLoad o.op = true → storeAt ops j = false) ho (Region.noSelect_spec hs) (fun c a w hq => absurd hq (hQ c _ w)) (fun j hok w1 w2 hS hR hl => ?_) (fun w1 _ => ⟨fun _ => ⟨fun _ _ _ h => h, fun _ _ => rfl⟩, fun _ => rfl⟩) fuel listed a w hc (fun j oj hj hne hun => ?_) (by simpa using hr) h1 (fun hl => ⟨F.f.sim.mem, fun _ _ => rfl⟩) (hn v env' h2 h3)
    · obtain ⟨s1, s2⟩ := hS hl
      obtain ⟨r1, r2⟩ := hR.1 (hok hl)
      exact ⟨fun x v hx => r1 x v hx (s1 x v hx), fun b hb => (r2 b hb).trans (s2 b hb)⟩
    · rcases freeK_spec ho hf j oj hj hne hun with q | ⟨q1, q2⟩ | q
      · exact .inl q
      · exact .inr (.inl ⟨q1, fun hl => by rw [hl] at q2; exact q2⟩)
      · exact .inr (.inr q)
  · obtain ⟨v, env', h1, h2, h3⟩ := evStillW_sound (S := fun w' => w'.heap = w.heap) F (fun env' K' F' hc => core_peek hT F' hc) hK
    refine wpAnyK_first (ok := fun j => late j = false) ho (Region.noSelect_spec hs) (fun c a w hq => absurd hq (hQ c _ w)) (fun j hok w1 w2 hS hR => (hR.2 hok).trans hS) (fun w1 _ => ⟨fun _ => ⟨fun _ _ _ h => h, fun _ _ => rfl⟩, fun _ => rfl⟩) fuel listed a w hc (fun j oj hj hne hun => ?_) (by simpa using hr) h1 rfl (hn v env' h2 h3)
    rcases freeK_spec ho hf j oj hj hne hun with q | q | q
    · exact .inl q
    · exact .inr (.inl q)
    · exact .inr (.inr q)

theorem evD_sound (hT : TyOK P ty) {ops : Array Oper} {late : Nat → Bool} {K : Kx} {Q : Exit → Act → World → Prop} (hQ : ∀ c a w, ¬ Q (.panic c) a w) (hQn : ∀ env loc h M ρ l a w, Fr N E M ρ l env loc h a w → K .normal env loc h → Q .normal a w)
    (hs : Region.noSelect ops = true) :
    ∀ (σ : List (Option Bool × Nat)) (listed : Array Bool) (env : Env) (loc : Loc) (h : Heap) (M : Mem) (ρ : Rho) (l : Lam) (a : Act) (w : World), Fr N E M ρ l env loc h a w → Closed ops listed → (∀ x ∈ σ, x.1 = some false → late x.2 = true) → drawOK' ops late σ listed = true →
      evD P ty N esc ops.toList σ env loc h (fun env loc h => K .normal env loc h) → wpAnyK P ops Q (StepR ops late M (nonOwn h ρ w)) σ.length listed a w := by
  intro σ
  induction σ with
  | nil =>
    intro listed env loc h M ρ l a w F hc _ hd hK
    refine wpAnyK_done ?_ (hQn _ _ _ _ _ _ _ _ F hK) 0
    simpa [drawOK'] using hd
  | cons x σ ih =>
    obtain ⟨mark, i⟩ := x
    intro listed env loc h M ρ l a w F hc hl hd hK
    simp only [drawOK', Bool.and_eq_true] at hd
    obtain ⟨hd1, hd2⟩ := hd
    have hl' : ∀ x ∈ σ, x.1 = some false → late x.2 = true := fun x hx => hl x (List.mem_cons_of_mem _ hx)
    simp only [evD] at hK
    split at hK
    · exact hK.elim
    rename_i o ho
    have ho' : ops[i]? = some o := by simpa using ho
    rw [ho'] at hd1
    split at hK
    · simp only [Bool.and_eq_true] at hd1
      have hr : i ∈ Region.ready .any ops listed := by simpa using hd1.1
      refine still_take hT hQ hs ho' hc F (.inl ⟨hK, hd1.1, ?_⟩) fun v env' F' hk => ih _ env' loc h M ρ l _ w F' (closed_set hc hr) hl' hd2 hk
      cases hq : isLoad o.op <;> simp only [hq] at hd1 ⊢ <;> exact hd1.2
    · simp only [Bool.and_eq_true] at hd1
      have hr : i ∈ Region.ready .any ops listed := by simpa using hd1.1
      exact still_take hT hQ hs ho' hc F (.inr ⟨hK, hd1.1, hd1.2⟩) fun v env' F' hk => ih _ env' loc h M ρ l _ w F' (closed_set hc hr) hl' hd2 hk
    · have hready : Region.ready .any ops listed = [i] := by
        simp only at hd1
        split at hd1
        · rename_i j hj
          rw [hj, Nat.eq_of_beq_eq_true hd1]
        · cases hd1
      refine ⟨fun h0 => (by rw [hready] at h0; cases h0), fun j hj => ?_⟩
      have hji : j = i := by rw [hready] at hj; simpa using hj
      subst hji
      unfold wpOp
      simp only [ho']
      have key : Goes N E M ρ h w (isStore o.op) none (fun env' loc' h' => evD P ty N esc ops.toList σ env' loc' h' fun env loc h => K .normal env loc h) (fun a' w' => StepR ops late M (nonOwn h ρ w) j w w' ∧ wpAnyK P ops Q (StepR ops late M (nonOwn h ρ w)) σ.length (listed.setIfInBounds j true) a' w') := by
        intro env' loc' h' M' ρ' l' a' w' hm hb _ F' hk
        refine ⟨⟨fun hst => ⟨fun x v hx _ => F'.f.sim.mem x v (hm x v hx), fun b hb' => ?_⟩, fun hlt => ?_⟩, ?_⟩
        · refine (hb b hb'.1 hb'.2).1 ?_
          simpa [storeAt, ho'] using hst
        · rw [hl (some false, j) List.mem_cons_self rfl] at hlt; cases hlt
        · refine wpAnyK_mono (R := StepR ops late M' (nonOwn h' ρ' w')) (fun k w1 w2 hr => ⟨fun hst => ⟨fun x v hx => (hr.1 hst).1 x v (hm x v hx), fun b hb' => (hr.1 hst).2 b ⟨(hb b hb'.1 hb'.2).2.1, (hb b hb'.1 hb'.2).2.2⟩⟩, hr.2⟩) _ _ _ _ ?_
          exact ih _ env' loc' h' M' ρ' l' a' w' F' (closed_set hc hj) hl' hd2 hk
      have := evGuard_sound hT F o (fun e => e) hK (fun _ hn => by cases hn) key Q
      split
      · rename_i hw; rw [if_pos hw] at this; exact .inl this
      · rename_i hw; rw [if_neg hw] at this; exact this

theorem lateOf_mem {σ : List (Option Bool × Nat)} : ∀ x ∈ σ, x.1 = some false → lateOf σ x.2 = true := fun x hx h => by
  unfold lateOf
  rw [List.any_eq_true]
  exact ⟨x, hx, by rw [h]; simp⟩

theorem closed_none (ops : Array Oper) : Closed ops (Array.replicate ops.size false) := fun k o hk hl => by
  have hlt : k < ops.size := (Array.getElem?_eq_some_iff.1 hk).1
  simp [hlt] at hl

/-- A region whose order is drawn, by an order of ours. -/
theorem ACode.draw (hT : TyOK P ty) (hm : P.follows .mixedOrders = true) (esc : Nat → Bool) {id : Nat} {ops : Array Oper} {K : Kx} (σ : List (Option Bool × Nat)) (hd : drawOK ops σ (Array.replicate ops.size false) = true) (hs : stillOK ops σ = true)
    (hK : evD P ty N esc ops.toList σ env loc h fun env loc h => K .normal env loc h) : ACode P N (.region id ops true) env loc h K := by
  refine ⟨fun E M ρ l a w F => ?_⟩
  simp only [stillOK, Bool.and_eq_true] at hs
  obtain ⟨h1, h2⟩ := hs
  have h2 := Nat.eq_of_beq_eq_true h2
  refine wp_mono (Q := fun e a w => match e with | .normal => Post N E K .normal a w | _ => False) ?_ fun e a w hq => by
    cases e <;> first | exact hq | exact hq.elim
  obtain ⟨s1, s2⟩ := step_same F.f.sim (w' := { w with drawn := w.drawn + 1 }) rfl rfl rfl rfl
  have F' := F.step s1 s2
  refine wp_region_any hm ?_
  have := evD_sound (Q := fun e a w => match e with | .normal => Post N E K .normal a w | _ => False) hT (K := K) (fun c a w hq => hq) (fun env loc h M ρ l a w F hk => ⟨env, loc, h, M, ρ, l, F, hk⟩) h1 σ (Array.replicate ops.size false) env loc h M ρ l a _ F' (closed_none ops) lateOf_mem hd hK
  rw [h2] at this
  exact wpAny_of_K _ _ _ _ this

/-! ### Orders that part -/
/-- An order; where more than one may come that touch something, each of them, with an order behind it. -/
inductive Ord where
  | nil
  | one (mark : Option Bool) (i : Nat) (r : Ord)
  | alt (i : Nat) (x r : Ord)
  | stop

def evT (P : Program) (ty : Tys) (N : Nat) (esc : Nat → Bool) (all : List Oper) : Ord → Env → Loc → Heap → Kt → Prop
  | .nil, env, loc, h, K => K env loc h
  | .one mark i r, env, loc, h, K => match all[i]? with
    | none => False
    | some o => match mark with
      | some true => evStillW (fun env K => goOn (evS ty env loc o.op) K) N all o env fun env => evT P ty N esc all r env loc h K
      | none => evStillW (evPeek ty h o.op) N all o env fun env => evT P ty N esc all r env loc h K
      | some false => evGuard P ty N esc none all o env loc h fun env loc h => evT P ty N esc all r env loc h K
  | .alt i x r, env, loc, h, K => (match all[i]? with
    | none => False
    | some o => evGuard P ty N esc none all o env loc h fun env loc h => evT P ty N esc all x env loc h K) ∧ evT P ty N esc all r env loc h K
  | .stop, _, _, _, _ => True

def lateT : Ord → Nat → Bool
  | .nil, _ => false
  | .one mark i r, j => (match mark with | some false => Nat.beq i j | _ => false) || lateT r j
  | .alt i x r, j => Nat.beq i j || lateT x j || lateT r j
  | .stop, _ => false

def altsT : Ord → List Nat
  | .alt i _ r => i :: altsT r
  | _ => []

/-- Does the order hold, with n to come? -/
def drawT (ops : Array Oper) (late : Nat → Bool) : Ord → Nat → Array Bool → Bool
  | .nil, n, listed => Nat.beq n 0 && (Region.ready .any ops listed).isEmpty
  | .one mark i r, n, listed => Nat.ble 1 n && (match mark with
    | some true => (Region.ready .any ops listed).contains i && freeK ops listed i (match ops[i]? with
      | some o => match isLoad o.op with
        | true => storeAt ops
        | false => fun _ => false
      | none => fun _ => true)
    | none => (Region.ready .any ops listed).contains i && freeK ops listed i late
    | some false => match Region.ready .any ops listed with
      | [j] => Nat.beq j i
      | _ => false) && drawT ops late r (n - 1) (listed.setIfInBounds i true)
  | .alt i x r, n, listed => Nat.ble 1 n && (Region.ready .any ops listed).contains i && drawT ops late x (n - 1) (listed.setIfInBounds i true) && drawT ops late r n listed
  | .stop, _, _ => true

/-- Where an order parts, each that may come is there. -/
def wholeT (ops : Array Oper) : Ord → Array Bool → Bool
  | .nil, _ => true
  | .one _ i r, listed => wholeT ops r (listed.setIfInBounds i true)
  | .alt i x r, listed => wholeT ops x (listed.setIfInBounds i true) && wholeR ops r listed && ((Region.ready .any ops listed).all fun j => (i :: altsT r).contains j)
  | .stop, _ => false
where wholeR (ops : Array Oper) : Ord → Array Bool → Bool
  | .alt i x r, listed => wholeT ops x (listed.setIfInBounds i true) && wholeR ops r listed
  | .stop, _ => true
  | _, _ => false

def ordOK (ops : Array Oper) (σ : Ord) : Bool := Region.noSelect ops && drawT ops (lateT σ) σ ops.size (Array.replicate ops.size false) && wholeT ops σ (Array.replicate ops.size false)

section
variable {P : Program} {ty : Tys} {N : Nat} {E : Ent} {M : Mem} {ρ : Rho} {l : Lam} {env : Env} {loc : Loc} {h : Heap} {a : Act} {w : World} {esc : Nat → Bool}

/-- One operation that touches something, taken as one of those that may come. -/
theorem op_take (hT : TyOK P ty) {ops : Array Oper} {late : Nat → Bool} {Q : Exit → Act → World → Prop} {i : Nat} {o : Oper} (ho : ops[i]? = some o) {listed : Array Bool} {fuel : Nat} (hl : late i = true)
    (F : Fr N E M ρ l env loc h a w) {K : Kt} (hK : evGuard P ty N esc none ops.toList o env loc h K)
    (hn : ∀ env' loc' h' M' ρ' l' a' w', Fr N E M' ρ' l' env' loc' h' a' w' → K env' loc' h' → wpAnyK P ops Q (StepR ops late M' (nonOwn h' ρ' w')) fuel (listed.setIfInBounds i true) a' w') :
    wpOp P ops Q i (fun a' w' => StepR ops late M (nonOwn h ρ w) i w w' ∧ wpAnyK P ops Q (StepR ops late M (nonOwn h ρ w)) fuel (listed.setIfInBounds i true) a' w') a w := by
  unfold wpOp
  simp only [ho]
  have key : Goes N E M ρ h w (isStore o.op) none K (fun a' w' => StepR ops late M (nonOwn h ρ w) i w w' ∧ wpAnyK P ops Q (StepR ops late M (nonOwn h ρ w)) fuel (listed.setIfInBounds i true) a' w') := by
    intro env' loc' h' M' ρ' l' a' w' hm hb _ F' hk
    refine ⟨⟨fun hst => ⟨fun x v hx _ => F'.f.sim.mem x v (hm x v hx), fun b hb' => ?_⟩, fun hlt => ?_⟩, ?_⟩
    · refine (hb b hb'.1 hb'.2).1 ?_
      simpa [storeAt, ho] using hst
    · rw [hl] at hlt; cases hlt
    · refine wpAnyK_mono (R := StepR ops late M' (nonOwn h' ρ' w')) (fun k w1 w2 hr => ⟨fun hst => ⟨fun x v hx => (hr.1 hst).1 x v (hm x v hx), fun b hb' => (hr.1 hst).2 b ⟨(hb b hb'.1 hb'.2).2.1, (hb b hb'.1 hb'.2).2.2⟩⟩, hr.2⟩) _ _ _ _ ?_
      exact hn _ _ _ _ _ _ _ _ F' hk
  have := evGuard_sound hT F o (fun e => e) hK (fun _ hn => by cases hn) key Q
  split
  · rename_i hw; rw [if_pos hw] at this; exact .inl this
  · rename_i hw; rw [if_neg hw] at this; exact this

theorem evT_sound (hT : TyOK P ty) {ops : Array Oper} {late : Nat → Bool} {K : Kx} {Q : Exit → Act → World → Prop} (hQ : ∀ c a w, ¬ Q (.panic c) a w) (hQn : ∀ env loc h M ρ l a w, Fr N E M ρ l env loc h a w → K .normal env loc h → Q .normal a w)
    (hs : Region.noSelect ops = true) :
    ∀ (σ : Ord) (n : Nat) (listed : Array Bool) (env : Env) (loc : Loc) (h : Heap) (M : Mem) (ρ : Rho) (l : Lam) (a : Act) (w : World), Fr N E M ρ l env loc h a w → Closed ops listed → (∀ j, lateT σ j = true → late j = true) → drawT ops late σ n listed = true →
      evT P ty N esc ops.toList σ env loc h (fun env loc h => K .normal env loc h) →
      (wholeT ops σ listed = true → wpAnyK P ops Q (StepR ops late M (nonOwn h ρ w)) n listed a w) ∧
      (wholeT.wholeR ops σ listed = true → ∀ m, n = m + 1 → ∀ i ∈ altsT σ, wpOp P ops Q i (fun a' w' => StepR ops late M (nonOwn h ρ w) i w w' ∧ wpAnyK P ops Q (StepR ops late M (nonOwn h ρ w)) m (listed.setIfInBounds i true) a' w') a w) := by
  intro σ
  induction σ with
  | nil =>
    intro n listed env loc h M ρ l a w F hc _ hd hK
    refine ⟨fun _ => ?_, fun h => by cases h⟩
    simp only [drawT, Bool.and_eq_true] at hd
    exact wpAnyK_done (by simpa using hd.2) (hQn _ _ _ _ _ _ _ _ F hK) n
  | one mark i r ih =>
    intro n listed env loc h M ρ l a w F hc hl hd hK
    refine ⟨fun hw => ?_, fun h => by cases h⟩
    simp only [drawT, Bool.and_eq_true] at hd
    obtain ⟨⟨hn, hd1⟩, hd2⟩ := hd
    obtain ⟨m, rfl⟩ : ∃ m, n = m + 1 := ⟨n - 1, by have := Nat.le_of_ble_eq_true hn; omega⟩
    simp only [Nat.add_sub_cancel] at hd2
    have hl' : ∀ j, lateT r j = true → late j = true := fun j hj => hl j (by simp [lateT, hj])
    simp only [evT] at hK
    split at hK
    · exact hK.elim
    rename_i o ho
    have ho' : ops[i]? = some o := by simpa using ho
    rw [ho'] at hd1
    split at hK
    · simp only [Bool.and_eq_true] at hd1
      have hr : i ∈ Region.ready .any ops listed := by simpa using hd1.1
      refine still_take hT hQ hs ho' hc F (.inl ⟨hK, hd1.1, ?_⟩) fun v env' F' hk => (ih _ _ env' loc h M ρ l _ w F' (closed_set hc hr) hl' hd2 hk).1 hw
      cases hq : isLoad o.op <;> simp only [hq] at hd1 ⊢ <;> exact hd1.2
    · simp only [Bool.and_eq_true] at hd1
      have hr : i ∈ Region.ready .any ops listed := by simpa using hd1.1
      exact still_take hT hQ hs ho' hc F (.inr ⟨hK, hd1.1, hd1.2⟩) fun v env' F' hk => (ih _ _ env' loc h M ρ l _ w F' (closed_set hc hr) hl' hd2 hk).1 hw
    · have hready : Region.ready .any ops listed = [i] := by
        simp only at hd1
        split at hd1
        · rename_i j hj
          rw [hj, Nat.eq_of_beq_eq_true hd1]
        · cases hd1
      refine ⟨fun h0 => (by rw [hready] at h0; cases h0), fun j hj => ?_⟩
      have hji : j = i := by rw [hready] at hj; simpa using hj
      subst hji
      exact op_take hT ho' (hl j (by simp [lateT])) F hK fun env' loc' h' M' ρ' l' a' w' F' hk => (ih _ _ env' loc' h' M' ρ' l' a' w' F' (closed_set hc hj) hl' hd2 hk).1 hw
  | alt i x r ihx ihr =>
    intro n listed env loc h M ρ l a w F hc hl hd hK
    simp only [drawT, Bool.and_eq_true] at hd
    obtain ⟨⟨⟨hn, hd0⟩, hd1⟩, hd2⟩ := hd
    have hr : i ∈ Region.ready .any ops listed := by simpa using hd0
    simp only [evT] at hK
    obtain ⟨hK1, hK2⟩ := hK
    have hlx : ∀ j, lateT x j = true → late j = true := fun j hj => hl j (by simp [lateT, hj])
    have hlr : ∀ j, lateT r j = true → late j = true := fun j hj => hl j (by simp [lateT, hj])
    split at hK1
    · exact hK1.elim
    rename_i o ho
    have ho' : ops[i]? = some o := by simpa using ho
    have alts : wholeT ops x (listed.setIfInBounds i true) = true → wholeT.wholeR ops r listed = true → ∀ m, n = m + 1 → ∀ k ∈ i :: altsT r, wpOp P ops Q k (fun a' w' => StepR ops late M (nonOwn h ρ w) k w w' ∧ wpAnyK P ops Q (StepR ops late M (nonOwn h ρ w)) m (listed.setIfInBounds k true) a' w') a w := by
      intro hwx hwr m hm k hk
      rcases List.mem_cons.1 hk with e | e
      · subst e
        subst hm
        simp only [Nat.add_sub_cancel] at hd1
        exact op_take hT ho' (hl k (by simp [lateT])) F hK1 fun env' loc' h' M' ρ' l' a' w' F' hk => (ihx _ _ env' loc' h' M' ρ' l' a' w' F' (closed_set hc hr) hlx hd1 hk).1 hwx
      · exact (ihr n listed env loc h M ρ l a w F hc hlr hd2 hK2).2 hwr m hm k e
    refine ⟨fun hw => ?_, fun hw m hm => ?_⟩
    · simp only [wholeT, Bool.and_eq_true] at hw
      obtain ⟨⟨hwx, hwr⟩, hall⟩ := hw
      obtain ⟨m, rfl⟩ : ∃ m, n = m + 1 := ⟨n - 1, by have := Nat.le_of_ble_eq_true hn; omega⟩
      refine ⟨fun h0 => (by rw [h0] at hr; cases hr), fun k hk => alts hwx hwr m rfl k ?_⟩
      have := List.all_eq_true.1 hall k hk
      simpa using this
    · simp only [wholeT.wholeR, Bool.and_eq_true] at hw
      exact alts hw.1 hw.2 m hm
  | stop =>
    intro n listed env loc h M ρ l a w F hc hl hd hK
    exact ⟨fun hw => (by cases hw), fun hw m hm i hi => (by cases hi)⟩

/-- A region whose order is drawn, by an order that parts. -/
theorem ACode.drawT (hT : TyOK P ty) (hm : P.follows .mixedOrders = true) (esc : Nat → Bool) {id : Nat} {ops : Array Oper} {K : Kx} (σ : Ord) (hd : ordOK ops σ = true)
    (hK : evT P ty N esc ops.toList σ env loc h fun env loc h => K .normal env loc h) : ACode P N (.region id ops true) env loc h K := by
  refine ⟨fun E M ρ l a w F => ?_⟩
  simp only [ordOK, Bool.and_eq_true] at hd
  obtain ⟨⟨h1, h2⟩, h3⟩ := hd
  refine wp_mono (Q := fun e a w => match e with | .normal => Post N E K .normal a w | _ => False) ?_ fun e a w hq => by
    cases e <;> first | exact hq | exact hq.elim
  obtain ⟨s1, s2⟩ := step_same F.f.sim (w' := { w with drawn := w.drawn + 1 }) rfl rfl rfl rfl
  have F' := F.step s1 s2
  refine wp_region_any hm ?_
  exact wpAny_of_K _ _ _ _ ((evT_sound (Q := fun e a w => match e with | .normal => Post N E K .normal a w | _ => False) hT (K := K) (fun c a w hq => hq) (fun env loc h M ρ l a w F hk => ⟨env, loc, h, M, ρ, l, F, hk⟩) h1 σ ops.size (Array.replicate ops.size false) env loc h M ρ l a _ F' (closed_none ops) (fun _ h => h) h2 hK).1 h3)

end
end
end Go.Lift
