/- A part of the proof (own lemmas, no condition beyond those that each theorem states): the layer over the model that all of the proofs of this seat stand on. -/
import Derived.Test.YtobpjbcgmdbncaaGreatDoorLiftXB
set_option linter.unusedVariables false
set_option linter.unusedSectionVars false
set_option linter.unusedSimpArgs false
namespace Go.Lift
open Go Go.RowKit
variable [G : Glob]

/-! ### Are two states the same? -/
def all2 {α β : Type} (f : α → β → Bool) : List α → List β → Bool
  | [], [] => true
  | x :: xs, y :: ys => f x y && all2 f xs ys
  | _, _ => false

def eqCap : Cap → Cap → Bool
  | .full, .full => true
  | .own t, .own u => Nat.beq t u
  | .no, .no => true
  | .nil, .nil => true
  | _, _ => false

def eqVal : Value → Value → Bool
  | .nilIface, .nilIface => true
  | .pointer none, .pointer none => true
  | .map none, .map none => true
  | .nilFunc, .nilFunc => true
  | _, _ => false

def eqFn : Fn → Fn → Bool
  | .func a, .func b => Nat.beq a b
  | _, _ => false

def eqV : Nat → AV → AV → Bool
  | 0, _, _ => false
  | n + 1, x, y => match x, y with
    | .undef, .undef => true
    | .int k a, .int k' b => decide (k = k') && decide (a = b)
    | .bool a, .bool b => a == b
    | .str a, .str b => a == b
    | .opq a, .opq b => eqVal a b
    | .agg a, .agg b => all2 (eqV n) a b
    | .tuple a, .tuple b => all2 (eqV n) a b
    | .iface t a, .iface u b => Nat.beq t u && eqV n a b
    | .func f a c, .func g b d => eqFn f g && all2 (eqV n) a b && all2 (eqV n) c d
    | .sl k g e c, .sl k' g' e' c' => Nat.beq k k' && (g == g') && all2 (eqV n) e e' && eqCap c c'
    | .row a b c d, .row a' b' c' d' => Nat.beq a a' && Nat.beq b b' && Nat.beq c c' && decide (d = d')
    | .ptr a b, .ptr a' b' => Nat.beq a a' && Nat.beq b b'
    | .lptr a b, .lptr a' b' => Nat.beq a a' && Nat.beq b b'
    | .ept x k g o, .ept x' k' g' o' => eqV n x x' && Nat.beq k k' && (g == g') && Nat.beq o o'
    | .map a, .map b => Nat.beq a b
    | _, _ => false

theorem all2_eq {α : Type} {f : α → α → Bool} (h : ∀ x y, f x y = true → x = y) : ∀ {xs ys : List α}, all2 f xs ys = true → xs = ys
  | [], [], _ => rfl
  | x :: xs, y :: ys, e => by
    simp only [all2, Bool.and_eq_true] at e
    rw [h _ _ e.1, all2_eq h e.2]
  | [], _ :: _, e => by cases e
  | _ :: _, [], e => by cases e

theorem eqCap_eq {a b : Cap} (h : eqCap a b = true) : a = b := by
  cases a <;> cases b <;> first | rfl | cases h | (rw [Nat.eq_of_beq_eq_true h])
theorem eqVal_eq {a b : Value} (h : eqVal a b = true) : a = b := by
  unfold eqVal at h
  split at h <;> first | rfl | cases h
theorem eqFn_eq {a b : Fn} (h : eqFn a b = true) : a = b := by
  unfold eqFn at h
  split at h
  · rw [Nat.eq_of_beq_eq_true h]
  · cases h

theorem eqV_eq : ∀ (n : Nat) (x y : AV), eqV n x y = true → x = y
  | 0, _, _, h => by cases h
  | n + 1, x, y, h => by
    have ih := eqV_eq n
    unfold eqV at h
    split at h <;> first | rfl | cases h | skip
    all_goals try simp only [Bool.and_eq_true, beq_iff_eq, decide_eq_true_eq] at h
    · rw [h.1, h.2]
    · rw [h]
    · rw [h]
    · rw [eqVal_eq h]
    · rw [all2_eq ih h]
    · rw [all2_eq ih h]
    · rw [Nat.eq_of_beq_eq_true h.1, ih _ _ h.2]
    · rw [eqFn_eq h.1.1, all2_eq ih h.1.2, all2_eq ih h.2]
    · rw [Nat.eq_of_beq_eq_true h.1.1.1, h.1.1.2, all2_eq ih h.1.2, eqCap_eq h.2]
    · rw [Nat.eq_of_beq_eq_true h.1.1.1, Nat.eq_of_beq_eq_true h.1.1.2, Nat.eq_of_beq_eq_true h.1.2, h.2]
    · rw [Nat.eq_of_beq_eq_true h.1, Nat.eq_of_beq_eq_true h.2]
    · rw [Nat.eq_of_beq_eq_true h.1, Nat.eq_of_beq_eq_true h.2]
    · rw [ih _ _ h.1.1.1, Nat.eq_of_beq_eq_true h.1.1.2, h.1.2, Nat.eq_of_beq_eq_true h.2]
    · rw [Nat.eq_of_beq_eq_true h]

def eqO : AObj → AObj → Bool
  | .cells a, .cells b => all2 (eqV 12) a b
  | .tail, .tail => true
  | .map a c, .map b d => all2 (fun x y => eqV 12 x.1 y.1 && eqV 12 x.2 y.2) a b && (c == d)
  | _, _ => false
theorem eqO_eq {a b : AObj} (h : eqO a b = true) : a = b := by
  unfold eqO at h
  split at h
  · rw [all2_eq (eqV_eq 12) h]
  · rfl
  · simp only [Bool.and_eq_true] at h
    rw [all2_eq (fun x y e => by
      simp only [Bool.and_eq_true] at e
      exact Prod.ext (eqV_eq 12 _ _ e.1) (eqV_eq 12 _ _ e.2)) h.1, eq_of_beq h.2]
  · cases h

def eqT {α : Type} (f : α → α → Bool) : Tr α → Tr α → Bool
  | .nil, .nil => true
  | .node v l r, .node v' l' r' => (match v, v' with
    | none, none => true
    | some x, some y => f x y
    | _, _ => false) && eqT f l l' && eqT f r r'
  | _, _ => false
theorem eqT_eq {α : Type} {f : α → α → Bool} (h : ∀ x y, f x y = true → x = y) : ∀ {a b : Tr α}, eqT f a b = true → a = b
  | .nil, .nil, _ => rfl
  | .node v l r, .node v' l' r', e => by
    simp only [eqT, Bool.and_eq_true] at e
    rw [eqT_eq h e.1.2, eqT_eq h e.2]
    have := e.1.1
    split at this
    · rfl
    · rw [h _ _ this]
    · cases this
  | .nil, .node _ _ _, e => by cases e
  | .node _ _ _, .nil, e => by cases e

def eqSt (a b : St) : Bool := eqT (eqV 12) a.env b.env && eqT (all2 (eqV 12)) a.loc b.loc && eqT eqO a.h b.h && Nat.beq a.n b.n
theorem eqSt_eq {a b : St} (h : eqSt a b = true) : a = b := by
  simp only [eqSt, Bool.and_eq_true] at h
  cases a; cases b
  congr
  · exact eqT_eq (eqV_eq 12) h.1.1.1
  · exact eqT_eq (fun x y => all2_eq (eqV_eq 12)) h.1.1.2
  · exact eqT_eq (fun x y => eqO_eq) h.1.2
  · exact Nat.eq_of_beq_eq_true h.2

/-- A function that may be run: its code, which of its slots' slices are written, an order for each region that draws one. -/
structure FX where
  fn : Func
  body : Code
  esc : Nat → Bool
  sig : Nat → Ord
  /-- In a region: the operations whose new objects have names of their own. -/
  rsv : Nat → List Nat := fun _ => []

def sigsOK (sig : Nat → Ord) : Code → Bool
  | .region id ops draw => match draw with
    | true => ordOK ops (sig id)
    | false => true
  | .seq x y => sigsOK sig x && sigsOK sig y
  | .cond _ x y => sigsOK sig x && sigsOK sig y
  | .block _ c => sigsOK sig c
  | .loop c => sigsOK sig c
  | _ => true

structure FXOK (P : Program) (g : FuncId) (fx : FX) : Prop where
  funcs : P.funcs[g]? = some fx.fn
  body : fx.fn.body = some fx.body
  name : (fx.fn.name == "runtime.NumGoroutine") = false
  small : fx.fn.ntmps ≤ 1000000
  sigs : sigsOK fx.sig fx.body = true

abbrev CallX := FuncId → List AV → Tr AObj → Nat → Option (AV × Tr AObj × Nat)

noncomputable def xOpC (call : CallX) (ty : Tys) (N : Nat) (esc : Nat → Bool) (o : Oper) (s : St) : Option St :=
  match o.op with
  | .call c => match c.callee with
    | .value f => match dstOK N o.dst with
      | false => none
      | true => match evO (envF s.env) f with
        | .func (.func g) first captured => match (c.args.toList.map (evO (envF s.env))).all AV.plain with
          | false => none
          | true => match call g (first ++ c.args.toList.map (evO (envF s.env)) ++ captured) s.h s.n with
            | some (r, h', n') => some ⟨putO s.env o.dst r, s.loc, h', n'⟩
            | none => none
        | _ => none
    | _ => xOp ty N esc o s
  | _ => xOp ty N esc o s

noncomputable def xGuard (call : CallX) (ty : Tys) (N : Nat) (esc : Nat → Bool) (all : List Oper) (o : Oper) (s : St) : Option St :=
  match o.guard with
  | none => xOpC call ty N esc o s
  | some (j, want) => match (all[j]?).bind (·.dst) with
    | none => none
    | some dj => match Nat.blt dj N && dstOK N o.dst with
      | false => none
      | true => match envF s.env dj with
        | .bool b => match want == b with
          | true => xOpC call ty N esc o s
          | false => some ⟨putO s.env o.dst skipV, s.loc, s.h, s.n⟩
        | .tuple [] => some ⟨putO s.env o.dst skipV, s.loc, s.h, s.n⟩
        | _ => none

noncomputable def xStillW (core : (AV → Option St) → Option St) (N : Nat) (all : List Oper) (o : Oper) (s : St) : Option St :=
  match dstOK N o.dst with
  | false => none
  | true => match o.guard with
    | none => core (retX s o.dst)
    | some (j, want) => match (all[j]?).bind (·.dst) with
      | none => none
      | some dj => match Nat.blt dj N with
        | false => none
        | true => match envF s.env dj with
          | .bool b => match want == b with
            | true => core (retX s o.dst)
            | false => retX s o.dst skipV
          | .tuple [] => retX s o.dst skipV
          | _ => none

noncomputable def xPeek (ty : Tys) (s : St) (op : Op) (k : AV → Option St) : Option St :=
  match op with
  | .load t p => match evO (envF s.env) p with
    | .ptr id off => match ty t with
      | none => none
      | some i => match peekX s.h i id off with
        | some v => k v
        | none => none
    | _ => none
  | _ => none

noncomputable def xOps (call : CallX) (ty : Tys) (N : Nat) (esc : Nat → Bool) (all : List Oper) : List Oper → St → Option St
  | [], s => some s
  | o :: r, s => match xGuard call ty N esc all o s with
    | some s => xOps call ty N esc all r s
    | none => none

def isStop : Ord → Bool
  | .stop => true
  | _ => false

def rvLook : List (Nat × Nat) → Nat → Option Nat
  | [], _ => none
  | (k, r) :: l, i => match Nat.beq k i with
    | true => some r
    | false => rvLook l i
def rvDrop (rv : List (Nat × Nat)) (i : Nat) : List (Nat × Nat) :=
  match rvLook rv i with
  | none => rv
  | some r => rv.filter fun p => !Nat.beq p.2 r
def rvNew : List Nat → Nat → List (Nat × Nat)
  | [], _ => []
  | k :: l, n => (k, n) :: rvNew l (n + 1)

/-- An operation, its new object's name kept for it. -/
noncomputable def xTake (call : CallX) (ty : Tys) (N : Nat) (esc : Nat → Bool) (all : List Oper) (rv : List (Nat × Nat)) (i : Nat) (o : Oper) (s : St) : Option St :=
  match rvLook rv i with
  | none => xGuard call ty N esc all o s
  | some r => match xGuard (fun _ _ _ _ => none) ty N esc all o ⟨s.env, s.loc, s.h, r⟩ with
    | some s1 => some ⟨s1.env, s1.loc, s1.h, s.n⟩
    | none => none

noncomputable def xDraw (call : CallX) (ty : Tys) (N : Nat) (esc : Nat → Bool) (all : List Oper) : Ord → List (Nat × Nat) → St → Option St
  | .nil, rv, s => some s
  | .one mark i r, rv, s => match all[i]? with
    | none => none
    | some o => match mark with
      | some true => match xStillW (fun k => (evS ty (envF s.env) (locF s.loc) o.op).out k) N all o s with
        | some s => xDraw call ty N esc all r rv s
        | none => none
      | none => match xStillW (xPeek ty s o.op) N all o s with
        | some s => xDraw call ty N esc all r rv s
        | none => none
      | some false => match xTake call ty N esc all rv i o s with
        | some s => xDraw call ty N esc all r (rvDrop rv i) s
        | none => none
  | .alt i x r, rv, s => match all[i]? with
    | none => none
    | some o => match xTake call ty N esc all rv i o s with
      | none => none
      | some s1 => match xDraw call ty N esc all x (rvDrop rv i) s1 with
        | none => none
        | some s2 => match isStop r with
          | true => some s2
          | false => match xDraw call ty N esc all r rv s with
            | none => none
            | some s3 => match eqSt s2 s3 with
              | true => some s2
              | false => none
  | .stop, _, _ => none

noncomputable def stepC (ty : Tys) (call : CallX) (ih : FX → Code → St → Option (Exit × St)) (fx : FX) (c : Code) (s : St) : Option (Exit × St) :=
  match c with
  | .skip => some (.normal, s)
  | .label _ => some (.normal, s)
  | .region id ops draw => match (match draw with
    | false => xOps call ty fx.fn.ntmps fx.esc ops.toList ops.toList s
    | true => xDraw call ty fx.fn.ntmps fx.esc ops.toList (fx.sig id) (rvNew (fx.rsv id) s.n) ⟨s.env, s.loc, s.h, s.n + (fx.rsv id).length⟩) with
    | some s => some (.normal, s)
    | none => none
  | .seq x y => match ih fx x s with
    | some (.normal, s) => ih fx y s
    | r => r
  | .cond c x y => match evO (envF s.env) c with
    | .bool b => match b with
      | true => ih fx x s
      | false => ih fx y s
    | _ => none
  | .block id c => match ih fx c s with
    | some (.exit i, s) => match Nat.beq i id with
      | true => some (.normal, s)
      | false => some (.exit i, s)
    | r => r
  | .loop c => match ih fx c s with
    | some (.normal, s) => ih fx (.loop c) s
    | r => r
  | .exit id => some (.exit id, s)
  | .ret => some (.ret, s)
  | _ => none

noncomputable def ofArgs : List AV → Nat → Tr AV → Tr AV
  | [], _, t => t
  | x :: r, i, t => ofArgs r (i + 1) (putT t i x)

noncomputable def resX (ty : Tys) (env : Env) (loc : Loc) (rs : List ResultVar) (acc : List AV) : Option AV :=
  match rs with
  | [] => match acc with
    | [x] => some x
    | _ => some (.tuple acc)
  | .tmp t :: r => match (env t).plain with
    | true => Res.out.forceO (env t) fun v => resX ty env loc r (acc ++ [v])
    | false => none
  | .cell b t :: r => (evLoad ty loc t (env b)).out fun v => resX ty env loc r (acc ++ [v])

noncomputable def callOf (ft : Nat → Option FX) (ty : Tys) (ih : FX → Code → St → Option (Exit × St)) : CallX := fun g args h n =>
  match ft g with
  | none => none
  | some fx => match Nat.ble args.length fx.fn.ntmps with
    | false => none
    | true => match ih fx fx.body ⟨ofArgs args 0 .nil, .nil, h, n⟩ with
      | some (e, s) => match (match e with
          | .normal => true
          | .ret => true
          | _ => false) with
        | true => match resX ty (envF s.env) (locF s.loc) fx.fn.results.toList [] with
          | some r => some (r, s.h, s.n)
          | none => none
        | false => none
      | none => none

/-- A function's code, run. -/
noncomputable def exec (ft : Nat → Option FX) (ty : Tys) (fuel : Nat) : FX → Code → St → Option (Exit × St) :=
  Nat.rec (motive := fun _ => FX → Code → St → Option (Exit × St)) (fun _ _ _ => none) (fun _ ih fx c s => stepC ty (callOf ft ty ih) ih fx c s) fuel

/-- A call, run: from nothing. -/
noncomputable def runF (ft : Nat → Option FX) (ty : Tys) (fuel : Nat) (g : FuncId) (args : List AV) : Option AV :=
  match callOf ft ty (exec ft ty fuel) g args .nil 0 with
  | some (r, _, _) => some r
  | none => none

/-! ### It is what the model does -/
section
variable {P : Program} {ty : Tys} {N : Nat} {E : Ent} {M : Mem} {ρ : Rho} {l : Lam} {a : Act} {w : World} {esc : Nat → Bool} {Z : Nat → Prop}

structure Above (Z : Nat → Prop) (ρ : Rho) (n : Nat) : Prop where
  up : ∀ i, n ≤ i → ρ i = none
  kept : ∀ i, Z i → i < n ∧ ρ i = none

theorem Above.same {Z : Nat → Prop} {ρ : Rho} {n m : Nat} (h : Above Z ρ n) (e : m = n) : Above Z ρ m := by subst e; exact h

structure XCalls (P : Program) (g : FuncId) (args : List AV) (h : Heap) (n : Nat) (r : AV) (h' : Heap) (n' : Nat) : Prop where
  out : ∀ (Z : Nat → Prop) (M : Mem) (ρ : Rho) (w : World) (vs : Array Value), Sim M ρ h w → Above Z ρ n → Rels M ρ args vs →
    ∀ (o : Oper) (a : Act) (next : Act → World → Prop) (Qx : Exit → Act → World → Prop),
      (∀ v w' M' ρ', Step M ρ h w M' ρ' h' w' → Sim M' ρ' h' w' → Above Z ρ' n' → Rel M' ρ' r v → next (a.put o.dst v) w') → o.upon P a next Qx ((callFunc g vs).run P w)

def CallOK (P : Program) (call : CallX) : Prop := ∀ g args h n r h' n', call g args h n = some (r, h', n') → XCalls P g args (hF h) n r (hF h') n'

/-- What comes next, at a state. -/
def GoesX (Z : Nat → Prop) (N : Nat) (E : Ent) (M : Mem) (ρ : Rho) (h : Heap) (w : World) (st : Bool) (s' : St) (next : Act → World → Prop) : Prop :=
  ∀ M' ρ' l' a w', (∀ x v, M x = some v → M' x = some v) → (∀ b, b < w.heap.size → ¬ Own h ρ b → (st = false → w'.heap[b]? = w.heap[b]?) ∧ b < w'.heap.size ∧ ¬ Own (hF s'.h) ρ' b) → Above Z ρ' s'.n →
    Fr N E M' ρ' l' (envF s'.env) (locF s'.loc) (hF s'.h) a w' → next a w'

theorem rho_none {h : Heap} {n : Nat} (s : Sim M ρ h w) (ha : ρ n = none) : h n = none := by
  cases hh : h n with
  | none => rfl
  | some o =>
    obtain ⟨p, h1, _⟩ := s.obj n o hh
    rw [ha] at h1
    cases h1

/-- As GoesX, of whatever is said of the names. -/
def GoesA (A : Rho → Prop) (N : Nat) (E : Ent) (M : Mem) (ρ : Rho) (h : Heap) (w : World) (st : Bool) (s' : St) (next : Act → World → Prop) : Prop :=
  ∀ M' ρ' l' a w', (∀ x v, M x = some v → M' x = some v) → (∀ b, b < w.heap.size → ¬ Own h ρ b → (st = false → w'.heap[b]? = w.heap[b]?) ∧ b < w'.heap.size ∧ ¬ Own (hF s'.h) ρ' b) → A ρ' →
    Fr N E M' ρ' l' (envF s'.env) (locF s'.loc) (hF s'.h) a w' → next a w'

theorem xOp_soundA (hT : TyOK P ty) (hN : N ≤ 1000000) {o : Oper} {s s' : St} {A : Rho → Prop} (e : xOp ty N esc o s = some s') (F : Fr N E M ρ l (envF s.env) (locF s.loc) (hF s.h) a w) (h0 : ρ s.n = none) (hA : ∀ ρ', (∀ i, (i = s.n → s'.n = s.n) → ρ i = none → ρ' i = none) → (s'.n = s.n ∨ s'.n = s.n + 1) → A ρ') {next : Act → World → Prop} (hn : GoesA A N E M ρ (hF s.h) w (isStore o.op) s' next) (Q : Exit → Act → World → Prop) : o.wp P a w next Q := by
  obtain ⟨h1, h2⟩ := xOp_to (P := P) hN e
  have hh := rho_none F.f.sim h0
  refine evOp_sound (st := isStore o.op) hT F o (fun h => h) h1 (fun n hn => by cases hn; exact ⟨h0, hh⟩) ?_ Q
  rintro env loc h' M' ρ' l' a' w' g1 g2 g3 F' ⟨rfl, rfl, rfl⟩
  refine hn M' ρ' l' a' w' g1 g2 (hA ρ' (fun i hi hr => ?_) (by rcases h2 with h2 | ⟨h2, _⟩ <;> simp [h2])) F'
  rcases h2 with h2 | ⟨h2, h3⟩
  · exact g3 s.n rfl i (fun e => by have := hi e; omega) hr
  · exact g3 s.n rfl i (fun e => by subst e; exact h3 _ hh) hr

theorem xOp_sound (hT : TyOK P ty) (hN : N ≤ 1000000) {o : Oper} {s s' : St} (e : xOp ty N esc o s = some s') (F : Fr N E M ρ l (envF s.env) (locF s.loc) (hF s.h) a w) (ha : Above Z ρ s.n) {next : Act → World → Prop} (hn : GoesX Z N E M ρ (hF s.h) w (isStore o.op) s' next) (Q : Exit → Act → World → Prop) : o.wp P a w next Q :=
  xOp_soundA (A := fun ρ' => Above Z ρ' s'.n) hT hN e F (ha.up _ (Nat.le_refl _)) (fun ρ' hk hn => ⟨fun i hi => hk i (fun e => by omega) (ha.up i (by omega)), fun i hi => ⟨by have := (ha.kept i hi).1; omega, hk i (fun e => by have := (ha.kept i hi).1; omega) (ha.kept i hi).2⟩⟩) hn Q

theorem xOpC_sound (hT : TyOK P ty) (hN : N ≤ 1000000) {call : CallX} (hc : CallOK P call) {o : Oper} {s s' : St} (e : xOpC call ty N esc o s = some s') (F : Fr N E M ρ l (envF s.env) (locF s.loc) (hF s.h) a w) (ha : Above Z ρ s.n) {next : Act → World → Prop} (hn : GoesX Z N E M ρ (hF s.h) w (isStore o.op) s' next) (Q : Exit → Act → World → Prop) : o.wp P a w next Q := by
  unfold xOpC at e
  split at e
  · rename_i c ho
    split at e
    · rename_i f hcf
      split at e
      · cases e
      rename_i hdk
      have hd := dstOK_to hdk
      split at e
      · rename_i g first captured hf
        split at e
        · cases e
        rename_i hp
        split at e
        · rename_i r h' n' hcall
          cases e
          have hff := F.f.ev f
          rw [hf] at hff
          generalize hq : a.eval f = q at hff
          cases hff with
          | func _ _ _ f' c' e1 e2 e3 e4 =>
            have hargs := F.f.e.evsR c.args (by
              rw [List.all_eq_true] at hp ⊢
              intro x hx
              exact hp _ (List.mem_map.2 ⟨x, hx, rfl⟩))
            have hall := rels_append (rels_append (M := M) (ρ := ρ) ⟨e1, e3⟩ hargs) ⟨e2, e4⟩
            have := (hc _ _ _ _ _ _ _ hcall).out Z M ρ w _ F.f.sim ha hall o a next Q fun v w' M' ρ' s1 s2 s3 s4 => by
              refine hn M' ρ' l (a.put o.dst v) w' s1.mem (s1.stay _) s3 ?_
              show Fr N E M' ρ' l (envF (putO s.env o.dst r)) (locF s.loc) (hF h') (a.put o.dst v) w'
              rw [envF_putO (fun t ht => Nat.lt_of_lt_of_le (hd t ht) hN)]
              exact (F.step s1 s2).put hd (RelS.of s4)
            unfold Oper.wp
            have hrun : (execOp a.eval o).run P w = (callFunc g (f' ++ c.args.map a.eval ++ c')).run P w := by
              simp [execOp, ho, resolve, hcf, hq, Deferred.ofValue, invoke]
            rw [hrun]
            exact this
        · cases e
      · cases e
    · exact xOp_sound hT hN e F ha hn Q
  · exact xOp_sound hT hN e F ha hn Q

theorem xGuard_split (hN : N ≤ 1000000) {call : CallX} {ops : Array Oper} {o : Oper} {s s' : St} (e : xGuard call ty N esc ops.toList o s = some s') (F : Fr N E M ρ l (envF s.env) (locF s.loc) (hF s.h) a w) {next : Act → World → Prop} {R : Prop} (hR : xOpC call ty N esc o s = some s' → R)
    (hskip : s'.n = s.n → s'.h = s.h → Fr N E M ρ l (envF s'.env) (locF s'.loc) (hF s'.h) (a.put o.dst Go.undef) w → next (a.put o.dst Go.undef) w) :
    if Region.wanted o (yielded ops a.tmps) then R else next (a.put o.dst Go.undef) w := by
  unfold xGuard at e
  split at e
  · rename_i hg
    have : Region.wanted o (yielded ops a.tmps) = true := by simp [Region.wanted, hg]
    rw [this, if_pos rfl]
    exact hR e
  · rename_i j want hg
    split at e
    · cases e
    rename_i dj hdj
    split at e
    · cases e
    rename_i hlt
    simp only [Bool.and_eq_true] at hlt
    have hd := dstOK_to hlt.2
    have hs := F.f.slot dj
    have skip : s' = ⟨putO s.env o.dst skipV, s.loc, s.h, s.n⟩ → next (a.put o.dst Go.undef) w := fun e => by
      subst e
      refine hskip rfl rfl ?_
      show Fr N E M ρ l (envF (putO s.env o.dst skipV)) (locF s.loc) (hF s.h) (a.put o.dst Go.undef) w
      rw [envF_putO (fun t ht => Nat.lt_of_lt_of_le (hd t ht) hN)]
      exact F.put hd (RelS.of (.tuple [] #[] rfl (fun i hi => by simp at hi)))
    split at e
    · rename_i b hb
      rw [hb] at hs
      have hv : a.tmps.getD dj Go.undef = .bool b := by
        generalize a.tmps.getD dj Go.undef = q at hs
        cases hs; rfl
      have hy := yielded_eq hdj hv
      have hw : Region.wanted o (yielded ops a.tmps) = (want == b) := by
        unfold Region.wanted
        rw [hg]
        simp only [hy]
        cases want <;> cases b <;> rfl
      rw [hw]
      split at e
      · rename_i h; rw [h, if_pos rfl]; exact hR e
      · rename_i h; rw [h]; exact skip (Option.some.inj e).symm
    · rename_i hb
      rw [hb] at hs
      have hv : a.tmps.getD dj Go.undef = .tuple #[] := by
        generalize a.tmps.getD dj Go.undef = q at hs
        cases hs with
        | tuple _ vs hl hr =>
          have : vs = #[] := by simpa using hl.symm
          rw [this]
      have hy := yielded_skip hdj hv
      have hw : Region.wanted o (yielded ops a.tmps) = false := by
        unfold Region.wanted
        rw [hg]
        simp [hy]
      rw [hw]
      exact skip (Option.some.inj e).symm
    · cases e

theorem xGuard_sound (hT : TyOK P ty) (hN : N ≤ 1000000) {call : CallX} (hc : CallOK P call) {ops : Array Oper} {o : Oper} {s s' : St} (e : xGuard call ty N esc ops.toList o s = some s') (F : Fr N E M ρ l (envF s.env) (locF s.loc) (hF s.h) a w) (ha : Above Z ρ s.n) {next : Act → World → Prop} (hn : GoesX Z N E M ρ (hF s.h) w (isStore o.op) s' next) (Q : Exit → Act → World → Prop) :
    if Region.wanted o (yielded ops a.tmps) then o.wp P a w next Q else next (a.put o.dst Go.undef) w :=
  xGuard_split hN e F (fun e => xOpC_sound hT hN hc e F ha hn Q) fun h1 h2 F' => hn M ρ l _ w (fun _ _ h => h) (by rw [h2]; exact stay_same _) (ha.same h1) F'

/-- The names that are kept. -/
def zof (Z : Nat → Prop) (rv : List (Nat × Nat)) : Nat → Prop := fun i => Z i ∨ ∃ p ∈ rv, p.2 = i
def Apart (Z : Nat → Prop) (rv : List (Nat × Nat)) : Prop := ∀ i, Z i → ∀ p ∈ rv, p.2 ≠ i

theorem rvLook_mem : ∀ {rv : List (Nat × Nat)} {i r : Nat}, rvLook rv i = some r → ∃ p ∈ rv, p.2 = r
  | (k, n) :: l, i, r, h => by
    simp only [rvLook] at h
    split at h
    · cases h; exact ⟨(k, n), by simp, rfl⟩
    · obtain ⟨p, h1, h2⟩ := rvLook_mem h
      exact ⟨p, by simp [h1], h2⟩

theorem Apart.drop {Z : Nat → Prop} {rv : List (Nat × Nat)} (h : Apart Z rv) (i : Nat) : Apart Z (rvDrop rv i) := fun k hk p hp => by
  refine h k hk p ?_
  unfold rvDrop at hp
  split at hp
  · exact hp
  · exact (List.mem_filter.1 hp).1

theorem xTake_sound (hT : TyOK P ty) (hN : N ≤ 1000000) {call : CallX} (hc : CallOK P call) {ops : Array Oper} {o : Oper} {rv : List (Nat × Nat)} {i : Nat} {s s' : St} (e : xTake call ty N esc ops.toList rv i o s = some s') (F : Fr N E M ρ l (envF s.env) (locF s.loc) (hF s.h) a w) (ha : Above (zof Z rv) ρ s.n) (hz : Apart Z rv) {next : Act → World → Prop} (hn : GoesX (zof Z (rvDrop rv i)) N E M ρ (hF s.h) w (isStore o.op) s' next) (Q : Exit → Act → World → Prop) :
    if Region.wanted o (yielded ops a.tmps) then o.wp P a w next Q else next (a.put o.dst Go.undef) w := by
  unfold xTake at e
  split at e
  · rename_i hl
    have : rvDrop rv i = rv := by unfold rvDrop; rw [hl]
    rw [this] at hn
    exact xGuard_sound hT hN hc e F ha hn Q
  · rename_i r hl
    split at e
    · rename_i s1 h1
      cases e
      obtain ⟨p, hp, rfl⟩ := rvLook_mem hl
      obtain ⟨hr1, hr2⟩ := ha.kept p.2 (.inr ⟨p, hp, rfl⟩)
      have zd : ∀ i', zof Z (rvDrop rv i) i' → zof Z rv i' ∧ i' ≠ p.2 := fun i' hi' => by
        rcases hi' with h | ⟨q, hq, rfl⟩
        · exact ⟨.inl h, fun e => hz i' h p hp e.symm⟩
        · unfold rvDrop at hq
          rw [hl] at hq
          obtain ⟨q1, q2⟩ := List.mem_filter.1 hq
          exact ⟨.inr ⟨q, q1, rfl⟩, fun e => by rw [e] at q2; simp at q2⟩
      have F1 : Fr N E M ρ l (envF (St.mk s.env s.loc s.h p.2).env) (locF (St.mk s.env s.loc s.h p.2).loc) (hF (St.mk s.env s.loc s.h p.2).h) a w := F
      refine xGuard_split hN h1 F1 (fun e => ?_) fun q1 q2 F' => hn M ρ l _ w (fun _ _ h => h) (by
          show ∀ b, b < w.heap.size → ¬ Own (hF s.h) ρ b → _ ∧ _ ∧ ¬ Own (hF s1.h) ρ b
          rw [q2]; exact stay_same _) ⟨ha.up, fun i' hi' => ha.kept i' (zd i' hi').1⟩ F'
      have hx : xOp ty N esc o ⟨s.env, s.loc, s.h, p.2⟩ = some s1 := by
        unfold xOpC at e
        split at e
        · split at e
          · split at e
            · cases e
            · split at e
              · split at e
                · cases e
                · cases e
              · cases e
          · exact e
        · exact e
      exact xOp_soundA (A := fun ρ' => Above (zof Z (rvDrop rv i)) ρ' s.n) hT hN hx F1 hr2 (fun ρ' hk _ => ⟨fun i' hi' => hk i' (fun e => by simp only at e; omega) (ha.up i' hi'), fun i' hi' => ⟨(ha.kept i' (zd i' hi').1).1, hk i' (fun e => absurd e (zd i' hi').2) (ha.kept i' (zd i' hi').1).2⟩⟩) hn Q
    · cases e

theorem xStillW_to (hN : N ≤ 1000000) {core : (AV → Option St) → Option St} {core' : Env → (AV → Prop) → Prop} {all : List Oper} {o : Oper} {s s' : St} (e : xStillW core N all o s = some s')
    (hcore : ∀ (k : AV → Option St) (K : AV → Prop), core k = some s' → (∀ v, k v = some s' → K v) → core' (envF s.env) K) (hn : ∀ k, core k = some s' → ∃ v, k v = some s') :
    evStillW core' N all o (envF s.env) (fun env => env = envF s'.env) ∧ s'.h = s.h ∧ s'.loc = s.loc ∧ s'.n = s.n := by
  unfold xStillW at e
  unfold evStillW
  split at e
  · cases e
  rename_i hdk
  have hd : ∀ t, o.dst = some t → t < 1000000 := fun t ht => Nat.lt_of_lt_of_le (dstOK_to hdk t ht) hN
  have ret : ∀ {v : AV}, retX s o.dst v = some s' → putE (envF s.env) o.dst v = envF s'.env ∧ s'.h = s.h ∧ s'.loc = s.loc ∧ s'.n = s.n := fun h => by
    cases h
    exact ⟨(envF_putO hd).symm, rfl, rfl, rfl⟩
  rw [hdk]
  split at e
  · rename_i hg
    simp only [hg]
    obtain ⟨v, hv⟩ := hn _ e
    exact ⟨hcore _ _ e fun v hv => (ret hv).1, (ret hv).2⟩
  · rename_i j want hg
    simp only [hg]
    split at e
    · cases e
    rename_i dj hdj
    simp only [hdj]
    split at e
    · cases e
    rename_i hlt
    simp only [hlt]
    split at e
    · rename_i b hb
      simp only [hb]
      split at e
      · rename_i h
        obtain ⟨v, hv⟩ := hn _ e
        refine ⟨?_, (ret hv).2⟩
        cases want <;> cases b <;> first | (simp only [branch, updE_self hb]; exact hcore _ _ e fun v hv => (ret hv).1) | cases h
      · rename_i h
        refine ⟨?_, (ret e).2⟩
        cases want <;> cases b <;> first | (simp only [branch, updE_self hb]; exact (ret e).1) | cases h
    · rename_i hb
      simp only [hb]
      exact ret e
    · cases e

theorem out_some {r : Res} {k : AV → Option St} {s' : St} (e : r.out k = some s') : ∃ v, k v = some s' := by
  unfold Res.out at e
  split at e
  · rw [forceO_eq] at e; exact ⟨_, e⟩
  · rw [forceO_eq] at e; exact ⟨_, e⟩
  · rename_i c d x
    cases d with
    | isTrue hc => simp only [forceO_eq] at e; exact ⟨_, e⟩
    | isFalse hc => cases e
  · cases e

theorem xPeek_to {op : Op} {s s' : St} {k : AV → Option St} {K : AV → Prop} (e : xPeek ty s op k = some s') (hk : ∀ v, k v = some s' → K v) : evPeek ty (hF s.h) op (envF s.env) K ∧ ∃ v, k v = some s' := by
  unfold xPeek at e
  unfold evPeek
  split at e
  · split at e
    · rename_i id off hp
      simp only [hp]
      split at e
      · cases e
      rename_i i hi
      simp only [hi]
      split at e
      · rename_i v hv
        obtain ⟨cs, q1, q2, q3, q4⟩ := peekX_to hv
        rw [q3]
        exact ⟨⟨cs, q1, q2, v, q4, hk v e⟩, v, e⟩
      · cases e
    · cases e
  · cases e

theorem xOps_sound (hT : TyOK P ty) (hN : N ≤ 1000000) {call : CallX} (hc : CallOK P call) {ops : Array Oper} {Q : Exit → Act → World → Prop} {s' : St} (hQ : ∀ M ρ l a w, Fr N E M ρ l (envF s'.env) (locF s'.loc) (hF s'.h) a w → Above Z ρ s'.n → Q .normal a w) :
    ∀ (r : List Oper) (i : Nat) (s : St), (∀ j, r[j]? = ops[i + j]?) → i + r.length = ops.size → xOps call ty N esc ops.toList r s = some s' → ∀ {M ρ l a w}, Fr N E M ρ l (envF s.env) (locF s.loc) (hF s.h) a w → Above Z ρ s.n → wpOps P ops Q (List.range' i r.length) a w
  | [], i, s, _, _, e, M, ρ, l, a, w, F, ha => by
    cases e
    simp only [List.length_nil, List.range'_zero, wpOps]
    exact hQ _ _ _ _ _ F ha
  | o :: r, i, s, hr, hl, e, M, ρ, l, a, w, F, ha => by
    have ho : ops[i]? = some o := by have := hr 0; simpa using this.symm
    simp only [List.length_cons, List.range'_succ, wpOps, ho]
    unfold xOps at e
    split at e
    · rename_i s1 h1
      have := xGuard_sound hT hN hc h1 F ha (next := wpOps P ops Q (List.range' (i + 1) r.length)) (fun M' ρ' l' a' w' _ _ ha' F' => xOps_sound hT hN hc hQ r (i + 1) s1 (fun j => by
        have := hr (j + 1)
        simp only [List.getElem?_cons_succ] at this
        rw [this]; congr 1; omega) (by simp at hl; omega) e F' ha') Q
      split
      · rename_i hw
        rw [if_pos hw] at this
        exact .inl this
      · rename_i hw
        rw [if_neg hw] at this
        exact this
    · cases e

/-- One operation that touches something, taken as one of those that may come. -/
theorem xop_take (hT : TyOK P ty) (hN : N ≤ 1000000) {call : CallX} (hcall : CallOK P call) {ops : Array Oper} {late : Nat → Bool} {Q : Exit → Act → World → Prop} {i : Nat} {o : Oper} (ho : ops[i]? = some o) {listed : Array Bool} {fuel : Nat} (hl : late i = true) {s s1 : St} {rv : List (Nat × Nat)}
    (F : Fr N E M ρ l (envF s.env) (locF s.loc) (hF s.h) a w) (ha : Above (zof Z rv) ρ s.n) (hz : Apart Z rv) (h1 : xTake call ty N esc ops.toList rv i o s = some s1)
    (hn : ∀ M' ρ' l' a' w', Fr N E M' ρ' l' (envF s1.env) (locF s1.loc) (hF s1.h) a' w' → Above (zof Z (rvDrop rv i)) ρ' s1.n → wpAnyK P ops Q (StepR ops late M' (nonOwn (hF s1.h) ρ' w')) fuel (listed.setIfInBounds i true) a' w') :
    wpOp P ops Q i (fun a' w' => StepR ops late M (nonOwn (hF s.h) ρ w) i w w' ∧ wpAnyK P ops Q (StepR ops late M (nonOwn (hF s.h) ρ w)) fuel (listed.setIfInBounds i true) a' w') a w := by
  unfold wpOp
  simp only [ho]
  have key : GoesX (zof Z (rvDrop rv i)) N E M ρ (hF s.h) w (isStore o.op) s1 (fun a' w' => StepR ops late M (nonOwn (hF s.h) ρ w) i w w' ∧ wpAnyK P ops Q (StepR ops late M (nonOwn (hF s.h) ρ w)) fuel (listed.setIfInBounds i true) a' w') := by
    intro M' ρ' l' a' w' hm hb ha' F'
    refine ⟨⟨fun hst => ⟨fun x v hx _ => F'.f.sim.mem x v (hm x v hx), fun b hb' => ?_⟩, fun hlt => ?_⟩, ?_⟩
    · refine (hb b hb'.1 hb'.2).1 ?_
      simpa [storeAt, ho] using hst
    · rw [hl] at hlt; cases hlt
    · refine wpAnyK_mono (R := StepR ops late M' (nonOwn (hF s1.h) ρ' w')) (fun k w1 w2 hr => ⟨fun hst => ⟨fun x v hx => (hr.1 hst).1 x v (hm x v hx), fun b hb' => (hr.1 hst).2 b ⟨(hb b hb'.1 hb'.2).2.1, (hb b hb'.1 hb'.2).2.2⟩⟩, hr.2⟩) _ _ _ _ ?_
      exact hn M' ρ' l' a' w' F' ha'
  have := xTake_sound hT hN hcall h1 F ha hz key Q
  split
  · rename_i hw; rw [if_pos hw] at this; exact .inl this
  · rename_i hw; rw [if_neg hw] at this; exact this

theorem xDraw_sound (hT : TyOK P ty) (hN : N ≤ 1000000) {call : CallX} (hcall : CallOK P call) {ops : Array Oper} {late : Nat → Bool} {Q : Exit → Act → World → Prop} {s' : St} (hQp : ∀ c a w, ¬ Q (.panic c) a w) (hQ : ∀ M ρ l a w, Fr N E M ρ l (envF s'.env) (locF s'.loc) (hF s'.h) a w → Above Z ρ s'.n → Q .normal a w)
    (hs : Region.noSelect ops = true) :
    ∀ (σ : Ord) (n : Nat) (listed : Array Bool) (rv : List (Nat × Nat)) (s : St) (M : Mem) (ρ : Rho) (l : Lam) (a : Act) (w : World), Fr N E M ρ l (envF s.env) (locF s.loc) (hF s.h) a w → Above (zof Z rv) ρ s.n → Apart Z rv → Closed ops listed → (∀ j, lateT σ j = true → late j = true) → drawT ops late σ n listed = true →
      (xDraw call ty N esc ops.toList σ rv s = some s' ∨ isStop σ = true) →
      (wholeT ops σ listed = true → wpAnyK P ops Q (StepR ops late M (nonOwn (hF s.h) ρ w)) n listed a w) ∧
      (wholeT.wholeR ops σ listed = true → ∀ m, n = m + 1 → ∀ i ∈ altsT σ, wpOp P ops Q i (fun a' w' => StepR ops late M (nonOwn (hF s.h) ρ w) i w w' ∧ wpAnyK P ops Q (StepR ops late M (nonOwn (hF s.h) ρ w)) m (listed.setIfInBounds i true) a' w') a w) := by
  intro σ
  induction σ with
  | nil =>
    intro n listed rv s M ρ l a w F ha hz hc _ hd e
    refine ⟨fun _ => ?_, fun h => by cases h⟩
    rcases e with e | e
    · cases e
      simp only [drawT, Bool.and_eq_true] at hd
      exact wpAnyK_done (by simpa using hd.2) (hQ _ _ _ _ _ F ⟨ha.up, fun i hi => ha.kept i (.inl hi)⟩) n
    · cases e
  | one mark i r ih =>
    intro n listed rv s M ρ l a w F ha hz hc hl hd e
    refine ⟨fun hw => ?_, fun h => by cases h⟩
    rcases e with e | e
    case inr => cases e
    simp only [drawT, Bool.and_eq_true] at hd
    obtain ⟨⟨hn, hd1⟩, hd2⟩ := hd
    obtain ⟨m, rfl⟩ : ∃ m, n = m + 1 := ⟨n - 1, by have := Nat.le_of_ble_eq_true hn; omega⟩
    simp only [Nat.add_sub_cancel] at hd2
    have hl' : ∀ j, lateT r j = true → late j = true := fun j hj => hl j (by simp [lateT, hj])
    simp only [xDraw] at e
    split at e
    · cases e
    rename_i o ho
    have ho' : ops[i]? = some o := by simpa using ho
    rw [ho'] at hd1
    cases mark with
    | none =>
      simp only at e hd1
      split at e
      · rename_i s1 h1
        simp only [Bool.and_eq_true] at hd1
        have hr : i ∈ Region.ready .any ops listed := by simpa using hd1.1
        obtain ⟨g1, g2, g4, g3⟩ := xStillW_to (core' := evPeek ty (hF s.h) o.op) hN h1 (fun k K hk hK => (xPeek_to hk hK).1) (fun k hk => (xPeek_to (K := fun _ => True) hk fun _ _ => trivial).2)
        refine still_take hT hQp hs ho' hc F (.inr ⟨g1, hd1.1, hd1.2⟩) fun v env' F' hk => ?_
        subst hk
        rw [← g2, ← g4] at F'
        rw [← g2]
        exact (ih _ _ rv s1 M ρ l _ w F' (ha.same g3) hz (closed_set hc hr) hl' hd2 (.inl e)).1 hw
      · cases e
    | some b =>
      cases b with
      | true =>
        simp only at e hd1
        split at e
        · rename_i s1 h1
          simp only [Bool.and_eq_true] at hd1
          have hr : i ∈ Region.ready .any ops listed := by simpa using hd1.1
          obtain ⟨g1, g2, g4, g3⟩ := xStillW_to (core' := fun env K => goOn (evS ty env (locF s.loc) o.op) K) hN h1 (fun k K hk hK => out_to hk hK) (fun k hk => out_some hk)
          refine still_take hT hQp hs ho' hc F (.inl ⟨g1, hd1.1, ?_⟩) fun v env' F' hk => ?_
          · cases hq : isLoad o.op <;> simp only [hq] at hd1 ⊢ <;> exact hd1.2
          · subst hk
            rw [← g2, ← g4] at F'
            rw [← g2]
            exact (ih _ _ rv s1 M ρ l _ w F' (ha.same g3) hz (closed_set hc hr) hl' hd2 (.inl e)).1 hw
        · cases e
      | false =>
        simp only at e hd1
        split at e
        · rename_i s1 h1
          have hready : Region.ready .any ops listed = [i] := by
            split at hd1
            · rename_i j hj
              rw [hj, Nat.eq_of_beq_eq_true hd1]
            · cases hd1
          refine ⟨fun h0 => (by rw [hready] at h0; cases h0), fun j hj => ?_⟩
          have hji : j = i := by rw [hready] at hj; simpa using hj
          subst hji
          exact xop_take hT hN hcall ho' (hl j (by simp [lateT])) F ha hz h1 fun M' ρ' l' a' w' F' ha' => (ih _ _ _ s1 M' ρ' l' a' w' F' ha' (hz.drop j) (closed_set hc hj) hl' hd2 (.inl e)).1 hw
        · cases e
  | alt i x r ihx ihr =>
    intro n listed rv s M ρ l a w F ha hz hc hl hd e
    rcases e with e | e
    case inr => cases e
    simp only [drawT, Bool.and_eq_true] at hd
    obtain ⟨⟨⟨hn, hd0⟩, hd1⟩, hd2⟩ := hd
    have hr : i ∈ Region.ready .any ops listed := by simpa using hd0
    have hlx : ∀ j, lateT x j = true → late j = true := fun j hj => hl j (by simp [lateT, hj])
    have hlr : ∀ j, lateT r j = true → late j = true := fun j hj => hl j (by simp [lateT, hj])
    simp only [xDraw] at e
    split at e
    · cases e
    rename_i o ho
    have ho' : ops[i]? = some o := by simpa using ho
    split at e
    · cases e
    rename_i s1 h1
    split at e
    · cases e
    rename_i s2 h2
    have e2 : s2 = s' ∧ (xDraw call ty N esc ops.toList r rv s = some s' ∨ isStop r = true) := by
      split at e
      · rename_i hst
        cases e
        exact ⟨rfl, .inr hst⟩
      · split at e
        · cases e
        · rename_i s3 h3
          split at e
          · rename_i heq
            cases e
            exact ⟨rfl, .inl (by rw [h3, eqSt_eq heq])⟩
          · cases e
    obtain ⟨rfl, e2⟩ := e2
    have alts : wholeT ops x (listed.setIfInBounds i true) = true → wholeT.wholeR ops r listed = true → ∀ m, n = m + 1 → ∀ k ∈ i :: altsT r, wpOp P ops Q k (fun a' w' => StepR ops late M (nonOwn (hF s.h) ρ w) k w w' ∧ wpAnyK P ops Q (StepR ops late M (nonOwn (hF s.h) ρ w)) m (listed.setIfInBounds k true) a' w') a w := by
      intro hwx hwr m hm k hk
      rcases List.mem_cons.1 hk with e | e
      · subst e
        subst hm
        simp only [Nat.add_sub_cancel] at hd1
        exact xop_take hT hN hcall ho' (hl k (by simp [lateT])) F ha hz h1 fun M' ρ' l' a' w' F' ha' => (ihx _ _ _ s1 M' ρ' l' a' w' F' ha' (hz.drop k) (closed_set hc hr) hlx hd1 (.inl h2)).1 hwx
      · exact (ihr n listed rv s M ρ l a w F ha hz hc hlr hd2 e2).2 hwr m hm k e
    refine ⟨fun hw => ?_, fun hw m hm => ?_⟩
    · simp only [wholeT, Bool.and_eq_true] at hw
      obtain ⟨⟨hwx, hwr⟩, hall⟩ := hw
      obtain ⟨m, rfl⟩ : ∃ m, n = m + 1 := ⟨n - 1, by have := Nat.le_of_ble_eq_true hn; omega⟩
      refine ⟨fun h0 => (by rw [h0] at hr; cases hr), fun k hk => alts hwx hwr m rfl k ?_⟩
      have := List.all_eq_true.1 hall k hk
      simpa using this
    · simp only [wholeT.wholeR, Bool.and_eq_true] at hw
      exact alts hw.1 hw.2 m hm
  | stop =>
    intro n listed rv s M ρ l a w F ha hz hc hl hd e
    exact ⟨fun hw => (by cases hw), fun hw m hm i hi => (by cases hi)⟩

theorem rvNew_mem : ∀ (ks : List Nat) (n : Nat) (p : Nat × Nat), p ∈ rvNew ks n → n ≤ p.2 ∧ p.2 < n + ks.length
  | k :: l, n, p, h => by
    simp only [rvNew] at h
    rcases List.mem_cons.1 h with rfl | h
    · simp
    · have := rvNew_mem l (n + 1) p h
      simp; omega

theorem above_new {n : Nat} (ks : List Nat) (ha : Above Z ρ n) : Above (zof Z (rvNew ks n)) ρ (n + ks.length) ∧ Apart Z (rvNew ks n) :=
  ⟨⟨fun i hi => ha.up i (by omega), fun i hi => by
    rcases hi with h | ⟨p, hp, rfl⟩
    · have := ha.kept i h
      exact ⟨by omega, this.2⟩
    · have := rvNew_mem _ _ _ hp
      exact ⟨this.2, ha.up _ this.1⟩⟩, fun i hi p hp e => by
    have := rvNew_mem _ _ _ hp
    have := (ha.kept i hi).1
    omega⟩

/-- An end of a piece of code. -/
def XPost (Z : Nat → Prop) (N : Nat) (E : Ent) (e : Exit) (s' : St) : Exit → Act → World → Prop := fun e' a w => e' = e ∧ ∃ M ρ l, Fr N E M ρ l (envF s'.env) (locF s'.loc) (hF s'.h) a w ∧ Above Z ρ s'.n

theorem ofArgs_env : ∀ (xs : List AV) (i : Nat) (t : Tr AV), i + xs.length ≤ 1000000 → ∀ k, envF (ofArgs xs i t) k = if i ≤ k ∧ k < i + xs.length then xs.getD (k - i) skipV else envF t k
  | [], i, t, _, k => by
    simp only [ofArgs, List.length_nil, Nat.add_zero]
    rw [if_neg (by omega)]
  | x :: r, i, t, h, k => by
    simp only [List.length_cons] at h
    simp only [ofArgs, List.length_cons]
    rw [ofArgs_env r (i + 1) (putT t i x) (by omega) k, envF_put (by omega)]
    by_cases h1 : k = i
    · subst h1
      rw [if_neg (by omega), if_pos (by omega), updE_eq, if_pos rfl]
      simp
    · rw [updE_eq, if_neg h1]
      by_cases h2 : i + 1 ≤ k ∧ k < i + 1 + r.length
      · rw [if_pos h2, if_pos (by omega), show k - i = (k - (i + 1)) + 1 by omega]
        simp
      · rw [if_neg h2, if_neg (by omega)]

theorem ofArgs_env0 {xs : List AV} (h : xs.length ≤ 1000000) : envF (ofArgs xs 0 .nil) = env0 xs := by
  funext k
  rw [ofArgs_env xs 0 .nil (by omega) k, env0_eq]
  by_cases hk : k < xs.length
  · rw [if_pos (by omega)]; rfl
  · rw [if_neg (by omega)]
    have : xs.getD k skipV = skipV := by simp [List.getD_eq_getElem?_getD, hk]
    rw [this]
    rfl

theorem resX_to {env : Env} {loc : Loc} {r : AV} : ∀ (rs : List ResultVar) (acc : List AV), resX ty env loc rs acc = some r → resK ty env loc rs acc fun x => x = r
  | [], acc, e => by
    unfold resX at e
    unfold resK
    split at e
    · cases e; rfl
    · rename_i hne
      cases e
      split
      · rename_i x; exact absurd rfl (hne x)
      · rfl
      · rfl
      · rfl
  | .tmp t :: rs, acc, e => by
    unfold resX at e
    unfold resK
    split at e
    · rename_i hp
      rw [forceO_eq] at e
      rw [hp]
      simp only
      rw [force_eq]
      exact resX_to rs _ e
    · cases e
  | .cell b t :: rs, acc, e => by
    unfold resX at e
    unfold resK
    exact out_to e fun v hv => resX_to rs _ hv

/-- A function's slots when it is entered. -/
theorem Fr.entry {h : Heap} {args : List AV} {vs : Array Value} (hs : Sim M ρ h w) (hr : Rels M ρ args vs) (hn : args.length ≤ N) : Fr N ⟨M, ρ, h, w⟩ M ρ (fun _ => none) (env0 args) loc0 h { tmps := vs ++ Array.replicate (N - vs.size) Go.undef, defers := [] } w := by
  have hsz := hr.1
  refine ⟨⟨hs, (by simp; omega), rfl, fun s => ?_, fun d cs hd => (by cases hd), fun d d' cs cs' b h1 => (by cases h1), fun d cs b h1 => (by cases h1), fun d cs b x v h1 => (by cases h1)⟩, Step.refl _ _ _ _, fun d cs b h1 => (by cases h1), fun d b h1 => (by cases h1)⟩
  rw [env0_eq]
  by_cases hlt : s < args.length
  · have h1 := hr.2 s hlt
    have e1 : args.getD s skipV = args.getD s .undef := by simp [List.getD_eq_getElem?_getD, hlt]
    have e2 : (vs ++ Array.replicate (N - vs.size) Go.undef).getD s Go.undef = vs.getD s Go.undef := by
      simp [Array.getD_eq_getD_getElem?, Array.getElem?_append, show s < vs.size by omega]
    rw [e1, e2]
    exact RelS.of h1
  · have e1 : args.getD s skipV = skipV := by simp [List.getD_eq_getElem?_getD, hlt]
    have e2 : (vs ++ Array.replicate (N - vs.size) Go.undef).getD s Go.undef = Go.undef := by
      simp only [Array.getD_eq_getD_getElem?, Array.getElem?_append, show ¬ s < vs.size by omega, if_false, Array.getElem?_replicate]
      split <;> rfl
    rw [e1, e2]
    exact RelS.of (.tuple [] #[] rfl (fun i hi => by simp at hi))

theorem exec_sound (hT : TyOK P ty) (hm : P.follows .mixedOrders = true) {ft : Nat → Option FX} (hft : ∀ g fx, ft g = some fx → FXOK P g fx) : ∀ (fuel : Nat) (fx : FX) (c : Code) (s : St) (e : Exit) (s' : St), fx.fn.ntmps ≤ 1000000 → sigsOK fx.sig c = true → exec ft ty fuel fx c s = some (e, s') →
    (e = .normal ∨ e = .ret ∨ ∃ i, e = .exit i) ∧ (∀ {Z : Nat → Prop} {E M ρ l a w}, Fr fx.fn.ntmps E M ρ l (envF s.env) (locF s.loc) (hF s.h) a w → Above Z ρ s.n → c.wp P (XPost Z fx.fn.ntmps E e s') a w) ∧
    (∀ c', c = .loop c' → ∃ n, ∀ {Z : Nat → Prop} {E M ρ l a w}, Fr fx.fn.ntmps E M ρ l (envF s.env) (locF s.loc) (hF s.h) a w → Above Z ρ s.n → Code.rounds P c' (XPost Z fx.fn.ntmps E e s') n a w) := by
  intro fuel
  induction fuel with
  | zero => intro fx c s e s' _ _ h; cases h
  | succ fuel ih =>
    intro fx c s e s' hN hsig h
    have hcall : CallOK P (callOf ft ty (exec ft ty fuel)) := by
      intro g args hh n r h' n' hc
      unfold callOf at hc
      split at hc
      · cases hc
      rename_i fx hfx
      have ok := hft g fx hfx
      split at hc
      · cases hc
      rename_i hlen
      have hlen := Nat.le_of_ble_eq_true hlen
      split at hc
      · rename_i e1 s1 hex
        split at hc
        · rename_i he1
          split at hc
          · rename_i r1 hres
            cases hc
            obtain ⟨_, hw, _⟩ := ih fx fx.body _ e1 s1 ok.small ok.sigs hex
            refine ⟨fun Z M ρ w vs hs ha hr o a next Qx hnext => ?_⟩
            have hrun : (callFunc g vs).run P w = .ok (.enter g vs) w := by
              simp only [callFunc, Sem.run_bind, run_program, Result.andThen_ok, ok.funcs, ok.name, ok.body, Option.isNone_some, Bool.false_eq_true, if_false, Sem.run_pure]
            rw [hrun]
            show Calls P g vs w _
            have F := Fr.entry (N := fx.fn.ntmps) hs hr hlen
            rw [← ofArgs_env0 (by have := ok.small; omega)] at F
            refine Calls.mono (calls_of_wp ok.funcs ok.body (R := fun e w' => ∃ v M' ρ', e = .returned v ∧ Step M ρ (hF hh) w M' ρ' (hF s1.h) w' ∧ Sim M' ρ' (hF s1.h) w' ∧ Above Z ρ' s1.n ∧ Rel M' ρ' r v) (wp_mono (hw F ha) ?_)) ?_
            · rintro e a' w' ⟨rfl, M', ρ', l', F', ha'⟩
              obtain ⟨r2, v, x1, x2, x3⟩ := run_results hT F'.f (resX_to (ty := ty) _ _ hres)
              subst x3
              have fin : a'.defers = [] ∧ ∃ v, (results fx.fn a'.tmps).run P w' = .ok v w' ∧ ∃ v_1 M' ρ', Ending.returned v = .returned v_1 ∧ Step M ρ (hF hh) w M' ρ' (hF s1.h) w' ∧ Sim M' ρ' (hF s1.h) w' ∧ Above Z ρ' s1.n ∧ Rel M' ρ' r2 v_1 :=
                ⟨F'.f.defers, v, x1, v, M', ρ', rfl, F'.st, F'.f.sim, ha', x2⟩
              cases e with
              | normal => exact fin
              | ret => exact fin
              | _ => cases he1
            · rintro e w' ⟨v, M', ρ', rfl, x1, x2, x3, x4⟩
              exact hnext v w' M' ρ' x1 x2 x3 x4
          · cases hc
        · cases hc
      · cases hc
    have h : stepC ty (callOf ft ty (exec ft ty fuel)) (exec ft ty fuel) fx c s = some (e, s') := h
    have noloop : (∀ c', c ≠ .loop c') → ∀ c', c = .loop c' → ∃ n, ∀ {Z : Nat → Prop} {E M ρ l a w}, Fr fx.fn.ntmps E M ρ l (envF s.env) (locF s.loc) (hF s.h) a w → Above Z ρ s.n → Code.rounds P c' (XPost Z fx.fn.ntmps E e s') n a w := fun hne c' hc => absurd hc (hne c')
    cases c with
    | skip =>
      cases h
      exact ⟨.inl rfl, fun F ha => wp_skip ⟨rfl, _, _, _, F, ha⟩, noloop fun _ h => by cases h⟩
    | label n =>
      cases h
      exact ⟨.inl rfl, fun F ha => wp_label ⟨rfl, _, _, _, F, ha⟩, noloop fun _ h => by cases h⟩
    | exit i =>
      cases h
      exact ⟨.inr (.inr ⟨_, rfl⟩), fun F ha => wp_exit ⟨rfl, _, _, _, F, ha⟩, noloop fun _ h => by cases h⟩
    | ret =>
      cases h
      exact ⟨.inr (.inl rfl), fun F ha => wp_ret ⟨rfl, _, _, _, F, ha⟩, noloop fun _ h => by cases h⟩
    | region id ops draw =>
      simp only [stepC] at h
      split at h
      · rename_i s1 h1
        cases h
        refine ⟨.inl rfl, fun {Z E M ρ l a w} F ha => ?_, noloop fun _ h => by cases h⟩
        cases draw with
        | false =>
          refine wp_region ?_
          rw [List.range_eq_range']
          have := xOps_sound (Q := XPost Z fx.fn.ntmps E .normal s') hT hN hcall (fun M ρ l a w F ha => ⟨rfl, M, ρ, l, F, ha⟩) ops.toList 0 s (fun j => by simp) (by simp) h1 F ha
          simpa using this
        | true =>
          simp only [sigsOK, Bool.and_eq_true, ordOK] at hsig
          obtain ⟨⟨hs2, hs1⟩, hs3⟩ := hsig
          refine wp_mono (Q := fun e a w => match e with | .normal => XPost Z fx.fn.ntmps E .normal s' .normal a w | _ => False) ?_ fun e a w hq => by
            cases e <;> first | exact hq | exact hq.elim
          obtain ⟨t1, t2⟩ := step_same F.f.sim (w' := { w with drawn := w.drawn + 1 }) rfl rfl rfl rfl
          have F' := F.step t1 t2
          refine wp_region_any hm ?_
          have := (xDraw_sound (Q := fun e a w => match e with | .normal => XPost Z fx.fn.ntmps E .normal s' .normal a w | _ => False) hT hN hcall (fun c a w hq => hq) (fun M ρ l a w F ha => ⟨rfl, M, ρ, l, F, ha⟩) hs2 (fx.sig id) ops.size (Array.replicate ops.size false) (rvNew (fx.rsv id) s.n) ⟨s.env, s.loc, s.h, s.n + (fx.rsv id).length⟩ M ρ l a _ F' (above_new (fx.rsv id) ha).1 (above_new (fx.rsv id) ha).2 (closed_none ops) (fun _ h => h) hs1 (.inl h1)).1 hs3
          exact wpAny_of_K _ _ _ _ this
      · cases h
    | seq x y =>
      simp only [stepC] at h
      simp only [sigsOK, Bool.and_eq_true] at hsig
      split at h
      · rename_i s1 h1
        obtain ⟨_, hx, _⟩ := ih fx x s _ s1 hN hsig.1 h1
        obtain ⟨he, hy, _⟩ := ih fx y s1 e s' hN hsig.2 h
        refine ⟨he, fun F ha => wp_seq (wp_mono (hx F ha) ?_), noloop fun _ h => by cases h⟩
        rintro e1 a1 w1 ⟨rfl, M', ρ', l', F', ha'⟩
        exact hy F' ha'
      · rename_i hne
        obtain ⟨he, hx, _⟩ := ih fx x s e s' hN hsig.1 h
        refine ⟨he, fun F ha => wp_seq (wp_mono (hx F ha) ?_), noloop fun _ h => by cases h⟩
        rintro e1 a1 w1 ⟨rfl, hq⟩
        cases e1 with
        | normal => exact absurd h (hne s')
        | _ => exact ⟨rfl, hq⟩
    | cond cc x y =>
      simp only [stepC] at h
      simp only [sigsOK, Bool.and_eq_true] at hsig
      split at h
      · rename_i b hb
        have hcond : ∀ {E : Ent} {M ρ l a w}, Fr fx.fn.ntmps E M ρ l (envF s.env) (locF s.loc) (hF s.h) a w → a.eval cc = .bool b := by
          intro E M ρ l a w F
          have hv := F.f.ev cc
          rw [hb] at hv
          generalize a.eval cc = q at hv
          cases hv; rfl
        cases b with
        | true =>
          obtain ⟨he, hx, _⟩ := ih fx x s e s' hN hsig.1 h
          exact ⟨he, fun F ha => wp_cond_true (hcond F) (hx F ha), noloop fun _ h => by cases h⟩
        | false =>
          obtain ⟨he, hx, _⟩ := ih fx y s e s' hN hsig.2 h
          exact ⟨he, fun F ha => wp_cond_false (hcond F) (hx F ha), noloop fun _ h => by cases h⟩
      · cases h
    | block id c =>
      simp only [stepC] at h
      simp only [sigsOK] at hsig
      split at h
      · rename_i i s1 h1
        obtain ⟨_, hx, _⟩ := ih fx c s _ s1 hN hsig h1
        split at h
        · rename_i hb
          cases h
          refine ⟨.inl rfl, fun F ha => wp_block (wp_mono (hx F ha) ?_), noloop fun _ h => by cases h⟩
          rintro e1 a1 w1 ⟨rfl, hq⟩
          simp only [Exit.inBlock]
          rw [if_pos (Nat.eq_of_beq_eq_true hb)]
          exact ⟨rfl, hq⟩
        · rename_i hb
          cases h
          refine ⟨.inr (.inr ⟨_, rfl⟩), fun F ha => wp_block (wp_mono (hx F ha) ?_), noloop fun _ h => by cases h⟩
          rintro e1 a1 w1 ⟨rfl, hq⟩
          have : i ≠ id := fun e => by subst e; simp at hb
          simp only [Exit.inBlock]
          rw [if_neg this]
          exact ⟨rfl, hq⟩
      · rename_i hne
        obtain ⟨he, hx, _⟩ := ih fx c s e s' hN hsig h
        refine ⟨he, fun F ha => wp_block (wp_mono (hx F ha) ?_), noloop fun _ h => by cases h⟩
        rintro e1 a1 w1 ⟨rfl, hq⟩
        cases e1 with
        | exit i => exact absurd h (hne i s')
        | _ => exact ⟨rfl, hq⟩
    | loop c =>
      simp only [stepC] at h
      have hsig' : sigsOK fx.sig c = true := hsig
      have key : (e = .normal ∨ e = .ret ∨ ∃ i, e = .exit i) ∧ ∃ n, ∀ {Z : Nat → Prop} {E M ρ l a w}, Fr fx.fn.ntmps E M ρ l (envF s.env) (locF s.loc) (hF s.h) a w → Above Z ρ s.n → Code.rounds P c (XPost Z fx.fn.ntmps E e s') n a w := by
        split at h
        · rename_i s1 h1
          obtain ⟨_, hx, _⟩ := ih fx c s _ s1 hN hsig' h1
          obtain ⟨he, _, hy⟩ := ih fx (.loop c) s1 e s' hN hsig h
          obtain ⟨n, hn⟩ := hy c rfl
          refine ⟨he, n + 1, fun {Z E M ρ l a w} F ha => wp_mono (hx F ha) ?_⟩
          rintro e1 a1 w1 ⟨rfl, M', ρ', l', F', ha'⟩
          exact hn F' ha'
        · rename_i hne
          obtain ⟨he, hx, _⟩ := ih fx c s e s' hN hsig' h
          refine ⟨he, 1, fun F ha => wp_mono (hx F ha) ?_⟩
          rintro e1 a1 w1 ⟨rfl, hq⟩
          cases e1 with
          | normal => exact absurd h (hne s')
          | _ => exact ⟨rfl, hq⟩
      obtain ⟨k1, n, hn⟩ := key
      exact ⟨k1, fun F ha => wp_loop_rounds n (hn F ha), fun c' hc => by cases hc; exact ⟨n, hn⟩⟩
    | _ => cases h

end
end Go.Lift
