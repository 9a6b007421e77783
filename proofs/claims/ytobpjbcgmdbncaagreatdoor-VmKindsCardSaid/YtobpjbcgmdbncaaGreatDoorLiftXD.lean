/- A part of the proof (own lemmas, no condition beyond those that each theorem states): the layer over the model that all of the proofs of this seat stand on. -/
import Derived.Test.YtobpjbcgmdbncaaGreatDoorLiftXC
set_option linter.unusedVariables false
set_option linter.unusedSectionVars false
set_option linter.unusedSimpArgs false
namespace Go.Lift
open Go Go.RowKit
variable [G : Glob]

/-! ### From nothing to whatever heap -/
/-- It names no object. -/
def freeN : Nat → AV → Bool
  | 0, _ => false
  | n + 1, x => match x with
    | .undef => true
    | .int _ _ => true
    | .bool _ => true
    | .str _ => true
    | .opq _ => true
    | .agg cs => cs.all (freeN n)
    | .tuple cs => cs.all (freeN n)
    | .iface _ x => freeN n x
    | .func _ f c => f.all (freeN n) && c.all (freeN n)
    | .sl _ _ els cap => els.all (freeN n) && (match cap with | .own _ => false | _ => true)
    | .ept x _ _ _ => freeN n x
    | _ => false

theorem cells_free {n : Nat} {x : AV} (h : freeN (n + 1) x = true) : ∀ y ∈ x.cells, freeN (n + 1) y = true := by
  intro y hy
  have one : x.cells = [x] → freeN (n + 1) y = true := fun e => by
    rw [e] at hy
    have : y = x := by simpa using hy
    rw [this]; exact h
  cases x with
  | agg cs =>
    have : freeN n y = true := List.all_eq_true.1 h y hy
    have up : ∀ (m : Nat) (z : AV), freeN m z = true → freeN (m + 1) z = true := by
      intro m
      induction m with
      | zero => intro z hz; cases hz
      | succ m ih =>
        intro z hz
        cases z <;> simp only [freeN] at hz ⊢ <;> first | exact ih _ hz | (simp only [Bool.and_eq_true, List.all_eq_true] at hz ⊢; first | exact fun q hq => ih _ (hz q hq) | exact ⟨fun q hq => ih _ (hz.1 q hq), fun q hq => ih _ (hz.2 q hq)⟩ | exact ⟨fun q hq => ih _ (hz.1 q hq), hz.2⟩) | trivial
    exact up n y this
  | _ => exact one rfl

theorem getD_memL {α : Type} {l : List α} {i : Nat} {d : α} (h : i < l.length) : l.getD i d ∈ l := by
  have : l.getD i d = l[i] := by simp [List.getD_eq_getElem?_getD, h]
  rw [this]
  exact List.getElem_mem h

theorem Rel.anyhow {M : Mem} {ρ ρ' : Rho} : ∀ (n : Nat) {x : AV} {v : Value}, freeN n x = true → Rel M ρ x v → Rel M ρ' x v := by
  intro n
  induction n with
  | zero => intro x v h; cases h
  | succ n ih =>
    intro x v h hr
    have getD : ∀ {cs : List AV} {i : Nat}, cs.all (freeN n) = true → i < cs.length → freeN n (cs.getD i .undef) = true := fun {cs i} hc hi => by
      have : cs.getD i .undef = cs[i] := by simp [List.getD_eq_getElem?_getD, hi]
      rw [this]
      exact List.all_eq_true.1 hc _ (by simp)
    cases hr with
    | undef v => exact .undef v
    | int k n => exact .int k n
    | bool b => exact .bool b
    | str s => exact .str s
    | opq v h1 => exact .opq v h1
    | agg cs vs hl hh => exact .agg cs vs hl fun i hi => ih (getD h hi) (hh i hi)
    | tuple cs vs hl hh => exact .tuple cs vs hl fun i hi => ih (getD h hi) (hh i hi)
    | iface t x v hh => exact .iface t x v (ih h hh)
    | func fn f c f' c' hf hc h1 h2 =>
      simp only [freeN, Bool.and_eq_true] at h
      exact .func fn f c f' c' hf hc (fun i hi => ih (getD h.1 hi) (h1 i hi)) fun i hi => ih (getD h.2 hi) (h2 i hi)
    | sl k g els cap a m c hn hm hk cv hv hh hc =>
      simp only [freeN, Bool.and_eq_true] at h
      refine .sl k g els cap a m c hn hm hk cv hv (fun i j hi hj => ?_) ?_
      · have hf := getD h.1 (show i < els.length by omega)
        cases n with
        | zero => cases hf
        | succ n =>
          refine ih ?_ (hh i j hi hj)
          exact cells_free hf _ (getD_memL (by rw [(hk i hi).1]; exact hj))
      · cases cap with
        | full => exact hc
        | nil => exact hc
        | no => exact hc
        | own t => cases h.2
    | row => cases h
    | ptr => cases h
    | ept x k g off ad hx hk hg cv hv hh =>
      have h : freeN n x = true := h
      refine .ept x k g off ad hx hk hg cv hv fun j hj => ?_
      cases n with
      | zero => cases h
      | succ n =>
        refine ih ?_ (hh j hj)
        exact cells_free h _ (getD_memL (by omega))
    | map => cases h

theorem Rels.anyhow {M : Mem} {ρ ρ' : Rho} {n : Nat} {xs : List AV} {vs : Array Value} (h : xs.all (freeN n) = true) (hr : Rels M ρ xs vs) : Rels M ρ' xs vs :=
  ⟨hr.1, fun i hi => (hr.2 i hi).anyhow n (by
    have : xs.getD i .undef = xs[i] := by simp [List.getD_eq_getElem?_getD, hi]
    rw [this]
    exact List.all_eq_true.1 h _ (by simp))⟩

/-- What the seat's tables hold names no object. -/
def TabFree [G : Glob] : Prop := ∀ g x, Glob.tab g = some x → freeN 8 x = true

/-- What is run from nothing is so in whatever heap. -/
theorem ACalls.of_x {P : Program} {g : FuncId} {args : List AV} {r : AV} {h' : Heap} {n' : Nat} (hg : TabFree) (hx : XCalls P g args heap0 0 r h' n') (ha : args.all (freeN 8) = true) (hr : freeN 8 r = true) (h : Heap) : ACalls P g args h fun r' h'' => r' = r ∧ h'' = h := by
  refine ⟨fun M ρ w vs hs hrs o a next Qx hn => ?_⟩
  have s0 : Sim M rho0 heap0 w := ⟨hs.mem, ⟨0, fun _ _ => rfl⟩, fun id o h => (by cases h), fun id id' o o' p p' h => (by cases h), fun id o p a v h => (by cases h), fun g x hgx => (hs.glob g x hgx).anyhow 8 (hg g x hgx)⟩
  refine hx.out (fun _ => False) M rho0 w vs s0 ⟨fun _ _ => rfl, fun _ h => h.elim⟩ (hrs.anyhow ha) o a next Qx fun v w' M' ρ' s1 s2 _ s3 => ?_
  have hno : ∀ b, ¬ Own heap0 rho0 b := fun b ⟨i, o, p, q, _⟩ => by cases q
  have hk : ∀ b, b < w.heap.size → w'.heap[b]? = w.heap[b]? := fun b hb => s1.keep b hb (hno b)
  refine hn v w' r h M' ρ ⟨s1.size, s1.os, s1.tape, s1.output, s1.mem, fun _ _ h => h, fun b hb _ => hk b hb, fun x u hx => ?_, fun b hb => .inr hb⟩ ⟨s2.mem, hs.fin, fun id o hid => ?_, hs.inj, fun id o p x u h1 h2 h3 h4 => ?_, fun g x hgx => (hs.glob g x hgx).mono s1.mem (fun _ _ h => h)⟩ (s3.anyhow 8 hr) ⟨rfl, rfl⟩
  · rcases s1.newM x u hx with q | q | q
    · exact .inl q
    · exact .inr (.inl q)
    · exact absurd q (hno _)
  · obtain ⟨p, q1, q2, q3⟩ := hs.obj id o hid
    exact ⟨p, q1, Nat.lt_of_lt_of_le q2 s1.size, q3.keep s1.mem (fun _ _ h => h) (hk _ q2)⟩
  · obtain ⟨p', q1, q2, q3⟩ := hs.obj id o h1
    rw [h2] at q1; cases q1
    rcases s1.newM x u h3 with q | q | q
    · exact hs.apart id o p x u h1 h2 q h4
    · omega
    · exact absurd q (hno _)

theorem callOf_sound {P : Program} {ty : Tys} (hT : TyOK P ty) (hm : P.follows .mixedOrders = true) {ft : Nat → Option FX} (hft : ∀ g fx, ft g = some fx → FXOK P g fx) (fuel : Nat) : CallOK P (callOf ft ty (exec ft ty fuel)) := by
  intro g args hh n r h' n' hc
  unfold callOf at hc
  split at hc
  · cases hc
  rename_i fx hfx
  have ok := hft g fx hfx
  split at hc
  · cases hc
  rename_i hlen
  have hlen := Nat.le_of_ble_eq_true hlen
  split at hc
  · rename_i e1 s1 hex
    split at hc
    · rename_i he1
      split at hc
      · rename_i r1 hres
        cases hc
        obtain ⟨_, hw, _⟩ := exec_sound hT hm hft fuel fx fx.body _ e1 s1 ok.small ok.sigs hex
        refine ⟨fun Z M ρ w vs hs ha hr o a next Qx hnext => ?_⟩
        have hrun : (callFunc g vs).run P w = .ok (.enter g vs) w := by
          simp only [callFunc, Sem.run_bind, run_program, Result.andThen_ok, ok.funcs, ok.name, ok.body, Option.isNone_some, Bool.false_eq_true, if_false, Sem.run_pure]
        rw [hrun]
        show Calls P g vs w _
        have F := Fr.entry (N := fx.fn.ntmps) hs hr hlen
        rw [← ofArgs_env0 (by have := ok.small; omega)] at F
        refine Calls.mono (calls_of_wp ok.funcs ok.body (R := fun e w' => ∃ v M' ρ', e = .returned v ∧ Step M ρ (hF hh) w M' ρ' (hF s1.h) w' ∧ Sim M' ρ' (hF s1.h) w' ∧ Above Z ρ' s1.n ∧ Rel M' ρ' r v) (wp_mono (hw F ha) ?_)) ?_
        · rintro e a' w' ⟨rfl, M', ρ', l', F', ha'⟩
          obtain ⟨r2, v, x1, x2, x3⟩ := run_results hT F'.f (resX_to (ty := ty) _ _ hres)
          subst x3
          have fin : a'.defers = [] ∧ ∃ v, (results fx.fn a'.tmps).run P w' = .ok v w' ∧ ∃ v_1 M' ρ', Ending.returned v = .returned v_1 ∧ Step M ρ (hF hh) w M' ρ' (hF s1.h) w' ∧ Sim M' ρ' (hF s1.h) w' ∧ Above Z ρ' s1.n ∧ Rel M' ρ' r2 v_1 :=
            ⟨F'.f.defers, v, x1, v, M', ρ', rfl, F'.st, F'.f.sim, ha', x2⟩
          cases e with
          | normal => exact fin
          | ret => exact fin
          | _ => cases he1
        · rintro e w' ⟨v, M', ρ', rfl, x1, x2, x3, x4⟩
          exact hnext v w' M' ρ' x1 x2 x3 x4
      · cases hc
    · cases hc
  · cases hc

/-- A call that was run. -/
theorem ACalls.of_run {P : Program} {ty : Tys} (hT : TyOK P ty) (hm : P.follows .mixedOrders = true) (hg : TabFree) {ft : Nat → Option FX} (hft : ∀ g fx, ft g = some fx → FXOK P g fx) (fuel : Nat) {g : FuncId} {args : List AV} {r : AV} (hr : runF ft ty fuel g args = some r) (ha : args.all (freeN 8) = true) (hf : freeN 8 r = true) (h : Heap) :
    ACalls P g args h fun r' h' => r' = r ∧ h' = h := by
  unfold runF at hr
  split at hr
  · rename_i r' h' n' hc
    cases hr
    exact ACalls.of_x hg (callOf_sound hT hm hft fuel g args .nil 0 _ h' n' hc) ha hf h
  · cases hr

/-! ### The functions of a seat -/
def lookL : List (Nat × FX) → Nat → Option FX
  | [], _ => none
  | (k, x) :: r, g => match Nat.beq g k with
    | true => some x
    | false => lookL r g

def FxAll (P : Program) : List (Nat × FX) → Prop
  | [] => True
  | p :: r => FXOK P p.1 p.2 ∧ FxAll P r

theorem lookL_ok {P : Program} : ∀ {l : List (Nat × FX)}, FxAll P l → ∀ g fx, lookL l g = some fx → FXOK P g fx
  | [], _, g, fx, h => by cases h
  | (k, x) :: r, hl, g, fx, h => by
    unfold lookL at h
    split at h
    · rename_i hk
      cases h
      rw [Nat.eq_of_beq_eq_true hk]
      exact hl.1
    · exact lookL_ok hl.2 g fx h

def bodyOf (f : Func) : Code := match f.body with
  | some c => c
  | none => .skip

end Go.Lift
