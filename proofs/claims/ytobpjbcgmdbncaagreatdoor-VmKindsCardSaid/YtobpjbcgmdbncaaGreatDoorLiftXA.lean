/- A part of the proof (own lemmas, no condition beyond those that each theorem states): the layer over the model that all of the proofs of this seat stand on. -/
import Derived.Test.YtobpjbcgmdbncaaGreatDoorLiftY
/- The layer's values, run: a program's function at given values, reckoned step by step; what comes is what the model's call gives, whatever the world. -/
set_option linter.unusedVariables false
set_option linter.unusedSectionVars false
set_option linter.unusedSimpArgs false
namespace Go.Lift
open Go Go.RowKit
variable [G : Glob]

/-! ### A table over numbers -/
inductive Tr (α : Type) where
  | nil
  | node (v : Option α) (l r : Tr α)

noncomputable def Tr.get {α : Type} (t : Tr α) : Nat → Option α :=
  Tr.rec (motive := fun _ => Nat → Option α) (fun _ => none) (fun v _ _ gl gr n => match Nat.beq n 0 with
    | true => v
    | false => match Nat.beq (n % 2) 1 with
      | true => gl (n / 2)
      | false => gr (n / 2 - 1)) t

theorem Tr.get_nil {α : Type} (n : Nat) : (Tr.nil : Tr α).get n = none := rfl
theorem Tr.get_node {α : Type} (v : Option α) (l r : Tr α) (n : Nat) : (Tr.node v l r).get n = match Nat.beq n 0 with
    | true => v
    | false => match Nat.beq (n % 2) 1 with
      | true => l.get (n / 2)
      | false => r.get (n / 2 - 1) := rfl

noncomputable def Tr.set {α : Type} (f : Nat) : Tr α → Nat → Option α → Tr α :=
  Nat.rec (motive := fun _ => Tr α → Nat → Option α → Tr α) (fun t _ _ => t) (fun _ ih t n v =>
    match t with
    | .nil => match Nat.beq n 0 with
      | true => .node v .nil .nil
      | false => match Nat.beq (n % 2) 1 with
        | true => .node none (ih .nil (n / 2) v) .nil
        | false => .node none .nil (ih .nil (n / 2 - 1) v)
    | .node v0 l r => match Nat.beq n 0 with
      | true => .node v l r
      | false => match Nat.beq (n % 2) 1 with
        | true => .node v0 (ih l (n / 2) v) r
        | false => .node v0 l (ih r (n / 2 - 1) v)) f

theorem Tr.get_set {α : Type} : ∀ (f : Nat) (t : Tr α) (n : Nat) (v : Option α) (i : Nat), n + 1 < 2 ^ f → (Tr.set f t n v).get i = if i = n then v else t.get i
  | 0, _, n, _, _, h => by simp at h
  | f + 1, t, n, v, i, h => by
    rw [Nat.pow_succ] at h
    have base : ∀ (v0 : Option α) (l r : Tr α), (match Nat.beq n 0 with
        | true => (Tr.node v l r)
        | false => match Nat.beq (n % 2) 1 with
          | true => Tr.node v0 (Tr.set f l (n / 2) v) r
          | false => Tr.node v0 l (Tr.set f r (n / 2 - 1) v)).get i = if i = n then v else (Tr.node v0 l r).get i := by
      intro v0 l r
      rw [Tr.get_node v0]
      cases h0 : Nat.beq n 0 with
      | true =>
        have h0 := Nat.eq_of_beq_eq_true h0
        subst h0
        simp only [Tr.get_node]
        by_cases hi : i = 0
        · subst hi; simp
        · have : Nat.beq i 0 = false := by cases hq : Nat.beq i 0 with
            | true => exact absurd (Nat.eq_of_beq_eq_true hq) hi
            | false => rfl
          simp [this, hi]
      | false =>
        have h0' : n ≠ 0 := fun e => by subst e; simp at h0
        cases h1 : Nat.beq (n % 2) 1 with
        | true =>
          have h1 := Nat.eq_of_beq_eq_true h1
          simp only [Tr.get_node]
          rw [Tr.get_set f l (n / 2) v (i / 2) (by omega)]
          cases hi0 : Nat.beq i 0 with
          | true =>
            have hi0 := Nat.eq_of_beq_eq_true hi0
            subst hi0
            dsimp only
            rw [if_neg (show ¬ 0 = n by omega)]
          | false =>
            have hi0' : i ≠ 0 := fun e => by subst e; simp at hi0
            cases hi1 : Nat.beq (i % 2) 1 with
            | true =>
              have hi1 := Nat.eq_of_beq_eq_true hi1
              simp only
              by_cases e : i = n
              · rw [if_pos e, if_pos (by omega)]
              · rw [if_neg e, if_neg (by omega)]
            | false =>
              have hi1 : i % 2 ≠ 1 := fun e => by rw [e] at hi1; cases hi1
              dsimp only
              rw [if_neg (show ¬ i = n from fun e => hi1 (e ▸ h1))]
        | false =>
          have h1 : n % 2 ≠ 1 := fun e => by rw [e] at h1; cases h1
          simp only [Tr.get_node]
          rw [Tr.get_set f r (n / 2 - 1) v (i / 2 - 1) (by omega)]
          cases hi0 : Nat.beq i 0 with
          | true =>
            have hi0 := Nat.eq_of_beq_eq_true hi0
            subst hi0
            dsimp only
            rw [if_neg (show ¬ 0 = n by omega)]
          | false =>
            have hi0' : i ≠ 0 := fun e => by subst e; simp at hi0
            cases hi1 : Nat.beq (i % 2) 1 with
            | true =>
              have hi1 := Nat.eq_of_beq_eq_true hi1
              dsimp only
              rw [if_neg (show ¬ i = n from fun e => h1 (e ▸ hi1))]
            | false =>
              have hi1 : i % 2 ≠ 1 := fun e => by rw [e] at hi1; cases hi1
              simp only
              by_cases e : i = n
              · rw [if_pos e, if_pos (by omega)]
              · rw [if_neg e, if_neg (by omega)]
    cases t with
    | nil =>
      have := base none .nil .nil
      have e2 : (Tr.node none Tr.nil Tr.nil : Tr α).get i = (Tr.nil : Tr α).get i := by
        rw [Tr.get_node, Tr.get_nil]
        cases Nat.beq i 0 with
        | true => rfl
        | false => cases Nat.beq (i % 2) 1 <;> rfl
      rw [e2] at this
      exact this
    | node v0 l r => exact base v0 l r

/-! ### A state that is run -/
structure St where
  env : Tr AV
  loc : Tr (List AV)
  h : Tr AObj
  n : Nat

noncomputable def envF (t : Tr AV) : Env := fun s => match t.get s with
  | some v => v
  | none => skipV
noncomputable def hF (t : Tr AObj) : Heap := fun i => t.get i
noncomputable def locF (t : Tr (List AV)) : Loc := fun i => t.get i
noncomputable def setL (t : Tr (List AV)) (d : Nat) (cs : List AV) : Tr (List AV) := t.set 40 d (some cs)

noncomputable def putT (t : Tr AV) (d : Nat) (x : AV) : Tr AV := t.set 40 d (some x)
noncomputable def putO (t : Tr AV) (d : Option Tmp) (x : AV) : Tr AV := match d with
  | some d => putT t d x
  | none => t
noncomputable def setH (t : Tr AObj) (id : Nat) (o : Option AObj) : Tr AObj := t.set 40 id o

theorem envF_put {t : Tr AV} {d : Nat} {x : AV} (h : d < 1000000) : envF (putT t d x) = updE (envF t) d x := by
  funext i
  have e : (1099511627776 : Nat) = 2 ^ 40 := by decide
  rw [updE_eq]
  unfold envF putT
  rw [Tr.get_set 40 t d (some x) i (by rw [← e]; omega)]
  by_cases hi : i = d
  · rw [if_pos hi, if_pos hi]
  · rw [if_neg hi, if_neg hi]
theorem hF_set {t : Tr AObj} {id : Nat} {o : Option AObj} (h : id < 1000000000) : hF (setH t id o) = updH (hF t) id o := by
  funext i
  have e : (1099511627776 : Nat) = 2 ^ 40 := by decide
  unfold hF setH
  rw [Tr.get_set 40 t id o i (by rw [← e]; omega)]
  by_cases hi : i = id
  · rw [if_pos hi, hi, updH_same]
  · rw [if_neg hi, updH_ne _ _ _ hi]

theorem locF_set {t : Tr (List AV)} {d : Nat} {cs : List AV} (h : d < 1000000) : locF (setL t d cs) = updL (locF t) d cs := by
  funext i
  have e : (1099511627776 : Nat) = 2 ^ 40 := by decide
  rw [updL_eq]
  unfold locF setL
  rw [Tr.get_set 40 t d (some cs) i (by rw [← e]; omega)]

/-- A function over all of a table. -/
noncomputable def Tr.map {α : Type} (f : α → α) (t : Tr α) : Tr α :=
  Tr.rec (motive := fun _ => Tr α) .nil (fun v _ _ l r => .node (match v with | some x => some (f x) | none => none) l r) t

theorem Tr.get_map {α : Type} (f : α → α) : ∀ (t : Tr α) (n : Nat), (t.map f).get n = (t.get n).map f
  | .nil, n => rfl
  | .node v l r, n => by
    have h1 := Tr.get_map f l
    have h2 := Tr.get_map f r
    have e : (Tr.node v l r).map f = Tr.node (match v with | some x => some (f x) | none => none) (l.map f) (r.map f) := rfl
    rw [e, Tr.get_node, Tr.get_node]
    cases Nat.beq n 0 with
    | true => cases v <;> rfl
    | false => cases Nat.beq (n % 2) 1 with
      | true => exact h1 _
      | false => exact h2 _

noncomputable def killT (d : Nat) (t : Tr AV) : Tr AV := t.map fun x => match x with
  | .lptr d' o => bif Nat.beq d' d then .undef else .lptr d' o
  | x => x

theorem envF_kill {t : Tr AV} {d : Nat} : envF (killT d t) = killL d (envF t) := by
  funext i
  have h1 : envF (killT d t) i = match (t.get i).map (fun x => match x with
      | .lptr d' o => bif Nat.beq d' d then .undef else .lptr d' o
      | x => x) with
    | some v => v
    | none => skipV := by
    unfold envF killT
    rw [Tr.get_map]
  have h2 : ∀ q : Option AV, t.get i = q → envF t i = match q with
    | some v => v
    | none => skipV := fun q h => by unfold envF; rw [h]
  unfold killL
  rw [h1]
  cases hq : t.get i with
  | none => rw [h2 none hq]; rfl
  | some v => rw [h2 (some v) hq]; cases v <;> rfl

theorem envF_putO {t : Tr AV} {d : Option Tmp} {x : AV} (h : ∀ s, d = some s → s < 1000000) : envF (putO t d x) = putE (envF t) d x := by
  cases d with
  | none => rfl
  | some d => exact envF_put (h d rfl)

/-- What an operation gives, if it may be. -/
def Res.out {β : Type} (r : Res) (k : AV → Option β) : Option β :=
  match r with
  | .v x => forceO x k
  | .ask x => forceO x k
  | @Res.cond _ d x => match d with
    | .isTrue _ => forceO x k
    | .isFalse _ => none
  | .bad => none
where forceO (v : AV) (k : AV → Option β) : Option β :=
  match v with
  | .undef => k .undef
  | .int a b => k (.int a b)
  | .bool b => match b with
    | true => k (.bool true)
    | false => k (.bool false)
  | .str s => k (.str s)
  | .opq v => k (.opq v)
  | .agg cs => k (.agg cs)
  | .tuple cs => k (.tuple cs)
  | .iface t x => k (.iface t x)
  | .func f a b => k (.func f a b)
  | .sl a g e c => k (.sl a g e c)
  | .row a b c d => k (.row a b c d)
  | .ptr a b => k (.ptr a b)
  | .lptr a b => k (.lptr a b)
  | .ept a x g b => k (.ept a x g b)
  | .map a => k (.map a)

theorem forceO_eq {β : Type} (v : AV) (k : AV → Option β) : Res.out.forceO v k = k v := by
  cases v <;> first | rfl | (rename_i b; cases b <;> rfl)

theorem out_to {β : Type} {r : Res} {k : AV → Option β} {y : β} (h : r.out k = some y) {K : AV → Prop} (hk : ∀ v, k v = some y → K v) : goOn r K := by
  unfold Res.out at h
  split at h
  · rw [forceO_eq] at h; rw [goOn, force_eq]; exact hk _ h
  · rw [forceO_eq] at h; exact ⟨_, rfl, hk _ h⟩
  · rename_i c d x
    cases d with
    | isTrue hc =>
      simp only [forceO_eq] at h
      rw [goOn, force_eq]; exact ⟨hc, hk _ h⟩
    | isFalse hc => cases h
  · cases h

/-! ### One operation -/
/-- The bytes of a row of bytes. -/
def unB : List AV → Option (List UInt8)
  | [] => some []
  | .int .u8 (.ofNat n) :: r => match Nat.blt n 256, unB r with
    | true, some l => some (UInt8.ofNat n :: l)
    | _, _ => none
  | _ => none

theorem unB_to : ∀ {cs : List AV} {s : List UInt8}, unB cs = some s → cs = s.map byteA
  | [], s, h => by cases h; rfl
  | .int .u8 (.ofNat n) :: r, s, h => by
    unfold unB at h
    split at h
    · rename_i l h1 h2
      cases h
      have hn : n < 256 := by
        have := h1
        simp [Nat.blt] at this
        omega
      rw [unB_to h2]
      show _ = byteA (UInt8.ofNat n) :: l.map byteA
      congr 1
      unfold byteA
      congr 1
      have : (UInt8.ofNat n).toNat = n := by simp [Nat.mod_eq_of_lt hn]
      rw [this]; rfl
    · cases h

noncomputable def srcX (k : Nat) (g : Bool) (h : Tr AObj) (y : AV) : Option (List AV) :=
  match y with
  | .row id off len _ => match g || Nat.beq k 1 with
    | false => none
    | true => match h.get id with
      | some (.cells cs) => match Nat.ble (off + len * k) cs.length && (((cs.drop off).take (len * k)).all AV.one) && Nat.ble len 9223372036854775807 with
        | true => some (chunks k g len (cs.drop off))
        | false => none
      | _ => none
  | y => srcA k g y

theorem srcX_to {k : Nat} {g : Bool} {h : Tr AObj} {y : AV} {new : List AV} (e : srcX k g h y = some new) {K : List AV → Prop} (hk : K new) : srcK k g (hF h) y K := by
  unfold srcX at e
  unfold srcK
  split at e
  · split at e
    · cases e
    · rename_i hg
      rw [hg]
      split at e
      · rename_i cs hid
        split at e
        · rename_i hc
          cases e
          simp only [Bool.and_eq_true] at hc
          exact ⟨cs, hid, Nat.le_of_ble_eq_true hc.1.1, hc.1.2, Nat.le_of_ble_eq_true hc.2, hk⟩
        · cases e
      · cases e
  · rename_i hne
    split
    · rename_i id off len c
      exact absurd rfl (hne id off len c)
    · rw [e]; exact hk

end Go.Lift
