/- A part of the proof (own lemmas, no condition beyond those that each theorem states): the layer over the model that all of the proofs of this seat stand on. -/
import Derived.Test.YtobpjbcgmdbncaaGreatDoorLiftH
set_option linter.unusedVariables false
set_option linter.unusedSectionVars false
set_option linter.unusedSimpArgs false
namespace Go.Lift
open Go Go.RowKit
variable [G : Glob]

/-- Where a call began. -/
structure Ent where
  M : Mem
  ρ : Rho
  h : Heap
  w : World

/-- A function at work, held against where its call began. -/
structure Fr (N : Nat) (E : Ent) (M : Mem) (ρ : Rho) (l : Lam) (env : Env) (loc : Loc) (h : Heap) (a : Act) (w : World) : Prop where
  f : FSim N M ρ l env loc h a w
  st : Step E.M E.ρ E.h E.w M ρ h w
  new : ∀ d cs b, loc d = some cs → l d = some b → E.w.heap.size ≤ b
  lam : ∀ d b, l d = some b → ∃ cs, loc d = some cs

section
variable {P : Program} {ty : Tys} {N : Nat} {E : Ent} {M : Mem} {ρ : Rho} {l : Lam} {env : Env} {loc : Loc} {h : Heap} {a : Act} {w : World}

theorem Fr.put (F : Fr N E M ρ l env loc h a w) {d : Option Tmp} {x : AV} {v : Value} (hd : ∀ t, d = some t → t < N) (hx : RelS M ρ l x v) : Fr N E M ρ l (putE env d x) loc h (a.put d v) w :=
  ⟨F.f.put hd hx, F.st, F.new, F.lam⟩

/-- A step of the heap, the function's own being kept. -/
theorem Fr.step {M' : Mem} {ρ' : Rho} {h' : Heap} {w' : World} (F : Fr N E M ρ l env loc h a w) (s : Step M ρ h w M' ρ' h' w') (s' : Sim M' ρ' h' w') : Fr N E M' ρ' l env loc h' a w' :=
  ⟨F.f.step s s', F.st.trans s, F.new, F.lam⟩

theorem cell_lt {a : Addr} {v : Value} (h : w.cell? a = some v) : a.block < w.heap.size := by
  unfold World.cell? at h
  split at h
  · rename_i hb
    exact (Array.getElem?_eq_some_iff.1 hb).1
  · cases h

theorem cell_push {a : Addr} {w' : World} {o : Obj} (hw : w'.heap = w.heap.push o) (hb : a.block < w.heap.size) : w'.cell? a = w.cell? a := by
  unfold World.cell?
  rw [hw, Array.getElem?_push, if_neg (by omega)]

/-- What is read of a new row. -/
def memRow (M : Mem) (b n : Nat) (arr : Array Value) : Mem := fun a => if a.block = b then (if a.spot = none ∧ a.off < n then arr[a.off]? else none) else M a

theorem ObjOK.keep {M M' : Mem} {ρ ρ' : Rho} {w w' : World} {p : Pl} {o : AObj} (hM : ∀ a v, M a = some v → M' a = some v) (hρ : ∀ i p, ρ i = some p → ρ' i = some p) (hb : w'.heap[p.b]? = w.heap[p.b]?) (ho : ObjOK M ρ w p o) : ObjOK M' ρ' w' p o := by
  cases o with
  | cells cs => obtain ⟨arr, el, h1, h2⟩ := ho; exact ⟨arr, el, hb.trans h1, h2.mono hM hρ⟩
  | tail => obtain ⟨arr, el, h1, h2⟩ := ho; exact ⟨arr, el, hb.trans h1, h2⟩
  | map es c =>
    obtain ⟨ents, clock, h1, ⟨h2, h3⟩, h4⟩ := ho
    exact ⟨ents, clock, hb.trans h1, ⟨h2, fun i hi => ⟨(h3 i hi).1.mono hM hρ, (h3 i hi).2.mono hM hρ⟩⟩, h4⟩

/-- A new block: its first n cells are read from now on. -/
theorem step_row (s : Sim M ρ h w) {w' : World} {arr : Array Value} {el : TypeId} {fz : Nat × Nat} (n : Nat) (hn : n ≤ arr.size) (hw : w'.heap = w.heap.push (.cells arr el fz)) (ho : w'.os = w.os) (ht : w'.tape = w.tape) (hou : w'.output = w.output) :
    Step M ρ h w (memRow M w.heap.size n arr) ρ h w' ∧ Sim (memRow M w.heap.size n arr) ρ h w' ∧ ∀ j, j < n → memRow M w.heap.size n arr ⟨w.heap.size, j, none⟩ = some (arr.getD j Go.undef) := by
  have hM : ∀ a v, M a = some v → memRow M w.heap.size n arr a = some v := fun a v hv => by
    have := cell_lt (s.mem a v hv)
    unfold memRow
    rw [if_neg (by omega)]
    exact hv
  have hk : ∀ b, b < w.heap.size → w'.heap[b]? = w.heap[b]? := fun b hb => by rw [hw, Array.getElem?_push, if_neg (by omega)]
  have hr : ∀ j, j < n → memRow M w.heap.size n arr ⟨w.heap.size, j, none⟩ = some (arr.getD j Go.undef) := fun j hj => by
    have : j < arr.size := by omega
    simp [memRow, hj, Array.getD_eq_getD_getElem?, this]
  refine ⟨⟨by rw [hw]; simp, ho, ht, hou, hM, fun _ _ h => h, fun b hb _ => hk b hb, fun x v hx => ?_, fun b hb => .inr hb⟩, ⟨fun x v hx => ?_, s.fin, fun id o hid => ?_, s.inj, fun id o p x v h1 h2 h3 h4 => ?_, fun g x hg => (s.glob g x hg).mono hM (fun _ _ h => h)⟩, hr⟩
  · unfold memRow at hx
    split at hx
    · rename_i e; exact .inr (.inl (by omega))
    · exact .inl hx
  · unfold memRow at hx
    split at hx
    · rename_i e
      split at hx
      · rename_i e2
        have : w'.heap[x.block]? = some (.cells arr el fz) := by rw [hw, e]; simp
        unfold World.cell?
        rw [this]
        simp only [e2.1]
        exact hx
      · cases hx
    · rw [cell_push hw (cell_lt (s.mem x v hx))]
      exact s.mem x v hx
  · obtain ⟨p, h1, h2, h3⟩ := s.obj id o hid
    exact ⟨p, h1, by rw [hw]; simp; omega, h3.keep hM (fun _ _ h => h) (hk _ h2)⟩
  · obtain ⟨p', g1, g2, g3⟩ := s.obj id o h1
    rw [h2] at g1
    cases g1
    unfold memRow at h3
    split at h3
    · omega
    · exact s.apart id o p x v h1 h2 h3 h4

theorem fresh_id (s : Sim M ρ h w) : ∃ id, ρ id = none ∧ h id = none := by
  obtain ⟨K, hK⟩ := s.fin
  refine ⟨K, hK K (Nat.le_refl _), ?_⟩
  cases hh : h K with
  | none => rfl
  | some o =>
    obtain ⟨p, h1, _⟩ := s.obj K o hh
    rw [hK K (Nat.le_refl _)] at h1
    cases h1

def updR (ρ : Rho) (id : Nat) (p : Pl) : Rho := fun i => if i = id then some p else ρ i

/-- A new object in a block of its own that nothing knows of yet. -/
theorem step_obj (s : Sim M ρ h w) {w' : World} {ob : Obj} {id : Nat} {o : AObj} {p : Pl} (hid : ρ id = none) (hh : h id = none) (hw : w'.heap = w.heap.push ob) (ho : w'.os = w.os) (ht : w'.tape = w.tape) (hou : w'.output = w.output)
    (hp : p.b = w.heap.size) (hok : ObjOK M (updR ρ id p) w' p o) :
    Step M ρ h w M (updR ρ id p) (updH h id (some o)) w' ∧ Sim M (updR ρ id p) (updH h id (some o)) w' := by
  have hρ : ∀ i q, ρ i = some q → updR ρ id p i = some q := fun i q hq => by
    unfold updR
    rw [if_neg (fun e => by rw [e, hid] at hq; cases hq)]
    exact hq
  have hk : ∀ b, b < w.heap.size → w'.heap[b]? = w.heap[b]? := fun b hb => by rw [hw, Array.getElem?_push, if_neg (by omega)]
  have hfresh : ∀ a v, M a = some v → a.block < w.heap.size := fun a v hv => cell_lt (s.mem a v hv)
  refine ⟨⟨by rw [hw]; simp, ho, ht, hou, fun _ _ h => h, hρ, fun b hb _ => hk b hb, fun x v hx => .inl hx, fun b hb => ?_⟩, ⟨fun x v hx => ?_, ?_, fun i q hi => ?_, fun i i' q q' r r' h1 h2 h3 h4 h5 => ?_, fun i q r x v h1 h2 h3 h4 => ?_, fun g x hg => (s.glob g x hg).mono (fun _ _ h => h) hρ⟩⟩
  · obtain ⟨i, q, r, h1, h2, h3⟩ := hb
    by_cases e : i = id
    · subst e
      simp only [updR, if_true, Option.some.injEq] at h2
      subst h2
      exact .inl (by omega)
    · rw [updH_ne _ _ _ e] at h1
      simp only [updR, e, if_false] at h2
      exact .inr ⟨i, q, r, h1, h2, h3⟩
  · rw [cell_push hw (hfresh x v hx)]
    exact s.mem x v hx
  · obtain ⟨K, hK⟩ := s.fin
    refine ⟨max K (id + 1), fun i hi => ?_⟩
    simp only [updR, show i ≠ id by omega, if_false]
    exact hK i (by omega)
  · by_cases e : i = id
    · subst e
      rw [updH_same] at hi
      cases hi
      exact ⟨p, by simp [updR], by rw [hw, hp]; simp, hok⟩
    · rw [updH_ne _ _ _ e] at hi
      obtain ⟨r, h1, h2, h3⟩ := s.obj i q hi
      exact ⟨r, by simp only [updR, e, if_false]; exact h1, by rw [hw]; simp; omega, h3.keep (fun _ _ h => h) hρ (hk _ h2)⟩
  · have lt : ∀ {i q r}, i ≠ id → h i = some q → ρ i = some r → r.b < w.heap.size := by
      intro i q r hne g1 g2
      obtain ⟨r', k1, k2, _⟩ := s.obj i q g1
      rw [g2] at k1
      cases k1
      exact k2
    by_cases e : i = id
    · by_cases e' : i' = id
      · rw [e, e']
      · rw [updH_ne _ _ _ e'] at h2
        simp only [updR, e, e', if_true, if_false, Option.some.injEq] at h3 h4
        subst h3
        have := lt e' h2 h4
        omega
    · by_cases e' : i' = id
      · rw [updH_ne _ _ _ e] at h1
        simp only [updR, e, e', if_true, if_false, Option.some.injEq] at h3 h4
        subst h4
        have := lt e h1 h3
        omega
      · rw [updH_ne _ _ _ e] at h1
        rw [updH_ne _ _ _ e'] at h2
        simp only [updR, e, e', if_false] at h3 h4
        exact s.inj i i' q q' r r' h1 h2 h3 h4 h5
  · by_cases e : i = id
    · subst e
      simp only [updR, if_true, Option.some.injEq] at h2
      subst h2
      have := hfresh x v h3
      omega
    · rw [updH_ne _ _ _ e] at h1
      simp only [updR, e, if_false] at h2
      exact s.apart i q r x v h1 h2 h3 h4

/-- An object is written over in its place. -/
theorem step_set (s : Sim M ρ h w) {w' : World} {id : Nat} {o o' : AObj} {p : Pl} (hid : h id = some o) (hp : ρ id = some p) (hsz : w'.heap.size = w.heap.size) (hk : ∀ b, b ≠ p.b → w'.heap[b]? = w.heap[b]?) (ho : w'.os = w.os) (ht : w'.tape = w.tape) (hou : w'.output = w.output)
    (hne : o ≠ .tail) (hok : ObjOK M ρ w' p o') : Step M ρ h w M ρ (updH h id (some o')) w' ∧ Sim M ρ (updH h id (some o')) w' := by
  have own : ∀ b, Own (updH h id (some o')) ρ b → Own h ρ b := by
    rintro b ⟨i, q, r, h1, h2, h3⟩
    by_cases e : i = id
    · subst e
      exact ⟨i, o, r, hid, h2, h3⟩
    · rw [updH_ne _ _ _ e] at h1
      exact ⟨i, q, r, h1, h2, h3⟩
  refine ⟨⟨by omega, ho, ht, hou, fun _ _ h => h, fun _ _ h => h, fun b hb hn => hk b (fun e => hn ⟨id, o, p, hid, hp, e.symm⟩), fun x v hx => .inl hx, fun b hb => .inr (own b hb)⟩, ⟨fun x v hx => ?_, s.fin, fun i q hi => ?_, fun i i' q q' r r' h1 h2 h3 h4 h5 => ?_, fun i q r x v h1 h2 h3 h4 => ?_, s.glob⟩⟩
  · have hb : x.block ≠ p.b := fun e => by
      obtain ⟨h1, _⟩ := s.apart id o p x v hid hp hx e
      exact hne h1
    have := s.mem x v hx
    unfold World.cell? at this ⊢
    rw [hk _ hb]
    exact this
  · by_cases e : i = id
    · subst e
      rw [updH_same] at hi
      cases hi
      obtain ⟨p', g1, g2, g3⟩ := s.obj i o hid
      rw [hp] at g1
      cases g1
      exact ⟨p, hp, by omega, hok⟩
    · rw [updH_ne _ _ _ e] at hi
      obtain ⟨r, h1, h2, h3⟩ := s.obj i q hi
      refine ⟨r, h1, by omega, h3.keep (fun _ _ h => h) (fun _ _ h => h) (hk _ fun eb => e ?_)⟩
      exact s.inj i id q o r p hi hid h1 hp eb
  · have : ∀ {j z}, updH h id (some o') j = some z → ∃ z', h j = some z' := by
      intro j z hz
      by_cases e : j = id
      · subst e; exact ⟨o, hid⟩
      · rw [updH_ne _ _ _ e] at hz; exact ⟨z, hz⟩
    obtain ⟨z, hz⟩ := this h1
    obtain ⟨z', hz'⟩ := this h2
    exact s.inj i i' z z' r r' hz hz' h3 h4 h5
  · by_cases e : i = id
    · subst e
      rw [hp] at h2
      cases h2
      obtain ⟨g1, _⟩ := s.apart i o p x v hid hp h3 h4
      exact absurd g1 hne
    · rw [updH_ne _ _ _ e] at h1
      exact s.apart i q r x v h1 h2 h3 h4

/-- Only what nobody sees has turned: an order was drawn. -/
theorem step_same (s : Sim M ρ h w) {w' : World} (hw : w'.heap = w.heap) (ho : w'.os = w.os) (ht : w'.tape = w.tape) (hou : w'.output = w.output) : Step M ρ h w M ρ h w' ∧ Sim M ρ h w' := by
  refine ⟨⟨by rw [hw]; exact Nat.le_refl _, ho, ht, hou, fun _ _ h => h, fun _ _ h => h, fun b _ _ => by rw [hw], fun _ _ h => .inl h, fun _ h => .inr h⟩, ⟨fun x v hx => ?_, s.fin, fun id o hid => ?_, s.inj, s.apart, s.glob⟩⟩
  · have := s.mem x v hx
    unfold World.cell? at this ⊢
    rw [hw]; exact this
  · obtain ⟨p, h1, h2, h3⟩ := s.obj id o hid
    exact ⟨p, h1, by rw [hw]; exact h2, h3.keep (fun _ _ h => h) (fun _ _ h => h) (by rw [hw])⟩

end
end Go.Lift
