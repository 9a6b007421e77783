/- A part of the proof (own lemmas, no condition beyond those that each theorem states): the layer over the model that all of the proofs of this seat stand on. -/
import Derived.Test.YtobpjbcgmdbncaaGreatDoorLiftK
import Derived.Deep.AppendSrc
import Derived.Deep.Upon
import Derived.Laws.MakeOwn
import Derived.Laws.IdiomStrings
import Derived.Laws.Cover3
set_option linter.unusedVariables false
set_option linter.unusedSectionVars false
set_option linter.unusedSimpArgs false
namespace Go.Lift
open Go Go.RowKit
variable [G : Glob]

section
variable {P : Program} {ty : Tys} {N : Nat} {E : Ent} {M : Mem} {ρ : Rho} {l : Lam} {env : Env} {loc : Loc} {h : Heap} {a : Act} {w : World} {esc : Nat → Bool}

/-! ### Steps of memory: a row with room behind it, a row frozen -/
theorem updR_mono {id : Nat} {p : Pl} (hid : ρ id = none) : ∀ i q, ρ i = some q → updR ρ id p i = some q := fun i q hq => by
  unfold updR
  rw [if_neg (fun e => by rw [e, hid] at hq; cases hq)]
  exact hq

theorem fin_updR {id : Nat} {p : Pl} (h : ∃ N, ∀ id, N ≤ id → ρ id = none) : ∃ N, ∀ i, N ≤ i → updR ρ id p i = none := by
  obtain ⟨K, hK⟩ := h
  refine ⟨max K (id + 1), fun i hi => ?_⟩
  simp only [updR, show i ≠ id by omega, if_false]
  exact hK i (by omega)

theorem spot_none {a : Addr} {v : Value} (h : w.cell? a = some v) : a.spot = none := by
  unfold World.cell? at h
  split at h
  · cases hs : a.spot with
    | none => rfl
    | some x => simp [hs] at h
  · cases h

/-- A new block, its first n cells read from now on, the rest a token's. -/
theorem step_tail (s : Sim M ρ h w) {w' : World} {arr : Array Value} {el : TypeId} {id : Nat} (n : Nat) (hn : n ≤ arr.size) (hid : ρ id = none) (hh : h id = none) (hw : w'.heap = w.heap.push (.cells arr el (0, 0))) (ho : w'.os = w.os) (ht : w'.tape = w.tape) (hou : w'.output = w.output) :
    Step M ρ h w (memRow M w.heap.size n arr) (updR ρ id ⟨w.heap.size, n, arr.size⟩) (updH h id (some .tail)) w' ∧ Sim (memRow M w.heap.size n arr) (updR ρ id ⟨w.heap.size, n, arr.size⟩) (updH h id (some .tail)) w' ∧
    ∀ j, j < n → memRow M w.heap.size n arr ⟨w.heap.size, j, none⟩ = some (arr.getD j Go.undef) := by
  obtain ⟨s1, s2, s3⟩ := step_row s n hn hw ho ht hou
  have hρ := updR_mono (p := ⟨w.heap.size, n, arr.size⟩) hid
  have lt : ∀ {i q r}, h i = some q → ρ i = some r → r.b < w.heap.size := by
    intro i q r g1 g2
    obtain ⟨r', k1, k2, _⟩ := s.obj i q g1
    rw [g2] at k1
    cases k1
    exact k2
  refine ⟨⟨s1.size, s1.os, s1.tape, s1.output, s1.mem, hρ, s1.keep, s1.newM, fun b hb => ?_⟩, ⟨s2.mem, fin_updR s.fin, fun i q hi => ?_, fun i i' q q' r r' h1 h2 h3 h4 h5 => ?_, fun i q r x v h1 h2 h3 h4 => ?_, fun g x hg => (s2.glob g x hg).mono (fun _ _ h => h) hρ⟩, s3⟩
  · obtain ⟨i, q, r, h1, h2, h3⟩ := hb
    by_cases e : i = id
    · subst e
      simp only [updR, if_true, Option.some.injEq] at h2
      subst h2
      exact .inl (by simp at h3; omega)
    · rw [updH_ne _ _ _ e] at h1
      simp only [updR, e, if_false] at h2
      exact .inr ⟨i, q, r, h1, h2, h3⟩
  · by_cases e : i = id
    · subst e
      rw [updH_same] at hi
      cases hi
      exact ⟨⟨w.heap.size, n, arr.size⟩, by simp [updR], by rw [hw]; simp, arr, el, by rw [hw]; simp, rfl, hn⟩
    · rw [updH_ne _ _ _ e] at hi
      obtain ⟨r, h1, h2, h3⟩ := s2.obj i q hi
      exact ⟨r, by simp only [updR, e, if_false]; exact h1, h2, h3.keep (fun _ _ h => h) hρ rfl⟩
  · by_cases e : i = id
    · by_cases e' : i' = id
      · rw [e, e']
      · rw [updH_ne _ _ _ e'] at h2
        simp only [updR, e, e', if_true, if_false, Option.some.injEq] at h3 h4
        subst h3
        have := lt h2 h4
        simp at h5
        omega
    · by_cases e' : i' = id
      · rw [updH_ne _ _ _ e] at h1
        simp only [updR, e, e', if_true, if_false, Option.some.injEq] at h3 h4
        subst h4
        have := lt h1 h3
        simp at h5
        omega
      · rw [updH_ne _ _ _ e] at h1
        rw [updH_ne _ _ _ e'] at h2
        simp only [updR, e, e', if_false] at h3 h4
        exact s.inj i i' q q' r r' h1 h2 h3 h4 h5
  · by_cases e : i = id
    · subst e
      simp only [updR, if_true, Option.some.injEq] at h2
      subst h2
      rw [updH_same] at h1
      cases h1
      unfold memRow at h3
      simp only at h4
      rw [if_pos h4] at h3
      split at h3
      · rename_i hc; exact ⟨rfl, hc.2⟩
      · cases h3
    · rw [updH_ne _ _ _ e] at h1
      simp only [updR, e, if_false] at h2
      exact s2.apart i q r x v h1 h2 h3 h4

/-- What is read of a row's part from now on. -/
def memOn (M : Mem) (b lo hi : Nat) (arr : Array Value) : Mem := fun a => if a.block = b ∧ a.spot = none ∧ lo ≤ a.off ∧ a.off < hi then arr[a.off]? else M a

theorem memOn_get {b lo hi j : Nat} {arr : Array Value} (h1 : lo ≤ j) (h2 : j < hi) (h3 : hi ≤ arr.size) : memOn M b lo hi arr ⟨b, j, none⟩ = some (arr.getD j Go.undef) := by
  have : j < arr.size := by omega
  simp [memOn, h1, h2, Array.getD_eq_getD_getElem?, this]

/-- The room behind a row is written: what was free is read from now on, up to a new end. -/
theorem step_room (s : Sim M ρ h w) {w' : World} {arr : Array Value} {el : TypeId} {id id' : Nat} {p : Pl} (e' : Nat) (hid : h id = some .tail) (hp : ρ id = some p) (hid' : ρ id' = none) (hh' : h id' = none)
    (he : p.e ≤ e') (hl : e' ≤ p.lim) (hsz : w'.heap.size = w.heap.size) (hw : w'.heap[p.b]? = some (.cells arr el (0, 0))) (has : arr.size = p.lim) (hsame : ∀ j, j < p.e → ∀ v, w.cell? ⟨p.b, j, none⟩ = some v → arr[j]? = some v)
    (hk : ∀ b, b ≠ p.b → w'.heap[b]? = w.heap[b]?) (ho : w'.os = w.os) (ht : w'.tape = w.tape) (hou : w'.output = w.output) :
    Step M ρ h w (memOn M p.b p.e e' arr) (updR ρ id' ⟨p.b, e', p.lim⟩) (updH (updH h id none) id' (some .tail)) w' ∧ Sim (memOn M p.b p.e e' arr) (updR ρ id' ⟨p.b, e', p.lim⟩) (updH (updH h id none) id' (some .tail)) w' := by
  have hρ := updR_mono (p := ⟨p.b, e', p.lim⟩) hid'
  have hap := fun a v h1 h2 => (s.apart id .tail p a v hid hp h1 h2).2
  have hspot : ∀ a v, M a = some v → a.block = p.b → a.spot = none := fun a v h1 _ => spot_none (s.mem a v h1)
  have hM : ∀ a v, M a = some v → memOn M p.b p.e e' arr a = some v := fun a v hv => by
    unfold memOn
    rw [if_neg]
    · exact hv
    · rintro ⟨c1, c2, c3, c4⟩
      have := hap a v hv c1
      omega
  obtain ⟨p', q1, q2, _⟩ := s.obj id _ hid
  rw [hp] at q1
  cases q1
  have hne : id ≠ id' := fun e => by rw [e] at hid; rw [hh'] at hid; cases hid
  have hold : ∀ {i q}, updH (updH h id none) id' (some .tail) i = some q → i = id' ∨ (i ≠ id' ∧ i ≠ id ∧ h i = some q) := by
    intro i q hi
    by_cases e : i = id'
    · exact .inl e
    · rw [updH_ne _ _ _ e] at hi
      by_cases e2 : i = id
      · rw [e2, updH_same] at hi; cases hi
      · rw [updH_ne _ _ _ e2] at hi
        exact .inr ⟨e, e2, hi⟩
  have hne' : ∀ {i q r}, i ≠ id → h i = some q → ρ i = some r → r.b ≠ p.b := fun {i q r} e g1 g2 g3 => e (s.inj i id q .tail r p g1 hid g2 hp g3)
  refine ⟨⟨by omega, ho, ht, hou, hM, hρ, fun b hb hn => hk b fun e => hn ⟨id, .tail, p, hid, hp, e.symm⟩, fun x v hx => ?_, fun b hb => ?_⟩, ⟨fun x v hx => ?_, fin_updR s.fin, fun i q hi => ?_, fun i i' q q' r r' h1 h2 h3 h4 h5 => ?_, fun i q r x v h1 h2 h3 h4 => ?_, fun g x hg => (s.glob g x hg).mono hM hρ⟩⟩
  · unfold memOn at hx
    split at hx
    · rename_i c; exact .inr (.inr (c.1 ▸ ⟨id, .tail, p, hid, hp, rfl⟩))
    · exact .inl hx
  · obtain ⟨i, q, r, h1, h2, h3⟩ := hb
    rcases hold h1 with e | ⟨e, e2, h1⟩
    · subst e
      simp only [updR, if_true, Option.some.injEq] at h2
      subst h2
      exact .inr ⟨id, .tail, p, hid, hp, h3⟩
    · simp only [updR, e, if_false] at h2
      exact .inr ⟨i, q, r, h1, h2, h3⟩
  · unfold memOn at hx
    split at hx
    · rename_i c
      unfold World.cell?
      rw [c.1, hw]
      simp only [c.2.1]
      exact hx
    · by_cases e : x.block = p.b
      · have h1 := s.mem x v hx
        have h2 := hspot x v hx e
        have h3 := hap x v hx e
        have hx' : x = ⟨p.b, x.off, none⟩ := by cases x; simp at e h2 ⊢; exact ⟨e, h2⟩
        rw [hx'] at h1
        have := hsame x.off h3 v h1
        unfold World.cell?
        rw [e, hw]
        simp only [h2]
        exact this
      · have h1 := s.mem x v hx
        unfold World.cell? at h1 ⊢
        rw [hk _ e]
        exact h1
  · rcases hold hi with e | ⟨e, e2, h1⟩
    · subst e
      rw [updH_same] at hi
      cases hi
      exact ⟨⟨p.b, e', p.lim⟩, by simp [updR], by simp; omega, arr, el, hw, has, hl⟩
    · obtain ⟨r, g1, g2, g3⟩ := s.obj i q h1
      exact ⟨r, by simp only [updR, e, if_false]; exact g1, by omega, g3.keep hM hρ (hk _ (hne' e2 h1 g1))⟩
  · rcases hold h1 with e | ⟨e, e2, h1⟩
    · rcases hold h2 with f | ⟨f, f2, h2⟩
      · rw [e, f]
      · simp only [updR, e, f, if_true, if_false, Option.some.injEq] at h3 h4
        subst h3
        exact absurd h5.symm (hne' f2 h2 h4)
    · rcases hold h2 with f | ⟨f, f2, h2⟩
      · simp only [updR, e, f, if_true, if_false, Option.some.injEq] at h3 h4
        subst h4
        exact absurd h5 (hne' e2 h1 h3)
      · simp only [updR, e, f, if_false] at h3 h4
        exact s.inj i i' q q' r r' h1 h2 h3 h4 h5
  · rcases hold h1 with e | ⟨e, e2, h1⟩
    · subst e
      simp only [updR, if_true, Option.some.injEq] at h2
      subst h2
      rw [updH_same] at h1
      cases h1
      unfold memOn at h3
      split at h3
      · rename_i c; exact ⟨rfl, c.2.2.2⟩
      · have := hap x v h3 h4
        exact ⟨rfl, by simp; omega⟩
    · simp only [updR, e, if_false] at h2
      have hb := hne' e2 h1 h2
      unfold memOn at h3
      rw [if_neg (fun c => hb (h4.symm.trans c.1))] at h3
      exact s.apart i q r x v h1 h2 h3 h4

/-- An object is given up: its cells are read alone from now on. -/
theorem step_freeze (s : Sim M ρ h w) {arr : Array Value} {el : TypeId} {id : Nat} {p : Pl} {cs : List AV} (hid : h id = some (.cells cs)) (hp : ρ id = some p) (hb : w.heap[p.b]? = some (.cells arr el (0, 0))) (n : Nat) :
    Step M ρ h w (memOn M p.b 0 n arr) ρ (updH h id none) w ∧ Sim (memOn M p.b 0 n arr) ρ (updH h id none) w := by
  have hno : ∀ a v, M a = some v → a.block ≠ p.b := fun a v h1 h2 => by
    obtain ⟨e, _⟩ := s.apart id _ p a v hid hp h1 h2
    cases e
  have hM : ∀ a v, M a = some v → memOn M p.b 0 n arr a = some v := fun a v hv => by
    unfold memOn
    rw [if_neg (fun c => hno a v hv c.1)]
    exact hv
  have hold : ∀ {i q}, updH h id none i = some q → i ≠ id ∧ h i = some q := by
    intro i q hi
    by_cases e2 : i = id
    · rw [e2, updH_same] at hi; cases hi
    · rw [updH_ne _ _ _ e2] at hi
      exact ⟨e2, hi⟩
  refine ⟨⟨Nat.le_refl _, rfl, rfl, rfl, hM, fun _ _ h => h, fun _ _ _ => rfl, fun x v hx => ?_, fun b hb => ?_⟩, ⟨fun x v hx => ?_, s.fin, fun i q hi => ?_, fun i i' q q' r r' h1 h2 => s.inj i i' q q' r r' (hold h1).2 (hold h2).2, fun i q r x v h1 h2 h3 h4 => ?_, fun g x hg => (s.glob g x hg).mono hM (fun _ _ h => h)⟩⟩
  · unfold memOn at hx
    split at hx
    · rename_i c; exact .inr (.inr (c.1 ▸ ⟨id, _, p, hid, hp, rfl⟩))
    · exact .inl hx
  · obtain ⟨i, q, r, h1, h2, h3⟩ := hb
    exact .inr ⟨i, q, r, (hold h1).2, h2, h3⟩
  · unfold memOn at hx
    split at hx
    · rename_i c
      unfold World.cell?
      rw [c.1, hb]
      simp only [c.2.1]
      exact hx
    · exact s.mem x v hx
  · obtain ⟨r, g1, g2, g3⟩ := s.obj i q (hold hi).2
    exact ⟨r, g1, g2, g3.keep hM (fun _ _ h => h) rfl⟩
  · obtain ⟨e, h1⟩ := hold h1
    unfold memOn at h3
    have hb' : r.b ≠ p.b := fun e3 => e (s.inj i id q _ r p h1 hid h2 hp e3)
    rw [if_neg (fun c => hb' (h4.symm.trans c.1))] at h3
    exact s.apart i q r x v h1 h2 h3 h4

/-! ### Rows of elements -/
def flat (els : List AV) : List AV := els.flatMap AV.cells

theorem flat_length {k : Nat} : ∀ {els : List AV}, (∀ x ∈ els, x.cells.length = k) → (flat els).length = els.length * k
  | [], _ => by simp [flat]
  | x :: r, hk => by
    have := flat_length (els := r) (fun y hy => hk y (List.mem_cons_of_mem _ hy))
    simp only [flat, List.flatMap_cons, List.length_append, List.length_cons] at this ⊢
    rw [hk x (by simp), this, Nat.succ_mul]
    omega

theorem flat_get {k : Nat} : ∀ {els : List AV}, (∀ x ∈ els, x.cells.length = k) → ∀ i j, i < els.length → j < k → (flat els).getD (i * k + j) .undef = (els.getD i .undef).cells.getD j .undef
  | x :: r, hk, 0, j, _, hj => by
    have hx := hk x (by simp)
    simp only [flat, List.flatMap_cons, Nat.zero_mul, Nat.zero_add, List.getD_eq_getElem?_getD, List.getElem?_cons_zero, Option.getD_some]
    rw [List.getElem?_append_left (by omega)]
  | x :: r, hk, i + 1, j, hi, hj => by
    have hx := hk x (by simp)
    have := flat_get (els := r) (fun y hy => hk y (List.mem_cons_of_mem _ hy)) i j (by simp at hi; omega) hj
    simp only [flat, List.flatMap_cons, List.getD_eq_getElem?_getD, List.getElem?_cons_succ] at this ⊢
    rw [List.getElem?_append_right (by rw [hx, Nat.succ_mul]; omega), hx, show (i + 1) * k + j - k = i * k + j by rw [Nat.succ_mul]; omega]
    exact this

theorem flat_append (xs ys : List AV) : flat (xs ++ ys) = flat xs ++ flat ys := by simp [flat]

def elemOK (k : Nat) (g : Bool) (x : AV) : Prop := x.cells.length = k ∧ x.known = true ∧ x.isAgg = g

theorem rel_sl {k : Nat} {g : Bool} {els : List AV} {cap : Cap} {c : Nat} {ad : Addr} {vs : Array Value} (hk : ∀ x ∈ els, elemOK k g x) (hn : els.length ≤ 9223372036854775807) (hr : Rels M ρ (flat els) vs) (h1 : ∀ v ∈ vs.toList, v.oneCell' = true)
    (hm : ∀ j, j < vs.size → M (ad.add j) = some (vs.getD j Go.undef)) (hc : CapOK ρ k els.length c (some ad) cap) : Rel M ρ (.sl k g els cap) (.slice (some ad) els.length c) := by
  have hfl := flat_length (fun x hx => (hk x hx).1)
  have hb : ∀ i j, i < els.length → j < k → i * k + j < els.length * k := fun i j hi hj => by
    have : (i + 1) * k ≤ els.length * k := Nat.mul_le_mul_right _ hi
    rw [Nat.succ_mul] at this
    omega
  refine .sl k g els cap (some ad) els.length c rfl hn (fun i hi => ?_) (fun i j => vs.getD (i * k + j) Go.undef) (fun i j hi hj => ?_) (fun i j hi hj => ?_) hc
  · have := hk els[i] (by simp)
    simpa [List.getD_eq_getElem?_getD, hi, elemOK] using this
  · have hlt : i * k + j < vs.size := by have := hb i j hi hj; have := hr.1; omega
    refine ⟨h1 _ ?_, ad, rfl, hm _ hlt⟩
    simp [Array.getD_eq_getD_getElem?, hlt]
  · rw [← flat_get (fun x hx => (hk x hx).1) i j hi hj]
    exact hr.2 _ (by have := hb i j hi hj; omega)

/-- A slice that is read, laid flat. -/
theorem sl_flat {k : Nat} {g : Bool} {els : List AV} {cap : Cap} {v : Value} (hv : Rel M ρ (.sl k g els cap) v) : ∃ (ao : Option Addr) (n c : Nat) (vs : List Value), v = .slice ao n c ∧ n = els.length ∧ n ≤ 9223372036854775807 ∧ CapOK ρ k n c ao cap ∧ (∀ x ∈ els, elemOK k g x) ∧
    vs.length = n * k ∧ Rels M ρ (flat els) vs.toArray ∧ (∀ u ∈ vs, u.oneCell' = true) ∧ (∀ j u, vs[j]? = some u → ∃ ad, ao = some ad ∧ M (ad.add j) = some u) := by
  cases hv with
  | sl _ _ _ _ ao n c hn hm hk cv hv h hc =>
    have hkk : ∀ x ∈ els, elemOK k g x := fun x hx => by
      obtain ⟨i, hi, rfl⟩ := List.getElem_of_mem hx
      have := hk i (by omega)
      simpa [List.getD_eq_getElem?_getD, hi, elemOK] using this
    have hfl := flat_length (fun x hx => (hkk x hx).1)
    have hdm : ∀ m, m < n * k → m / k < n ∧ m % k < k ∧ m / k * k + m % k = m := fun m hm => by
      have hk0 : 0 < k := by rcases Nat.eq_zero_or_pos k with e | e; · subst e; omega
                             · exact e
      refine ⟨(Nat.div_lt_iff_lt_mul hk0).2 hm, Nat.mod_lt _ hk0, ?_⟩
      rw [Nat.mul_comm]; exact Nat.div_add_mod m k
    refine ⟨ao, n, c, (List.range (n * k)).map fun m => cv (m / k) (m % k), rfl, hn, hm, hc, hkk, by simp, ⟨by simp; rw [hfl, hn], fun m hm => ?_⟩, fun u hu => ?_, fun j u hj => ?_⟩
    · rw [hfl, ← hn] at hm
      obtain ⟨a1, a2, a3⟩ := hdm m hm
      have := h _ _ a1 a2
      rw [← flat_get (fun x hx => (hkk x hx).1) _ _ (by omega) a2, a3] at this
      simpa [Array.getD_eq_getD_getElem?, hm] using this
    · obtain ⟨m, hm, rfl⟩ := List.mem_map.1 hu
      obtain ⟨a1, a2, a3⟩ := hdm m (by simpa using hm)
      exact (hv _ _ a1 a2).1
    · simp only [List.getElem?_map, Option.map_eq_some_iff] at hj
      obtain ⟨m, hm, rfl⟩ := hj
      obtain ⟨hm1, hm2⟩ := List.getElem?_eq_some_iff.1 hm
      simp at hm1 hm2
      subst hm2
      obtain ⟨a1, a2, a3⟩ := hdm j hm1
      obtain ⟨_, ad, b1, b2⟩ := hv _ _ a1 a2
      exact ⟨ad, b1, by rw [a3] at b2; exact b2⟩

end
end Go.Lift
