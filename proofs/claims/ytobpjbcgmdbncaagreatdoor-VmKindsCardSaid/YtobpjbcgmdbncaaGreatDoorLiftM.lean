/- A part of the proof (own lemmas, no condition beyond those that each theorem states): the layer over the model that all of the proofs of this seat stand on. -/
import Derived.Test.YtobpjbcgmdbncaaGreatDoorLiftL
set_option linter.unusedVariables false
set_option linter.unusedSectionVars false
set_option linter.unusedSimpArgs false
namespace Go.Lift
open Go Go.RowKit
variable [G : Glob]

section
variable {P : Program} {ty : Tys} {N : Nat} {E : Ent} {M : Mem} {ρ : Rho} {l : Lam} {env : Env} {loc : Loc} {h : Heap} {a : Act} {w : World} {esc : Nat → Bool}

/-! ### Less is known -/
def lamR (loc : Loc) (l : Lam) : Lam := fun d => match loc d with | some _ => l d | none => none
theorem lamR_some {loc : Loc} {l : Lam} {d : Nat} {cs : List AV} (h : loc d = some cs) : lamR loc l d = l d := by unfold lamR; rw [h]
theorem Fr.le {env' : Env} {loc' : Loc} {h' : Heap} (F : Fr N E M ρ l env' loc' h' a w) (he : ELe env env') (hl : LLe loc loc') (hh : HLe h h') (hp : ∀ s d o, env s = .lptr d o → ∃ cs, loc d = some cs) :
    Fr N E M ρ (lamR loc l) env loc h a w := by
  have F1 := F.f.le he hl hh
  refine ⟨⟨F1.sim, F1.size, F1.defers, fun s => ?_, fun d cs hd => ?_, fun d d' cs cs' b h1 h2 h3 h4 => ?_, fun d cs b h1 h2 => ?_, fun d cs b x v h1 h2 => ?_⟩, F.st.le hh, fun d cs b h1 h2 => ?_, fun d b h1 => ?_⟩
  · have := F1.slot s
    cases hq : env s with
    | lptr d o =>
      rw [hq] at this
      obtain ⟨b, g1, g2⟩ := this
      obtain ⟨cs, hc⟩ := hp s d o hq
      exact ⟨b, by rw [lamR_some hc]; exact g1, g2⟩
    | _ => rw [hq] at this; exact this
  · obtain ⟨b, g1, g2⟩ := F1.lo d cs hd
    exact ⟨b, by rw [lamR_some hd]; exact g1, g2⟩
  · rw [lamR_some h1] at h3
    rw [lamR_some h2] at h4
    exact F1.linj d d' cs cs' b h1 h2 h3 h4
  · rw [lamR_some h1] at h2
    exact F1.lown d cs b h1 h2
  · rw [lamR_some h1] at h2
    exact F1.lmem d cs b x v h1 h2
  · rw [lamR_some h1] at h2
    exact F.new d cs b (hl.some h1) h2
  · cases hd : loc d with
    | none => unfold lamR at h1; rw [hd] at h1; cases h1
    | some cs => exact ⟨cs, rfl⟩

theorem ACode.mono {c : Code} {K K' : Kx} (hc : ACode P N c env loc h K) (hk : ∀ e env loc h, K e env loc h → K' e env loc h) : ACode P N c env loc h K' :=
  ⟨fun E M ρ l a w F => wp_mono (hc.out E M ρ l a w F) fun e a w ⟨env, loc, h, M, ρ, l, F, k⟩ => ⟨env, loc, h, M, ρ, l, F, hk _ _ _ _ k⟩⟩

/-! ### Rows of slots -/
def overE : List (Nat × AV) → Env → Env
  | [], e => e
  | (s, v) :: r, e => updE (overE r e) s v
def overL : List (Nat × List AV) → Loc → Loc
  | [], e => e
  | (s, v) :: r, e => updL (overL r e) s v
def memN (s : Nat) : List Nat → Bool
  | [] => false
  | k :: r => bif Nat.beq s k then true else memN s r
def keepE (ks : List Nat) (e : Env) : Env := fun s => bif memN s ks then e s else .undef
def keepL (ks : List Nat) (e : Loc) : Loc := fun s => bif memN s ks then e s else none

def agreeE : List (Nat × AV) → Env → Prop
  | [], _ => True
  | (s, v) :: r, e => e s = v ∧ agreeE r e
def agreeL : List (Nat × List AV) → Loc → Prop
  | [], _ => True
  | (s, v) :: r, e => e s = some v ∧ agreeL r e
def sameE (env env' : Env) : List Nat → Prop
  | [] => True
  | s :: r => env' s = env s ∧ sameE env env' r
def sameL (env env' : Loc) : List Nat → Prop
  | [] => True
  | s :: r => env' s = env s ∧ sameL env env' r

theorem memN_sound {s : Nat} : ∀ {ks : List Nat}, memN s ks = true → s ∈ ks
  | [], h => by cases h
  | k :: r, h => by
    unfold memN at h
    cases hb : Nat.beq s k with
    | true => rw [Nat.eq_of_beq_eq_true hb]; exact List.mem_cons_self
    | false => rw [hb] at h; exact List.mem_cons_of_mem _ (memN_sound h)

theorem sameE_mem {env env' : Env} : ∀ {ks : List Nat} {s : Nat}, sameE env env' ks → s ∈ ks → env' s = env s
  | k :: r, s, h, hm => by
    rcases List.mem_cons.1 hm with e | e
    · subst e; exact h.1
    · exact sameE_mem h.2 e
theorem sameL_mem {env env' : Loc} : ∀ {ks : List Nat} {s : Nat}, sameL env env' ks → s ∈ ks → env' s = env s
  | k :: r, s, h, hm => by
    rcases List.mem_cons.1 hm with e | e
    · subst e; exact h.1
    · exact sameL_mem h.2 e

theorem overE_le : ∀ {us : List (Nat × AV)} {e e' : Env}, agreeE us e' → ELe e e' → ELe (overE us e) e'
  | [], e, e', _, h => h
  | (s, v) :: r, e, e', ha, h => fun i => by
    simp only [overE, updE_eq]
    by_cases hi : i = s
    · rw [if_pos hi, hi]; exact .inr ha.1.symm
    · rw [if_neg hi]; exact overE_le ha.2 h i
theorem overL_le : ∀ {us : List (Nat × List AV)} {e e' : Loc}, agreeL us e' → LLe e e' → LLe (overL us e) e'
  | [], e, e', _, h => h
  | (s, v) :: r, e, e', ha, h => fun i => by
    simp only [overL, updL_eq]
    by_cases hi : i = s
    · rw [if_pos hi, hi]; exact .inr ha.1.symm
    · rw [if_neg hi]; exact overL_le ha.2 h i
theorem keepE_le {ks : List Nat} {e e' : Env} (h : sameE e e' ks) : ELe (keepE ks e) e' := fun s => by
  unfold keepE
  cases hm : memN s ks with
  | true => exact .inr (sameE_mem h (memN_sound hm)).symm
  | false => exact .inl rfl
theorem keepL_le {ks : List Nat} {e e' : Loc} (h : sameL e e' ks) : LLe (keepL ks e) e' := fun s => by
  unfold keepL
  cases hm : memN s ks with
  | true => exact .inr (sameL_mem h (memN_sound hm)).symm
  | false => exact .inl rfl
theorem sameE_refl (e : Env) : ∀ ks, sameE e e ks
  | [] => trivial
  | s :: r => ⟨rfl, sameE_refl e r⟩
theorem sameL_refl (e : Loc) : ∀ ks, sameL e e ks
  | [] => trivial
  | s :: r => ⟨rfl, sameL_refl e r⟩

def plainsE : List (Nat × AV) → Bool
  | [] => true
  | (_, v) :: r => match v.plain with
    | true => plainsE r
    | false => false

def hasL (d : Nat) : List (Nat × List AV) → Bool
  | [] => false
  | (s, _) :: r => bif Nat.beq d s then true else hasL d r

/-- The pointers to variables of the function's own among the slots that are kept: their variables are kept, too. -/
def lptrOK (env : Env) (kl : List Nat) (ul : List (Nat × List AV)) : List Nat → Bool
  | [] => true
  | s :: r => match env s with
    | .lptr d _ => match memN d kl || hasL d ul with
      | true => lptrOK env kl ul r
      | false => false
    | _ => lptrOK env kl ul r

theorem overE_ptr : ∀ {us : List (Nat × AV)} {e : Env} {s d o : Nat}, plainsE us = true → overE us e s = .lptr d o → e s = .lptr d o
  | [], e, s, d, o, _, h => h
  | (s', v) :: r, e, s, d, o, hp, h => by
    unfold plainsE at hp
    split at hp
    · rename_i hv
      simp only [overE, updE_eq] at h
      by_cases hi : s = s'
      · rw [if_pos hi] at h
        rw [h] at hv
        cases hv
      · rw [if_neg hi] at h
        exact overE_ptr hp h
    · cases hp

theorem hasL_sound {d : Nat} : ∀ {us : List (Nat × List AV)} {e : Loc}, hasL d us = true → ∃ cs, overL us e d = some cs
  | [], e, h => by cases h
  | (s, v) :: r, e, h => by
    unfold hasL at h
    simp only [overL, updL_eq]
    cases hb : Nat.beq d s with
    | true => rw [if_pos (Nat.eq_of_beq_eq_true hb)]; exact ⟨v, rfl⟩
    | false =>
      have : d ≠ s := fun e => by subst e; simp at hb
      rw [hb] at h
      rw [if_neg this]
      exact hasL_sound h

theorem overL_some {d : Nat} : ∀ {us : List (Nat × List AV)} {e : Loc} {cs : List AV}, e d = some cs → ∃ cs, overL us e d = some cs
  | [], e, cs, h => ⟨cs, h⟩
  | (s, v) :: r, e, cs, h => by
    simp only [overL, updL_eq]
    by_cases hi : d = s
    · rw [if_pos hi]; exact ⟨v, rfl⟩
    · rw [if_neg hi]; exact overL_some h

theorem lptrOK_sound {env : Env} {kl : List Nat} {ul : List (Nat × List AV)} : ∀ {ks : List Nat} {s d o : Nat}, lptrOK env kl ul ks = true → s ∈ ks → env s = .lptr d o → memN d kl = true ∨ hasL d ul = true
  | k :: r, s, d, o, h, hm, he => by
    unfold lptrOK at h
    rcases List.mem_cons.1 hm with e | e
    · subst e
      rw [he] at h
      simp only at h
      split at h
      · rename_i hq
        simpa using hq
      · cases h
    · have : lptrOK env kl ul r = true := by
        split at h
        · split at h
          · exact h
          · cases h
        · exact h
      exact lptrOK_sound this e he

/-- The state at a loop's head: what is kept of what stood before, and what is told anew. -/
theorem head_ptr {ks kl : List Nat} {ue : List (Nat × AV)} {ul : List (Nat × List AV)} (hp : plainsE ue = true) (hk : lptrOK env kl ul ks = true) (hloc : ∀ s d o, env s = .lptr d o → ∃ cs, loc d = some cs) :
    ∀ s d o, overE ue (keepE ks env) s = .lptr d o → ∃ cs, overL ul (keepL kl loc) d = some cs := by
  intro s d o he
  have h1 := overE_ptr hp he
  unfold keepE at h1
  cases hm : memN s ks with
  | false => rw [hm] at h1; cases h1
  | true =>
    rw [hm] at h1
    have h1 : env s = .lptr d o := h1
    rcases lptrOK_sound hk (memN_sound hm) h1 with h2 | h2
    · obtain ⟨cs, hc⟩ := hloc s d o h1
      refine overL_some (cs := cs) ?_
      unfold keepL
      rw [h2]; exact hc
    · exact hasL_sound h2

theorem Fr.ptrs (F : Fr N E M ρ l env loc h a w) : ∀ s d o, env s = .lptr d o → ∃ cs, loc d = some cs := fun s d o he => by
  have := F.f.slot s
  rw [he] at this
  obtain ⟨b, g1, _⟩ := this
  exact F.lam d b g1

/-- Behind a round: at the loop's head again, further on; or out of it. -/
def AgainK (ks kl : List Nat) (env : Env) (loc : Loc) (env' : Env) (loc' : Loc) (h' : Heap) (ue : List (Nat × AV)) (ul : List (Nat × List AV)) (uh : Heap) : Prop :=
  agreeE ue env' ∧ agreeL ul loc' ∧ HLe uh h' ∧ sameE env env' ks ∧ sameL loc loc' kl

theorem wp_loop_fam {c : Code} {ι : Type} (J : ι → Act → World → Prop) (μ : ι → Nat) (i0 : ι) {Q : Exit → Act → World → Prop} (h₀ : J i0 a w)
    (round : ∀ i a w, J i a w → c.wp P (Exit.then (fun a' w' => ∃ j, μ j < μ i ∧ J j a' w') Q) a w) : (Code.loop c).wp P Q a w := by
  intro b k cs
  have key : ∀ n i a w, μ i = n → J i a w →
      ∃ e a' w', Q e a' w' ∧ Arrives P (lone (b.at a (.code c :: .inLoop c :: k)) cs w) b k cs e a' w' := by
    intro n
    induction n using Nat.strongRecOn with
    | _ n ih =>
      intro i a w hn hI
      obtain ⟨e, a₁, w₁, hq, harr⟩ := round i a w hI b (.inLoop c :: k) cs
      cases e with
      | normal =>
        obtain ⟨j, hlt, hI₁⟩ := hq
        obtain ⟨e₂, a₂, w₂, hq₂, harr₂⟩ := ih (μ j) (hn ▸ hlt) j a₁ w₁ rfl hI₁
        exact ⟨e₂, a₂, w₂, hq₂, .of_steps (Steps.trans harr (.one step_inLoop)) harr₂⟩
      | exit id => exact ⟨_, a₁, w₁, hq, .pass (x := .inLoop c) rfl (fun _ _ => .inl (by simp)) harr⟩
      | goto l => exact ⟨_, a₁, w₁, hq, .pass (x := .inLoop c) rfl (fun _ _ => .inl (by simp)) harr⟩
      | ret => exact ⟨_, a₁, w₁, hq, .pass (x := .inLoop c) rfl (fun _ _ => .inl (by simp)) harr⟩
      | panic ch => exact ⟨_, a₁, w₁, hq, .pass (x := .inLoop c) rfl (fun _ _ => .inl (by simp)) harr⟩
      | outgrown => exact ⟨_, a₁, w₁, hq, .pass (x := .inLoop c) rfl (fun _ _ => .inl (by simp)) harr⟩
  obtain ⟨e, a', w', hq, harr⟩ := key _ i0 a w rfl h₀
  exact ⟨e, a', w', hq, .of_steps (.one step_loop) harr⟩

/-- A loop, by what is told of the slots at its head. -/
theorem ACode.loop (hT : TyOK P ty) (esc : Nat → Bool) {ι : Type} (I : ι → Prop) (μ : ι → Nat) (ks kl : List Nat) (ue : ι → List (Nat × AV)) (ul : ι → List (Nat × List AV)) (uh : ι → Heap) {c : Code} {K : Kx} (i0 : ι) (h0 : I i0)
    (s1 : agreeE (ue i0) env) (s2 : agreeL (ul i0) loc) (s3 : HLe (uh i0) h) (hp : ∀ i, I i → plainsE (ue i) = true) (hk : ∀ i, I i → lptrOK env kl (ul i) ks = true)
    (round : ∀ i, I i → vcg P ty N esc c (overE (ue i) (keepE ks env)) (overL (ul i) (keepL kl loc)) (uh i) fun e env' loc' h' => match e with
      | .normal => ∃ j, I j ∧ μ j < μ i ∧ AgainK ks kl env loc env' loc' h' (ue j) (ul j) (uh j)
      | e => K e env' loc' h') : ACode P N (.loop c) env loc h K := by
  refine ⟨fun E M ρ l a w F => ?_⟩
  have hloc := F.ptrs
  have F0 := F.le (overE_le s1 (keepE_le (sameE_refl env ks))) (overL_le s2 (keepL_le (sameL_refl loc kl))) s3 (head_ptr (hp i0 h0) (hk i0 h0) hloc)
  refine wp_loop_fam (fun i a w => I i ∧ ∃ M ρ l, Fr N E M ρ l (overE (ue i) (keepE ks env)) (overL (ul i) (keepL kl loc)) (uh i) a w) μ i0 ⟨h0, _, _, _, F0⟩ ?_
  rintro i a w ⟨hi, M, ρ, l, F⟩
  refine wp_mono ((vcg_sound hT c (round i hi)).out E M ρ l a w F) ?_
  rintro e a w ⟨env', loc', h', M', ρ', l', F', hk'⟩
  cases e with
  | normal =>
    obtain ⟨j, hj, hlt, a1, a2, a3, a4, a5⟩ := hk'
    exact ⟨j, hlt, hj, _, _, _, F'.le (overE_le a1 (keepE_le a4)) (overL_le a2 (keepL_le a5)) a3 (head_ptr (hp j hj) (hk j hj) hloc)⟩
  | _ => exact ⟨env', loc', h', M', ρ', l', F', hk'⟩

/-! ### A function's whole body -/
/-- What a function hands back. -/
def resK (ty : Tys) (env : Env) (loc : Loc) : List ResultVar → List AV → (AV → Prop) → Prop
  | [], acc, K => match acc with
    | [x] => K x
    | [x, y] => K (.tuple [x, y])
    | [x, y, z] => K (.tuple [x, y, z])
    | _ => K (.tuple acc)
  | .tmp t :: r, acc, K => match (env t).plain with
    | true => force (env t) fun v => resK ty env loc r (acc ++ [v]) K
    | false => False
  | .cell b t :: r, acc, K => goOn (evLoad ty loc t (env b)) fun v => resK ty env loc r (acc ++ [v]) K

/-- What a row says, said of less, or of what is read alone from now on. -/
def Weak (r : AV) (h : Heap) (r' : AV) (h' : Heap) : Prop :=
  ∀ M ρ w v, Sim M ρ h w → Rel M ρ r v → ∃ M' ρ', Step M ρ h w M' ρ' h' w ∧ Sim M' ρ' h' w ∧ Rel M' ρ' r' v

theorem Weak.refl (r : AV) (h : Heap) : Weak r h r h := fun M ρ w v s hr => ⟨M, ρ, Step.refl _ _ _ _, s, hr⟩
theorem Weak.le {r : AV} {h h' : Heap} (hl : HLe h' h) : Weak r h r h' := fun M ρ w v s hr => ⟨M, ρ, (Step.refl M ρ h w).le hl, s.le hl, hr⟩
theorem Weak.trans {r r' r'' : AV} {h h' h'' : Heap} (x : Weak r h r' h') (y : Weak r' h' r'' h'') : Weak r h r'' h'' := fun M ρ w v s hr => by
  obtain ⟨M1, ρ1, s1, s2, s3⟩ := x M ρ w v s hr
  obtain ⟨M2, ρ2, t1, t2, t3⟩ := y M1 ρ1 w v s2 s3
  exact ⟨M2, ρ2, s1.trans t1, t2, t3⟩

/-- What comes back of a body. -/
def Ends (ty : Tys) (rs : List ResultVar) (Q : AV → Heap → Prop) : Kx :=
  fun e env loc h => match e with
    | .normal => resK ty env loc rs [] fun r => Q r h
    | .ret => resK ty env loc rs [] fun r => Q r h
    | _ => False

def env0 : List AV → Env
  | [], _ => skipV
  | x :: _, 0 => x
  | _ :: r, i + 1 => env0 r i
def loc0 : Loc := fun _ => none

theorem env0_eq : ∀ (xs : List AV) (i : Nat), env0 xs i = xs.getD i skipV
  | [], i => by simp [env0]
  | x :: r, 0 => rfl
  | x :: r, i + 1 => by simp [env0, env0_eq r i]

def resV (tmps : Array Value) : ResultVar → Sem Value
  | .tmp t => pure (tmps.getD t Go.undef)
  | .cell a t => do loadVar t (← asAddr (tmps.getD a Go.undef))

def pack (vs : Array Value) : Value := if h : vs.size = 1 then vs[0] else .tuple vs

theorem resK_sound (hT : TyOK P ty) (f : FSim N M ρ l env loc h a w) : ∀ (rs : List ResultVar) (acc : List AV) (vs : Array Value) (K : AV → Prop), Rels M ρ acc vs → resK ty env loc rs acc K →
    ∃ us r v, (rs.mapM (resV a.tmps)).run P w = .ok us w ∧ pack (vs ++ us.toArray) = v ∧ Rel M ρ r v ∧ K r := by
  intro rs
  induction rs with
  | nil =>
    intro acc vs K hr hK
    unfold resK at hK
    refine ⟨[], ?_⟩
    simp only [List.mapM_nil, Sem.run_pure]
    have e : vs ++ ([] : List Value).toArray = vs := by simp
    simp only [e]
    split at hK
    · rename_i x
      refine ⟨x, vs.getD 0 Go.undef, trivial, ?_, ?_, hK⟩
      · have : vs.size = 1 := by have := hr.1; simpa using this.symm
        simp [pack, this, Array.getD_eq_getD_getElem?]
      · have := hr.2 0 (by simp); simpa using this
    · rename_i x y
      refine ⟨.tuple [x, y], .tuple vs, trivial, ?_, .tuple _ _ hr.1 hr.2, hK⟩
      unfold pack
      rw [dif_neg]
      have hl := hr.1
      simp at hl
      omega
    · rename_i x y z
      refine ⟨.tuple [x, y, z], .tuple vs, trivial, ?_, .tuple _ _ hr.1 hr.2, hK⟩
      unfold pack
      rw [dif_neg]
      have hl := hr.1
      simp at hl
      omega
    · rename_i hne _ _
      refine ⟨.tuple acc, .tuple vs, trivial, ?_, .tuple _ _ hr.1 hr.2, hK⟩
      unfold pack
      rw [dif_neg]
      intro hq
      have hl : acc.length = 1 := by have := hr.1; omega
      match acc, hl with
      | [x], _ => exact hne x rfl
  | cons x rs ih =>
    intro acc vs K hr hK
    have push : ∀ {v u}, Rel M ρ v u → Rels M ρ (acc ++ [v]) (vs ++ #[u]) := fun {v u} hv => rels_append hr ⟨rfl, fun i hi => by
      have : i = 0 := by simp at hi; omega
      subst this
      exact hv⟩
    cases x with
    | tmp t =>
      unfold resK at hK
      split at hK
      · rename_i hp
        rw [force_eq] at hK
        obtain ⟨us, r, v, e1, e2, e3⟩ := ih _ _ K (push ((f.slot t).to hp)) hK
        refine ⟨a.tmps.getD t Go.undef :: us, r, v, ?_, ?_, e3⟩
        · simp only [List.mapM_cons, resV, Sem.run_bind, Sem.run_pure, Result.andThen_ok, e1]
        · rw [← e2]
          have : vs ++ (a.tmps.getD t Go.undef :: us).toArray = vs ++ #[a.tmps.getD t Go.undef] ++ us.toArray := by
            apply Array.ext'; simp
          simp only [this]
      · exact hK.elim
    | cell b t =>
      unfold resK at hK
      obtain ⟨hh, hK⟩ := goOn_to hK
      obtain ⟨u, g1, g2⟩ := run_evLoad hT f.e (f.slot b) hh
      obtain ⟨us, r, v, e1, e2, e3⟩ := ih _ _ K (push g2) hK
      have hl : (resV a.tmps (.cell b t)).run P w = .ok u w := by
        show (do loadVar t (← asAddr (a.tmps.getD b Go.undef)) : Sem Value).run P w = .ok u w
        have hsh : ∃ ad, a.tmps.getD b Go.undef = .pointer (some ad) := by
          have hs := f.slot b
          unfold evLoad at hh
          split at hh
          · exact hh.elim
          · split at hh
            · rename_i q; rw [q] at hs
              generalize a.tmps.getD b Go.undef = z at hs
              cases hs with
              | ept _ _ _ _ ad => exact ⟨ad, rfl⟩
            · rename_i q; rw [q] at hs; obtain ⟨b', _, e⟩ := hs; exact ⟨_, e⟩
            · exact hh.elim
        obtain ⟨ad, had⟩ := hsh
        simp only [had] at g1 ⊢
        have g1 := g1 w f.e.same
        simpa [Instr.loadAt, Instr.sureAddr, asAddr] using g1
      refine ⟨u :: us, r, v, ?_, ?_, e3⟩
      · simp only [List.mapM_cons, Sem.run_bind, hl, Sem.run_pure, Result.andThen_ok, e1]
      · rw [← e2]
        have : vs ++ (u :: us).toArray = vs ++ #[u] ++ us.toArray := by
          apply Array.ext'; simp
        simp only [this]

theorem run_results (hT : TyOK P ty) (f : FSim N M ρ l env loc h a w) {fn : Func} {K : AV → Prop} (hK : resK ty env loc fn.results.toList [] K) : ∃ r v, (results fn a.tmps).run P w = .ok v w ∧ Rel M ρ r v ∧ K r := by
  obtain ⟨us, r, v, e1, e2, e3, e4⟩ := resK_sound hT f fn.results.toList [] #[] K Rels.nil hK
  refine ⟨r, v, ?_, e3, e4⟩
  have hm : (fn.results.mapM (resV a.tmps)).run P w = .ok us.toArray w := by
    rw [Array.mapM_eq_mapM_toList, Sem.run_map, e1]; rfl
  have he : results fn a.tmps = (do let vs ← fn.results.mapM (resV a.tmps); pure (pack vs)) := by
    unfold results pack
    congr 1
  rw [he, Sem.run_bind, hm]
  simp only [Result.andThen_ok, Sem.run_pure]
  rw [← e2]
  simp

/-- A call of a function that has a body, by its body. -/
theorem ACalls.of_code (hT : TyOK P ty) {g : FuncId} {fn : Func} {c : Code} (hf : P.funcs[g]? = some fn) (hb : fn.body = some c) (hname : (fn.name == "runtime.NumGoroutine") = false) {args : List AV} {Q : AV → Heap → Prop} (hn : args.length ≤ fn.ntmps)
    (hK : ACode P fn.ntmps c (env0 args) loc0 h (Ends ty fn.results.toList fun r h' => ∃ r' h'', Weak r h' r' h'' ∧ Q r' h'')) : ACalls P g args h Q := by
  refine ⟨fun M ρ w vs hs hr o a next Qx hnext => ?_⟩
  have hrun : (callFunc g vs).run P w = .ok (.enter g vs) w := by
    simp only [callFunc, Sem.run_bind, run_program, Result.andThen_ok, hf, hname, hb, Option.isNone_some, Bool.false_eq_true, if_false, Sem.run_pure]
  rw [hrun]
  show Calls P g vs w _
  have hsz := hr.1
  have F : Fr fn.ntmps ⟨M, ρ, h, w⟩ M ρ (fun _ => none) (env0 args) loc0 h { tmps := vs ++ Array.replicate (fn.ntmps - vs.size) Go.undef, defers := [] } w := by
    refine ⟨⟨hs, (by simp; omega), rfl, fun s => ?_, fun d cs hd => (by cases hd), fun d d' cs cs' b h1 => (by cases h1), fun d cs b h1 => (by cases h1), fun d cs b x v h1 => (by cases h1)⟩, Step.refl _ _ _ _, fun d cs b h1 => (by cases h1), fun d b h1 => (by cases h1)⟩
    rw [env0_eq]
    by_cases hlt : s < args.length
    · have h1 := hr.2 s hlt
      have e1 : args.getD s skipV = args.getD s .undef := by simp [List.getD_eq_getElem?_getD, hlt]
      have e2 : (vs ++ Array.replicate (fn.ntmps - vs.size) Go.undef).getD s Go.undef = vs.getD s Go.undef := by
        simp [Array.getD_eq_getD_getElem?, Array.getElem?_append, show s < vs.size by omega]
      rw [e1, e2]
      exact RelS.of h1
    · have e1 : args.getD s skipV = skipV := by simp [List.getD_eq_getElem?_getD, hlt]
      have e2 : (vs ++ Array.replicate (fn.ntmps - vs.size) Go.undef).getD s Go.undef = Go.undef := by
        simp only [Array.getD_eq_getD_getElem?, Array.getElem?_append, show ¬ s < vs.size by omega, if_false, Array.getElem?_replicate]
        split <;> rfl
      rw [e1, e2]
      exact RelS.of (.tuple [] #[] rfl (fun i hi => by simp at hi))
  refine Calls.mono (calls_of_wp hf hb (R := fun e w' => ∃ v r h' M' ρ', e = .returned v ∧ Step M ρ h w M' ρ' h' w' ∧ Sim M' ρ' h' w' ∧ Rel M' ρ' r v ∧ Q r h') (wp_mono (hK.out _ _ _ _ _ _ F) ?_)) ?_
  · rintro e a' w' ⟨env, loc, h', M', ρ', l', F', hk⟩
    have fin : ∀ {K : AV → Prop}, resK ty env loc fn.results.toList [] K → (∀ r, K r → ∃ r' h'', Weak r h' r' h'' ∧ Q r' h'') → a'.defers = [] ∧ ∃ v, (results fn a'.tmps).run P w' = .ok v w' ∧ ∃ v_1 r h' M' ρ', Ending.returned v = .returned v_1 ∧ Step M ρ h w M' ρ' h' w' ∧ Sim M' ρ' h' w' ∧ Rel M' ρ' r v_1 ∧ Q r h' := by
      intro K hres hKr
      obtain ⟨r, v, e1, e2, e3⟩ := run_results hT F'.f hres
      obtain ⟨r', h'', hw, hQ⟩ := hKr r e3
      obtain ⟨M2, ρ2, t1, t2, t3⟩ := hw M' ρ' w' v F'.f.sim e2
      exact ⟨F'.f.defers, v, e1, v, r', h'', M2, ρ2, rfl, F'.st.trans t1, t2, t3, hQ⟩
    cases e with
    | normal => exact fin hk fun r h => h
    | ret => exact fin hk fun r h => h
    | _ => exact hk.elim
  · rintro e w' ⟨v, r, h', M', ρ', rfl, s1, s2, s3, s4⟩
    exact hnext v w' r h' M' ρ' s1 s2 s3 s4

theorem ACalls.of_body (hT : TyOK P ty) {g : FuncId} {fn : Func} {c : Code} (esc : Nat → Bool) (hf : P.funcs[g]? = some fn) (hb : fn.body = some c) (hname : (fn.name == "runtime.NumGoroutine") = false) {args : List AV} {Q : AV → Heap → Prop} (hn : args.length ≤ fn.ntmps)
    (hK : vcg P ty fn.ntmps esc c (env0 args) loc0 h (Ends ty fn.results.toList fun r h' => ∃ r' h'', Weak r h' r' h'' ∧ Q r' h'')) : ACalls P g args h Q :=
  ACalls.of_code hT hf hb hname hn (vcg_sound hT c hK)

end
end Go.Lift
