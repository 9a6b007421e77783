/- A part of the proof (own lemmas, no condition beyond those that each theorem states): the layer over the model that all of the proofs of this seat stand on. -/
import Derived.Test.YtobpjbcgmdbncaaGreatDoorLiftJ
set_option linter.unusedVariables false
set_option linter.unusedSectionVars false
set_option linter.unusedSimpArgs false
namespace Go.Lift
open Go Go.RowKit
variable [G : Glob]

/-- Where the value that follows goes on. -/
abbrev Kt := Env → Loc → Heap → Prop

def force (v : AV) (K : AV → Prop) : Prop :=
  match v with
  | .undef => K .undef
  | .int k n => K (.int k n)
  | .bool b => K (.bool b)
  | .str s => K (.str s)
  | .opq v => K (.opq v)
  | .agg cs => K (.agg cs)
  | .tuple cs => K (.tuple cs)
  | .iface t x => K (.iface t x)
  | .func f a b => K (.func f a b)
  | .sl k g e c => K (.sl k g e c)
  | .row a b c d => K (.row a b c d)
  | .ptr a b => K (.ptr a b)
  | .lptr a b => K (.lptr a b)
  | .ept a k g b => K (.ept a k g b)
  | .map a => K (.map a)
theorem force_eq (v : AV) (K : AV → Prop) : force v K = K v := by cases v <;> rfl

def chk (n m : Nat) (K : Prop) : Prop :=
  match Nat.ble n m with
  | true => K
  | false => False
theorem chk_of {n m : Nat} {K : Prop} (h : n ≤ m) (k : K) : chk n m K := by
  unfold chk
  have : Nat.ble n m = true := by rw [Nat.ble_eq]; exact h
  rw [this]; exact k
theorem chk_to {n m : Nat} {K : Prop} (h : chk n m K) : n ≤ m ∧ K := by
  unfold chk at h
  split at h
  · rename_i e; exact ⟨Nat.le_of_ble_eq_true e, h⟩
  · exact h.elim

def goOn (r : Res) (K : AV → Prop) : Prop :=
  match r with
  | .v x => force x K
  | .ask x => ∃ v, x = v ∧ K v
  | @Res.cond c _ x => c ∧ force x K
  | .bad => False
theorem goOn_to {r : Res} {K : AV → Prop} (h : goOn r K) : r.holds ∧ K r.val := by
  cases r with
  | v x => exact ⟨trivial, by rw [goOn, force_eq] at h; exact h⟩
  | ask x => obtain ⟨v, rfl, h⟩ := h; exact ⟨trivial, h⟩
  | cond c x => rw [goOn, force_eq] at h; exact h
  | bad => exact h.elim

def dstOK (N : Nat) : Option Tmp → Bool
  | none => true
  | some d => Nat.blt d N
theorem dstOK_to {N : Nat} {d : Option Tmp} (h : dstOK N d = true) : ∀ t, d = some t → t < N := by
  intro t ht
  subst ht
  simpa [dstOK] using h

/-- A new object's name: any free one; or one that is told. -/
def Fresh (fr : Option Nat) (h : Heap) (K : Nat → Prop) : Prop :=
  match fr with
  | none => ∀ id, h id = none → K id
  | some n => K n
def FrOK (fr : Option Nat) (ρ : Rho) (h : Heap) : Prop := ∀ n, fr = some n → ρ n = none ∧ h n = none

def newVarA (esc : Nat → Bool) (fr : Option Nat) (d : Nat) (cs : List AV) (env : Env) (loc : Loc) (h : Heap) (K : Kt) : Prop :=
  match esc d with
  | true => Fresh fr h fun id => K (updE env d (.ptr id 0)) loc (updH h id (some (.cells cs)))
  | false => match loc d with
    | none => K (updE env d (.lptr d 0)) (updL loc d cs) h
    | some _ => K (updE (killL d env) d (.lptr d 0)) (updL loc d cs) h

def evStore (dst : Option Tmp) (i : TInfo) (p x : AV) (env : Env) (loc : Loc) (h : Heap) (K : Kt) : Prop :=
  match storeOK x && Nat.beq x.cells.length i.size with
  | false => False
  | true => match p with
    | .lptr d off => match loc d with
      | none => False
      | some cs => chk (off + i.size) cs.length (K (putE env dst .undef) (updL loc d (putCells cs off x.cells)) h)
    | .ptr id off => ∃ cs, h id = some (.cells cs) ∧ off + i.size ≤ cs.length ∧ K (putE env dst .undef) loc (updH h id (some (.cells (putCells cs off x.cells))))
    | _ => False

def evLoadK (dst : Option Tmp) (i : TInfo) (cs : List AV) (off : Nat) (env : Env) (K : Env → Prop) : Prop :=
  match i.desc.agg || Nat.beq i.size 1 with
  | false => False
  | true => force (partA i.desc.agg i.size cs off) fun v => K (putE env dst v)

/-- The same where what is read must be said. -/
def evLoadP (dst : Option Tmp) (i : TInfo) (cs : List AV) (off : Nat) (env : Env) (K : Env → Prop) : Prop :=
  match i.desc.agg || Nat.beq i.size 1 with
  | false => False
  | true => ∃ v, partA i.desc.agg i.size cs off = v ∧ K (putE env dst v)

theorem evLoadP_to {dst : Option Tmp} {i : TInfo} {cs : List AV} {off : Nat} {env : Env} {K : Env → Prop} (h : evLoadP dst i cs off env K) : evLoadK dst i cs off env K := by
  unfold evLoadP at h
  unfold evLoadK
  split at h
  · exact h.elim
  · obtain ⟨v, rfl, h⟩ := h
    rw [force_eq]; exact h

def evCall (P : Program) (fr : Option Nat) (dst : Option Tmp) (f : AV) (args : List AV) (env : Env) (loc : Loc) (h : Heap) (K : Kt) : Prop :=
  match f with
  | .func (.func g) first captured => match args.all AV.plain && fr.isNone with
    | false => False
    | true => ACalls P g (first ++ args ++ captured) h fun r h' => K (putE env dst r) loc h'
  | _ => False

def evOpA (P : Program) (ty : Tys) (N : Nat) (esc : Nat → Bool) (fr : Option Nat) (o : Oper) (env : Env) (loc : Loc) (h : Heap) (K : Kt) : Prop :=
  match dstOK N o.dst with
  | false => False
  | true => match o.op with
    | .box _ x => match o.dst with
      | none => False
      | some d => match (evO env x).known && (evO env x).plain with
        | false => False
        | true => newVarA esc fr d (evO env x).cells env loc h K
    | .alloc t => match o.dst with
      | none => False
      | some d => match ty t with
        | none => False
        | some i => match (ofVal i.zero).known with
          | false => False
          | true => newVarA esc fr d (ofVal i.zero).cells env loc h K
    | .store t p x => match ty t with
      | none => False
      | some i => evStore o.dst i (evO env p) (evO env x) env loc h K
    | .load t p => match evO env p with
      | .lptr d off => match ty t with
        | none => False
        | some i => match loc d with
          | none => False
          | some cs => chk (off + i.size) cs.length (evLoadK o.dst i cs off env fun env => K env loc h)
      | .ptr id off => match ty t with
        | none => False
        | some i => ∃ cs, h id = some (.cells cs) ∧ off + i.size ≤ cs.length ∧ evLoadP o.dst i cs off env fun env => K env loc h
      | p => goOn (evLoad ty loc t p) fun v => K (putE env o.dst v) loc h
    | .call c => match c.callee with
      | .value f => evCall P fr o.dst (evO env f) (c.args.toList.map (evO env)) env loc h K
      | _ => goOn (evS ty env loc (.call c)) fun v => K (putE env o.dst v) loc h
    | op => goOn (evS ty env loc op) fun v => K (putE env o.dst v) loc h

section
variable {P : Program} {ty : Tys} {N : Nat} {E : Ent} {M : Mem} {ρ : Rho} {l : Lam} {env : Env} {loc : Loc} {h : Heap} {a : Act} {w : World} {esc : Nat → Bool} {st : Bool} {fr : Option Nat}

/-- What is to be shown of what comes next. -/
def Goes (N : Nat) (E : Ent) (M : Mem) (ρ : Rho) (h : Heap) (w : World) (st : Bool) (fr : Option Nat) (K : Kt) (next : Act → World → Prop) : Prop :=
  ∀ env loc h' M' ρ' l' a w', (∀ x v, M x = some v → M' x = some v) → (∀ b, b < w.heap.size → ¬ Own h ρ b → (st = false → w'.heap[b]? = w.heap[b]?) ∧ b < w'.heap.size ∧ ¬ Own h' ρ' b) → (∀ n, fr = some n → ∀ i, (i = n → h' i = none) → ρ i = none → ρ' i = none) →
    Fr N E M' ρ' l' env loc h' a w' → K env loc h' → next a w'

theorem Step.stay {M M' : Mem} {ρ ρ' : Rho} {h h' : Heap} {w w' : World} (s : Step M ρ h w M' ρ' h' w') (st : Bool) : ∀ b, b < w.heap.size → ¬ Own h ρ b → (st = false → w'.heap[b]? = w.heap[b]?) ∧ b < w'.heap.size ∧ ¬ Own h' ρ' b := fun b h1 h2 => by
  refine ⟨fun _ => s.keep b h1 h2, Nat.lt_of_lt_of_le h1 s.size, fun ho => ?_⟩
  rcases s.newO b ho with h | h
  · omega
  · exact h2 h

theorem stay_same {ρ : Rho} {h : Heap} {w : World} (st : Bool) : ∀ b, b < w.heap.size → ¬ Own h ρ b → (st = false → w.heap[b]? = w.heap[b]?) ∧ b < w.heap.size ∧ ¬ Own h ρ b := fun b h1 h2 => ⟨fun _ => rfl, h1, h2⟩
theorem fr_same {ρ : Rho} {fr : Option Nat} {h' : Heap} : ∀ n, fr = some n → ∀ i, (i = n → h' i = none) → ρ i = none → ρ i = none := fun _ _ _ _ h => h
theorem fr_upd {ρ : Rho} {fr : Option Nat} {id : Nat} {p : Pl} {h' : Heap} {o : AObj} (hid : ∀ n, fr = some n → id = n) (hh : h' id = some o) : ∀ n, fr = some n → ∀ i, (i = n → h' i = none) → ρ i = none → updR ρ id p i = none := fun n hn i hi h => by
  unfold updR
  rw [if_neg (fun e => by
    have := hi (e.trans (hid n hn))
    rw [e, hh] at this
    cases this)]
  exact h

theorem Fresh.pick {fr : Option Nat} {K : Nat → Prop} (s : Sim M ρ h w) (hf : FrOK fr ρ h) (hK : Fresh fr h K) : ∃ id, ρ id = none ∧ h id = none ∧ K id ∧ ∀ n, fr = some n → id = n := by
  cases fr with
  | none =>
    obtain ⟨id, h1, h2⟩ := fresh_id s
    exact ⟨id, h1, h2, hK id h2, fun n hn => by cases hn⟩
  | some n =>
    obtain ⟨h1, h2⟩ := hf n rfl
    exact ⟨n, h1, h2, hK, fun m hm => by cases hm; rfl⟩

def isStore : Op → Bool
  | .store _ _ _ => true
  | _ => false

theorem newVarA_sound (F : Fr N E M ρ l env loc h a w) {d : Nat} (hd : d < N) {cs : List AV} {arr : Array Value} (hx : Rels M ρ cs arr) (el : TypeId) {K : Kt} (hK : newVarA esc fr d cs env loc h K) {next : Act → World → Prop} (hf : FrOK fr ρ h) (hn : Goes N E M ρ h w st fr K next) :
    next (a.put (some d) (.pointer (some ⟨w.heap.size, 0, none⟩))) { w with heap := w.heap.push (.cells arr el) } := by
  unfold newVarA at hK
  split at hK
  · obtain ⟨id, h1, h2, hk, hid⟩ := Fresh.pick F.f.sim hf hK
    obtain ⟨s1, s2⟩ := step_obj (o := .cells cs) (ob := .cells arr el) (w' := { w with heap := w.heap.push (.cells arr el) }) (p := ⟨w.heap.size, 0, 0⟩) F.f.sim h1 h2 rfl rfl rfl rfl rfl
      ⟨arr, el, by simp, hx.pre.mono (fun _ _ h => h) (fun i p hp => by unfold updR; rw [if_neg (fun e => by rw [e, h1] at hp; cases hp)]; exact hp)⟩
    refine hn _ _ _ _ _ _ _ _ s1.mem (s1.stay st) (fr_upd hid (updH_same _ _ _)) ((F.step s1 s2).put (d := some d) (x := .ptr id 0) (fun t ht => by cases ht; exact hd) (RelS.of (.ptr id 0 ⟨w.heap.size, 0, 0⟩ (by simp [updR])))) hk
  · split at hK
    · rename_i hl
      refine hn _ _ _ _ _ _ _ _ (fun _ _ h => h) (fun b h1 h2 => ⟨fun _ => (by show (w.heap.push (.cells arr el))[b]? = _; rw [Array.getElem?_push, if_neg (by omega)]), by simp; omega, h2⟩) fr_same (F.box hd hx (w' := { w with heap := w.heap.push (.cells arr el) }) rfl rfl rfl rfl (fun s hs => .inr ⟨by rw [updE_eq, if_neg hs], fun o e => ?_⟩) (by rw [updE_eq, if_pos rfl])) hK
      have := F.f.slot s
      rw [e] at this
      obtain ⟨b, g1, _⟩ := this
      obtain ⟨c, hc⟩ := F.lam d b g1
      rw [hl] at hc; cases hc
    · refine hn _ _ _ _ _ _ _ _ (fun _ _ h => h) (fun b h1 h2 => ⟨fun _ => (by show (w.heap.push (.cells arr el))[b]? = _; rw [Array.getElem?_push, if_neg (by omega)]), by simp; omega, h2⟩) fr_same (F.box hd hx (w' := { w with heap := w.heap.push (.cells arr el) }) rfl rfl rfl rfl (fun s hs => ?_) (by rw [updE_eq, if_pos rfl])) hK
      rw [updE_eq, if_neg hs]
      exact killL_or d env s

theorem upon_of_value {o : Oper} {next : Act → World → Prop} {Q : Exit → Act → World → Prop} {r : Result Next} {v : Value} {w' : World} (hr : r = .ok (.value v) w') (h : next (a.put o.dst v) w') : o.upon P a next Q r := by
  subst hr; exact h

theorem goOn_sound (hT : TyOK P ty) (F : Fr N E M ρ l env loc h a w) (o : Oper) (hd : ∀ t, o.dst = some t → t < N) {K : Kt} (hK : goOn (evS ty env loc o.op) fun v => K (putE env o.dst v) loc h) {next : Act → World → Prop} (hf : FrOK fr ρ h) (hn : Goes N E M ρ h w st fr K next) (Q : Exit → Act → World → Prop) : o.wp P a w next Q := by
  obtain ⟨h1, h2⟩ := goOn_to hK
  obtain ⟨v, e1, e2⟩ := run_evS hT F.f.e o h1
  exact upon_of_value (e1 w fun _ => F.f.e.same) (hn _ _ _ _ _ _ _ _ (fun _ _ h => h) (stay_same st) fr_same (F.put hd e2) h2)

theorem run_loadAt {t : TypeId} {i : TInfo} (hT : TyOK P ty) (hi : ty t = some i) {b off : Nat} {arr : Array Value} {el : TypeId} {fz : Nat × Nat} (hb : w.heap[b]? = some (.cells arr el fz)) {cs : List AV} (hr : Pre M ρ cs arr) (hl : off + i.size ≤ cs.length) (h1 : (i.desc.agg || Nat.beq i.size 1) = true) :
    ∃ u, (∀ w' : World, w'.heap[b]? = w.heap[b]? → (Instr.loadAt t (.pointer (some ⟨b, off, none⟩))).run P w' = .ok u w') ∧ Rel M ρ (partA i.desc.agg i.size cs off) u := by
  obtain ⟨pi, d, g1, g2, g3, g4, g5, g6⟩ := gather_info (hT t i hi)
  simp only [Bool.or_eq_true] at h1
  have hs := hr.1
  have hag : i.desc.agg = (tyOfDesc P t d).agg := by rw [g6]
  have hcell : ∀ w' : World, w'.heap[b]? = w.heap[b]? → ∀ j, j < pi.size → w'.cell? ((⟨b, off, none⟩ : Addr).add j) = some (arr.getD (off + j) Go.undef) := fun w' hw j hj => by
    rw [Addr.add_plain]
    have : off + j < arr.size := by omega
    simp [World.cell?, hw, hb, Array.getD_eq_getD_getElem?, this]
  have hload := fun (w' : World) (hw : w'.heap[b]? = w.heap[b]?) => run_loadVar (w := w') g1 g2 ⟨b, off, none⟩ (fun j => arr.getD (off + j) Go.undef) (hcell w' hw) (by
    rcases h1 with c2 | c2
    · exact .inl (by rw [← hag]; exact c2)
    · exact .inr (by have := Nat.eq_of_beq_eq_true c2; omega))
  refine ⟨_, fun w' hw => by simp only [Instr.loadAt, Instr.sureAddr, Sem.run_bind, Sem.run_pure, Result.andThen_ok]; exact hload w' hw, ?_⟩
  rw [hag]
  cases hgg : (tyOfDesc P t d).agg with
  | true => simp only [partA, ← g4]; exact rels_take (by omega) (fun j hj => hr.2 _ (by omega))
  | false =>
    have hs : i.size = 1 := by
      rcases h1 with c2 | c2
      · rw [hag, hgg] at c2; cases c2
      · exact Nat.eq_of_beq_eq_true c2
    simp only [partA]
    have := hr.2 off (by omega)
    simpa using this

theorem evLoadK_sound {t : TypeId} {i : TInfo} (hT : TyOK P ty) (hi : ty t = some i) {b off : Nat} {arr : Array Value} {el : TypeId} {fz : Nat × Nat} (hb : w.heap[b]? = some (.cells arr el fz)) {cs : List AV} (hr : Pre M ρ cs arr) (hl : off + i.size ≤ cs.length)
    (F : Fr N E M ρ l env loc h a w) {o : Oper} {p : Operand} (ho : o.op = .load t p) (hp : a.eval p = .pointer (some ⟨b, off, none⟩)) (hd : ∀ t, o.dst = some t → t < N) {K : Kt} (hK : evLoadK o.dst i cs off env fun env => K env loc h) {next : Act → World → Prop} (hf : FrOK fr ρ h) (hn : Goes N E M ρ h w st fr K next) (Q : Exit → Act → World → Prop) : o.wp P a w next Q := by
  unfold evLoadK at hK
  split at hK
  · exact hK.elim
  · rename_i h1
    rw [force_eq] at hK
    obtain ⟨u, e1, e2⟩ := run_loadAt (M := M) (ρ := ρ) hT hi hb hr hl h1
    refine upon_of_value (v := u) (w' := w) ?_ (hn _ _ _ _ _ _ _ _ (fun _ _ h => h) (stay_same st) fr_same (F.put hd (RelS.of e2)) hK)
    simp [execOp, ho, hp, e1 w rfl]

theorem pre_splice {cs xs : List AV} {vs us : Array Value} (hc : Pre M ρ cs vs) (hx : Rels M ρ xs us) (o : Nat) (ho : o + xs.length ≤ cs.length) :
    Pre M ρ (cs.take o ++ (xs ++ cs.drop (o + xs.length))) (vs.toList.take o ++ (us.toList ++ vs.toList.drop (o + us.toList.length))).toArray := by
  have l1 := hc.1
  have l2 := hx.1
  refine ⟨by simp; omega, fun i hi => ?_⟩
  have hi' : i < cs.length := by simp at hi; omega
  simp only [List.getD_eq_getElem?_getD, Array.getD_eq_getD_getElem?, List.getElem?_toArray]
  by_cases c1 : i < o
  · rw [List.getElem?_append_left (by simp; omega), List.getElem?_append_left (by simp; omega), List.getElem?_take, List.getElem?_take, if_pos c1, if_pos c1]
    have := hc.2 i hi'
    simpa [List.getD_eq_getElem?_getD, Array.getD_eq_getD_getElem?] using this
  · have e1 : (cs.take o).length = o := by simp; omega
    have e2 : (vs.toList.take o).length = o := by simp; omega
    rw [List.getElem?_append_right (l₁ := cs.take o) (by omega), List.getElem?_append_right (l₁ := vs.toList.take o) (by omega), e1, e2]
    by_cases c2 : i - o < xs.length
    · rw [List.getElem?_append_left c2, List.getElem?_append_left (by simp; omega)]
      have := hx.2 (i - o) c2
      simpa [List.getD_eq_getElem?_getD, Array.getD_eq_getD_getElem?] using this
    · rw [List.getElem?_append_right (by omega), List.getElem?_append_right (by simp; omega), List.getElem?_drop, List.getElem?_drop]
      have e3 : o + xs.length + (i - o - xs.length) = i := by omega
      have e4 : o + us.toList.length + (i - o - us.toList.length) = i := by simp; omega
      rw [e3, e4]
      have := hc.2 i hi'
      simpa [List.getD_eq_getElem?_getD, Array.getD_eq_getD_getElem?] using this

theorem evStore_sound (hst : st = true) (hT : TyOK P ty) (F : Fr N E M ρ l env loc h a w) {o : Oper} {t : TypeId} {p x : Operand} {i : TInfo} (hi : ty t = some i) (ho : o.op = .store t p x) (hd : ∀ t, o.dst = some t → t < N) {K : Kt}
    (hK : evStore o.dst i (evO env p) (evO env x) env loc h K) {next : Act → World → Prop} (hf : FrOK fr ρ h) (hn : Goes N E M ρ h w st fr K next) (Q : Exit → Act → World → Prop) : o.wp P a w next Q := by
  obtain ⟨pi, d, g1, g2, g3, g4, g5, g6⟩ := gather_info (hT t i hi)
  unfold evStore at hK
  split at hK
  · exact hK.elim
  rename_i hc
  simp only [Bool.and_eq_true, storeOK] at hc
  obtain ⟨⟨⟨k1, k2⟩, k3⟩, k4⟩ := hc
  have k4 := Nat.eq_of_beq_eq_true k4
  have hrx := ((F.f.ev x).to k2).cells k1
  have hone := one_all hrx k3
  have hxs := hrx.1
  have hpe := F.f.ev p
  split at hK
  · rename_i dd off he
    rw [he] at hpe
    obtain ⟨b, hb, hpe⟩ := hpe
    split at hK
    · exact hK.elim
    · rename_i cs hl
      obtain ⟨hle, hK⟩ := chk_to hK
      obtain ⟨b', q1, q2, arr, el, q3, q4⟩ := F.f.lo dd cs hl
      rw [hb] at q1; cases q1
      have hsz := q4.1
      have hsv := run_storeVar (P := P) (t := t) g1 q3 (v := a.eval x) (off := off) (by omega) (by omega) hone
      have hsp := rels_splice q4 hrx off (by omega)
      rw [← putCells_eq (by omega)] at hsp
      have hu := hn _ _ _ _ _ _ _ _ (fun _ _ h => h) (fun b h1 h2 => ⟨fun e => (by rw [hst] at e; cases e), by simpa using h1, h2⟩) fr_same ((F.setLocal hl hb hsp (w' := w.setRow b (arr.toList.take off ++ ((a.eval x).cells.toList ++ arr.toList.drop (off + (a.eval x).cells.toList.length))).toArray) (setRow_heap w b arr _ el (0, 0) q3) (by simp) (fun k hk => setRow_other w b k _ hk) rfl rfl rfl).put (d := o.dst) (x := .undef) (v := Go.undef) hd (RelS.of (.undef _))) hK
      unfold Oper.wp
      have : (execOp a.eval o).run P w = .ok .skip (w.setRow b (arr.toList.take off ++ ((a.eval x).cells.toList ++ arr.toList.drop (off + (a.eval x).cells.toList.length))).toArray) := by
        simp only [execOp, ho, hpe, Instr.storeAt, Instr.sureAddr, Sem.run_bind, Sem.run_pure, Result.andThen_ok, hsv]
      rw [this]
      exact hu
  · rename_i id off he
    rw [he] at hpe
    obtain ⟨cs, hid, hle, hK⟩ := hK
    generalize hq : a.eval p = q at hpe
    cases hpe with
    | ptr _ _ pl hpl =>
      obtain ⟨pl', q1, q2, arr, el, q3, q4⟩ := F.f.sim.obj id _ hid
      rw [hpl] at q1; cases q1
      have hsz := q4.1
      have hsv := run_storeVar (P := P) (t := t) g1 q3 (v := a.eval x) (off := off) (by omega) (by omega) hone
      have hsp := pre_splice q4 hrx off (by omega)
      rw [← putCells_eq (by omega)] at hsp
      obtain ⟨s1, s2⟩ := step_set (w' := w.setRow pl.b (arr.toList.take off ++ ((a.eval x).cells.toList ++ arr.toList.drop (off + (a.eval x).cells.toList.length))).toArray) (o' := .cells (putCells cs off (evO env x).cells)) F.f.sim hid hpl (by simp) (fun b hb => setRow_other w pl.b b _ hb) rfl rfl rfl (by simp)
        ⟨_, el, setRow_heap w pl.b arr _ el (0, 0) q3, hsp⟩
      have hu := hn _ _ _ _ _ _ _ _ s1.mem (s1.stay st) fr_same ((F.step s1 s2).put (d := o.dst) (x := .undef) (v := Go.undef) hd (RelS.of (.undef _))) hK
      unfold Oper.wp
      have : (execOp a.eval o).run P w = .ok .skip (w.setRow pl.b (arr.toList.take off ++ ((a.eval x).cells.toList ++ arr.toList.drop (off + (a.eval x).cells.toList.length))).toArray) := by
        simp only [execOp, ho, hq, Instr.storeAt, Instr.sureAddr, Sem.run_bind, Sem.run_pure, Result.andThen_ok, hsv]
      rw [this]
      exact hu
  · exact hK.elim

theorem rels_append {xs ys : List AV} {vs us : Array Value} (h1 : Rels M ρ xs vs) (h2 : Rels M ρ ys us) : Rels M ρ (xs ++ ys) (vs ++ us) := by
  have l1 := h1.1
  have l2 := h2.1
  refine ⟨by simp; omega, fun i hi => ?_⟩
  simp only [List.getD_eq_getElem?_getD, Array.getD_eq_getD_getElem?, List.getElem?_append, Array.getElem?_append]
  by_cases c : i < xs.length
  · have := h1.2 i c
    simpa [List.getD_eq_getElem?_getD, Array.getD_eq_getD_getElem?, c, show i < vs.size by omega] using this
  · have := h2.2 (i - xs.length) (by simp at hi; omega)
    rw [if_neg c, if_neg (by omega), ← l1]
    simpa [List.getD_eq_getElem?_getD, Array.getD_eq_getD_getElem?] using this

theorem evCall_sound (F : Fr N E M ρ l env loc h a w) {o : Oper} {c : Call} {f : Operand} (ho : o.op = .call c) (hc : c.callee = .value f) (hd : ∀ t, o.dst = some t → t < N) {K : Kt}
    (hK : evCall P fr o.dst (evO env f) (c.args.toList.map (evO env)) env loc h K) {next : Act → World → Prop} (hf : FrOK fr ρ h) (hn : Goes N E M ρ h w st fr K next) (Q : Exit → Act → World → Prop) : o.wp P a w next Q := by
  unfold evCall at hK
  split at hK
  · rename_i g first captured he
    split at hK
    · exact hK.elim
    · rename_i hp
      simp only [Bool.and_eq_true, Option.isNone_iff_eq_none] at hp
      obtain ⟨hp, rfl⟩ := hp
      have hff := F.f.ev f
      rw [he] at hff
      generalize hq : a.eval f = q at hff
      cases hff with
      | func _ _ _ f' c' e1 e2 e3 e4 =>
        have hargs := F.f.e.evsR c.args (by
          rw [List.all_eq_true] at hp ⊢
          intro x hx
          exact hp _ (List.mem_map.2 ⟨x, hx, rfl⟩))
        have hall := rels_append (rels_append (M := M) (ρ := ρ) ⟨e1, e3⟩ hargs) ⟨e2, e4⟩
        have := hK.out M ρ w _ F.f.sim hall o a next Q fun v w' r h' M' ρ' s1 s2 s3 s4 => hn _ _ _ _ _ _ _ _ s1.mem (s1.stay st) (fun n hn => by cases hn) ((F.step s1 s2).put hd (RelS.of s3)) s4
        unfold Oper.wp
        have hrun : (execOp a.eval o).run P w = (callFunc g (f' ++ c.args.map a.eval ++ c')).run P w := by
          simp [execOp, ho, resolve, hc, hq, Deferred.ofValue, invoke]
        rw [hrun]
        exact this
  · exact hK.elim

theorem evOpA_sound (hT : TyOK P ty) (F : Fr N E M ρ l env loc h a w) (o : Oper) (hst : isStore o.op = true → st = true) {K : Kt} (hK : evOpA P ty N esc fr o env loc h K) {next : Act → World → Prop} (hf : FrOK fr ρ h) (hn : Goes N E M ρ h w st fr K next) (Q : Exit → Act → World → Prop) : o.wp P a w next Q := by
  unfold evOpA at hK
  split at hK
  · exact hK.elim
  rename_i hd
  have hd := dstOK_to hd
  split at hK
  · -- box
    rename_i t x ho
    split at hK
    · exact hK.elim
    rename_i d hdd
    split at hK
    · exact hK.elim
    rename_i hp
    simp only [Bool.and_eq_true] at hp
    have hx := ((F.f.ev x).to hp.2).cells hp.1
    have := newVarA_sound F (hd d hdd) hx t hK hf hn
    refine upon_of_value ?_ (by rw [hdd]; exact this)
    simp [execOp, ho, Instr.box, newVar, newRow]
  · rename_i t ho
    split at hK
    · exact hK.elim
    rename_i d hdd
    split at hK
    · exact hK.elim
    rename_i i hi
    split at hK
    · exact hK.elim
    rename_i hk
    obtain ⟨pi, ds, g1, g2, g3, g4, g5, g6⟩ := gather_info (hT t i hi)
    have := newVarA_sound F (hd d hdd) (ofVal_cells (M := M) (ρ := ρ) hk) t hK hf hn
    refine upon_of_value ?_ (by rw [hdd]; exact this)
    simp [execOp, ho, Instr.alloc, newVar, newRow, run_zv g1 g3]
  · rename_i t p x ho
    split at hK
    · exact hK.elim
    rename_i i hi
    exact evStore_sound (hst (by rw [ho]; rfl)) hT F hi ho hd hK hf hn Q
  · rename_i t p ho
    split at hK
    · rename_i d off he
      split at hK
      · exact hK.elim
      rename_i i hi
      split at hK
      · exact hK.elim
      rename_i cs hl
      obtain ⟨hle, hK⟩ := chk_to hK
      have hp := F.f.ev p
      rw [he] at hp
      obtain ⟨b, hb, hp⟩ := hp
      obtain ⟨b', q1, q2, arr, el, q3, q4⟩ := F.f.lo d cs hl
      rw [hb] at q1; cases q1
      exact evLoadK_sound hT hi q3 q4.pre hle F ho hp hd hK hf hn Q
    · rename_i id off he
      split at hK
      · exact hK.elim
      rename_i i hi
      obtain ⟨cs, hid, hle, hK⟩ := hK
      have hp := F.f.ev p
      rw [he] at hp
      generalize hq : a.eval p = q at hp
      cases hp with
      | ptr _ _ pl hpl =>
        obtain ⟨pl', q1, q2, arr, el, q3, q4⟩ := F.f.sim.obj id _ hid
        rw [hpl] at q1; cases q1
        exact evLoadK_sound hT hi q3 q4 hle F ho hq hd (evLoadP_to hK) hf hn Q
    · exact goOn_sound hT F o hd (by rw [ho]; exact hK) hf hn Q
  · rename_i c ho
    split at hK
    · rename_i f hc
      exact evCall_sound F ho hc hd hK hf hn Q
    · exact goOn_sound hT F o hd (by rw [ho]; exact hK) hf hn Q
  · exact goOn_sound hT F o hd hK hf hn Q

end
end Go.Lift
