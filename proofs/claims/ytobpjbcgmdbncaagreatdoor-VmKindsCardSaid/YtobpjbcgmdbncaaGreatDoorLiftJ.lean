/- A part of the proof (own lemmas, no condition beyond those that each theorem states): the layer over the model that all of the proofs of this seat stand on. -/
import Derived.Test.YtobpjbcgmdbncaaGreatDoorLiftI
set_option linter.unusedVariables false
set_option linter.unusedSectionVars false
set_option linter.unusedSimpArgs false
namespace Go.Lift
open Go Go.RowKit
variable [G : Glob]

section
variable {P : Program} {ty : Tys} {N : Nat} {E : Ent} {M : Mem} {ρ : Rho} {l : Lam} {env : Env} {loc : Loc} {h : Heap} {a : Act} {w : World}

/-! ### Variables of the function's own -/
def killL (d : Nat) (e : Env) : Env := fun s => match e s with
  | .lptr d' o => bif Nat.beq d' d then .undef else .lptr d' o
  | x => x

theorem killL_or (d : Nat) (e : Env) (s : Nat) : (killL d e s = .undef) ∨ (killL d e s = e s ∧ ∀ o, e s ≠ .lptr d o) := by
  unfold killL
  cases h : e s with
  | lptr d' o =>
    simp only
    cases hb : Nat.beq d' d with
    | true => exact .inl rfl
    | false =>
      refine .inr ⟨rfl, fun o' e => ?_⟩
      cases e
      have : Nat.beq d d = true := by simp
      rw [this] at hb; cases hb
  | _ => exact .inr ⟨rfl, fun o e => by cases e⟩

def updLam (l : Lam) (d b : Nat) : Lam := fun i => if i = d then some b else l i

/-- A variable of the function's own is made (anew). -/
theorem Fr.box (F : Fr N E M ρ l env loc h a w) {d : Nat} (hd : d < N) {cs : List AV} {arr : Array Value} {el : TypeId} (hx : Rels M ρ cs arr) {w' : World} (hw : w'.heap = w.heap.push (.cells arr el (0, 0)))
    (ho : w'.os = w.os) (ht : w'.tape = w.tape) (hou : w'.output = w.output) {env' : Env} (he : ∀ s, s ≠ d → env' s = .undef ∨ (env' s = env s ∧ ∀ o, env s ≠ .lptr d o)) (hed : env' d = .lptr d 0) :
    Fr N E M ρ (updLam l d w.heap.size) env' (updL loc d cs) h (a.put (some d) (.pointer (some ⟨w.heap.size, 0, none⟩))) w' := by
  have hM : memRow M w.heap.size 0 arr = M := by
    funext x
    unfold memRow
    split
    · rename_i e
      simp only [Nat.not_lt_zero, and_false, if_false]
      cases hm : M x with
      | none => rfl
      | some v =>
        have := cell_lt (F.f.sim.mem x v hm)
        omega
    · rfl
  obtain ⟨s1, s2, _⟩ := step_row F.f.sim 0 (Nat.zero_le _) hw ho ht hou
  rw [hM] at s1 s2
  have hE : E.w.heap.size ≤ w.heap.size := F.st.size
  have hk : ∀ b, b < w.heap.size → w'.heap[b]? = w.heap[b]? := fun b hb => by rw [hw, Array.getElem?_push, if_neg (by omega)]
  have hlt : ∀ d' cs' b, loc d' = some cs' → l d' = some b → b < w.heap.size := fun d' cs' b h1 h2 => by
    obtain ⟨b', g1, g2, _⟩ := F.f.lo d' cs' h1
    rw [h2] at g1; cases g1; exact g2
  have hown : ∀ b, Own h ρ b → b < w.heap.size := by
    rintro b ⟨i, q, r, h1, h2, h3⟩
    obtain ⟨r', g1, g2, _⟩ := F.f.sim.obj i q h1
    rw [h2] at g1; cases g1; omega
  refine ⟨⟨s2, by simpa [Act.put] using F.f.size, F.f.defers, fun s => ?_, fun d' cs' h1 => ?_, fun d1 d2 c1 c2 b h1 h2 h3 h4 => ?_, fun d' cs' b h1 h2 h3 => ?_, fun d' cs' b x v h1 h2 h3 h4 => ?_⟩, F.st.trans s1, fun d' cs' b h1 h2 => ?_, fun d' b h1 => ?_⟩
  · by_cases hs : s = d
    · subst hs
      rw [hed]
      have : (a.put (some s) (.pointer (some ⟨w.heap.size, 0, none⟩))).tmps.getD s Go.undef = .pointer (some ⟨w.heap.size, 0, none⟩) := by
        simp [Act.put, Array.getD_eq_getD_getElem?, F.f.size, hd]
      rw [this]
      exact ⟨w.heap.size, by simp [updLam], rfl⟩
    · have : (a.put (some d) (.pointer (some ⟨w.heap.size, 0, none⟩))).tmps.getD s Go.undef = a.tmps.getD s Go.undef := by
        simp [Act.put, Array.getD_eq_getD_getElem?, Ne.symm hs]
      rw [this]
      rcases he s hs with e | ⟨e, hne⟩
      · rw [e]; exact .undef _
      · rw [e]
        have hslot := F.f.slot s
        cases hq : env s with
        | lptr d' o =>
          rw [hq] at hslot
          obtain ⟨b, g1, g2⟩ := hslot
          have : d' ≠ d := fun e => hne o (e ▸ hq)
          exact ⟨b, by simp [updLam, this, g1], g2⟩
        | _ => rw [hq] at hslot; exact hslot
  · rw [updL_eq] at h1
    by_cases e : d' = d
    · subst e
      simp only [if_true, Option.some.injEq] at h1
      subst h1
      exact ⟨w.heap.size, by simp [updLam], by rw [hw]; simp, arr, el, by rw [hw]; simp, hx⟩
    · simp only [e, if_false] at h1
      obtain ⟨b, g1, g2, ar, e2, g3, g4⟩ := F.f.lo d' cs' h1
      exact ⟨b, by simp [updLam, e, g1], by rw [hw]; simp; omega, ar, e2, (hk b g2).trans g3, g4⟩
  · rw [updL_eq] at h1 h2
    simp only [updLam] at h3 h4
    by_cases e1 : d1 = d
    · by_cases e2 : d2 = d
      · rw [e1, e2]
      · simp only [e1, e2, if_true, if_false, Option.some.injEq] at h2 h3 h4
        have := hlt d2 c2 b h2 h4
        omega
    · by_cases e2 : d2 = d
      · simp only [e1, e2, if_true, if_false, Option.some.injEq] at h1 h3 h4
        have := hlt d1 c1 b h1 h3
        omega
      · simp only [e1, e2, if_false] at h1 h2 h3 h4
        exact F.f.linj d1 d2 c1 c2 b h1 h2 h3 h4
  · rw [updL_eq] at h1
    simp only [updLam] at h2
    by_cases e : d' = d
    · simp only [e, if_true, Option.some.injEq] at h2
      have := hown b h3
      omega
    · simp only [e, if_false] at h1 h2
      exact F.f.lown d' cs' b h1 h2 h3
  · rw [updL_eq] at h1
    simp only [updLam] at h2
    by_cases e : d' = d
    · simp only [e, if_true, Option.some.injEq] at h2
      have := cell_lt (F.f.sim.mem x v h3)
      omega
    · simp only [e, if_false] at h1 h2
      exact F.f.lmem d' cs' b x v h1 h2 h3 h4
  · rw [updL_eq] at h1
    simp only [updLam] at h2
    by_cases e : d' = d
    · simp only [e, if_true, Option.some.injEq] at h2
      omega
    · simp only [e, if_false] at h1 h2
      exact F.new d' cs' b h1 h2
  · simp only [updLam] at h1
    by_cases e : d' = d
    · exact ⟨cs, by rw [updL_eq]; simp [e]⟩
    · simp only [e, if_false] at h1
      obtain ⟨c, hc⟩ := F.lam d' b h1
      exact ⟨c, by rw [updL_eq]; simp [e, hc]⟩

def putCells (cs : List AV) (off : Nat) (vs : List AV) : List AV :=
  match vs with
  | [v] => cs.set off v
  | vs => cs.take off ++ (vs ++ cs.drop (off + vs.length))

theorem putCells_eq {cs vs : List AV} {off : Nat} (hl : off + vs.length ≤ cs.length) : putCells cs off vs = cs.take off ++ (vs ++ cs.drop (off + vs.length)) := by
  unfold putCells
  split
  · rename_i v
    simp only [List.length_singleton] at hl ⊢
    rw [List.set_eq_take_append_cons_drop, if_pos (by omega)]
    simp
  · rfl

theorem putCells_length {cs vs : List AV} {off : Nat} (hl : off + vs.length ≤ cs.length) : (putCells cs off vs).length = cs.length := by
  rw [putCells_eq hl]; simp; omega

def storeOK (x : AV) : Bool := x.known && x.plain && x.cells.all AV.one

theorem one_all {cs : List AV} {vs : Array Value} (hr : Rels M ρ cs vs) (h1 : cs.all AV.one = true) : ∀ v ∈ vs.toList, v.oneCell' = true := by
  intro v hv
  obtain ⟨i, hi, rfl⟩ := List.getElem_of_mem hv
  have hi' : i < cs.length := by have := hr.1; simp at hi; omega
  have := hr.2 i hi'
  have h2 := List.all_eq_true.1 h1 cs[i] (by simp)
  simp only [List.getD_eq_getElem?_getD, Array.getD_eq_getD_getElem?] at this
  have e1 : cs[i]? = some cs[i] := by simp [hi']
  have e2 : vs[i]? = some vs.toList[i] := by simp at hi; simp [hi]
  rw [e1, e2] at this
  exact this.one h2

/-- A store into a row that is written. -/
theorem run_storeVar {t : TypeId} {pi : TypeInfo} (hi : P.info? t = some pi) {b off : Nat} {arr : Array Value} {el : TypeId} (hb : w.heap[b]? = some (.cells arr el (0, 0))) {v : Value} (hs : v.cells.size = pi.size) (hl : off + pi.size ≤ arr.size) (h1 : ∀ x ∈ v.cells.toList, x.oneCell' = true) :
    (storeVar t ⟨b, off, none⟩ v).run P w = .ok () (w.setRow b (arr.toList.take off ++ (v.cells.toList ++ arr.toList.drop (off + v.cells.toList.length))).toArray) := by
  have hst := run_storeCells_at (P := P) b off el v.cells.toList 0 arr w hb (by simp; omega) h1
  simp only [Nat.add_zero, List.append_assoc] at hst
  simp only [storeVar, Sem.run_bind, run_so hi, Result.andThen_ok, hs, ne_eq, not_true, if_false, hst]

theorem Fr.setLocal (F : Fr N E M ρ l env loc h a w) {d b : Nat} {cs cs' : List AV} {arr' : Array Value} (hl : loc d = some cs) (hb : l d = some b) (hx : Rels M ρ cs' arr') {w' : World} {el : TypeId} (hw : w'.heap[b]? = some (.cells arr' el (0, 0)))
    (hsz : w'.heap.size = w.heap.size) (hk : ∀ k, k ≠ b → w'.heap[k]? = w.heap[k]?) (ho : w'.os = w.os) (ht : w'.tape = w.tape) (hou : w'.output = w.output) : Fr N E M ρ l env (updL loc d cs') h a w' := by
  have hnew := F.new d cs b hl hb
  have hnown := F.f.lown d cs b hl hb
  have hnmem := fun x v hx => F.f.lmem d cs b x v hl hb hx
  have back : ∀ {d' c}, updL loc d cs' d' = some c → ∃ c', loc d' = some c' := by
    intro d' c hc
    rw [updL_eq] at hc
    by_cases e : d' = d
    · exact ⟨cs, e ▸ hl⟩
    · simp only [e, if_false] at hc; exact ⟨c, hc⟩
  have hsim : Sim M ρ h w' := ⟨fun x v hxv => by
      have := F.f.sim.mem x v hxv
      unfold World.cell? at this ⊢
      rw [hk _ (hnmem x v hxv)]
      exact this, F.f.sim.fin, fun id o hid => by
      obtain ⟨p, h1, h2, h3⟩ := F.f.sim.obj id o hid
      exact ⟨p, h1, by omega, h3.keep (fun _ _ h => h) (fun _ _ h => h) (hk _ fun e => hnown ⟨id, o, p, hid, h1, e⟩)⟩, F.f.sim.inj, F.f.sim.apart, F.f.sim.glob⟩
  refine ⟨⟨hsim, F.f.size, F.f.defers, F.f.slot, fun d' c hc => ?_, fun d1 d2 c1 c2 b' h1 h2 => ?_, fun d' c b' h1 h2 => ?_, fun d' c b' x v h1 h2 => ?_⟩, ?_, fun d' c b' h1 h2 => ?_, fun d' b' h1 => ?_⟩
  · rw [updL_eq] at hc
    by_cases e : d' = d
    · subst e
      simp only [if_true, Option.some.injEq] at hc
      subst hc
      obtain ⟨b', g1, g2, _⟩ := F.f.lo d' cs hl
      rw [hb] at g1; cases g1
      exact ⟨b, hb, by omega, arr', el, hw, hx⟩
    · simp only [e, if_false] at hc
      obtain ⟨b', g1, g2, ar, e2, g3, g4⟩ := F.f.lo d' c hc
      refine ⟨b', g1, by omega, ar, e2, (hk b' fun eb => e ?_).trans g3, g4⟩
      subst eb
      exact F.f.linj d' d c cs b' hc hl g1 hb
  · obtain ⟨c1', h1'⟩ := back h1
    obtain ⟨c2', h2'⟩ := back h2
    exact F.f.linj d1 d2 c1' c2' b' h1' h2'
  · obtain ⟨c1', h1'⟩ := back h1
    exact F.f.lown d' c1' b' h1' h2
  · obtain ⟨c1', h1'⟩ := back h1
    exact F.f.lmem d' c1' b' x v h1' h2
  · have st := F.st
    exact ⟨by have := st.size; omega, ho.trans st.os, ht.trans st.tape, hou.trans st.output, st.mem, st.rho, fun k hk' hn => by rw [hk k (by omega)]; exact st.keep k hk' hn, st.newM, st.newO⟩
  · obtain ⟨c1', h1'⟩ := back h1
    exact F.new d' c1' b' h1' h2
  · obtain ⟨c, hc⟩ := F.lam d' b' h1
    by_cases e : d' = d
    · exact ⟨cs', by rw [updL_eq]; simp [e]⟩
    · exact ⟨c, by rw [updL_eq]; simp [e, hc]⟩

/-! ### Calls -/
/-- Whatever the world, so it be as the heap of objects says: the call comes back, and what comes back is as said. -/
structure ACalls (P : Program) (g : FuncId) (args : List AV) (h : Heap) (Q : AV → Heap → Prop) : Prop where
  out : ∀ (M : Mem) (ρ : Rho) (w : World) (vs : Array Value), Sim M ρ h w → Rels M ρ args vs →
    ∀ (o : Oper) (a : Act) (next : Act → World → Prop) (Qx : Exit → Act → World → Prop),
      (∀ v w' r h' M' ρ', Step M ρ h w M' ρ' h' w' → Sim M' ρ' h' w' → Rel M' ρ' r v → Q r h' → next (a.put o.dst v) w') → o.upon P a next Qx ((callFunc g vs).run P w)

theorem ACalls.mono {P : Program} {g : FuncId} {args : List AV} {h : Heap} {Q Q' : AV → Heap → Prop} (c : ACalls P g args h Q) (hq : ∀ r h', Q r h' → Q' r h') : ACalls P g args h Q' :=
  ⟨fun M ρ w vs hs hr o a next Qx hn => c.out M ρ w vs hs hr o a next Qx fun v w' r h' M' ρ' g1 g2 g3 g4 => hn v w' r h' M' ρ' g1 g2 g3 (hq r h' g4)⟩

end
end Go.Lift
