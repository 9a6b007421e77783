/- A part of the proof (own lemmas, no condition beyond those that each theorem states): the layer over the model that all of the proofs of this seat stand on. -/
import Derived.Test.YtobpjbcgmdbncaaGreatDoorLiftP
set_option linter.unusedVariables false
set_option linter.unusedSectionVars false
set_option linter.unusedSimpArgs false
namespace Go.Lift
open Go Go.RowKit
variable [G : Glob]

section
variable {P : Program} {ty : Tys} {N : Nat} {E : Ent} {M : Mem} {ρ : Rho} {l : Lam} {env : Env} {loc : Loc} {h : Heap} {a : Act} {w : World} {esc : Nat → Bool} {fr : Option Nat} {st : Bool}

theorem drew_step (s : Sim M ρ h w) : Step M ρ h w M ρ h w.drew ∧ Sim M ρ h w.drew := step_same s rfl rfl rfl rfl

theorem rels_app {xs ys : List AV} {vs us : List Value} (h1 : Rels M ρ xs vs.toArray) (h2 : Rels M ρ ys us.toArray) : Rels M ρ (xs ++ ys) (vs ++ us).toArray := by
  have := rels_append h1 h2
  simpa using this

theorem zeroCells_size (z : Array Value) (n : Nat) : (Builtin.zeroCells z n).size = n * z.size := by simp [Builtin.zeroCells]

theorem branch'_to {b : Bool} {X Y : Prop} (h : branch' b X Y) : (b = true ∧ X) ∨ (b = false ∧ Y) := by
  cases b
  · exact .inr ⟨rfl, h⟩
  · exact .inl ⟨rfl, h⟩

/-- An append that lays a new row. -/
theorem append_grows (F : Fr N E M ρ l env loc h a w) {o : Oper} (hd : ∀ t, o.dst = some t → t < N) {t tx rt e : TypeId} {pi : TypeInfo} {z : Value} {x : Value} {ao : Option Addr} {n c : Nat} {olds : List Value} {els new : List AV} {news : List Value} {k : Nat} {g : Bool}
    (ht : P.underlying t = some (.slice e)) (hi : P.info? e = some pi) (hz : pi.zero = some z) (hps : pi.size = k) (hk1 : 1 ≤ k) (hb1 : 1 ≤ pi.bytes) (hzs : z.cells.size = k)
    (hn : n = els.length) (hkk : ∀ x ∈ els, elemOK k g x) (hl : olds.length = n * k) (hr : Rels M ρ (flat els) olds.toArray) (h1 : ∀ u ∈ olds, u.oneCell' = true) (hmem : ∀ j u, olds[j]? = some u → ∃ ad, ao = some ad ∧ w.cell? (ad.add j) = some u)
    (hs : Src P k tx x new.length news w) (hrn : Rels M ρ (flat new) news.toArray) (hkn : ∀ x ∈ new, elemOK k g x) (hg : c < n + new.length) (hb : (els.length + new.length) * pi.bytes ≤ 140737488355328)
    {d : Nat} (hdd : o.dst = some d) {row : Bool} {K : Kt} (hK : match row with
      | false => Fresh fr h fun t' => K (updE env d (.sl k g (els ++ new) (.own t'))) loc (updH h t' (some .tail))
      | true => Fresh fr h fun id => K (updE env d (.row id 0 (els.length + new.length) none)) loc (updH h id (some (.cells (flat els ++ flat new))))) {next : Act → World → Prop} (hf : FrOK fr ρ h) (hnx : Goes N E M ρ h w st fr K next) :
    ∃ v w', (Builtin.append_ #[t, tx] rt #[.slice ao n c, x]).run P w = .ok v w' ∧ next (a.put o.dst v) w' := by
  have hm := F.f.sim.mem
  have hold : (Builtin.firstCells k n (.slice ao n c)).run P w.drew = .ok olds.toArray w.drew := by
    cases ao with
    | none =>
      cases olds with
      | nil => exact run_firstCells_none w.drew k n n c
      | cons v r =>
        obtain ⟨ad, e, _⟩ := hmem 0 v rfl
        cases e
    | some ad =>
      refine run_firstCells_some w.drew k n ad n c olds hl fun j u hj => ?_
      obtain ⟨ad', e, hmm⟩ := hmem j u hj
      cases e
      exact hmm
  have hsmall : n + new.length ≤ 140737488355328 := by
    have : (els.length + new.length) * 1 ≤ (els.length + new.length) * pi.bytes := Nat.mul_le_mul_left _ hb1
    omega
  have hrun := run_append_grow_src (P := P) w t tx rt e pi z ht hi hz ao n c olds (by rw [hps]; exact hold) x new.length news (by rw [hps]; exact hs) hg (by omega) (growslice_fits hg (by rw [hn]; exact hb))
  refine ⟨_, _, hrun, ?_⟩
  have hgc := grownCap_ge w (n + new.length) c e
  generalize hcap : grownCap w (n + new.length) c e = gc at hgc hrun ⊢
  generalize harr : (olds ++ news).toArray ++ Builtin.zeroCells z.cells (gc - (n + new.length)) = arr at hrun ⊢
  have hnl := hs.newsLen
  have hsz : arr.size = gc * k := by
    rw [← harr]
    simp only [Array.size_append, List.size_toArray, List.length_append, zeroCells_size, hzs, hl, hnl, ← Nat.add_mul]
    congr 1; omega
  have hnk : (n + new.length) * k ≤ arr.size := by rw [hsz]; exact Nat.mul_le_mul_right _ hgc
  have hget : ∀ j, j < (n + new.length) * k → arr.getD j Go.undef = (olds ++ news).toArray.getD j Go.undef := fun j hj => by
    have : j < (olds ++ news).length := by simp only [List.length_append, hl, hnl, ← Nat.add_mul]; exact hj
    rw [← harr]
    simp only [Array.getD_eq_getD_getElem?, Array.getElem?_append, List.size_toArray, this, if_true]
  cases row with
  | true =>
    obtain ⟨id, i1, i2, hk, hid⟩ := Fresh.pick F.f.sim hf hK
    have hpre : Pre M ρ (flat els ++ flat new) arr := by
      have hrr : Rels M ρ (flat els ++ flat new) (olds ++ news).toArray := rels_app hr hrn
      have hsz' := hrr.1
      refine ⟨by rw [hsz', ← harr]; simp, fun j hj => ?_⟩
      have hjl : j < (n + new.length) * k := by
        rw [hsz'] at hj
        simp only [List.size_toArray, List.length_append, hl, hnl, ← Nat.add_mul] at hj
        exact hj
      rw [hget j hjl]
      exact hrr.2 j hj
    obtain ⟨s1, s2⟩ := step_obj (o := .cells (flat els ++ flat new)) (ob := .cells arr e (0, 0)) (w' := w.drew.alloc (.cells arr e)) (p := ⟨w.heap.size, 0, 0⟩) F.f.sim i1 i2 rfl rfl rfl rfl rfl
      ⟨arr, e, by show (w.heap.push (.cells arr e))[w.heap.size]? = _; simp, hpre.mono (fun _ _ h => h) (updR_mono i1)⟩
    have hrel : Rel M (updR ρ id ⟨w.heap.size, 0, 0⟩) (.row id 0 (els.length + new.length) none) (.slice (some ⟨w.heap.size, 0, none⟩) (n + new.length) gc) := by
      rw [← hn]
      exact .row id 0 _ _ _ ⟨w.heap.size, 0, 0⟩ (by simp [updR]) hgc
    have hput := (F.step s1 s2).put (d := o.dst) hd (RelS.of hrel)
    rw [hdd] at hput ⊢
    exact hnx _ _ _ _ _ _ _ _ s1.mem (s1.stay st) (fr_upd hid (updH_same _ _ _)) hput hk
  | false =>
  obtain ⟨id, i1, i2, hk, hid⟩ := Fresh.pick F.f.sim hf hK
  obtain ⟨s1, s2, s3⟩ := step_tail (el := e) (w' := w.drew.alloc (.cells arr e)) F.f.sim ((n + new.length) * k) hnk i1 i2 rfl rfl rfl rfl
  have hrel : Rel (memRow M w.heap.size ((n + new.length) * k) arr) (updR ρ id ⟨w.heap.size, (n + new.length) * k, arr.size⟩) (.sl k g (els ++ new) (.own id)) (.slice (some ⟨w.heap.size, 0, none⟩) (els ++ new).length gc) := by
    refine rel_sl (vs := (olds ++ news).toArray) (fun x hx => ?_) (by simp; omega) ?_ (fun u hu => ?_) (fun j hj => ?_) ?_
    · rcases List.mem_append.1 hx with hx | hx
      · exact hkk x hx
      · exact hkn x hx
    · rw [flat_append]
      exact (rels_app hr hrn).mono s1.mem s1.rho
    · simp at hu
      rcases hu with hu | hu
      · exact h1 u hu
      · exact hs.one u hu
    · have hj : j < (n + new.length) * k := by simpa [hl, hnl, ← Nat.add_mul] using hj
      rw [Addr.add_plain, Nat.zero_add, s3 j hj, hget j hj]
    · exact ⟨⟨w.heap.size, (n + new.length) * k, arr.size⟩, 0, by simp [updR], rfl, by simp [hn], by simp [hsz], by simp; omega⟩
  have e3 : (els ++ new).length = n + new.length := by simp [hn]
  rw [e3] at hrel
  have hput := (F.step s1 s2).put (d := o.dst) hd (RelS.of hrel)
  rw [hdd] at hput ⊢
  exact hnx _ _ _ _ _ _ _ _ s1.mem (s1.stay st) (fr_upd hid (updH_same _ _ _)) hput hk

/-- An append onto a row of which the holder is known. -/
theorem append_room (F : Fr N E M ρ l env loc h a w) {o : Oper} (hd : ∀ t, o.dst = some t → t < N) {t tx rt e : TypeId} {pi : TypeInfo} {x : Value} {b off : Nat} {n c : Nat} {olds : List Value} {els new : List AV} {news : List Value} {k : Nat} {g : Bool} {tok : Nat} {p : Pl}
    (ht : P.underlying t = some (.slice e)) (hi : P.info? e = some pi) (hps : pi.size = k) (hk1 : 1 ≤ k)
    (hn : n = els.length) (hkk : ∀ x ∈ els, elemOK k g x) (hl : olds.length = n * k) (hr : Rels M ρ (flat els) olds.toArray) (h1 : ∀ u ∈ olds, u.oneCell' = true) (hmem : ∀ j u, olds[j]? = some u → M ((⟨b, off, none⟩ : Addr).add j) = some u)
    (hs : Src P k tx x new.length news w) (hrn : Rels M ρ (flat new) news.toArray) (hkn : ∀ x ∈ new, elemOK k g x) (hg : n + new.length ≤ c) (hmax : n + new.length ≤ 9223372036854775807)
    (htok : h tok = some .tail) (hp : ρ tok = some p) (hpb : p.b = b) (hoe : off + n * k = p.e) (hol : off + c * k ≤ p.lim)
    {d : Nat} (hdd : o.dst = some d) {K : Kt} (hK : Fresh fr h fun t' => K (updE env d (.sl k g (els ++ new) (.own t'))) loc (updH (updH h tok none) t' (some .tail))) {next : Act → World → Prop} (hf : FrOK fr ρ h) (hnx : Goes N E M ρ h w st fr K next) :
    ∃ v w', (Builtin.append_ #[t, tx] rt #[.slice (some ⟨b, off, none⟩) n c, x]).run P w = .ok v w' ∧ next (a.put o.dst v) w' := by
  subst hpb
  obtain ⟨p', q1, q2, arr, el, q3, q4, q5⟩ := F.f.sim.obj tok _ htok
  rw [hp] at q1; cases q1
  have hnl := hs.newsLen
  have hck : (n + new.length) * k ≤ c * k := Nat.mul_le_mul_right _ hg
  rw [Nat.add_mul] at hck
  have hst := run_storeCells_at (P := P) p.b (off + n * k) el news 0 arr w q3 (by rw [hnl]; omega) hs.one
  simp only [Nat.add_zero] at hst
  obtain ⟨id, i1, i2, hk, hid⟩ := Fresh.pick F.f.sim hf hK
  generalize harr : (arr.toList.take (off + n * k) ++ news ++ arr.toList.drop (off + n * k + news.length)).toArray = arr' at hst
  have hrun : (Builtin.append_ #[t, tx] rt #[.slice (some ⟨p.b, off, none⟩) n c, x]).run P w = .ok (.slice (some ⟨p.b, off, none⟩) (n + new.length) c) (w.setRow p.b arr') := by
    have hsc := hs.cells
    subst hps
    rcases hs.kind with ⟨e', hk⟩ | hk <;> simp [Builtin.append_, run_underlying ht, run_underlying hk, sizeOf, typeInfo, hi, hs.len, hg, hsc, Addr.add_lit, hst]
  refine ⟨_, _, hrun, ?_⟩
  have hsz' : arr'.size = arr.size := by
    rw [← harr]; simp only [List.size_toArray, List.length_append, List.length_take, List.length_drop, Array.length_toList]; rw [hnl]; omega
  have hlow : ∀ j, j < p.e → arr'[j]? = arr[j]? := fun j hj => by
    rw [← harr, List.append_assoc]
    simp only [List.getElem?_toArray]
    rw [List.getElem?_append_left (by simp; omega), List.getElem?_take, if_pos (by omega)]
    simp
  have hnew : ∀ j, j < news.length → arr'.getD (p.e + j) Go.undef = news.toArray.getD j Go.undef := fun j hj => by
    rw [← harr, List.append_assoc]
    have hlt : (arr.toList.take (off + n * k)).length = p.e := by simp; omega
    simp only [Array.getD_eq_getD_getElem?, List.getElem?_toArray]
    rw [List.getElem?_append_right (by omega), hlt, List.getElem?_append_left (by omega), Nat.add_sub_cancel_left]
  have hcell : ∀ j v, w.cell? ⟨p.b, j, none⟩ = some v → arr[j]? = some v := fun j v hv => by simpa [World.cell?, q3] using hv
  obtain ⟨s1, s2⟩ := step_room (w' := w.setRow p.b arr') (arr := arr') (el := el) F.f.sim (p.e + new.length * k) htok hp i1 i2 (by omega) (by omega) (by simp) (setRow_heap w p.b arr arr' el (0, 0) q3) (by omega)
    (fun j hj v hv => by rw [hlow j hj]; exact hcell j v hv) (fun b hb => setRow_other w p.b b arr' hb) rfl rfl rfl
  have hrel : Rel (memOn M p.b p.e (p.e + new.length * k) arr') (updR ρ id ⟨p.b, p.e + new.length * k, p.lim⟩) (.sl k g (els ++ new) (.own id)) (.slice (some ⟨p.b, off, none⟩) (els ++ new).length c) := by
    refine rel_sl (vs := (olds ++ news).toArray) (fun x hx => ?_) (by simp; omega) ?_ (fun u hu => ?_) (fun j hj => ?_) ?_
    · rcases List.mem_append.1 hx with hx | hx
      · exact hkk x hx
      · exact hkn x hx
    · rw [flat_append]
      exact (rels_app hr hrn).mono s1.mem s1.rho
    · simp at hu
      rcases hu with hu | hu
      · exact h1 u hu
      · exact hs.one u hu
    · have hj : j < n * k + new.length * k := by simpa [hl, hnl] using hj
      by_cases hjo : j < n * k
      · have e1 : (olds ++ news).toArray.getD j Go.undef = olds[j]'(by omega) := by
          simp [Array.getD_eq_getD_getElem?, List.getElem?_append_left (show j < olds.length by omega), show j < olds.length by omega]
        rw [e1]
        exact s1.mem _ _ (hmem j _ (by simp))
      · rw [Addr.add_plain, memOn_get (by omega) (by omega) (by omega)]
        have := hnew (j - n * k) (by omega)
        rw [show p.e + (j - n * k) = off + j by omega] at this
        rw [this]
        simp only [Array.getD_eq_getD_getElem?, List.getElem?_toArray]
        rw [List.getElem?_append_right (by omega), hl]
    · exact ⟨⟨p.b, p.e + new.length * k, p.lim⟩, off, by simp [updR], rfl, by show off + (els ++ new).length * k = p.e + new.length * k; rw [List.length_append, Nat.add_mul, ← hn]; omega, hol, by simp; omega⟩
  have e3 : (els ++ new).length = n + new.length := by simp [hn]
  rw [e3] at hrel
  have hput := (F.step s1 s2).put (d := o.dst) hd (RelS.of hrel)
  rw [hdd] at hput ⊢
  exact hnx _ _ _ _ _ _ _ _ s1.mem (s1.stay st) (fr_upd hid (updH_same _ _ _)) hput hk

/-- A token is given up. -/
theorem hle_drop {t id : Nat} {o : AObj} (hid : h id = none) : HLe (updH (updH h t none) id (some o)) (updH h id (some o)) := fun i => by
  by_cases e : i = id
  · subst e; exact .inr (by rw [updH_same, updH_same])
  · rw [updH_ne _ _ _ e, updH_ne _ _ _ e]
    by_cases e2 : i = t
    · subst e2; exact .inl (by rw [updH_same])
    · exact .inr (by rw [updH_ne _ _ _ e2])

theorem Goes.le {K K' : Kt} {next : Act → World → Prop} (hn : Goes N E M ρ h w st fr K next) (hk : ∀ env loc h, K' env loc h → ∃ h', HLe h' h ∧ (∀ n, fr = some n → h' n = none → h n = none) ∧ K env loc h') : Goes N E M ρ h w st fr K' next := by
  intro env loc h M' ρ' l' a w' g1 g2 g3 F k
  obtain ⟨h', hl, hz, k'⟩ := hk env loc h k
  exact hn env loc h' M' ρ' l' a w' g1 (fun b h1 h2 => ⟨(g2 b h1 h2).1, (g2 b h1 h2).2.1, fun ho => (g2 b h1 h2).2.2 (hl.own ho)⟩) (fun n hn i hi => g3 n hn i fun e => by subst e; exact hz i hn (hi rfl)) ⟨F.f.le (ELe.refl _) (LLe.refl _) hl, F.st.le hl, F.new, F.lam⟩ k'

/-- An append in the room of a row that is written. -/
theorem append_in (F : Fr N E M ρ l env loc h a w) {o : Oper} (hd : ∀ t, o.dst = some t → t < N) {t tx rt e : TypeId} {pi : TypeInfo} {x : Value} {off n c : Nat} {new cs : List AV} {news : List Value} {k : Nat} {g : Bool} {id : Nat} {p : Pl}
    (ht : P.underlying t = some (.slice e)) (hi : P.info? e = some pi) (hps : pi.size = k) (hs : Src P k tx x new.length news w) (hrn : Rels M ρ (flat new) news.toArray) (hg : n + new.length ≤ c) (hid : h id = some (.cells cs)) (hp : ρ id = some p) (hl : off + (n + new.length) * k ≤ cs.length)
    {d : Nat} (hdd : o.dst = some d) {K : Kt} (hK : K (updE env d (.row id off (n + new.length) (some c))) loc (updH h id (some (.cells (putCells cs (off + n * k) (flat new)))))) {next : Act → World → Prop} (hnx : Goes N E M ρ h w st fr K next) :
    ∃ v w', (Builtin.append_ #[t, tx] rt #[.slice (some ⟨p.b, off, none⟩) n c, x]).run P w = .ok v w' ∧ next (a.put o.dst v) w' := by
  obtain ⟨p', q1, q2, arr, el, q3, q4⟩ := F.f.sim.obj id _ hid
  rw [hp] at q1; cases q1
  have hnl := hs.newsLen
  have hsz := q4.1
  rw [Nat.add_mul] at hl
  have hst := run_storeCells_at (P := P) p.b (off + n * k) el news 0 arr w q3 (by rw [hnl]; omega) hs.one
  simp only [Nat.add_zero] at hst
  have hrun : (Builtin.append_ #[t, tx] rt #[.slice (some ⟨p.b, off, none⟩) n c, x]).run P w = .ok (.slice (some ⟨p.b, off, none⟩) (n + new.length) c) (w.setRow p.b (arr.toList.take (off + n * k) ++ news ++ arr.toList.drop (off + n * k + news.length)).toArray) := by
    have hsc := hs.cells
    subst hps
    rcases hs.kind with ⟨e', hk⟩ | hk <;> simp [Builtin.append_, run_underlying ht, run_underlying hk, sizeOf, typeInfo, hi, hs.len, hg, hsc, Addr.add_lit, hst]
  refine ⟨_, _, hrun, ?_⟩
  have hfl : (flat new).length = new.length * k := by have := hrn.1; simp at this; omega
  have hsp := pre_splice q4 hrn (off + n * k) (by omega)
  rw [← putCells_eq (by omega)] at hsp
  simp only [← List.append_assoc] at hsp
  obtain ⟨s1, s2⟩ := step_set (w' := w.setRow p.b (arr.toList.take (off + n * k) ++ news ++ arr.toList.drop (off + n * k + news.length)).toArray) (o' := .cells (putCells cs (off + n * k) (flat new))) F.f.sim hid hp (by simp) (fun b hb => setRow_other w p.b b _ hb) rfl rfl rfl (by simp)
    ⟨_, el, setRow_heap w p.b arr _ el (0, 0) q3, hsp⟩
  have hrel : Rel M ρ (.row id off (n + new.length) (some c)) (.slice (some ⟨p.b, off, none⟩) (n + new.length) c) := .row id off _ _ _ p hp ⟨rfl, hg⟩
  have hput := (F.step s1 s2).put (d := o.dst) hd (RelS.of hrel)
  rw [hdd] at hput ⊢
  exact hnx _ _ _ _ _ _ _ _ s1.mem (s1.stay st) fr_same hput hK

theorem evAppend_sound (hT : TyOK P ty) (F : Fr N E M ρ l env loc h a w) {o : Oper} {c : Call} {t u e : TypeId} {x y : Operand} {i : TInfo} (ho : o.op = .call c) (hc : c.callee = .builtin .append) (hts : c.argTypes.toList = [t, u]) (has : c.args.toList = [x, y])
    {bt zt : TInfo} (htt : ty t = some bt) (hbt : bt.desc = .slice e) (hi : ty e = some i) (hut : ty u = some zt) (hzt : (∃ e', zt.desc = .slice e') ∨ zt.desc = .str) (hd : ∀ t, o.dst = some t → t < N) {K : Kt}
    (hK : evAppend esc fr o.dst i (evO env x) (evO env y) env loc h K) {next : Act → World → Prop} (hf : FrOK fr ρ h) (hn : Goes N E M ρ h w st fr K next) (Q : Exit → Act → World → Prop) : o.wp P a w next Q := by
  obtain ⟨pi, ds, g1, g2, g3, g4, g5, g6⟩ := gather_info (hT e i hi)
  obtain ⟨_, d1, _, f2, _, _, _, f6⟩ := gather_info (hT t bt htt)
  obtain ⟨_, d2, _, k2, _, _, _, k6⟩ := gather_info (hT u zt hut)
  have hu : P.underlying t = some (.slice e) := by rw [f2, ul_slice (f6.symm.trans hbt)]
  have hk2 : (∃ e, d2 = .slice e) ∨ d2 = .string := by
    rcases hzt with ⟨e', h⟩ | h
    · exact .inl ⟨e', ul_slice (k6.symm.trans h)⟩
    · exact .inr (ul_str (k6.symm.trans h))
  have e1 : c.argTypes = #[t, u] := by apply Array.ext'; exact hts
  have e2 : c.args = #[x, y] := by apply Array.ext'; exact has
  suffices hq : ∀ rt, ∃ v w', (Builtin.append_ #[t, u] rt #[a.eval x, a.eval y]).run P w = .ok v w' ∧ next (a.put o.dst v) w' by
    obtain ⟨v, w', hr, hx⟩ := hq o.type
    refine upon_of_value (v := v) (w' := w') ?_ hx
    simp [execOp, ho, resolve, hc, e1, e2, invoke, builtin, hr]
  intro rt
  unfold evAppend at hK
  split at hK
  · exact hK.elim
  rename_i d hdd
  split at hK
  · exact hK.elim
  rename_i hz
  obtain ⟨z1, z2, z3, z4, z5, z6⟩ := zOK_to hz
  have hzs : i.zero.cells.size = i.size := by
    have := (ofVal_cells (M := M) (ρ := ρ) z1).1
    omega
  have hpy : ∀ {KK : List AV → Prop}, srcK i.size i.desc.agg h (evO env y) KK → (evO env y).plain = true := by
    intro KK hKK
    cases hy : evO env y <;> first | rfl | (rw [hy] at hKK; simp [srcK, srcA] at hKK)
  split at hK
  · rename_i k g els cap hx
    have hvx := (F.f.ev x)
    rw [hx] at hvx
    have hvx : Rel M ρ (.sl k g els cap.fulls) (a.eval x) := Rel.fulls hvx
    have hvy := (F.f.ev y).to (hpy hK)
    obtain ⟨new, news, hs, hrn, hkn, hK⟩ := srcK_sound (P := P) F.f.sim z5 hK hvy k2 hk2
    generalize cap.fulls = cap at hvx hK
    split at hK
    · rename_i tok
      split at hK
      · exact hK.elim
      rename_i hkg
      simp only [Bool.and_eq_true, beq_iff_eq, Bool.not_eq_true'] at hkg
      obtain ⟨⟨hkg1, hkg2⟩, hesc⟩ := hkg
      have hkg1 := Nat.eq_of_beq_eq_true hkg1
      subst hkg1
      rw [← hkg2] at hvx hK
      obtain ⟨hh, hb, hK⟩ := hK
      obtain ⟨ao, n, c', vs, hve, hn', hm', hcap, hkk, hl, hr, h1, hmem⟩ := sl_flat hvx
      obtain ⟨p, off, c1, c2, c3, c4, c5⟩ := hcap
      rw [hve]
      have hb1 : 1 ≤ pi.bytes := by omega
      have hbb : (els.length + new.length) * pi.bytes ≤ 140737488355328 := by rw [g5]; exact hb
      have hmax : n + new.length ≤ 140737488355328 := by
        have : (els.length + new.length) * 1 ≤ (els.length + new.length) * pi.bytes := Nat.mul_le_mul_left _ hb1
        omega
      by_cases hroom : n + new.length ≤ c'
      · subst c2
        exact append_room F hd hu g1 g4 z5 hn' hkk hl hr h1 (fun j u hj => by
          obtain ⟨ad, e, hmm⟩ := hmem j u hj
          cases e; exact hmm) hs hrn hkn hroom (by omega) hh c1 rfl c3 c4 hdd hK hf hn
      · refine append_grows (row := false) F hd hu g1 g3 g4 z5 hb1 hzs hn' hkk hl hr h1 (fun j u hj => (hmem j u hj).imp fun _ q => ⟨q.1, F.f.sim.mem _ _ q.2⟩) hs hrn hkn (by omega) hbb hdd (K := fun env loc hh => ∃ h', HLe h' hh ∧ (∀ n, fr = some n → h' n = none → hh n = none) ∧ K env loc h') ?_ hf (hn.le fun _ _ _ k => k)
        cases fr with
        | none => exact fun t' ht' => ⟨_, hle_drop ht', fun n hn => (by cases hn), hK t' ht'⟩
        | some n => exact ⟨_, hle_drop (hf n rfl).2, fun m hm e => (by cases hm; rw [updH_same] at e; cases e), hK⟩
    · split at hK
      · exact hK.elim
      rename_i els' hels
      have hvx' := elsA_sound z5 hels (.inl rfl) hvx
      obtain ⟨ao, n, c', vs, hve, hn', hm', hcap, hkk, hl, hr, h1, hmem⟩ := sl_flat hvx'
      have hcn : c' = n := hcap
      subst hcn
      rw [hve]
      rcases branch'_to hK with ⟨hnil, hK⟩ | ⟨hnil, hb, hK⟩
      · have hnew0 : new = [] := by cases new <;> first | rfl | cases hnil
        subst hnew0
        have hnl := hs.newsLen
        have hnews : news = [] := by simpa using hnl
        subst hnews
        refine ⟨_, _, run_append_nothing (P := P) w t u rt e pi hu g1 ao c' c' (Nat.le_refl _) _ (by rw [g4]; exact hs), ?_⟩
        have hput := F.put (d := o.dst) hd (RelS.of (hve ▸ hvx'))
        rw [hdd] at hput ⊢
        exact hn _ _ _ _ _ _ _ _ (fun _ _ h => h) (stay_same st) fr_same hput hK
      · have hne : 1 ≤ new.length := by cases new with
          | nil => cases hnil
          | cons _ _ => simp
        refine append_grows (row := esc d) F hd hu g1 g3 g4 z5 (by omega) hzs hn' hkk hl hr h1 (fun j u hj => (hmem j u hj).imp fun _ q => ⟨q.1, F.f.sim.mem _ _ q.2⟩) hs hrn hkn (by omega) (by rw [g5]; exact hb) hdd ?_ hf hn
        split at hK
        · rename_i he; rw [he]; exact hK
        · rename_i he; rw [he]; exact hK
    · exact hK.elim
  · rename_i id off len cap hx
    have hvx := (F.f.ev x)
    rw [hx] at hvx
    have hvx : Rel M ρ (.row id off len cap) (a.eval x) := hvx
    have hvy := (F.f.ev y).to (hpy hK)
    obtain ⟨new, news, hs, hrn, hkn, hK⟩ := srcK_sound (P := P) F.f.sim z5 hK hvy k2 hk2
    split at hK
    · exact hK.elim
    rename_i c0
    obtain ⟨cs, hid, hlen, hK⟩ := hK
    generalize hqx : a.eval x = q at hvx
    cases hvx with
    | row _ _ _ c' _ p hp hcap =>
      obtain ⟨hcc, hlc⟩ := hcap
      subst hcc
      rcases branch'_to hK with ⟨hroom, hle, hm, hK⟩ | ⟨hroom, h1, hb, hK⟩
      · exact append_in (g := i.desc.agg) F hd hu g1 g4 hs hrn (Nat.le_of_ble_eq_true hroom) hid hp hle hdd hK hn
      · have hroom : ¬ (len + new.length ≤ c') := fun e => by rw [Nat.ble_eq_true_of_le e] at hroom; cases hroom
        obtain ⟨p', q1, q2, arr, el, q3, q4⟩ := F.f.sim.obj id _ hid
        rw [hp] at q1; cases q1
        have hpart := row_part q4 hlen
        have hsz := q4.1
        obtain ⟨x1, x2, x3⟩ := chunks_ok (k := i.size) (g := i.desc.agg) (n := len) (cs := cs.drop off) (by
          cases hg : i.desc.agg with
          | true => rfl
          | false =>
            have : (ofVal i.zero).isAgg = false := z3.trans hg
            have hz1 : (ofVal i.zero).cells.length = 1 := by
              cases hq : ofVal i.zero <;> first | rfl | (rw [hq] at this; cases this)
            rw [← z2, hz1]; rfl) (by simp; omega) h1
        refine append_grows (row := true) (els := chunks i.size i.desc.agg len (cs.drop off)) (olds := (arr.toList.drop off).take (len * i.size)) (n := len) F hd hu g1 g3 g4 z5 (by omega) hzs x2.symm x3 (by simp; omega) (by rw [x1]; exact hpart) (fun u hu => one_all hpart h1 u (by simpa using hu)) (fun j u hj => ?_) hs hrn hkn (by omega) (by rw [x2, g5]; exact hb) hdd ?_ hf hn
        · refine ⟨⟨p.b, off, none⟩, rfl, ?_⟩
          rw [Addr.add_plain]
          have hjl : j < len * i.size := by
            have := (List.getElem?_eq_some_iff.1 hj).1
            simp at this; omega
          simp only [List.getElem?_take, hjl, if_true, List.getElem?_drop] at hj
          simpa [World.cell?, q3] using hj
        · rw [x1, x2]; exact hK
  · exact hK.elim

end
end Go.Lift
