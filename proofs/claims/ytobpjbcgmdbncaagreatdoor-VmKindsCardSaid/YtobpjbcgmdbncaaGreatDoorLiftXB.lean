/- A part of the proof (own lemmas, no condition beyond those that each theorem states): the layer over the model that all of the proofs of this seat stand on. -/
import Derived.Test.YtobpjbcgmdbncaaGreatDoorLiftXA
set_option linter.unusedVariables false
set_option linter.unusedSectionVars false
set_option linter.unusedSimpArgs false
namespace Go.Lift
open Go Go.RowKit
variable [G : Glob]

noncomputable def retX (s : St) (dst : Option Tmp) (v : AV) : Option St := some ⟨putO s.env dst v, s.loc, s.h, s.n⟩

/-- With a new object, its name the state's number. -/
noncomputable def newX (s : St) (d : Nat) (v : AV) (o : AObj) : Option St :=
  match Nat.blt s.n 1000000000 with
  | true => some ⟨putT s.env d v, s.loc, setH s.h s.n (some o), s.n + 1⟩
  | false => none

noncomputable def setX (s : St) (dst : Option Tmp) (v : AV) (id : Nat) (o : AObj) : Option St :=
  match Nat.blt id 1000000000 with
  | true => some ⟨putO s.env dst v, s.loc, setH s.h id (some o), s.n⟩
  | false => none

noncomputable def storeX (s : St) (dst : Option Tmp) (i : TInfo) (p x : AV) : Option St :=
  match storeOK x && Nat.beq x.cells.length i.size with
  | false => none
  | true => match p with
    | .ptr id off => match s.h.get id with
      | some (.cells cs) => match Nat.ble (off + i.size) cs.length with
        | true => setX s dst .undef id (.cells (putCells cs off x.cells))
        | false => none
      | _ => none
    | .lptr d off => match s.loc.get d with
      | some cs => match Nat.ble (off + i.size) cs.length && Nat.blt d 1000000 with
        | true => some ⟨putO s.env dst .undef, setL s.loc d (putCells cs off x.cells), s.h, s.n⟩
        | false => none
      | none => none
    | _ => none

/-- A variable: an object, or the function's own. -/
noncomputable def boxX (esc : Nat → Bool) (s : St) (d : Nat) (cs : List AV) : Option St :=
  match esc d with
  | true => newX s d (.ptr s.n 0) (.cells cs)
  | false => match s.loc.get d with
    | none => some ⟨putT s.env d (.lptr d 0), setL s.loc d cs, s.h, s.n⟩
    | some _ => some ⟨putT (killT d s.env) d (.lptr d 0), setL s.loc d cs, s.h, s.n⟩

noncomputable def peekX (h : Tr AObj) (i : TInfo) (id off : Nat) : Option AV :=
  match h.get id with
  | some (.cells cs) => match Nat.ble (off + i.size) cs.length && (i.desc.agg || Nat.beq i.size 1) with
    | true => Res.out.forceO (partA i.desc.agg i.size cs off) some
    | false => none
  | _ => none

noncomputable def appendX (esc : Nat → Bool) (s : St) (dst : Option Tmp) (i : TInfo) (base src : AV) : Option St :=
  match dst with
  | none => none
  | some d => match zOK i with
    | false => none
    | true => match base with
      | .sl k g els cap => match srcX i.size i.desc.agg s.h src with
        | none => none
        | some new => match cap.fulls with
          | .own t => match Nat.beq i.size k && (i.desc.agg == g) && !esc d with
            | false => none
            | true => match s.h.get t with
              | some .tail => match Nat.ble ((els.length + new.length) * i.bytes) 140737488355328 && Nat.blt t 1000000000 && Nat.blt s.n 1000000000 with
                | true => some ⟨putT s.env d (.sl k g (els ++ new) (.own s.n)), s.loc, setH (setH s.h t none) s.n (some .tail), s.n + 1⟩
                | false => none
              | _ => none
          | .full => match elsA i.size i.desc.agg k g els with
            | none => none
            | some els => match isNil new with
              | true => some ⟨putT s.env d (.sl i.size i.desc.agg els .full), s.loc, s.h, s.n⟩
              | false => match Nat.ble ((els.length + new.length) * i.bytes) 140737488355328 with
                | false => none
                | true => match esc d with
                  | false => newX s d (.sl i.size i.desc.agg (els ++ new) (.own s.n)) .tail
                  | true => newX s d (.row s.n 0 (els.length + new.length) none) (.cells (flat els ++ flat new))
          | _ => none
      | .row id off len cap => match srcX i.size i.desc.agg s.h src with
        | none => none
        | some new => match cap with
          | none => none
          | some c => match s.h.get id with
            | some (.cells cs) => match Nat.ble (off + len * i.size) cs.length with
              | false => none
              | true => match Nat.ble (len + new.length) c with
                | true => match Nat.ble (off + (len + new.length) * i.size) cs.length && Nat.ble (len + new.length) 9223372036854775807 with
                  | true => setX s (some d) (.row id off (len + new.length) (some c)) id (.cells (putCells cs (off + len * i.size) (flat new)))
                  | false => none
                | false => match ((cs.drop off).take (len * i.size)).all AV.one && Nat.ble ((len + new.length) * i.bytes) 140737488355328 with
                  | true => newX s d (.row s.n 0 (len + new.length) none) (.cells ((cs.drop off).take (len * i.size) ++ flat new))
                  | false => none
            | _ => none
      | _ => none

noncomputable def buildSliceX (esc : Nat → Bool) (s : St) (dst : Option Tmp) (i : TInfo) (len : Nat) (ps : List (Nat × AV)) : Option St :=
  match dst with
  | none => none
  | some d => match zOK i && idxOK 0 ps && Nat.beq ps.length len && ps.all (fun p => storeOK p.2 && Nat.beq p.2.cells.length i.size && (p.2.isAgg == i.desc.agg)) && Nat.ble (len * i.size) 16777216 with
    | false => none
    | true => match esc d with
      | false => some ⟨putT s.env d (.sl i.size i.desc.agg (ps.map (·.2)) .full), s.loc, s.h, s.n⟩
      | true => newX s d (.row s.n 0 len (some len)) (.cells (flat (ps.map (·.2))))

noncomputable def makeSliceX (esc : Nat → Bool) (s : St) (dst : Option Tmp) (i : TInfo) (lv cv : AV) : Option St :=
  match dst with
  | none => none
  | some d => match zOK i with
    | false => none
    | true => match lv, cv with
      | .int _ n, .int _ c => match decide (0 ≤ n ∧ n ≤ c ∧ (i.bytes : Int) * c ≤ 281474976710656) with
        | false => none
        | true => match esc d with
          | false => newX s d (.sl i.size i.desc.agg (List.replicate n.toNat (ofVal i.zero)) (.own s.n)) .tail
          | true => newX s d (.row s.n 0 n.toNat (some c.toNat)) (.cells (zerosA i.size (ofVal i.zero).cells c.toNat))
      | _, _ => none

noncomputable def bytesX (s : St) (dst : Option Tmp) (x : AV) : Option St :=
  match x with
  | .str b => match Nat.ble b.length 9223372036854775807 with
    | true => retX s dst (.sl 1 false (b.map byteA) .no)
    | false => none
  | .sl k _ els _ => match Nat.beq k 1 with
    | false => none
    | true => match unB els with
      | some b => retX s dst (.str b)
      | none => none
  | .row id off len _ => match s.h.get id with
    | some (.cells cs) => match Nat.ble (off + len) cs.length, unB ((cs.drop off).take len) with
      | true, some b => retX s dst (.str b)
      | _, _ => none
    | _ => none
  | _ => none

noncomputable def nilX (s : St) (dst : Option Tmp) (op : BinOp) (x : AV) : Option St :=
  match x with
  | .sl k _ els cap => match cap with
    | .nil => match op with
      | .eql => retX s dst (.bool true)
      | .neq => retX s dst (.bool false)
      | _ => none
    | _ => match isNil els || Nat.beq k 0 with
      | true => none
      | false => match op with
        | .eql => retX s dst (.bool false)
        | .neq => retX s dst (.bool true)
        | _ => none
  | .row _ _ _ _ => match op with
    | .eql => retX s dst (.bool false)
    | .neq => retX s dst (.bool true)
    | _ => none
  | _ => none

noncomputable def makeMapX (s : St) (dst : Option Tmp) (rs : Option AV) : Option St :=
  match dst with
  | none => none
  | some d => match rs with
    | none => newX s d (.map s.n) (.map [] true)
    | some (.int _ _) => newX s d (.map s.n) (.map [] true)
    | some _ => none

noncomputable def lookupX (ty : Tys) (s : St) (dst : Option Tmp) (kt : TypeId) (e : TInfo) (x key : AV) (ok : Bool) : Option St :=
  match keyOK ty kt key && (ofVal e.zero).known with
  | false => none
  | true => match x with
    | .map id => match s.h.get id with
      | some (.map es c) => match findA (keyEq ty kt) key es 0 with
        | some r => Res.out.forceO (foundV ok (ofVal e.zero) r) (retX s dst)
        | none => none
      | _ => none
    | _ => none

noncomputable def mapUpdateX (ty : Tys) (s : St) (dst : Option Tmp) (kt : TypeId) (x key v : AV) : Option St :=
  match keyOK ty kt key && v.plain with
  | false => none
  | true => match x with
    | .map id => match s.h.get id with
      | some (.map es c) => match findA (keyEq ty kt) key es 0 with
        | some r => setX s dst .undef id (.map (setA es key v r) c)
        | none => none
      | _ => none
    | _ => none

noncomputable def mapLenX (s : St) (dst : Option Tmp) (x : AV) : Option St :=
  match x with
  | .map id => match s.h.get id with
    | some (.map es c) => retX s dst (.int .i64 es.length)
    | _ => none
  | _ => none

noncomputable def deleteX (ty : Tys) (s : St) (dst : Option Tmp) (kt : TypeId) (x key : AV) : Option St :=
  match keyOK ty kt key with
  | false => none
  | true => match x with
    | .map id => match s.h.get id with
      | some (.map es c) => match findA (keyEq ty kt) key es 0 with
        | some r => setX s dst .undef id (.map (delA es r) false)
        | none => none
      | _ => none
    | _ => none

noncomputable def mapEntryX (ty : Tys) (s : St) (dst : Option Tmp) (kt : TypeId) (e : TInfo) (x key : AV) : Option St :=
  match keyOK ty kt key && (ofVal e.zero).known with
  | false => none
  | true => match x with
    | .map id => match s.h.get id with
      | some (.map es true) => match findA (keyEq ty kt) key es 0 with
        | some (some (i, v)) => setX s dst (.tuple [v, .int .i64 i]) id (.map (es.set i (key, v)) true)
        | some none => setX s dst (.tuple [ofVal e.zero, .int .i64 es.length]) id (.map (es ++ [(key, ofVal e.zero)]) true)
        | none => none
      | _ => none
    | _ => none

noncomputable def entryStoreX (s : St) (dst : Option Tmp) (x st v : AV) : Option St :=
  match v.plain with
  | false => none
  | true => match x, st with
    | .map id, .int _ (.ofNat i) => match s.h.get id with
      | some (.map es true) => match Nat.blt i es.length with
        | true => setX s dst .undef id (.map (es.set i ((es.getD i (.undef, .undef)).1, v)) true)
        | false => none
      | _ => none
    | _, _ => none

noncomputable def xOpA (ty : Tys) (N : Nat) (esc : Nat → Bool) (o : Oper) (s : St) : Option St :=
  match dstOK N o.dst with
  | false => none
  | true => match o.op with
    | .box _ x => match o.dst with
      | none => none
      | some d => match (evO (envF s.env) x).known && (evO (envF s.env) x).plain with
        | false => none
        | true => boxX esc s d (evO (envF s.env) x).cells
    | .alloc t => match o.dst with
      | none => none
      | some d => match ty t with
        | none => none
        | some i => match (ofVal i.zero).known with
          | false => none
          | true => boxX esc s d (ofVal i.zero).cells
    | .store t p x => match ty t with
      | none => none
      | some i => storeX s o.dst i (evO (envF s.env) p) (evO (envF s.env) x)
    | .load t p => match evO (envF s.env) p with
      | .lptr d off => match ty t with
        | none => none
        | some i => match s.loc.get d with
          | none => none
          | some cs => match Nat.ble (off + i.size) cs.length && (i.desc.agg || Nat.beq i.size 1) with
            | true => Res.out.forceO (partA i.desc.agg i.size cs off) (retX s o.dst)
            | false => none
      | .ptr id off => match ty t with
        | none => none
        | some i => match peekX s.h i id off with
          | some v => retX s o.dst v
          | none => none
      | p => (evLoad ty (locF s.loc) t p).out (retX s o.dst)
    | .call c => match c.callee with
      | .value f => none
      | _ => (evS ty (envF s.env) (locF s.loc) (.call c)).out (retX s o.dst)
    | op => (evS ty (envF s.env) (locF s.loc) op).out (retX s o.dst)

noncomputable def xOp (ty : Tys) (N : Nat) (esc : Nat → Bool) (o : Oper) (s : St) : Option St :=
  match o.op with
  | .buildSlice t len ps => match dstOK N o.dst with
    | false => none
    | true => match ty t with
      | some ⟨.slice e, _, _, _⟩ => match ty e with
        | some i => buildSliceX esc s o.dst i len (ps.toList.map fun p => (p.1, evO (envF s.env) p.2))
        | none => none
      | _ => none
  | .makeSlice t lv cv => match dstOK N o.dst with
    | false => none
    | true => match ty t with
      | some ⟨.slice e, _, _, _⟩ => match ty e with
        | some i => makeSliceX esc s o.dst i (evO (envF s.env) lv) (evO (envF s.env) cv)
        | none => none
      | _ => none
  | .convert a d x => match (isBytes ty a && isStr ty d) || (isStr ty a && isBytes ty d) with
    | true => match dstOK N o.dst with
      | false => none
      | true => match isStr ty a, evO (envF s.env) x with
        | true, .str b => bytesX s o.dst (.str b)
        | false, .sl k g els c => bytesX s o.dst (.sl k g els c)
        | false, .row a b c d => bytesX s o.dst (.row a b c d)
        | _, _ => none
    | false => xOpA ty N esc o s
  | .binOp op t x y _ => match nilQ y && isSl ty t with
    | true => match dstOK N o.dst with
      | false => none
      | true => nilX s o.dst op (evO (envF s.env) x)
    | false => xOpA ty N esc o s
  | .call c => match c.callee with
    | .builtin .append => match dstOK N o.dst with
      | false => none
      | true => match c.argTypes.toList, c.args.toList with
        | [t, u], [x, y] => match ty t with
          | some ⟨.slice e, _, _, _⟩ => match ty e with
            | some i => match ty u with
              | some ⟨.slice _, _, _, _⟩ => appendX esc s o.dst i (evO (envF s.env) x) (evO (envF s.env) y)
              | some ⟨.str, _, _, _⟩ => appendX esc s o.dst i (evO (envF s.env) x) (evO (envF s.env) y)
              | _ => none
            | none => none
          | _ => none
        | _, _ => none
    | .builtin .len => match c.argTypes.toList, c.args.toList with
      | [t], [x] => match mapOf ty t with
        | none => xOpA ty N esc o s
        | some _ => match dstOK N o.dst with
          | false => none
          | true => mapLenX s o.dst (evO (envF s.env) x)
      | _, _ => xOpA ty N esc o s
    | .builtin .delete => match c.argTypes.toList, c.args.toList with
      | t :: _, [x, k] => match mapOf ty t with
        | none => none
        | some (kt, _) => match dstOK N o.dst with
          | false => none
          | true => deleteX ty s o.dst kt (evO (envF s.env) x) (evO (envF s.env) k)
      | _, _ => none
    | _ => xOpA ty N esc o s
  | .mapEntry t x k => match dstOK N o.dst with
    | false => none
    | true => match mapOf ty t with
      | none => none
      | some (kt, et) => match ty et with
        | none => none
        | some e => mapEntryX ty s o.dst kt e (evO (envF s.env) x) (evO (envF s.env) k)
  | .entryStore t x st v => match dstOK N o.dst with
    | false => none
    | true => entryStoreX s o.dst (evO (envF s.env) x) (evO (envF s.env) st) (evO (envF s.env) v)
  | .makeMap t rs => match dstOK N o.dst with
    | false => none
    | true => match mapOf ty t with
      | none => none
      | some _ => makeMapX s o.dst (rs.map (evO (envF s.env)))
  | .lookup t x ix ok => match dstOK N o.dst with
    | false => none
    | true => match mapOf ty t with
      | none => none
      | some (kt, et) => match ty et with
        | none => none
        | some e => lookupX ty s o.dst kt e (evO (envF s.env) x) (evO (envF s.env) ix) ok
  | .mapUpdate t x ix v => match dstOK N o.dst with
    | false => none
    | true => match mapOf ty t with
      | none => none
      | some (kt, _) => mapUpdateX ty s o.dst kt (evO (envF s.env) x) (evO (envF s.env) ix) (evO (envF s.env) v)
  | .insert t x ix v => match dstOK N o.dst with
    | false => none
    | true => match mapOf ty t with
      | none => none
      | some (kt, _) => mapUpdateX ty s o.dst kt (evO (envF s.env) x) (evO (envF s.env) ix) (evO (envF s.env) v)
  | _ => xOpA ty N esc o s

/-- Just this state. -/
def Then (s : St) : Kt := fun env loc h => env = envF s.env ∧ loc = locF s.loc ∧ h = hF s.h

/-- Of the numbers: one is taken; or none. -/
def NOK (s s' : St) : Prop := s'.n = s.n + 1 ∨ (s'.n = s.n ∧ ∀ i, hF s.h i = none → hF s'.h i = none)
theorem NOK.same {s s' : St} (h1 : s'.n = s.n) (h2 : s'.h = s.h) : NOK s s' := .inr ⟨h1, fun i h => by rw [h2]; exact h⟩

section
variable {P : Program} {ty : Tys} {N : Nat} {esc : Nat → Bool} {o : Oper} {s s' : St} {dst : Option Tmp}

theorem retX_to (hd : ∀ t, dst = some t → t < 1000000) {v : AV} (e : retX s dst v = some s') : Then s' (putE (envF s.env) dst v) (locF s.loc) (hF s.h) ∧ NOK s s' := by
  cases e
  exact ⟨⟨(envF_putO hd).symm, rfl, rfl⟩, .same rfl rfl⟩

theorem newX_to {d : Nat} (hd : d < 1000000) {v : AV} {ob : AObj} (e : newX s d v ob = some s') : Then s' (updE (envF s.env) d v) (locF s.loc) (updH (hF s.h) s.n (some ob)) ∧ NOK s s' := by
  unfold newX at e
  split at e
  · rename_i hn
    cases e
    have hn : s.n < 1000000000 := by simp [Nat.blt] at hn; omega
    exact ⟨⟨(envF_put hd).symm, rfl, (hF_set hn).symm⟩, .inl rfl⟩
  · cases e

theorem setX_to (hd : ∀ t, dst = some t → t < 1000000) {id : Nat} {v : AV} {ob ob' : AObj} (hid : s.h.get id = some ob') (e : setX s dst v id ob = some s') : Then s' (putE (envF s.env) dst v) (locF s.loc) (updH (hF s.h) id (some ob)) ∧ NOK s s' := by
  unfold setX at e
  split at e
  · rename_i hn
    cases e
    have hn : id < 1000000000 := by simp [Nat.blt] at hn; omega
    refine ⟨⟨(envF_putO hd).symm, rfl, (hF_set hn).symm⟩, .inr ⟨rfl, fun i hi => ?_⟩⟩
    show hF (setH s.h id (some ob)) i = none
    rw [hF_set hn]
    have hne : i ≠ id := fun e => by
      subst e
      have : hF s.h i = some ob' := hid
      rw [this] at hi
      cases hi
    rw [updH_ne _ _ _ hne]
    exact hi
  · cases e

theorem evS_out (hd : ∀ t, dst = some t → t < 1000000) {r : Res} (e : r.out (retX s dst) = some s') : goOn r (fun v => Then s' (putE (envF s.env) dst v) (locF s.loc) (hF s.h)) :=
  out_to e fun v hv => (retX_to hd hv).1
theorem out_n {r : Res} (e : r.out (retX s dst) = some s') : NOK s s' := by
  have h : ∀ v, retX s dst v = some s' → NOK s s' := fun v hv => by cases hv; exact .same rfl rfl
  unfold Res.out at e
  split at e
  · rw [forceO_eq] at e; exact h _ e
  · rw [forceO_eq] at e; exact h _ e
  · rename_i c d x
    cases d with
    | isTrue hc => simp only [forceO_eq] at e; exact h _ e
    | isFalse hc => cases e
  · cases e

theorem peekX_to {h : Tr AObj} {i : TInfo} {id off : Nat} {v : AV} (e : peekX h i id off = some v) : ∃ cs, hF h id = some (.cells cs) ∧ off + i.size ≤ cs.length ∧ (i.desc.agg || Nat.beq i.size 1) = true ∧ partA i.desc.agg i.size cs off = v := by
  unfold peekX at e
  split at e
  · rename_i cs hid
    split at e
    · rename_i hc
      simp only [Bool.and_eq_true] at hc
      rw [forceO_eq] at e
      exact ⟨cs, hid, Nat.le_of_ble_eq_true hc.1, hc.2, Option.some.inj e⟩
    · cases e
  · cases e

theorem appendX_to (hd : ∀ t, dst = some t → t < 1000000) {i : TInfo} {base src : AV} (e : appendX esc s dst i base src = some s') : evAppend esc (some s.n) dst i base src (envF s.env) (locF s.loc) (hF s.h) (Then s') ∧ NOK s s' := by
  unfold appendX at e
  unfold evAppend
  split at e
  · cases e
  rename_i d
  have hd := hd d rfl
  split at e
  · cases e
  rename_i hz
  rw [hz]
  simp only
  split at e
  · rename_i k g els cap
    split at e
    · cases e
    rename_i new hnew
    suffices hq : NOK s s' ∧ _ from ⟨srcX_to hnew hq.2, hq.1⟩
    generalize cap.fulls = cap at e ⊢
    split at e
    · rename_i t
      split at e
      · cases e
      rename_i hc
      split at e
      · rename_i ht
        split at e
        · rename_i hb
          simp only [Bool.and_eq_true] at hb
          have h1 : t < 1000000000 := by have := hb.1.2; simp [Nat.blt] at this; omega
          have h2 : s.n < 1000000000 := by have := hb.2; simp [Nat.blt] at this; omega
          cases e
          refine ⟨.inl rfl, ?_⟩
          rw [hc]
          refine ⟨ht, Nat.le_of_ble_eq_true hb.1.1, (envF_put hd).symm, rfl, ?_⟩
          show _ = hF (setH (setH s.h t none) s.n (some .tail))
          rw [hF_set h2, hF_set h1]
        · cases e
      · cases e
    · split at e
      · cases e
      rename_i els' hels
      split at e
      · rename_i hn
        cases e
        refine ⟨.same rfl rfl, ?_⟩
        simp only [hels, hn]
        exact ⟨(envF_put hd).symm, rfl, rfl⟩
      · rename_i hn
        split at e
        · cases e
        rename_i hb
        have hb := Nat.le_of_ble_eq_true hb
        split at e
        · rename_i hesc
          obtain ⟨g1, g2⟩ := newX_to hd e
          refine ⟨g2, ?_⟩
          simp only [hels, hn]
          refine ⟨hb, ?_⟩
          rw [hesc]
          exact g1
        · rename_i hesc
          obtain ⟨g1, g2⟩ := newX_to hd e
          refine ⟨g2, ?_⟩
          simp only [hels, hn]
          refine ⟨hb, ?_⟩
          rw [hesc]
          exact g1
    · cases e
  · rename_i id off len cap
    split at e
    · cases e
    rename_i new hnew
    suffices hq : NOK s s' ∧ _ from ⟨srcX_to hnew hq.2, hq.1⟩
    split at e
    · cases e
    rename_i c
    split at e
    · rename_i cs hid
      split at e
      · cases e
      rename_i hl
      split at e
      · rename_i hroom
        split at e
        · rename_i hb
          simp only [Bool.and_eq_true] at hb
          obtain ⟨g1, g2⟩ := setX_to (dst := some d) (fun t ht => by cases ht; exact hd) hid e
          refine ⟨g2, cs, hid, Nat.le_of_ble_eq_true hl, ?_⟩
          rw [hroom]
          exact ⟨Nat.le_of_ble_eq_true hb.1, Nat.le_of_ble_eq_true hb.2, g1⟩
        · cases e
      · rename_i hroom
        split at e
        · rename_i hb
          simp only [Bool.and_eq_true] at hb
          obtain ⟨g1, g2⟩ := newX_to hd e
          refine ⟨g2, cs, hid, Nat.le_of_ble_eq_true hl, ?_⟩
          rw [hroom]
          exact ⟨hb.1, Nat.le_of_ble_eq_true hb.2, g1⟩
        · cases e
    · cases e
  · cases e

theorem buildSliceX_to (hd : ∀ t, dst = some t → t < 1000000) {i : TInfo} {len : Nat} {ps : List (Nat × AV)} (e : buildSliceX esc s dst i len ps = some s') : evBuildSlice esc (some s.n) dst i len ps (envF s.env) (locF s.loc) (hF s.h) (Then s') ∧ NOK s s' := by
  unfold buildSliceX at e
  unfold evBuildSlice
  split at e
  · cases e
  rename_i d
  have hd := hd d rfl
  split at e
  · cases e
  rename_i hc
  rw [hc]
  split at e
  · rename_i he
    cases e
    refine ⟨?_, .same rfl rfl⟩
    dsimp only
    rw [he]
    exact ⟨(envF_put hd).symm, rfl, rfl⟩
  · rename_i he
    obtain ⟨g1, g2⟩ := newX_to hd e
    refine ⟨?_, g2⟩
    dsimp only
    rw [he]
    exact g1

theorem makeSliceX_to (hd : ∀ t, dst = some t → t < 1000000) {i : TInfo} {lv cv : AV} (e : makeSliceX esc s dst i lv cv = some s') : evMakeSlice esc (some s.n) dst i lv cv (envF s.env) (locF s.loc) (hF s.h) (Then s') ∧ NOK s s' := by
  unfold makeSliceX at e
  unfold evMakeSlice
  split at e
  · cases e
  rename_i d
  have hd := hd d rfl
  split at e
  · cases e
  rename_i hz
  rw [hz]
  split at e
  · split at e
    · cases e
    rename_i hb
    have hb := of_decide_eq_true hb
    split at e
    · rename_i he
      obtain ⟨g1, g2⟩ := newX_to hd e
      refine ⟨⟨hb, ?_⟩, g2⟩
      simp only [he]
      exact g1
    · rename_i he
      obtain ⟨g1, g2⟩ := newX_to hd e
      refine ⟨⟨hb, ?_⟩, g2⟩
      simp only [he]
      exact g1
  · cases e

theorem bytesX_to (hd : ∀ t, dst = some t → t < 1000000) {x : AV} (e : bytesX s dst x = some s') : evBytes dst x (envF s.env) (locF s.loc) (hF s.h) (Then s') ∧ NOK s s' := by
  unfold bytesX at e
  unfold evBytes
  split at e
  · split at e
    · rename_i hl
      obtain ⟨g1, g2⟩ := retX_to hd e
      exact ⟨⟨Nat.le_of_ble_eq_true hl, g1⟩, g2⟩
    · cases e
  · split at e
    · cases e
    rename_i hk
    dsimp only
    rw [hk]
    split at e
    · rename_i b hb
      obtain ⟨g1, g2⟩ := retX_to hd e
      exact ⟨⟨b, unB_to hb, g1⟩, g2⟩
    · cases e
  · split at e
    · rename_i cs hid
      split at e
      · rename_i b hl hb
        obtain ⟨g1, g2⟩ := retX_to hd e
        exact ⟨⟨cs, b, hid, Nat.le_of_ble_eq_true hl, unB_to hb, g1⟩, g2⟩
      · cases e
    · cases e
  · cases e

theorem nilX_to (hd : ∀ t, dst = some t → t < 1000000) {op : BinOp} {x : AV} (e : nilX s dst op x = some s') : evNilS dst op x (envF s.env) (locF s.loc) (hF s.h) (Then s') ∧ NOK s s' := by
  unfold nilX at e
  unfold evNilS
  split at e
  · rename_i k g els c
    split at e
    · split at e
      · exact retX_to hd e
      · exact retX_to hd e
      · cases e
    split at e
    · cases e
    rename_i hc
    have hne : ∀ b : Bool, (b = true → els = [] ∨ k = 0) → b = false := fun b hb => by
      cases b with
      | false => rfl
      | true =>
        rcases hb rfl with h | h
        · subst h; cases hc
        · subst h; simp at hc
    split at e
    · obtain ⟨g1, g2⟩ := retX_to hd e
      refine ⟨?_, g2⟩
      cases c <;> first | exact (fun b hb => by rw [hne b hb]; exact g1) | (exfalso; simp_all)
    · obtain ⟨g1, g2⟩ := retX_to hd e
      refine ⟨?_, g2⟩
      cases c <;> first | exact (fun b hb => by rw [hne b hb]; exact g1) | (exfalso; simp_all)
    · cases e
  · split at e
    · exact retX_to hd e
    · exact retX_to hd e
    · cases e
  · cases e

theorem makeMapX_to (hd : ∀ t, dst = some t → t < 1000000) {rs : Option AV} (e : makeMapX s dst rs = some s') : evMakeMap (some s.n) dst rs (envF s.env) (locF s.loc) (hF s.h) (Then s') ∧ NOK s s' := by
  unfold makeMapX at e
  unfold evMakeMap
  split at e
  · cases e
  rename_i d
  have hd := hd d rfl
  split at e
  · exact newX_to hd e
  · exact newX_to hd e
  · cases e

theorem lookupX_to (hd : ∀ t, dst = some t → t < 1000000) {kt : TypeId} {i : TInfo} {x key : AV} {ok : Bool} (e : lookupX ty s dst kt i x key ok = some s') : evLookup ty dst kt i x key ok (envF s.env) (locF s.loc) (hF s.h) (Then s') ∧ NOK s s' := by
  unfold lookupX at e
  unfold evLookup
  split at e
  · cases e
  rename_i hc
  rw [hc]
  split at e
  · split at e
    · rename_i es c hid
      split at e
      · rename_i r hr
        rw [forceO_eq] at e
        obtain ⟨g1, g2⟩ := retX_to hd e
        exact ⟨⟨es, c, r, hid, hr, g1⟩, g2⟩
      · cases e
    · cases e
  · cases e

theorem mapUpdateX_to (hd : ∀ t, dst = some t → t < 1000000) {kt : TypeId} {x key v : AV} (e : mapUpdateX ty s dst kt x key v = some s') : evMapUpdate ty dst kt x key v (envF s.env) (locF s.loc) (hF s.h) (Then s') ∧ NOK s s' := by
  unfold mapUpdateX at e
  unfold evMapUpdate
  split at e
  · cases e
  rename_i hc
  rw [hc]
  split at e
  · split at e
    · rename_i es c hid
      split at e
      · rename_i r hr
        obtain ⟨g1, g2⟩ := setX_to hd hid e
        exact ⟨⟨es, c, r, hid, hr, g1⟩, g2⟩
      · cases e
    · cases e
  · cases e

theorem mapLenX_to (hd : ∀ t, dst = some t → t < 1000000) {x : AV} (e : mapLenX s dst x = some s') : evMapLen dst x (envF s.env) (locF s.loc) (hF s.h) (Then s') ∧ NOK s s' := by
  unfold mapLenX at e
  unfold evMapLen
  split at e
  · split at e
    · rename_i es c hid
      obtain ⟨g1, g2⟩ := retX_to hd e
      exact ⟨⟨es, c, hid, g1⟩, g2⟩
    · cases e
  · cases e

theorem deleteX_to (hd : ∀ t, dst = some t → t < 1000000) {kt : TypeId} {x key : AV} (e : deleteX ty s dst kt x key = some s') : evDelete ty dst kt x key (envF s.env) (locF s.loc) (hF s.h) (Then s') ∧ NOK s s' := by
  unfold deleteX at e
  unfold evDelete
  split at e
  · cases e
  rename_i hc
  rw [hc]
  split at e
  · split at e
    · rename_i es c hid
      split at e
      · rename_i r hr
        obtain ⟨g1, g2⟩ := setX_to hd hid e
        exact ⟨⟨es, c, r, hid, hr, g1⟩, g2⟩
      · cases e
    · cases e
  · cases e

theorem mapEntryX_to (hd : ∀ t, dst = some t → t < 1000000) {kt : TypeId} {i : TInfo} {x key : AV} (e : mapEntryX ty s dst kt i x key = some s') : evMapEntry ty dst kt i x key (envF s.env) (locF s.loc) (hF s.h) (Then s') ∧ NOK s s' := by
  unfold mapEntryX at e
  unfold evMapEntry
  split at e
  · cases e
  rename_i hc
  rw [hc]
  split at e
  · split at e
    · rename_i es hid
      split at e
      · rename_i r hr
        obtain ⟨g1, g2⟩ := setX_to hd hid e
        exact ⟨⟨es, _, hid, hr, g1⟩, g2⟩
      · rename_i hr
        obtain ⟨g1, g2⟩ := setX_to hd hid e
        exact ⟨⟨es, _, hid, hr, g1⟩, g2⟩
      · cases e
    · cases e
  · cases e

theorem entryStoreX_to (hd : ∀ t, dst = some t → t < 1000000) {x st v : AV} (e : entryStoreX s dst x st v = some s') : evEntryStore dst x st v (envF s.env) (locF s.loc) (hF s.h) (Then s') ∧ NOK s s' := by
  unfold entryStoreX at e
  unfold evEntryStore
  split at e
  · cases e
  rename_i hc
  rw [hc]
  split at e
  · split at e
    · rename_i es hid
      split at e
      · rename_i hi
        obtain ⟨g1, g2⟩ := setX_to hd hid e
        exact ⟨⟨es, hid, by simp [Nat.blt] at hi; omega, g1⟩, g2⟩
      · cases e
    · cases e
  · cases e

theorem boxX_to {d : Nat} (hd : d < 1000000) {cs : List AV} (e : boxX esc s d cs = some s') : newVarA esc (some s.n) d cs (envF s.env) (locF s.loc) (hF s.h) (Then s') ∧ NOK s s' := by
  unfold boxX at e
  unfold newVarA
  split at e
  · rename_i he
    rw [he]
    exact newX_to hd e
  · rename_i he
    rw [he]
    split at e
    · rename_i hl
      cases e
      refine ⟨?_, .same rfl rfl⟩
      have hl' : locF s.loc d = none := hl
      simp only [hl']
      exact ⟨(envF_put hd).symm, (locF_set hd).symm, rfl⟩
    · rename_i cs' hl
      cases e
      refine ⟨?_, .same rfl rfl⟩
      have hl' : locF s.loc d = some cs' := hl
      simp only [hl']
      exact ⟨by rw [envF_put hd, envF_kill], (locF_set hd).symm, rfl⟩

theorem xOpA_to (hN : N ≤ 1000000) (e : xOpA ty N esc o s = some s') : evOpA P ty N esc (some s.n) o (envF s.env) (locF s.loc) (hF s.h) (Then s') ∧ NOK s s' := by
  unfold xOpA at e
  unfold evOpA
  split at e
  · cases e
  rename_i hdk
  have hd : ∀ t, o.dst = some t → t < 1000000 := fun t ht => Nat.lt_of_lt_of_le (dstOK_to hdk t ht) hN
  rw [hdk]
  simp only
  split at e
  · rename_i t x ho
    simp only [ho]
    split at e
    · cases e
    rename_i d hdd
    have hd := hd d hdd
    split at e
    · cases e
    rename_i hk
    obtain ⟨g1, g2⟩ := boxX_to hd e
    refine ⟨?_, g2⟩
    simp only [hdd]
    rw [hk]
    exact g1
  · rename_i t ho
    simp only [ho]
    split at e
    · cases e
    rename_i d hdd
    have hd := hd d hdd
    split at e
    · cases e
    rename_i i hi
    split at e
    · cases e
    rename_i hk
    obtain ⟨g1, g2⟩ := boxX_to hd e
    refine ⟨?_, g2⟩
    simp only [hdd, hi, hk]
    exact g1
  · rename_i t p x ho
    simp only [ho]
    split at e
    · cases e
    rename_i i hi
    simp only [hi]
    unfold storeX at e
    unfold evStore
    split at e
    · cases e
    rename_i hc
    rw [hc]
    split at e
    · rename_i id off hp
      rw [hp]
      split at e
      · rename_i cs hid
        split at e
        · rename_i hl
          obtain ⟨g1, g2⟩ := setX_to hd hid e
          exact ⟨⟨cs, hid, Nat.le_of_ble_eq_true hl, g1⟩, g2⟩
        · cases e
      · cases e
    · rename_i d off hp
      rw [hp]
      split at e
      · rename_i cs hl
        split at e
        · rename_i hc
          simp only [Bool.and_eq_true] at hc
          have hdl : d < 1000000 := by have := hc.2; simp [Nat.blt] at this; omega
          cases e
          refine ⟨?_, .same rfl rfl⟩
          have hl' : locF s.loc d = some cs := hl
          simp only [hl']
          exact chk_of (Nat.le_of_ble_eq_true hc.1) ⟨(envF_putO hd).symm, (locF_set hdl).symm, rfl⟩
        · cases e
      · cases e
    · cases e
  · rename_i t p ho
    simp only [ho]
    split at e
    · rename_i d off hp
      rw [hp]
      split at e
      · cases e
      rename_i i hi
      split at e
      · cases e
      rename_i cs hl
      have hl' : locF s.loc d = some cs := hl
      split at e
      · rename_i hc
        simp only [Bool.and_eq_true] at hc
        rw [forceO_eq] at e
        obtain ⟨g1, g2⟩ := retX_to hd e
        simp only [hi, hl']
        refine ⟨chk_of (Nat.le_of_ble_eq_true hc.1) ?_, g2⟩
        unfold evLoadK
        rw [hc.2]
        simp only
        rw [force_eq]
        exact g1
      · cases e
    · rename_i id off hp
      rw [hp]
      split at e
      · cases e
      rename_i i hi
      split at e
      · rename_i v hv
        obtain ⟨cs, q1, q2, q3, q4⟩ := peekX_to hv
        obtain ⟨g1, g2⟩ := retX_to hd e
        simp only [hi]
        refine ⟨⟨cs, q1, q2, ?_⟩, g2⟩
        unfold evLoadP
        rw [q3]
        exact ⟨v, q4, g1⟩
      · cases e
    · rename_i q hq1 hq2
      split
      · rename_i d off hp; exact absurd hp (hq1 d off)
      · rename_i id off hp; exact absurd hp (hq2 id off)
      · exact ⟨evS_out hd e, out_n e⟩
  · rename_i c ho
    simp only [ho]
    split at e
    · cases e
    · rename_i hc
      split
      · rename_i f hf; exact absurd hf (hc f)
      · exact ⟨evS_out hd e, out_n e⟩
  · rename_i h1 h2 h3 h4 h5
    split
    · rename_i t x ho; exact absurd ho (h1 t x)
    · rename_i t ho; exact absurd ho (h2 t)
    · rename_i t p x ho; exact absurd ho (h3 t p x)
    · rename_i t p ho; exact absurd ho (h4 t p)
    · rename_i c ho; exact absurd ho (h5 c)
    · exact ⟨evS_out hd e, out_n e⟩

theorem xOp_to (hN : N ≤ 1000000) (e : xOp ty N esc o s = some s') : evOp P ty N esc (some s.n) o (envF s.env) (locF s.loc) (hF s.h) (Then s') ∧ NOK s s' := by
  have hd : dstOK N o.dst = true → ∀ t, o.dst = some t → t < 1000000 := fun hdk t ht => Nat.lt_of_lt_of_le (dstOK_to hdk t ht) hN
  unfold xOp at e
  unfold evOp
  split at e
  · rename_i t len ps ho
    simp only [ho]
    split at e
    · cases e
    rename_i hdk
    simp only [hdk]
    split at e
    · rename_i el b1 b2 z htt
      simp only [htt]
      split at e
      · rename_i i hi
        simp only [hi]
        exact buildSliceX_to (hd hdk) e
      · cases e
    · cases e
  · rename_i t lv cv ho
    simp only [ho]
    split at e
    · cases e
    rename_i hdk
    simp only [hdk]
    split at e
    · rename_i el b1 b2 z htt
      simp only [htt]
      split at e
      · rename_i i hi
        simp only [hi]
        exact makeSliceX_to (hd hdk) e
      · cases e
    · cases e
  · rename_i a d x ho
    split at e
    · rename_i hc
      split at e
      · cases e
      rename_i hdk
      split at e
      · rename_i b h1 hx
        simp only [ho]
        rw [hc]
        simp only [hdk, h1, hx]
        exact bytesX_to (hd hdk) e
      · rename_i k g els c h1 hx
        simp only [ho]
        rw [hc]
        simp only [hdk, h1, hx]
        exact bytesX_to (hd hdk) e
      · rename_i b1 b2 b3 b4 h1 hx
        simp only [ho]
        rw [hc]
        simp only [hdk, h1, hx]
        exact bytesX_to (hd hdk) e
      · cases e
    · rename_i hc
      have := xOpA_to (P := P) (esc := esc) hN e
      simp only [ho, hc]
      exact this
  · rename_i op t x y yt ho
    split at e
    · rename_i hc
      split at e
      · cases e
      rename_i hdk
      simp only [ho, hc, hdk]
      exact nilX_to (hd hdk) e
    · rename_i hc
      have := xOpA_to (P := P) (esc := esc) hN e
      simp only [ho, hc]
      exact this
  · rename_i c ho
    split at e
    · rename_i hc
      simp only [ho, hc]
      split at e
      · cases e
      rename_i hdk
      simp only [hdk]
      split at e
      · rename_i t u x y hts has
        simp only [hts, has]
        split at e
        · rename_i el b1 b2 z htt
          simp only [htt]
          split at e
          · rename_i i hi
            simp only [hi]
            split at e
            · rename_i e' c1 c2 z' hut
              simp only [hut]
              exact appendX_to (hd hdk) e
            · rename_i c1 c2 z' hut
              simp only [hut]
              exact appendX_to (hd hdk) e
            · cases e
          · cases e
        · cases e
      · cases e
    · rename_i hc
      have hA := fun e => xOpA_to (P := P) (esc := esc) (o := o) (s := s) (s' := s') (ty := ty) hN e
      split at e
      · rename_i t x hts has
        split at e
        · rename_i hm
          simp only [ho, hc, hts, has, hm]
          exact hA e
        · rename_i ke hm
          split at e
          · cases e
          rename_i hdk
          simp only [ho, hc, hts, has, hm, hdk]
          exact mapLenX_to (hd hdk) e
      · rename_i hne
        have := hA e
        simp only [ho, hc]
        exact this
    · rename_i hc
      split at e
      · rename_i t ts x k hts has
        split at e
        · cases e
        · rename_i kt et hm
          split at e
          · cases e
          rename_i hdk
          simp only [ho, hc, hts, has, hm, hdk]
          exact deleteX_to (hd hdk) e
      · cases e
    · rename_i hc1 hc2 hc3
      have := xOpA_to (P := P) (esc := esc) hN e
      simp only [ho]
      exact this
  · rename_i t x k ho
    split at e
    · cases e
    rename_i hdk
    split at e
    · cases e
    rename_i kt et hm
    split at e
    · cases e
    rename_i i hi
    simp only [ho, hdk, hm, hi]
    exact mapEntryX_to (hd hdk) e
  · rename_i t x sx v ho
    split at e
    · cases e
    rename_i hdk
    simp only [ho, hdk]
    exact entryStoreX_to (hd hdk) e
  · rename_i t rs ho
    split at e
    · cases e
    rename_i hdk
    split at e
    · cases e
    rename_i ke hm
    simp only [ho, hdk, hm]
    exact makeMapX_to (hd hdk) e
  · rename_i t x ix ok ho
    split at e
    · cases e
    rename_i hdk
    split at e
    · cases e
    rename_i kt et hm
    split at e
    · cases e
    rename_i i hi
    simp only [ho, hdk, hm, hi]
    exact lookupX_to (hd hdk) e
  · rename_i t x ix v ho
    split at e
    · cases e
    rename_i hdk
    split at e
    · cases e
    rename_i kt et hm
    simp only [ho, hdk, hm]
    exact mapUpdateX_to (hd hdk) e
  · rename_i t x ix v ho
    split at e
    · cases e
    rename_i hdk
    split at e
    · cases e
    rename_i kt et hm
    simp only [ho, hdk, hm]
    exact mapUpdateX_to (hd hdk) e
  · rename_i h1 h2 h3 h4 h5 ha hb h6 h7 h8 h9
    have := xOpA_to (P := P) (esc := esc) hN e
    split
    · rename_i ho; exact absurd ho (h1 _ _ _)
    · rename_i ho; exact absurd ho (h2 _ _ _)
    · rename_i ho; exact absurd ho (h3 _ _ _)
    · rename_i ho; exact absurd ho (h4 _ _ _ _ _)
    · rename_i ho; exact absurd ho (h5 _)
    · rename_i ho; exact absurd ho (ha _ _ _)
    · rename_i ho; exact absurd ho (hb _ _ _ _)
    · rename_i ho; exact absurd ho (h6 _ _)
    · rename_i ho; exact absurd ho (h7 _ _ _ _)
    · rename_i ho; exact absurd ho (h8 _ _ _ _)
    · rename_i ho; exact absurd ho (h9 _ _ _ _)
    · exact this

end
end Go.Lift
