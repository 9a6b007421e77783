/- A part of the proof (own lemmas, no condition beyond those that each theorem states): the layer over the model that all of the proofs of this seat stand on. -/
import Derived.Test.YtdgnciclfeojnaaGreatDoorLiftO
set_option linter.unusedVariables false
set_option linter.unusedSectionVars false
set_option linter.unusedSimpArgs false
namespace Go.Lift
open Go Go.RowKit
variable [G : Glob]

def byteA (b : UInt8) : AV := .int .u8 b.toNat

def isNil {α : Type} : List α → Bool
  | [] => true
  | _ => false

/-- The elements of a row of k-celled elements; of nothing, whatever it is of. -/
def elsA (k : Nat) (g : Bool) (k' : Nat) (g' : Bool) (els : List AV) : Option (List AV) :=
  match Nat.beq k k' && (g == g') with
  | true => some els
  | false => match els with
    | [] => some []
    | _ => none

def srcA (k : Nat) (g : Bool) : AV → Option (List AV)
  | .sl k' g' els _ => elsA k g k' g' els
  | .str s => match Nat.beq k 1 && !g with
    | true => some (s.map byteA)
    | false => none
  | _ => none

/-- The element type's zero value is as it should be. -/
def zOK (i : TInfo) : Bool := (ofVal i.zero).known && (ofVal i.zero).plain && Nat.beq (ofVal i.zero).cells.length i.size && ((ofVal i.zero).isAgg == i.desc.agg) && (ofVal i.zero).cells.all AV.one && Nat.ble 1 i.size && Nat.ble 1 i.bytes

def evAppend (dst : Option Tmp) (i : TInfo) (base src : AV) (env : Env) (loc : Loc) (h : Heap) (K : Kt) : Prop :=
  match zOK i with
  | false => False
  | true => match base with
    | .sl k g els cap => match srcA i.size i.desc.agg src with
      | none => False
      | some new => match cap with
        | .own t => match Nat.beq i.size k && (i.desc.agg == g) with
          | false => False
          | true => h t = some .tail ∧ (els.length + new.length) * i.bytes ≤ 140737488355328 ∧ ∀ t', h t' = none → K (putE env dst (.sl k g (els ++ new) (.own t'))) loc (updH (updH h t none) t' (some .tail))
        | .full => match elsA i.size i.desc.agg k g els with
          | none => False
          | some els => branch' (isNil new) (K (putE env dst (.sl i.size i.desc.agg els .full)) loc h)
              ((els.length + new.length) * i.bytes ≤ 140737488355328 ∧ ∀ t', h t' = none → K (putE env dst (.sl i.size i.desc.agg (els ++ new) (.own t'))) loc (updH h t' (some .tail)))
        | .no => False
    | _ => False
where branch' (b : Bool) (X Y : Prop) : Prop := match b with
  | true => X
  | false => Y

def idxOK : Nat → List (Nat × AV) → Bool
  | _, [] => true
  | n, (i, _) :: r => Nat.beq n i && idxOK (n + 1) r

def evBuildSlice (esc : Nat → Bool) (dst : Option Tmp) (i : TInfo) (len : Nat) (ps : List (Nat × AV)) (env : Env) (loc : Loc) (h : Heap) (K : Kt) : Prop :=
  match dst with
  | none => False
  | some d => match zOK i && idxOK 0 ps && Nat.beq ps.length len && ps.all (fun p => storeOK p.2 && Nat.beq p.2.cells.length i.size && (p.2.isAgg == i.desc.agg)) && Nat.ble (len * i.size) 16777216 with
    | false => False
    | true => match esc d with
      | false => K (updE env d (.sl i.size i.desc.agg (ps.map (·.2)) .full)) loc h
      | true => ∀ id, h id = none → K (updE env d (.row id 0 len len)) loc (updH h id (some (.cells (flat (ps.map (·.2))))))

def zerosA (k : Nat) (zs : List AV) (n : Nat) : List AV :=
  match zs with
  | [z] => List.replicate n z
  | zs => (List.replicate n zs).flatten

def evMakeSlice (esc : Nat → Bool) (dst : Option Tmp) (i : TInfo) (lv cv : AV) (env : Env) (loc : Loc) (h : Heap) (K : Kt) : Prop :=
  match dst with
  | none => False
  | some d => match zOK i with
    | false => False
    | true => match lv, cv with
      | .int _ n, .int _ c => (0 ≤ n ∧ n ≤ c ∧ (i.bytes : Int) * c ≤ 281474976710656) ∧ match esc d with
        | false => ∀ t, h t = none → K (updE env d (.sl i.size i.desc.agg (List.replicate n.toNat (ofVal i.zero)) (.own t))) loc (updH h t (some .tail))
        | true => ∀ id, h id = none → K (updE env d (.row id 0 n.toNat c.toNat)) loc (updH h id (some (.cells (zerosA i.size (ofVal i.zero).cells c.toNat))))
      | _, _ => False

def isBytes (ty : Tys) (t : TypeId) : Bool :=
  match ty t with
  | some ⟨.slice e, _, _, _⟩ => match ty e with
    | some ⟨.int .u8, _, _, _⟩ => true
    | _ => false
  | _ => false
def isStr (ty : Tys) (t : TypeId) : Bool :=
  match ty t with
  | some ⟨.str, _, _, _⟩ => true
  | _ => false

/-- Bytes of a string, a string of bytes. -/
def evBytes (dst : Option Tmp) (x : AV) (env : Env) (loc : Loc) (h : Heap) (K : Kt) : Prop :=
  match x with
  | .str s => s.length ≤ 9223372036854775807 ∧ K (putE env dst (.sl 1 false (s.map byteA) .no)) loc h
  | .sl k _ els _ => match Nat.beq k 1 with
    | false => False
    | true => ∃ s, els = s.map byteA ∧ K (putE env dst (.str s)) loc h
  | .row id off len _ => ∃ cs s, h id = some (.cells cs) ∧ off + len ≤ cs.length ∧ (cs.drop off).take len = s.map byteA ∧ K (putE env dst (.str s)) loc h
  | _ => False

def nilQ : Operand → Bool
  | .const (.slice none 0 0) => true
  | _ => false

/-- Is a slice nil? Nothing is known but that a nil slice has no elements. -/
def evNilS (dst : Option Tmp) (op : BinOp) (x : AV) (env : Env) (loc : Loc) (h : Heap) (K : Kt) : Prop :=
  match x with
  | .sl k _ els _ => match op with
    | .eql => ∀ b : Bool, (b = true → els = [] ∨ k = 0) → K (putE env dst (.bool b)) loc h
    | .neq => ∀ b : Bool, (b = true → els = [] ∨ k = 0) → K (putE env dst (.bool !b)) loc h
    | _ => False
  | .row _ _ _ _ => match op with
    | .eql => K (putE env dst (.bool false)) loc h
    | .neq => K (putE env dst (.bool true)) loc h
    | _ => False
  | _ => False

def isSl (ty : Tys) (t : TypeId) : Bool :=
  match ty t with
  | some ⟨.slice _, _, _, _⟩ => true
  | _ => false

/-- Every operation. -/
def evOp (P : Program) (ty : Tys) (N : Nat) (esc : Nat → Bool) (o : Oper) (env : Env) (loc : Loc) (h : Heap) (K : Kt) : Prop :=
  match o.op with
  | .buildSlice t len ps => match dstOK N o.dst with
    | false => False
    | true => match ty t with
      | some ⟨.slice e, _, _, _⟩ => match ty e with
        | some i => evBuildSlice esc o.dst i len (ps.toList.map fun p => (p.1, evO env p.2)) env loc h K
        | none => False
      | _ => False
  | .makeSlice t lv cv => match dstOK N o.dst with
    | false => False
    | true => match ty t with
      | some ⟨.slice e, _, _, _⟩ => match ty e with
        | some i => evMakeSlice esc o.dst i (evO env lv) (evO env cv) env loc h K
        | none => False
      | _ => False
  | .convert s d x => match (isBytes ty s && isStr ty d) || (isStr ty s && isBytes ty d) with
    | true => match dstOK N o.dst with
      | false => False
      | true => match isStr ty s, evO env x with
        | true, .str b => evBytes o.dst (.str b) env loc h K
        | false, .sl k g els c => evBytes o.dst (.sl k g els c) env loc h K
        | false, .row a b c d => evBytes o.dst (.row a b c d) env loc h K
        | _, _ => False
    | false => evOpA P ty N esc o env loc h K
  | .binOp op t x y _ => match nilQ y && isSl ty t with
    | true => match dstOK N o.dst with
      | false => False
      | true => evNilS o.dst op (evO env x) env loc h K
    | false => evOpA P ty N esc o env loc h K
  | .call c => match c.callee with
    | .builtin .append => match dstOK N o.dst with
      | false => False
      | true => match c.argTypes.toList, c.args.toList with
        | [t, u], [x, y] => match ty t with
          | some ⟨.slice e, _, _, _⟩ => match ty e with
            | some i => match ty u with
              | some ⟨.slice _, _, _, _⟩ => evAppend o.dst i (evO env x) (evO env y) env loc h K
              | some ⟨.str, _, _, _⟩ => evAppend o.dst i (evO env x) (evO env y) env loc h K
              | _ => False
            | none => False
          | _ => False
        | _, _ => False
    | _ => evOpA P ty N esc o env loc h K
  | _ => evOpA P ty N esc o env loc h K

section
variable {P : Program} {ty : Tys} {N : Nat} {E : Ent} {M : Mem} {ρ : Rho} {l : Lam} {env : Env} {loc : Loc} {h : Heap} {a : Act} {w : World} {esc : Nat → Bool} {S : Nat → Prop}

theorem elsA_sound {k k' : Nat} {g g' : Bool} {els new : List AV} {cap : Cap} {v : Value} (hk : 1 ≤ k) (he : elsA k g k' g' els = some new) (hc : cap = .full ∨ cap = .no ∨ (Nat.beq k k' && (g == g')) = true) (hv : Rel M ρ (.sl k' g' els cap) v) : Rel M ρ (.sl k g new cap) v := by
  unfold elsA at he
  split at he
  · rename_i hb
    simp only [Bool.and_eq_true, beq_iff_eq] at hb
    have := Nat.eq_of_beq_eq_true hb.1
    cases he
    rw [this, hb.2]; exact hv
  · rename_i hb
    have hc : cap = .full ∨ cap = .no := by
      rcases hc with h | h | h
      · exact .inl h
      · exact .inr h
      · rw [h] at hb; cases hb
    split at he
    · cases he
      cases hv with
      | sl _ _ _ _ ao n c hn hm hk' cv hv h hcap =>
        simp at hn
        subst hn
        refine .sl k g [] cap ao 0 c rfl (by omega) (fun i hi => by omega) (fun _ _ => Go.undef) (fun i j hi => by omega) (fun i j hi => by omega) ?_
        rcases hc with e | e <;> subst e <;> exact hcap
    · cases he

theorem zOK_to {i : TInfo} (h : zOK i = true) : (ofVal i.zero).known = true ∧ (ofVal i.zero).cells.length = i.size ∧ (ofVal i.zero).isAgg = i.desc.agg ∧ (ofVal i.zero).cells.all AV.one = true ∧ 1 ≤ i.size ∧ 1 ≤ i.bytes := by
  simp only [zOK, Bool.and_eq_true, beq_iff_eq] at h
  obtain ⟨⟨⟨⟨⟨⟨h1, h2⟩, h3⟩, h4⟩, h5⟩, h6⟩, h7⟩ := h
  exact ⟨h1, Nat.eq_of_beq_eq_true h3, h4, h5, Nat.le_of_ble_eq_true h6, Nat.le_of_ble_eq_true h7⟩

theorem map_byteA_flat (s : List UInt8) : flat (s.map byteA) = s.map byteA := by
  induction s with
  | nil => rfl
  | cons b r ih =>
    simp only [flat, List.map_cons, List.flatMap_cons] at ih ⊢
    rw [ih]; rfl

theorem rels_bytes (s : List UInt8) : Rels M ρ (s.map byteA) (byteCells ⟨s.toArray⟩).toArray := by
  refine ⟨by simp [byteCells], fun i hi => ?_⟩
  simp at hi
  have e1 : (s.map byteA).getD i .undef = byteA s[i] := by simp [List.getD_eq_getElem?_getD, hi]
  have e2 : (byteCells ⟨s.toArray⟩).toArray.getD i Go.undef = .int .u8 s[i].toNat := by simp [byteCells, Array.getD_eq_getD_getElem?, hi]
  rw [e1, e2]
  exact .int _ _

/-- What is appended. -/
theorem srcA_sound {k : Nat} {g : Bool} {x : AV} {v : Value} {new : List AV} {tx : TypeId} {d : TypeDesc} (hk : 1 ≤ k) (hs : srcA k g x = some new) (hv : Rel M ρ x v) (hd : P.underlying tx = some d) (ht : (∃ e, d = .slice e) ∨ d = .string) (hm : ∀ a u, M a = some u → w.cell? a = some u) :
    ∃ news : List Value, Src P k tx v new.length news w ∧ Rels M ρ (flat new) news.toArray ∧ (∀ x ∈ new, elemOK k g x) := by
  have hkind : (∃ e', P.underlying tx = some (.slice e')) ∨ P.underlying tx = some .string := by
    rcases ht with ⟨e, rfl⟩ | rfl
    · exact .inl ⟨e, hd⟩
    · exact .inr hd
  have ofSl : ∀ {els : List AV} {cap : Cap} {v : Value}, Rel M ρ (.sl k g els cap) v → ∃ news : List Value, Src P k tx v els.length news w ∧ Rels M ρ (flat els) news.toArray ∧ (∀ x ∈ els, elemOK k g x) := by
    intro els cap v hv
    obtain ⟨ao, n, c, vs, rfl, hn, hm', hc, hkk, hl, hr, h1, hmem⟩ := sl_flat hv
    refine ⟨vs, ?_, hr, hkk⟩
    have cells : ∀ w' : World, (∀ a, w'.cell? a = w.cell? a) → (Builtin.firstCells k n (.slice ao n c)).run P w' = .ok vs.toArray w' := by
      intro w' hw'
      cases ao with
      | none =>
        cases vs with
        | nil => exact run_firstCells_none w' k n n c
        | cons v r =>
          obtain ⟨ad, e, _⟩ := hmem 0 v rfl
          cases e
      | some ad =>
        refine run_firstCells_some w' k n ad n c vs hl fun j u hj => ?_
        obtain ⟨ad', e, hmm⟩ := hmem j u hj
        cases e
        rw [hw']
        exact hm _ _ hmm
    exact ⟨hkind, fun _ => by rw [← hn]; rfl, by rw [← hn]; exact cells w fun _ => rfl, by rw [← hn]; exact cells w.drew fun _ => rfl, by rw [hl, hn], h1⟩
  cases x with
  | sl k' g' els cap =>
    have h0 : cap = .full ∨ cap = .no ∨ ∃ t, cap = .own t := by cases cap <;> simp
    have hs' := hs
    simp only [srcA] at hs
    rcases h0 with e | e | ⟨t, e⟩
    · exact ofSl (elsA_sound hk hs (.inl e) hv)
    · exact ofSl (elsA_sound hk hs (.inr (.inl e)) hv)
    · have hno : Rel M ρ (.sl k' g' els .no) v := by
        cases hv with
        | sl _ _ _ _ ao n c hn hm hk' cv hv h hcap =>
          refine .sl k' g' els .no ao n c hn hm hk' cv hv h ?_
          subst e
          obtain ⟨p, o, _, _, _, _, hle⟩ := hcap
          exact hle
      exact ofSl (elsA_sound hk hs (.inr (.inl rfl)) hno)
  | str s =>
    simp only [srcA] at hs
    split at hs
    · rename_i hb
      simp only [Bool.and_eq_true, Bool.not_eq_true'] at hb
      have hk1 := Nat.eq_of_beq_eq_true hb.1
      cases hs
      subst hk1
      cases hv
      have hsz : (⟨s.toArray⟩ : ByteArray).size = s.length := str_size s
      refine ⟨byteCells ⟨s.toArray⟩, ⟨hkind, fun w' => ?_, ?_, ?_, ?_, fun u hu => ?_⟩, ?_, fun x hx => ?_⟩
      · simp [Builtin.lenOf, hsz]
      · have := firstCells_string (P := P) ⟨s.toArray⟩ w
        simpa [hsz] using this
      · have := firstCells_string (P := P) ⟨s.toArray⟩ w.drew
        simpa [hsz] using this
      · rw [byteCells_length, hsz]; simp
      · obtain ⟨_, _, rfl⟩ := List.mem_map.1 hu
        rfl
      · rw [map_byteA_flat]; exact rels_bytes s
      · obtain ⟨b, _, rfl⟩ := List.mem_map.1 hx
        exact ⟨rfl, rfl, hb.2.symm⟩
    · cases hs
  | _ => simp [srcA] at hs

end
end Go.Lift
