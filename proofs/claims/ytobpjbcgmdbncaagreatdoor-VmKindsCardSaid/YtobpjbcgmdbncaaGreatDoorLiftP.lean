/- A part of the proof (own lemmas, no condition beyond those that each theorem states): the layer over the model that all of the proofs of this seat stand on. -/
import Derived.Test.YtobpjbcgmdbncaaGreatDoorLiftO
set_option linter.unusedVariables false
set_option linter.unusedSectionVars false
set_option linter.unusedSimpArgs false
namespace Go.Lift
open Go Go.RowKit
variable [G : Glob]

def byteA (b : UInt8) : AV := .int .u8 b.toNat

def isNil {α : Type} : List α → Bool
  | [] => true
  | _ => false

/-- The elements of a row of k-celled elements; of nothing, whatever it is of. -/
def elsA (k : Nat) (g : Bool) (k' : Nat) (g' : Bool) (els : List AV) : Option (List AV) :=
  match Nat.beq k k' && (g == g') with
  | true => some els
  | false => match els with
    | [] => some []
    | _ => none

def srcA (k : Nat) (g : Bool) : AV → Option (List AV)
  | .sl k' g' els _ => elsA k g k' g' els
  | .str s => match Nat.beq k 1 && !g with
    | true => some (s.map byteA)
    | false => none
  | _ => none

/-- The element type's zero value is as it should be. -/
def zOK (i : TInfo) : Bool := (ofVal i.zero).known && (ofVal i.zero).plain && Nat.beq (ofVal i.zero).cells.length i.size && ((ofVal i.zero).isAgg == i.desc.agg) && (ofVal i.zero).cells.all AV.one && Nat.ble 1 i.size && Nat.ble 1 i.bytes

/-- Elements of k cells each, out of cells. -/
def chunks (k : Nat) (g : Bool) (n : Nat) (cs : List AV) : List AV :=
  match g with
  | false => cs.take n
  | true => (List.range n).map fun j => .agg ((cs.drop (j * k)).take k)

/-- What an append takes: of a row that is written, what it holds now. -/
def srcK (k : Nat) (g : Bool) (h : Heap) (y : AV) (K : List AV → Prop) : Prop :=
  match y with
  | .row id off len _ => match g || Nat.beq k 1 with
    | false => False
    | true => ∃ cs, h id = some (.cells cs) ∧ off + len * k ≤ cs.length ∧ (((cs.drop off).take (len * k)).all AV.one = true) ∧ len ≤ 9223372036854775807 ∧ K (chunks k g len (cs.drop off))
  | y => match srcA k g y with
    | none => False
    | some new => K new

def branch' (b : Bool) (X Y : Prop) : Prop := match b with
  | true => X
  | false => Y

def evAppend (esc : Nat → Bool) (fr : Option Nat) (dst : Option Tmp) (i : TInfo) (base src : AV) (env : Env) (loc : Loc) (h : Heap) (K : Kt) : Prop :=
  match dst with
  | none => False
  | some d => match zOK i with
    | false => False
    | true => match base with
      | .sl k g els cap => srcK i.size i.desc.agg h src fun new => match cap.fulls with
          | .own t => match Nat.beq i.size k && (i.desc.agg == g) && !esc d with
            | false => False
            | true => h t = some .tail ∧ (els.length + new.length) * i.bytes ≤ 140737488355328 ∧ Fresh fr h fun t' => K (updE env d (.sl k g (els ++ new) (.own t'))) loc (updH (updH h t none) t' (some .tail))
          | .full => match elsA i.size i.desc.agg k g els with
            | none => False
            | some els => branch' (isNil new) (K (updE env d (.sl i.size i.desc.agg els .full)) loc h)
                ((els.length + new.length) * i.bytes ≤ 140737488355328 ∧ match esc d with
                  | false => Fresh fr h fun t' => K (updE env d (.sl i.size i.desc.agg (els ++ new) (.own t'))) loc (updH h t' (some .tail))
                  | true => Fresh fr h fun id => K (updE env d (.row id 0 (els.length + new.length) none)) loc (updH h id (some (.cells (flat els ++ flat new)))))
          | _ => False
      | .row id off len cap => srcK i.size i.desc.agg h src fun new => match cap with
          | none => False
          | some c => ∃ cs, h id = some (.cells cs) ∧ off + len * i.size ≤ cs.length ∧ branch' (Nat.ble (len + new.length) c)
              (off + (len + new.length) * i.size ≤ cs.length ∧ len + new.length ≤ 9223372036854775807 ∧ K (updE env d (.row id off (len + new.length) (some c))) loc (updH h id (some (.cells (putCells cs (off + len * i.size) (flat new))))))
              ((((cs.drop off).take (len * i.size)).all AV.one = true) ∧ (len + new.length) * i.bytes ≤ 140737488355328 ∧ Fresh fr h fun id' => K (updE env d (.row id' 0 (len + new.length) none)) loc (updH h id' (some (.cells ((cs.drop off).take (len * i.size) ++ flat new)))))
      | _ => False

def idxOK : Nat → List (Nat × AV) → Bool
  | _, [] => true
  | n, (i, _) :: r => Nat.beq n i && idxOK (n + 1) r

def evBuildSlice (esc : Nat → Bool) (fr : Option Nat) (dst : Option Tmp) (i : TInfo) (len : Nat) (ps : List (Nat × AV)) (env : Env) (loc : Loc) (h : Heap) (K : Kt) : Prop :=
  match dst with
  | none => False
  | some d => match zOK i && idxOK 0 ps && Nat.beq ps.length len && ps.all (fun p => storeOK p.2 && Nat.beq p.2.cells.length i.size && (p.2.isAgg == i.desc.agg)) && Nat.ble (len * i.size) 16777216 with
    | false => False
    | true => match esc d with
      | false => K (updE env d (.sl i.size i.desc.agg (ps.map (·.2)) .full)) loc h
      | true => Fresh fr h fun id => K (updE env d (.row id 0 len (some len))) loc (updH h id (some (.cells (flat (ps.map (·.2))))))

def zerosA (k : Nat) (zs : List AV) (n : Nat) : List AV :=
  match zs with
  | [z] => List.replicate n z
  | zs => (List.replicate n zs).flatten

def evMakeSlice (esc : Nat → Bool) (fr : Option Nat) (dst : Option Tmp) (i : TInfo) (lv cv : AV) (env : Env) (loc : Loc) (h : Heap) (K : Kt) : Prop :=
  match dst with
  | none => False
  | some d => match zOK i with
    | false => False
    | true => match lv, cv with
      | .int _ n, .int _ c => (0 ≤ n ∧ n ≤ c ∧ (i.bytes : Int) * c ≤ 281474976710656) ∧ match esc d with
        | false => Fresh fr h fun t => K (updE env d (.sl i.size i.desc.agg (List.replicate n.toNat (ofVal i.zero)) (.own t))) loc (updH h t (some .tail))
        | true => Fresh fr h fun id => K (updE env d (.row id 0 n.toNat (some c.toNat))) loc (updH h id (some (.cells (zerosA i.size (ofVal i.zero).cells c.toNat))))
      | _, _ => False

def isBytes (ty : Tys) (t : TypeId) : Bool :=
  match ty t with
  | some ⟨.slice e, _, _, _⟩ => match ty e with
    | some ⟨.int .u8, _, _, _⟩ => true
    | _ => false
  | _ => false
def isStr (ty : Tys) (t : TypeId) : Bool :=
  match ty t with
  | some ⟨.str, _, _, _⟩ => true
  | _ => false

/-- Bytes of a string, a string of bytes. -/
def evBytes (dst : Option Tmp) (x : AV) (env : Env) (loc : Loc) (h : Heap) (K : Kt) : Prop :=
  match x with
  | .str s => s.length ≤ 9223372036854775807 ∧ K (putE env dst (.sl 1 false (s.map byteA) .no)) loc h
  | .sl k _ els _ => match Nat.beq k 1 with
    | false => False
    | true => ∃ s, els = s.map byteA ∧ K (putE env dst (.str s)) loc h
  | .row id off len _ => ∃ cs s, h id = some (.cells cs) ∧ off + len ≤ cs.length ∧ (cs.drop off).take len = s.map byteA ∧ K (putE env dst (.str s)) loc h
  | _ => False

def nilQ : Operand → Bool
  | .const (.slice none 0 0) => true
  | _ => false

/-- Is a slice nil? Nothing is known but that a nil slice has no elements. -/
def evNilS (dst : Option Tmp) (op : BinOp) (x : AV) (env : Env) (loc : Loc) (h : Heap) (K : Kt) : Prop :=
  match x with
  | .sl k _ els cap => match cap with
    | .nil => match op with
      | .eql => K (putE env dst (.bool true)) loc h
      | .neq => K (putE env dst (.bool false)) loc h
      | _ => False
    | _ => match op with
      | .eql => ∀ b : Bool, (b = true → els = [] ∨ k = 0) → K (putE env dst (.bool b)) loc h
      | .neq => ∀ b : Bool, (b = true → els = [] ∨ k = 0) → K (putE env dst (.bool !b)) loc h
      | _ => False
  | .row _ _ _ _ => match op with
    | .eql => K (putE env dst (.bool false)) loc h
    | .neq => K (putE env dst (.bool true)) loc h
    | _ => False
  | _ => False

def isSl (ty : Tys) (t : TypeId) : Bool :=
  match ty t with
  | some ⟨.slice _, _, _, _⟩ => true
  | _ => false

/-! ### Maps -/
/-- A struct's fields, a cell each. -/
def keyFs (ty : Tys) (xs ys : List AV) : List (Nat × TypeId × Bool) → Nat → Option Bool
  | [], off => match Nat.beq xs.length off && Nat.beq ys.length off with
    | true => some true
    | false => none
  | (o, t, blank) :: r, off => match Nat.beq o off && !blank with
    | true => match eq1 ty t (xs.getD o .undef) (ys.getD o .undef), keyFs ty xs ys r (off + 1) with
      | some a, some b => some (a && b)
      | _, _ => none
    | false => none

/-- Are two keys the same? -/
def keyEq (ty : Tys) (t : TypeId) (x y : AV) : Option Bool :=
  match ty t with
  | some ⟨.bool, _, _, _⟩ => match x, y with
    | .bool a, .bool b => some (a == b)
    | _, _ => none
  | some ⟨.int kk, _, _, _⟩ => match x, y with
    | .int k a, .int k' b => match decide (k = kk) && decide (k' = kk) with
      | true => some (a == b)
      | false => none
    | _, _ => none
  | some ⟨.str, _, _, _⟩ => match x, y with
    | .str a, .str b => some (a == b)
    | _, _ => none
  | some ⟨.struct fs false false, _, _, _⟩ => match x, y with
    | .agg xs, .agg ys => keyFs ty xs ys fs 0
    | _, _ => none
  | _ => none

/-- The first entry of a key: its number, its value. -/
def findA (eq : AV → AV → Option Bool) (key : AV) : List (AV × AV) → Nat → Option (Option (Nat × AV))
  | [], _ => some none
  | (k, v) :: r, i => match eq key k with
    | some true => some (some (i, v))
    | some false => findA eq key r (i + 1)
    | none => none

def setA (es : List (AV × AV)) (key v : AV) : Option (Nat × AV) → List (AV × AV)
  | some (i, _) => es.set i (key, v)
  | none => es ++ [(key, v)]

/-- May a value be a key of the type? -/
def keyOK (ty : Tys) (t : TypeId) (x : AV) : Bool :=
  match keyEq ty t x x with
  | some _ => true
  | none => false

def evMakeMap (fr : Option Nat) (dst : Option Tmp) (rs : Option AV) (env : Env) (loc : Loc) (h : Heap) (K : Kt) : Prop :=
  match dst with
  | none => False
  | some d => match rs with
    | none => Fresh fr h fun id => K (updE env d (.map id)) loc (updH h id (some (.map [] true)))
    | some (.int _ _) => Fresh fr h fun id => K (updE env d (.map id)) loc (updH h id (some (.map [] true)))
    | some _ => False

def foundV (ok : Bool) (z : AV) : Option (Nat × AV) → AV
  | some (_, v) => match ok with
    | true => .tuple [v, .bool true]
    | false => v
  | none => match ok with
    | true => .tuple [z, .bool false]
    | false => z

def evLookup (ty : Tys) (dst : Option Tmp) (kt : TypeId) (e : TInfo) (x key : AV) (ok : Bool) (env : Env) (loc : Loc) (h : Heap) (K : Kt) : Prop :=
  match keyOK ty kt key && (ofVal e.zero).known with
  | false => False
  | true => match x with
    | .map id => ∃ es c r, h id = some (.map es c) ∧ findA (keyEq ty kt) key es 0 = some r ∧ K (putE env dst (foundV ok (ofVal e.zero) r)) loc h
    | _ => False

def evMapUpdate (ty : Tys) (dst : Option Tmp) (kt : TypeId) (x key v : AV) (env : Env) (loc : Loc) (h : Heap) (K : Kt) : Prop :=
  match keyOK ty kt key && v.plain with
  | false => False
  | true => match x with
    | .map id => ∃ es c r, h id = some (.map es c) ∧ findA (keyEq ty kt) key es 0 = some r ∧ K (putE env dst .undef) loc (updH h id (some (.map (setA es key v r) c)))
    | _ => False

def evMapLen (dst : Option Tmp) (x : AV) (env : Env) (loc : Loc) (h : Heap) (K : Kt) : Prop :=
  match x with
  | .map id => ∃ es c, h id = some (.map es c) ∧ K (putE env dst (.int .i64 es.length)) loc h
  | _ => False

def delA (es : List (AV × AV)) : Option (Nat × AV) → List (AV × AV)
  | some (i, _) => es.eraseIdx i
  | none => es

def evDelete (ty : Tys) (dst : Option Tmp) (kt : TypeId) (x key : AV) (env : Env) (loc : Loc) (h : Heap) (K : Kt) : Prop :=
  match keyOK ty kt key with
  | false => False
  | true => match x with
    | .map id => ∃ es c r, h id = some (.map es c) ∧ findA (keyEq ty kt) key es 0 = some r ∧ K (putE env dst .undef) loc (updH h id (some (.map (delA es r) false)))
    | _ => False

/-- The place of a key, made if it was not: its value, its number. -/
def evMapEntry (ty : Tys) (dst : Option Tmp) (kt : TypeId) (e : TInfo) (x key : AV) (env : Env) (loc : Loc) (h : Heap) (K : Kt) : Prop :=
  match keyOK ty kt key && (ofVal e.zero).known with
  | false => False
  | true => match x with
    | .map id => ∃ es r, h id = some (.map es true) ∧ findA (keyEq ty kt) key es 0 = some r ∧ match r with
      | some (i, v) => K (putE env dst (.tuple [v, .int .i64 i])) loc (updH h id (some (.map (es.set i (key, v)) true)))
      | none => K (putE env dst (.tuple [ofVal e.zero, .int .i64 es.length])) loc (updH h id (some (.map (es ++ [(key, ofVal e.zero)]) true)))
    | _ => False

def evEntryStore (dst : Option Tmp) (x st v : AV) (env : Env) (loc : Loc) (h : Heap) (K : Kt) : Prop :=
  match v.plain with
  | false => False
  | true => match x, st with
    | .map id, .int _ (.ofNat i) => ∃ es, h id = some (.map es true) ∧ i < es.length ∧ K (putE env dst .undef) loc (updH h id (some (.map (es.set i ((es.getD i (.undef, .undef)).1, v)) true)))
    | _, _ => False

def mapOf (ty : Tys) (t : TypeId) : Option (TypeId × TypeId) :=
  match ty t with
  | some ⟨.map k e, _, _, _⟩ => some (k, e)
  | _ => none

/-- Every operation. -/
def evOp (P : Program) (ty : Tys) (N : Nat) (esc : Nat → Bool) (fr : Option Nat) (o : Oper) (env : Env) (loc : Loc) (h : Heap) (K : Kt) : Prop :=
  match o.op with
  | .buildSlice t len ps => match dstOK N o.dst with
    | false => False
    | true => match ty t with
      | some ⟨.slice e, _, _, _⟩ => match ty e with
        | some i => evBuildSlice esc fr o.dst i len (ps.toList.map fun p => (p.1, evO env p.2)) env loc h K
        | none => False
      | _ => False
  | .makeSlice t lv cv => match dstOK N o.dst with
    | false => False
    | true => match ty t with
      | some ⟨.slice e, _, _, _⟩ => match ty e with
        | some i => evMakeSlice esc fr o.dst i (evO env lv) (evO env cv) env loc h K
        | none => False
      | _ => False
  | .convert s d x => match (isBytes ty s && isStr ty d) || (isStr ty s && isBytes ty d) with
    | true => match dstOK N o.dst with
      | false => False
      | true => match isStr ty s, evO env x with
        | true, .str b => evBytes o.dst (.str b) env loc h K
        | false, .sl k g els c => evBytes o.dst (.sl k g els c) env loc h K
        | false, .row a b c d => evBytes o.dst (.row a b c d) env loc h K
        | _, _ => False
    | false => evOpA P ty N esc fr o env loc h K
  | .binOp op t x y _ => match nilQ y && isSl ty t with
    | true => match dstOK N o.dst with
      | false => False
      | true => evNilS o.dst op (evO env x) env loc h K
    | false => evOpA P ty N esc fr o env loc h K
  | .call c => match c.callee with
    | .builtin .append => match dstOK N o.dst with
      | false => False
      | true => match c.argTypes.toList, c.args.toList with
        | [t, u], [x, y] => match ty t with
          | some ⟨.slice e, _, _, _⟩ => match ty e with
            | some i => match ty u with
              | some ⟨.slice _, _, _, _⟩ => evAppend esc fr o.dst i (evO env x) (evO env y) env loc h K
              | some ⟨.str, _, _, _⟩ => evAppend esc fr o.dst i (evO env x) (evO env y) env loc h K
              | _ => False
            | none => False
          | _ => False
        | _, _ => False
    | .builtin .len => match c.argTypes.toList, c.args.toList with
      | [t], [x] => match mapOf ty t with
        | none => evOpA P ty N esc fr o env loc h K
        | some _ => match dstOK N o.dst with
          | false => False
          | true => evMapLen o.dst (evO env x) env loc h K
      | _, _ => evOpA P ty N esc fr o env loc h K
    | .builtin .delete => match c.argTypes.toList, c.args.toList with
      | t :: _, [x, k] => match mapOf ty t with
        | none => False
        | some (kt, _) => match dstOK N o.dst with
          | false => False
          | true => evDelete ty o.dst kt (evO env x) (evO env k) env loc h K
      | _, _ => False
    | _ => evOpA P ty N esc fr o env loc h K
  | .mapEntry t x k => match dstOK N o.dst with
    | false => False
    | true => match mapOf ty t with
      | none => False
      | some (kt, et) => match ty et with
        | none => False
        | some e => evMapEntry ty o.dst kt e (evO env x) (evO env k) env loc h K
  | .entryStore t x st v => match dstOK N o.dst with
    | false => False
    | true => evEntryStore o.dst (evO env x) (evO env st) (evO env v) env loc h K
  | .makeMap t rs => match dstOK N o.dst with
    | false => False
    | true => match mapOf ty t with
      | none => False
      | some _ => evMakeMap fr o.dst (rs.map (evO env)) env loc h K
  | .lookup t x ix ok => match dstOK N o.dst with
    | false => False
    | true => match mapOf ty t with
      | none => False
      | some (kt, et) => match ty et with
        | none => False
        | some e => evLookup ty o.dst kt e (evO env x) (evO env ix) ok env loc h K
  | .mapUpdate t x ix v => match dstOK N o.dst with
    | false => False
    | true => match mapOf ty t with
      | none => False
      | some (kt, _) => evMapUpdate ty o.dst kt (evO env x) (evO env ix) (evO env v) env loc h K
  | .insert t x ix v => match dstOK N o.dst with
    | false => False
    | true => match mapOf ty t with
      | none => False
      | some (kt, _) => evMapUpdate ty o.dst kt (evO env x) (evO env ix) (evO env v) env loc h K
  | _ => evOpA P ty N esc fr o env loc h K

section
variable {P : Program} {ty : Tys} {N : Nat} {E : Ent} {M : Mem} {ρ : Rho} {l : Lam} {env : Env} {loc : Loc} {h : Heap} {a : Act} {w : World} {esc : Nat → Bool} {fr : Option Nat} {st : Bool}

theorem Rel.fulls {k : Nat} {g : Bool} {els : List AV} {cap : Cap} {v : Value} (hv : Rel M ρ (.sl k g els cap) v) : Rel M ρ (.sl k g els cap.fulls) v := by
  cases cap with
  | nil =>
    cases hv with
    | sl _ _ _ _ ao n c hn hm hk' cv hv h hcap => exact .sl k g els .full ao n c hn hm hk' cv hv h hcap.1
  | _ => exact hv

theorem elsA_sound {k k' : Nat} {g g' : Bool} {els new : List AV} {cap : Cap} {v : Value} (hk : 1 ≤ k) (he : elsA k g k' g' els = some new) (hc : cap = .full ∨ cap = .no ∨ (Nat.beq k k' && (g == g')) = true) (hv : Rel M ρ (.sl k' g' els cap) v) : Rel M ρ (.sl k g new cap) v := by
  unfold elsA at he
  split at he
  · rename_i hb
    simp only [Bool.and_eq_true, beq_iff_eq] at hb
    have := Nat.eq_of_beq_eq_true hb.1
    cases he
    rw [this, hb.2]; exact hv
  · rename_i hb
    have hc : cap = .full ∨ cap = .no := by
      rcases hc with h | h | h
      · exact .inl h
      · exact .inr h
      · rw [h] at hb; cases hb
    split at he
    · cases he
      cases hv with
      | sl _ _ _ _ ao n c hn hm hk' cv hv h hcap =>
        simp at hn
        subst hn
        refine .sl k g [] cap ao 0 c rfl (by omega) (fun i hi => by omega) (fun _ _ => Go.undef) (fun i j hi => by omega) (fun i j hi => by omega) ?_
        rcases hc with e | e <;> subst e <;> exact hcap
    · cases he

theorem zOK_to {i : TInfo} (h : zOK i = true) : (ofVal i.zero).known = true ∧ (ofVal i.zero).cells.length = i.size ∧ (ofVal i.zero).isAgg = i.desc.agg ∧ (ofVal i.zero).cells.all AV.one = true ∧ 1 ≤ i.size ∧ 1 ≤ i.bytes := by
  simp only [zOK, Bool.and_eq_true, beq_iff_eq] at h
  obtain ⟨⟨⟨⟨⟨⟨h1, h2⟩, h3⟩, h4⟩, h5⟩, h6⟩, h7⟩ := h
  exact ⟨h1, Nat.eq_of_beq_eq_true h3, h4, h5, Nat.le_of_ble_eq_true h6, Nat.le_of_ble_eq_true h7⟩

theorem map_byteA_flat (s : List UInt8) : flat (s.map byteA) = s.map byteA := by
  induction s with
  | nil => rfl
  | cons b r ih =>
    simp only [flat, List.map_cons, List.flatMap_cons] at ih ⊢
    rw [ih]; rfl

theorem rels_bytes (s : List UInt8) : Rels M ρ (s.map byteA) (byteCells ⟨s.toArray⟩).toArray := by
  refine ⟨by simp [byteCells], fun i hi => ?_⟩
  simp at hi
  have e1 : (s.map byteA).getD i .undef = byteA s[i] := by simp [List.getD_eq_getElem?_getD, hi]
  have e2 : (byteCells ⟨s.toArray⟩).toArray.getD i Go.undef = .int .u8 s[i].toNat := by simp [byteCells, Array.getD_eq_getD_getElem?, hi]
  rw [e1, e2]
  exact .int _ _

/-- What is appended. -/
theorem srcA_sound {k : Nat} {g : Bool} {x : AV} {v : Value} {new : List AV} {tx : TypeId} {d : TypeDesc} (hk : 1 ≤ k) (hs : srcA k g x = some new) (hv : Rel M ρ x v) (hd : P.underlying tx = some d) (ht : (∃ e, d = .slice e) ∨ d = .string) (hm : ∀ a u, M a = some u → w.cell? a = some u) :
    ∃ news : List Value, Src P k tx v new.length news w ∧ Rels M ρ (flat new) news.toArray ∧ (∀ x ∈ new, elemOK k g x) := by
  have hkind : (∃ e', P.underlying tx = some (.slice e')) ∨ P.underlying tx = some .string := by
    rcases ht with ⟨e, rfl⟩ | rfl
    · exact .inl ⟨e, hd⟩
    · exact .inr hd
  have ofSl : ∀ {els : List AV} {cap : Cap} {v : Value}, Rel M ρ (.sl k g els cap) v → ∃ news : List Value, Src P k tx v els.length news w ∧ Rels M ρ (flat els) news.toArray ∧ (∀ x ∈ els, elemOK k g x) := by
    intro els cap v hv
    obtain ⟨ao, n, c, vs, rfl, hn, hm', hc, hkk, hl, hr, h1, hmem⟩ := sl_flat hv
    refine ⟨vs, ?_, hr, hkk⟩
    have cells : ∀ w' : World, (∀ a, w'.cell? a = w.cell? a) → (Builtin.firstCells k n (.slice ao n c)).run P w' = .ok vs.toArray w' := by
      intro w' hw'
      cases ao with
      | none =>
        cases vs with
        | nil => exact run_firstCells_none w' k n n c
        | cons v r =>
          obtain ⟨ad, e, _⟩ := hmem 0 v rfl
          cases e
      | some ad =>
        refine run_firstCells_some w' k n ad n c vs hl fun j u hj => ?_
        obtain ⟨ad', e, hmm⟩ := hmem j u hj
        cases e
        rw [hw']
        exact hm _ _ hmm
    exact ⟨hkind, fun _ => by rw [← hn]; rfl, by rw [← hn]; exact cells w fun _ => rfl, by rw [← hn]; exact cells w.drew fun _ => rfl, by rw [hl, hn], h1⟩
  cases x with
  | sl k' g' els cap =>
    have h0 : cap = .full ∨ cap = .no ∨ (∃ t, cap = .own t) ∨ cap = .nil := by cases cap <;> simp
    have hs' := hs
    simp only [srcA] at hs
    rcases h0 with e | e | ⟨t, e⟩ | e
    · exact ofSl (elsA_sound hk hs (.inl e) hv)
    · exact ofSl (elsA_sound hk hs (.inr (.inl e)) hv)
    · have hno : Rel M ρ (.sl k' g' els .no) v := by
        cases hv with
        | sl _ _ _ _ ao n c hn hm hk' cv hv h hcap =>
          refine .sl k' g' els .no ao n c hn hm hk' cv hv h ?_
          subst e
          obtain ⟨p, o, _, _, _, _, hle⟩ := hcap
          exact hle
      exact ofSl (elsA_sound hk hs (.inr (.inl rfl)) hno)
    · subst e
      exact ofSl (elsA_sound hk hs (.inl rfl) hv.fulls)
  | str s =>
    simp only [srcA] at hs
    split at hs
    · rename_i hb
      simp only [Bool.and_eq_true, Bool.not_eq_true'] at hb
      have hk1 := Nat.eq_of_beq_eq_true hb.1
      cases hs
      subst hk1
      cases hv
      have hsz : (⟨s.toArray⟩ : ByteArray).size = s.length := str_size s
      refine ⟨byteCells ⟨s.toArray⟩, ⟨hkind, fun w' => ?_, ?_, ?_, ?_, fun u hu => ?_⟩, ?_, fun x hx => ?_⟩
      · simp [Builtin.lenOf, hsz]
      · have := firstCells_string (P := P) ⟨s.toArray⟩ w
        simpa [hsz] using this
      · have := firstCells_string (P := P) ⟨s.toArray⟩ w.drew
        simpa [hsz] using this
      · rw [byteCells_length, hsz]; simp
      · obtain ⟨_, _, rfl⟩ := List.mem_map.1 hu
        rfl
      · rw [map_byteA_flat]; exact rels_bytes s
      · obtain ⟨b, _, rfl⟩ := List.mem_map.1 hx
        exact ⟨rfl, rfl, hb.2.symm⟩
    · cases hs
  | _ => simp [srcA] at hs

theorem one_cells {x : AV} (h : x.one = true) : x.cells = [x] ∧ x.known = true ∧ x.isAgg = false := by
  cases x <;> first | exact ⟨rfl, rfl, rfl⟩ | (simp [AV.one] at h)

theorem flat_ones : ∀ {cs : List AV}, cs.all AV.one = true → flat cs = cs
  | [], _ => rfl
  | x :: r, h => by
    simp only [List.all_cons, Bool.and_eq_true] at h
    have := flat_ones h.2
    simp only [flat, List.flatMap_cons] at this ⊢
    rw [(one_cells h.1).1, this]; rfl

theorem flat_range (cs : List AV) (k : Nat) : ∀ n, n * k ≤ cs.length → flat ((List.range n).map fun j => AV.agg ((cs.drop (j * k)).take k)) = cs.take (n * k)
  | 0, _ => by simp [flat]
  | n + 1, h => by
    rw [Nat.add_mul] at h
    rw [List.range_succ, List.map_append, flat_append, flat_range cs k n (by omega), Nat.add_mul, Nat.one_mul]
    simp only [List.map_cons, List.map_nil, flat, List.flatMap_cons, List.flatMap_nil, List.append_nil, AV.cells]
    rw [List.take_add]

theorem chunks_ok {k : Nat} {g : Bool} {n : Nat} {cs : List AV} (hg : (g || Nat.beq k 1) = true) (hl : n * k ≤ cs.length) (h1 : ((cs.take (n * k)).all AV.one) = true) :
    flat (chunks k g n cs) = cs.take (n * k) ∧ (chunks k g n cs).length = n ∧ ∀ x ∈ chunks k g n cs, elemOK k g x := by
  cases g with
  | false =>
    have hk : k = 1 := Nat.eq_of_beq_eq_true (by simpa using hg)
    subst hk
    simp only [Nat.mul_one] at hl h1 ⊢
    refine ⟨flat_ones h1, by simp [chunks]; omega, fun x hx => ?_⟩
    obtain ⟨e1, e2, e3⟩ := one_cells (List.all_eq_true.1 h1 x hx)
    exact ⟨by rw [e1]; rfl, e2, e3⟩
  | true =>
    refine ⟨flat_range cs k n hl, by simp [chunks], fun x hx => ?_⟩
    obtain ⟨j, hj, rfl⟩ := List.mem_map.1 hx
    have hj : j < n := List.mem_range.1 hj
    refine ⟨?_, rfl, rfl⟩
    show ((cs.drop (j * k)).take k).length = k
    have : (j + 1) * k ≤ n * k := Nat.mul_le_mul_right _ hj
    rw [Nat.add_mul, Nat.one_mul] at this
    simp; omega

/-- A part of an object's cells, as the row's. -/
theorem row_part {cs : List AV} {arr : Array Value} (hp : Pre M ρ cs arr) {off m : Nat} (hl : off + m ≤ cs.length) : Rels M ρ ((cs.drop off).take m) ((arr.toList.drop off).take m).toArray := by
  have h1 := hp.1
  refine ⟨by simp; omega, fun i hi => ?_⟩
  simp at hi
  have := hp.2 (off + i) (by omega)
  simp only [List.getD_eq_getElem?_getD, Array.getD_eq_getD_getElem?, List.getElem?_toArray, List.getElem?_take, List.getElem?_drop, show i < m by omega, if_true] at this ⊢
  simpa using this

theorem srcK_sound (sim : Sim M ρ h w) {k : Nat} {g : Bool} {x : AV} {v : Value} {tx : TypeId} {d : TypeDesc} (hk : 1 ≤ k) {K : List AV → Prop} (hs : srcK k g h x K) (hv : Rel M ρ x v) (hd : P.underlying tx = some d) (ht : (∃ e, d = .slice e) ∨ d = .string) :
    ∃ (new : List AV) (news : List Value), Src P k tx v new.length news w ∧ Rels M ρ (flat new) news.toArray ∧ (∀ x ∈ new, elemOK k g x) ∧ K new := by
  have hkind : (∃ e', P.underlying tx = some (.slice e')) ∨ P.underlying tx = some .string := by
    rcases ht with ⟨e, rfl⟩ | rfl
    · exact .inl ⟨e, hd⟩
    · exact .inr hd
  unfold srcK at hs
  split at hs
  · rename_i id off len cap
    split at hs
    · exact hs.elim
    rename_i hg
    obtain ⟨cs, hid, hl, h1, hm, hK⟩ := hs
    cases hv with
    | row _ _ _ c _ p hp hc =>
      obtain ⟨p', q1, q2, arr, el, q3, q4⟩ := sim.obj id _ hid
      rw [hp] at q1; cases q1
      have hpart := row_part q4 hl
      obtain ⟨e1, e2, e3⟩ := chunks_ok (n := len) hg (cs := cs.drop off) (by simp; omega) h1
      have hsz := q4.1
      have hcells : ∀ w' : World, (∀ a, w'.cell? a = w.cell? a) → (Builtin.firstCells k len (.slice (some ⟨p.b, off, none⟩) len c)).run P w' = .ok ((arr.toList.drop off).take (len * k)).toArray w' := by
        intro w' hw'
        refine run_firstCells_some w' k len ⟨p.b, off, none⟩ len c _ (by simp; omega) fun j u hj => ?_
        rw [hw', Addr.add_plain]
        have hjl : j < len * k := by
          have := (List.getElem?_eq_some_iff.1 hj).1
          simp at this; omega
        simp only [List.getElem?_take, hjl, if_true, List.getElem?_drop] at hj
        simpa [World.cell?, q3] using hj
      refine ⟨chunks k g len (cs.drop off), (arr.toList.drop off).take (len * k), ⟨hkind, fun _ => ?_, ?_, ?_, ?_, ?_⟩, ?_, e3, hK⟩
      · rw [e2]; rfl
      · rw [e2]; exact hcells w fun _ => rfl
      · rw [e2]; exact hcells w.drew fun _ => rfl
      · rw [e2]; simp; omega
      · exact fun u hu => one_all hpart h1 u (by simpa using hu)
      · rw [e1]; exact hpart
  · split at hs
    · exact hs.elim
    · rename_i new hn
      obtain ⟨news, g1, g2, g3⟩ := srcA_sound (P := P) (w := w) hk hn hv hd ht sim.mem
      exact ⟨new, news, g1, g2, g3, hs⟩

end
end Go.Lift
