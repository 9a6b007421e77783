/- A part of the proof (own lemmas, no condition beyond those that each theorem states): the layer over the model that all of the proofs of this seat stand on. -/
import Derived.Orders
import Derived.Below
import Derived.KernelRfl
import Derived.Laws.Cells
import Derived.Laws.CopyRow
/- A layer over the model's calls, proved once: values in which a slice that is only read is a list, a variable of the function's own is a list of cells, and what is written lies in a heap of named objects. This file: the values, what they stand for in memory, and what a step may change. -/
set_option linter.unusedVariables false
set_option linter.unusedSimpArgs false
set_option linter.unusedSectionVars false
namespace Go.Lift
open Go Go.RowKit

/-- What is known of a slice's room behind its end: none; it is the holder's (a token says so); nothing is known; the slice is nil. -/
inductive Cap where
  | full | own (t : Nat) | no | nil
/-- A nil slice has no room either. -/
def Cap.fulls : Cap → Cap
  | .nil => .full
  | c => c

inductive AV where
  | undef
  | int (k : IntKind) (n : Int)
  | bool (b : Bool)
  | str (s : List UInt8)
  | opq (v : Value)
  | agg (cs : List AV)
  | tuple (cs : List AV)
  | iface (t : TypeId) (x : AV)
  | func (fn : Fn) (first captured : List AV)
  | sl (k : Nat) (g : Bool) (els : List AV) (c : Cap)
  | row (id off len : Nat) (cap : Option Nat)
  | ptr (id off : Nat)
  | lptr (d off : Nat)
  | ept (x : AV) (k : Nat) (g : Bool) (off : Nat)
  | map (id : Nat)
instance : Inhabited AV := ⟨.undef⟩

def AV.cells : AV → List AV
  | .agg cs => cs
  | x => [x]

def AV.known : AV → Bool
  | .undef => false
  | _ => true

def AV.isAgg : AV → Bool
  | .agg _ => true
  | _ => false

/-- One cell's value. -/
def AV.one : AV → Bool
  | .undef | .agg _ | .tuple _ | .lptr _ _ => false
  | _ => true

inductive AObj where
  | cells (cs : List AV)
  | tail
  | map (es : List (AV × AV)) (c : Bool)

/-- A place in memory: the block, where it begins (a tail: where what is free begins), where it ends. -/
structure Pl where
  b : Nat
  e : Nat
  lim : Nat

abbrev Mem := Addr → Option Value
abbrev Rho := Nat → Option Pl
abbrev Heap := Nat → Option AObj

def CapOK (ρ : Rho) (k n c : Nat) (a : Option Addr) : Cap → Prop
  | .full => c = n
  | .nil => c = n ∧ n = 0 ∧ a = none
  | .no => n ≤ c
  | .own t => ∃ p o, ρ t = some p ∧ a = some ⟨p.b, o, none⟩ ∧ o + n * k = p.e ∧ o + c * k ≤ p.lim ∧ n ≤ c

/-- A row's room: just so much; at least what it holds. -/
def CapR (n c : Nat) : Option Nat → Prop
  | some k => c = k ∧ n ≤ c
  | none => n ≤ c

inductive Rel (M : Mem) (ρ : Rho) : AV → Value → Prop where
  | undef (v : Value) : Rel M ρ .undef v
  | int (k : IntKind) (n : Int) : Rel M ρ (.int k n) (.int k n)
  | bool (b : Bool) : Rel M ρ (.bool b) (.bool b)
  | str (s : List UInt8) : Rel M ρ (.str s) (.string ⟨s.toArray⟩)
  | opq (v : Value) (h : v.oneCell' = true) : Rel M ρ (.opq v) v
  | agg (cs : List AV) (vs : Array Value) (hl : cs.length = vs.size) (h : ∀ i, i < cs.length → Rel M ρ (cs.getD i .undef) (vs.getD i Go.undef)) : Rel M ρ (.agg cs) (.agg vs)
  | tuple (cs : List AV) (vs : Array Value) (hl : cs.length = vs.size) (h : ∀ i, i < cs.length → Rel M ρ (cs.getD i .undef) (vs.getD i Go.undef)) : Rel M ρ (.tuple cs) (.tuple vs)
  | iface (t : TypeId) (x : AV) (v : Value) (h : Rel M ρ x v) : Rel M ρ (.iface t x) (.iface t v)
  | func (fn : Fn) (f c : List AV) (f' c' : Array Value) (hf : f.length = f'.size) (hc : c.length = c'.size)
      (h : ∀ i, i < f.length → Rel M ρ (f.getD i .undef) (f'.getD i Go.undef)) (h' : ∀ i, i < c.length → Rel M ρ (c.getD i .undef) (c'.getD i Go.undef)) : Rel M ρ (.func fn f c) (.func fn f' c')
  | sl (k : Nat) (g : Bool) (els : List AV) (cap : Cap) (a : Option Addr) (n c : Nat) (hn : n = els.length) (hm : n ≤ 9223372036854775807)
      (hk : ∀ i, i < n → (els.getD i .undef).cells.length = k ∧ (els.getD i .undef).known = true ∧ (els.getD i .undef).isAgg = g)
      (cv : Nat → Nat → Value) (hv : ∀ i j, i < n → j < k → (cv i j).oneCell' = true ∧ ∃ ad, a = some ad ∧ M (ad.add (i * k + j)) = some (cv i j))
      (h : ∀ i j, i < n → j < k → Rel M ρ ((els.getD i .undef).cells.getD j .undef) (cv i j))
      (hc : CapOK ρ k n c a cap) : Rel M ρ (.sl k g els cap) (.slice a n c)
  | row (id off n c : Nat) (cp : Option Nat) (p : Pl) (hp : ρ id = some p) (hc : CapR n c cp) : Rel M ρ (.row id off n cp) (.slice (some ⟨p.b, off, none⟩) n c)
  | ptr (id off : Nat) (p : Pl) (hp : ρ id = some p) : Rel M ρ (.ptr id off) (.pointer (some ⟨p.b, off, none⟩))
  | ept (x : AV) (k : Nat) (g : Bool) (off : Nat) (ad : Addr) (hx : x.known = true) (hk : x.cells.length = k) (hg : x.isAgg = g)
      (cv : Nat → Value) (hv : ∀ j, off + j < k → M (ad.add j) = some (cv j))
      (h : ∀ j, off + j < k → Rel M ρ (x.cells.getD (off + j) .undef) (cv j)) : Rel M ρ (.ept x k g off) (.pointer (some ad))
  | map (id : Nat) (p : Pl) (hp : ρ id = some p) : Rel M ρ (.map id) (.map (some p.b))

theorem Rel.mono {M M' : Mem} {ρ ρ' : Rho} (hM : ∀ a v, M a = some v → M' a = some v) (hρ : ∀ i p, ρ i = some p → ρ' i = some p) {x : AV} {v : Value} (h : Rel M ρ x v) : Rel M' ρ' x v := by
  induction h with
  | undef v => exact .undef v
  | int k n => exact .int k n
  | bool b => exact .bool b
  | str s => exact .str s
  | opq v h => exact .opq v h
  | agg cs vs hl _ ih => exact .agg cs vs hl ih
  | tuple cs vs hl _ ih => exact .tuple cs vs hl ih
  | iface t x v _ ih => exact .iface t x v ih
  | func fn f c f' c' hf hc _ _ ih ih' => exact .func fn f c f' c' hf hc ih ih'
  | sl k g els cap a n c hn hm hk cv hv _ hc ih =>
    refine .sl k g els cap a n c hn hm hk cv (fun i j hi hj => ?_) ih ?_
    · obtain ⟨h0, ad, h1, h2⟩ := hv i j hi hj
      exact ⟨h0, ad, h1, hM _ _ h2⟩
    · cases cap with
      | full => exact hc
      | nil => exact hc
      | no => exact hc
      | own t =>
        obtain ⟨p, o, h1, h2⟩ := hc
        exact ⟨p, o, hρ _ _ h1, h2⟩
  | row id off n c cp p hp hc => exact .row id off n c cp p (hρ _ _ hp) hc
  | ptr id off p hp => exact .ptr id off p (hρ _ _ hp)
  | ept x k g off ad hx hk hg cv hv _ ih => exact .ept x k g off ad hx hk hg cv (fun j hj => hM _ _ (hv j hj)) ih
  | map id p hp => exact .map id p (hρ _ _ hp)

/-- All of a row of values. -/
def Rels (M : Mem) (ρ : Rho) (cs : List AV) (vs : Array Value) : Prop := cs.length = vs.size ∧ ∀ i, i < cs.length → Rel M ρ (cs.getD i .undef) (vs.getD i Go.undef)

theorem Rels.mono {M M' : Mem} {ρ ρ' : Rho} (hM : ∀ a v, M a = some v → M' a = some v) (hρ : ∀ i p, ρ i = some p → ρ' i = some p) {x : List AV} {v : Array Value} (h : Rels M ρ x v) : Rels M' ρ' x v :=
  ⟨h.1, fun i hi => (h.2 i hi).mono hM hρ⟩

/-- The first cells of a row. -/
def Pre (M : Mem) (ρ : Rho) (cs : List AV) (vs : Array Value) : Prop := cs.length ≤ vs.size ∧ ∀ i, i < cs.length → Rel M ρ (cs.getD i .undef) (vs.getD i Go.undef)
theorem Pre.mono {M M' : Mem} {ρ ρ' : Rho} (hM : ∀ a v, M a = some v → M' a = some v) (hρ : ∀ i p, ρ i = some p → ρ' i = some p) {x : List AV} {v : Array Value} (h : Pre M ρ x v) : Pre M' ρ' x v :=
  ⟨h.1, fun i hi => (h.2 i hi).mono hM hρ⟩
theorem Rels.pre {M : Mem} {ρ : Rho} {x : List AV} {v : Array Value} (h : Rels M ρ x v) : Pre M ρ x v := ⟨Nat.le_of_eq h.1, h.2⟩

theorem Rels.nil {M : Mem} {ρ : Rho} : Rels M ρ [] #[] := ⟨rfl, fun i h => by simp at h⟩

theorem Rel.cells {M : Mem} {ρ : Rho} {x : AV} {v : Value} (h : Rel M ρ x v) (hk : x.known = true) : Rels M ρ x.cells v.cells := by
  have one : ∀ {x : AV} {v : Value}, Rel M ρ x v → x.cells = [x] → v.cells = #[v] → Rels M ρ x.cells v.cells := by
    intro x v h h1 h2
    rw [h1, h2]
    refine ⟨rfl, fun i hi => ?_⟩
    simp at hi
    subst hi
    exact h
  cases h with
  | undef => simp [AV.known] at hk
  | agg cs vs hl h => exact ⟨hl, h⟩
  | opq v h => exact one (.opq v h) rfl (by cases v <;> first | rfl | (simp [Value.oneCell'] at h))
  | int k n => exact one (.int k n) rfl rfl
  | bool b => exact one (.bool b) rfl rfl
  | str s => exact one (.str s) rfl rfl
  | tuple cs vs hl h => exact one (.tuple cs vs hl h) rfl rfl
  | iface t x v h => exact one (.iface t x v h) rfl rfl
  | func fn f c f' c' hf hc h h' => exact one (.func fn f c f' c' hf hc h h') rfl rfl
  | sl k g els cap a n c hn hm hk' cv hv h hc => exact one (.sl k g els cap a n c hn hm hk' cv hv h hc) rfl rfl
  | row id off n c cp p hp hc => exact one (.row id off n c cp p hp hc) rfl rfl
  | ptr id off p hp => exact one (.ptr id off p hp) rfl rfl
  | ept x k g off ad hx hk' hg cv hv h => exact one (.ept x k g off ad hx hk' hg cv hv h) rfl rfl
  | map id p hp => exact one (.map id p hp) rfl rfl

theorem Rel.one {M : Mem} {ρ : Rho} {x : AV} {v : Value} (h : Rel M ρ x v) (h1 : x.one = true) : v.oneCell' = true := by
  cases h <;> first | rfl | assumption | (simp [AV.one] at h1)

theorem AV.one_known {x : AV} (h : x.one = true) : x.known = true := by cases x <;> first | rfl | (simp [AV.one] at h)

/-- The block is one of the heap's objects'. -/
def Own (h : Heap) (ρ : Rho) (b : Nat) : Prop := ∃ id o p, h id = some o ∧ ρ id = some p ∧ p.b = b

/-- A map's entries, in the order in which they stand. -/
def EntsOK (M : Mem) (ρ : Rho) (es : List (AV × AV)) (ents : Array MapEntry) : Prop :=
  es.length = ents.size ∧ ∀ i (h : i < ents.size), Rel M ρ ((es.getD i (.undef, .undef)).1) ents[i].key ∧ Rel M ρ ((es.getD i (.undef, .undef)).2) ents[i].val

def ObjOK (M : Mem) (ρ : Rho) (w : World) (p : Pl) : AObj → Prop
  | .cells cs => ∃ arr el, w.heap[p.b]? = some (.cells arr el (0, 0)) ∧ Pre M ρ cs arr
  | .tail => ∃ arr el, w.heap[p.b]? = some (.cells arr el (0, 0)) ∧ arr.size = p.lim ∧ p.e ≤ p.lim
  | .map es c => ∃ ents clock, w.heap[p.b]? = some (.map ents clock) ∧ EntsOK M ρ es ents ∧ (c = true → clock = ents.size ∧ ∀ i (h : i < ents.size), ents[i].born = i)

/-- The package-level tables that a seat counts on: what a pointer to each stands for. -/
class Glob where
  tab : Nat → Option AV

variable [G : Glob]

/-- What the heap of objects says of the world. -/
structure Sim (M : Mem) (ρ : Rho) (h : Heap) (w : World) : Prop where
  mem : ∀ a v, M a = some v → w.cell? a = some v
  fin : ∃ N, ∀ id, N ≤ id → ρ id = none
  obj : ∀ id o, h id = some o → ∃ p, ρ id = some p ∧ p.b < w.heap.size ∧ ObjOK M ρ w p o
  inj : ∀ id id' o o' p p', h id = some o → h id' = some o' → ρ id = some p → ρ id' = some p' → p.b = p'.b → id = id'
  apart : ∀ id o p a v, h id = some o → ρ id = some p → M a = some v → a.block = p.b → o = .tail ∧ a.off < p.e
  glob : ∀ g x, Glob.tab g = some x → Rel M ρ x (.pointer (some ⟨g, 0, none⟩))

/-- From one world to a later one: what was known stays known; what is nobody's stays as it was. -/
structure Step (M : Mem) (ρ : Rho) (h : Heap) (w : World) (M' : Mem) (ρ' : Rho) (h' : Heap) (w' : World) : Prop where
  size : w.heap.size ≤ w'.heap.size
  os : w'.os = w.os
  tape : w'.tape = w.tape
  output : w'.output = w.output
  mem : ∀ a v, M a = some v → M' a = some v
  rho : ∀ id p, ρ id = some p → ρ' id = some p
  keep : ∀ b, b < w.heap.size → ¬ Own h ρ b → w'.heap[b]? = w.heap[b]?
  newM : ∀ a v, M' a = some v → M a = some v ∨ w.heap.size ≤ a.block ∨ Own h ρ a.block
  newO : ∀ b, Own h' ρ' b → w.heap.size ≤ b ∨ Own h ρ b

theorem Step.refl (M : Mem) (ρ : Rho) (h : Heap) (w : World) : Step M ρ h w M ρ h w :=
  ⟨Nat.le_refl _, rfl, rfl, rfl, fun _ _ h => h, fun _ _ h => h, fun _ _ _ => rfl, fun _ _ h => .inl h, fun _ h => .inr h⟩

theorem Step.trans {M1 M2 M3 : Mem} {ρ1 ρ2 ρ3 : Rho} {h1 h2 h3 : Heap} {w1 w2 w3 : World} (a : Step M1 ρ1 h1 w1 M2 ρ2 h2 w2) (b : Step M2 ρ2 h2 w2 M3 ρ3 h3 w3) : Step M1 ρ1 h1 w1 M3 ρ3 h3 w3 where
  size := Nat.le_trans a.size b.size
  os := b.os.trans a.os
  tape := b.tape.trans a.tape
  output := b.output.trans a.output
  mem := fun x v hx => b.mem x v (a.mem x v hx)
  rho := fun x v hx => b.rho x v (a.rho x v hx)
  keep := fun x hx hn => by
    rw [b.keep x (Nat.lt_of_lt_of_le hx a.size) (fun ho => ?_), a.keep x hx hn]
    rcases a.newO x ho with h | h
    · omega
    · exact hn h
  newM := fun x v hx => by
    rcases b.newM x v hx with h | h | h
    · exact a.newM x v h
    · exact .inr (.inl (Nat.le_trans a.size h))
    · rcases a.newO _ h with h | h
      · exact .inr (.inl h)
      · exact .inr (.inr h)
  newO := fun x hx => by
    rcases b.newO x hx with h | h
    · exact .inl (Nat.le_trans a.size h)
    · exact a.newO x h

/-- The heap says less. -/
def HLe (h h' : Heap) : Prop := ∀ id, h id = none ∨ h id = h' id

theorem HLe.refl (h : Heap) : HLe h h := fun _ => .inr rfl
theorem HLe.some {h h' : Heap} (hl : HLe h h') {id : Nat} {o : AObj} (e : h id = some o) : h' id = some o := by
  rcases hl id with h1 | h1
  · rw [h1] at e; cases e
  · rw [← h1]; exact e
theorem HLe.trans {a b c : Heap} (h : HLe a b) (k : HLe b c) : HLe a c := fun id => by
  rcases h id with h1 | h1
  · exact .inl h1
  · rcases k id with k1 | k1
    · exact .inl (h1.trans k1)
    · exact .inr (h1.trans k1)
theorem HLe.own {h h' : Heap} (hl : HLe h h') {ρ : Rho} {b : Nat} (ho : Own h ρ b) : Own h' ρ b := by
  obtain ⟨id, o, p, h1, h2, h3⟩ := ho
  exact ⟨id, o, p, hl.some h1, h2, h3⟩
theorem Sim.le {M : Mem} {ρ : Rho} {h h' : Heap} {w : World} (s : Sim M ρ h' w) (hl : HLe h h') : Sim M ρ h w :=
  ⟨s.mem, s.fin, fun id o ho => s.obj id o (hl.some ho), fun id id' o o' p p' h1 h2 => s.inj id id' o o' p p' (hl.some h1) (hl.some h2), fun id o p a v h1 => s.apart id o p a v (hl.some h1), s.glob⟩
theorem Step.le {M M' : Mem} {ρ ρ' : Rho} {h h' h'' : Heap} {w w' : World} (s : Step M ρ h w M' ρ' h' w') (hl : HLe h'' h') : Step M ρ h w M' ρ' h'' w' :=
  ⟨s.size, s.os, s.tape, s.output, s.mem, s.rho, s.keep, s.newM, fun b hb => s.newO b (hl.own hb)⟩

/-! ### A function's own: its slots, its variables -/
abbrev Env := Nat → AV
abbrev Loc := Nat → Option (List AV)
abbrev Lam := Nat → Option Nat

def RelS (M : Mem) (ρ : Rho) (l : Lam) (x : AV) (v : Value) : Prop :=
  match x with
  | .lptr d off => ∃ b, l d = some b ∧ v = .pointer (some ⟨b, off, none⟩)
  | x => Rel M ρ x v

theorem RelS.of {M : Mem} {ρ : Rho} {l : Lam} {x : AV} {v : Value} (h : Rel M ρ x v) : RelS M ρ l x v := by
  cases x <;> first | exact h | (cases h)

def AV.plain : AV → Bool
  | .lptr _ _ => false
  | _ => true

theorem RelS.to {M : Mem} {ρ : Rho} {l : Lam} {x : AV} {v : Value} (h : RelS M ρ l x v) (hp : x.plain = true) : Rel M ρ x v := by
  cases x <;> first | exact h | (simp [AV.plain] at hp)

theorem RelS.mono {M M' : Mem} {ρ ρ' : Rho} {l : Lam} (hM : ∀ a v, M a = some v → M' a = some v) (hρ : ∀ i p, ρ i = some p → ρ' i = some p) {x : AV} {v : Value} (h : RelS M ρ l x v) : RelS M' ρ' l x v := by
  cases x <;> first | exact h | exact Rel.mono hM hρ h

/-- A function in the middle of its work: N slots. -/
structure FSim (N : Nat) (M : Mem) (ρ : Rho) (l : Lam) (env : Env) (loc : Loc) (h : Heap) (a : Act) (w : World) : Prop where
  sim : Sim M ρ h w
  size : a.tmps.size = N
  defers : a.defers = []
  slot : ∀ s, RelS M ρ l (env s) (a.tmps.getD s Go.undef)
  lo : ∀ d cs, loc d = some cs → ∃ b, l d = some b ∧ b < w.heap.size ∧ ∃ arr el, w.heap[b]? = some (.cells arr el (0, 0)) ∧ Rels M ρ cs arr
  linj : ∀ d d' cs cs' b, loc d = some cs → loc d' = some cs' → l d = some b → l d' = some b → d = d'
  lown : ∀ d cs b, loc d = some cs → l d = some b → ¬ Own h ρ b
  lmem : ∀ d cs b a v, loc d = some cs → l d = some b → M a = some v → a.block ≠ b

/-- As much of it as reading asks for. -/
structure ESim (M : Mem) (ρ : Rho) (l : Lam) (env : Env) (loc : Loc) (a : Act) (w : World) : Prop where
  mem : ∀ x v, M x = some v → w.cell? x = some v
  slot : ∀ s, RelS M ρ l (env s) (a.tmps.getD s Go.undef)
  lo : ∀ d cs, loc d = some cs → ∃ b, l d = some b ∧ ∃ arr el, w.heap[b]? = some (.cells arr el (0, 0)) ∧ Rels M ρ cs arr
  glob : ∀ g x, Glob.tab g = some x → Rel M ρ x (.pointer (some ⟨g, 0, none⟩))

theorem FSim.e {N : Nat} {M : Mem} {ρ : Rho} {l : Lam} {env : Env} {loc : Loc} {h : Heap} {a : Act} {w : World} (f : FSim N M ρ l env loc h a w) : ESim M ρ l env loc a w :=
  ⟨f.sim.mem, f.slot, fun d cs hd => by
    obtain ⟨b, h1, _, h2⟩ := f.lo d cs hd
    exact ⟨b, h1, h2⟩, f.sim.glob⟩

/-- A call's, or a read's, step kept beside the function's own. -/
theorem FSim.step {N : Nat} {M M' : Mem} {ρ ρ' : Rho} {l : Lam} {env : Env} {loc : Loc} {h h' : Heap} {a : Act} {w w' : World} (f : FSim N M ρ l env loc h a w) (s : Step M ρ h w M' ρ' h' w') (s' : Sim M' ρ' h' w') : FSim N M' ρ' l env loc h' a w' where
  sim := s'
  size := f.size
  defers := f.defers
  slot := fun i => (f.slot i).mono s.mem s.rho
  lo := fun d cs hd => by
    obtain ⟨b, h1, h2, arr, el, h3, h4⟩ := f.lo d cs hd
    exact ⟨b, h1, Nat.lt_of_lt_of_le h2 s.size, arr, el, (s.keep b h2 (f.lown d cs b hd h1)).trans h3, h4.mono s.mem s.rho⟩
  linj := f.linj
  lown := fun d cs b hd hb ho => by
    obtain ⟨b', h1, h2, _⟩ := f.lo d cs hd
    rw [hb] at h1
    cases h1
    rcases s.newO b ho with h | h
    · omega
    · exact f.lown d cs b hd hb h
  lmem := fun d cs b x v hd hb hx he => by
    obtain ⟨b', h1, h2, _⟩ := f.lo d cs hd
    rw [hb] at h1
    cases h1
    rcases s.newM x v hx with h | h | h
    · exact f.lmem d cs b x v hd hb h he
    · omega
    · exact f.lown d cs b hd hb (he ▸ h)

/-- It knows less. -/
def ELe (e e' : Env) : Prop := ∀ s, e s = .undef ∨ e s = e' s
def LLe (e e' : Loc) : Prop := ∀ s, e s = none ∨ e s = e' s
theorem LLe.some {h h' : Loc} (hl : LLe h h') {id : Nat} {o : List AV} (e : h id = some o) : h' id = some o := by
  rcases hl id with h1 | h1
  · rw [h1] at e; cases e
  · rw [← h1]; exact e
theorem ELe.refl (h : Env) : ELe h h := fun _ => .inr rfl
theorem LLe.refl (h : Loc) : LLe h h := fun _ => .inr rfl

theorem FSim.le {N : Nat} {M : Mem} {ρ : Rho} {l : Lam} {env env' : Env} {loc loc' : Loc} {h h' : Heap} {a : Act} {w : World} (f : FSim N M ρ l env' loc' h' a w) (he : ELe env env') (hl : LLe loc loc') (hh : HLe h h') : FSim N M ρ l env loc h a w where
  sim := f.sim.le hh
  size := f.size
  defers := f.defers
  slot := fun s => by
    rcases he s with h1 | h1
    · rw [h1]; exact .undef _
    · rw [h1]; exact f.slot s
  lo := fun d cs hd => f.lo d cs (hl.some hd)
  linj := fun d d' cs cs' b h1 h2 => f.linj d d' cs cs' b (hl.some h1) (hl.some h2)
  lown := fun d cs b hd hb ho => f.lown d cs b (hl.some hd) hb (hh.own ho)
  lmem := fun d cs b x v hd => f.lmem d cs b x v (hl.some hd)

/-! ### Slots are written -/
def updE (e : Env) (d : Nat) (v : AV) : Env := fun i => bif Nat.beq i d then v else e i
def updL (e : Loc) (d : Nat) (v : List AV) : Loc := fun i => bif Nat.beq i d then some v else e i
def updH (e : Heap) (d : Nat) (v : Option AObj) : Heap := fun i => bif Nat.beq i d then v else e i

theorem updE_eq (e : Env) (d : Nat) (v : AV) (i : Nat) : updE e d v i = if i = d then v else e i := by
  unfold updE
  by_cases h : i = d
  · subst h; simp
  · simp only [h, if_false]
    have : Nat.beq i d = false := by
      cases hb : Nat.beq i d
      · rfl
      · exact absurd (Nat.eq_of_beq_eq_true hb) h
    rw [this]; rfl
theorem updL_eq (e : Loc) (d : Nat) (v : List AV) (i : Nat) : updL e d v i = if i = d then some v else e i := by
  unfold updL
  by_cases h : i = d
  · subst h; simp
  · simp only [h, if_false]
    have : Nat.beq i d = false := by
      cases hb : Nat.beq i d
      · rfl
      · exact absurd (Nat.eq_of_beq_eq_true hb) h
    rw [this]; rfl
theorem updH_eq (e : Heap) (d : Nat) (v : Option AObj) (i : Nat) : updH e d v i = if i = d then v else e i := by
  unfold updH
  by_cases h : i = d
  · subst h; simp
  · simp only [h, if_false]
    have : Nat.beq i d = false := by
      cases hb : Nat.beq i d
      · rfl
      · exact absurd (Nat.eq_of_beq_eq_true hb) h
    rw [this]; rfl
theorem updH_same (e : Heap) (d : Nat) (v : Option AObj) : updH e d v d = v := by rw [updH_eq, if_pos rfl]
theorem updH_ne (e : Heap) (d : Nat) (v : Option AObj) {i : Nat} (h : i ≠ d) : updH e d v i = e i := by rw [updH_eq, if_neg h]

def putE (e : Env) (d : Option Tmp) (v : AV) : Env :=
  match d with
  | some d => updE e d v
  | none => e

/-- A slot's value is put: it stands for what is put. -/
theorem FSim.put {N : Nat} {M : Mem} {ρ : Rho} {l : Lam} {env : Env} {loc : Loc} {h : Heap} {a : Act} {w : World} (f : FSim N M ρ l env loc h a w) {d : Option Tmp} {x : AV} {v : Value} (hd : ∀ t, d = some t → t < N) (hx : RelS M ρ l x v) : FSim N M ρ l (putE env d x) loc h (a.put d v) w := by
  cases d with
  | none => exact f
  | some t =>
    have ht := hd t rfl
    refine ⟨f.sim, by simpa [Act.put] using f.size, f.defers, fun s => ?_, f.lo, f.linj, f.lown, f.lmem⟩
    simp only [putE, updE_eq, Act.put]
    by_cases hs : s = t
    · subst hs
      rw [if_pos rfl]
      have : (a.tmps.setIfInBounds s v).getD s Go.undef = v := by
        simp [Array.getD_eq_getD_getElem?, Array.getElem?_setIfInBounds, f.size, ht]
      rw [this]; exact hx
    · rw [if_neg hs]
      have : (a.tmps.setIfInBounds t v).getD s Go.undef = a.tmps.getD s Go.undef := by
        simp [Array.getD_eq_getD_getElem?, Array.getElem?_setIfInBounds, Ne.symm hs]
      rw [this]; exact f.slot s

end Go.Lift
