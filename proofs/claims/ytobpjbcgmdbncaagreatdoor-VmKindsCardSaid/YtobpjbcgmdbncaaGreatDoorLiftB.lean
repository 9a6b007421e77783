/- A part of the proof (own lemmas, no condition beyond those that each theorem states): the layer over the model that all of the proofs of this seat stand on. -/
import Derived.Test.YtobpjbcgmdbncaaGreatDoorLiftA
import Derived.Lib.Strings
import Derived.Laws.StructEq
/- What an operation that touches no memory but what is read gives: reckoned over the layer's values, and held against the model's run. -/
set_option linter.unusedVariables false
set_option linter.unusedSectionVars false
set_option linter.unusedSimpArgs false
namespace Go.Lift
open Go Go.RowKit
variable [G : Glob]

/-! ### What is known of types -/
inductive Ty where
  | bool | int (k : IntKind) | str | ptr (e : TypeId) | slice (e : TypeId) | struct (fs : List (Nat × TypeId × Bool)) (held grd : Bool)
  | array (n : Nat) (e : TypeId) | map (k e : TypeId) | func | iface (bare : Bool) | other

structure TInfo where
  desc : Ty
  size : Nat
  bytes : Nat
  zero : Value

def Ty.agg : Ty → Bool
  | .struct _ _ _ | .array _ _ => true
  | _ => false

def tyOfDesc (P : Program) (t : TypeId) : TypeDesc → Ty
  | .bool => .bool
  | .int k => .int k
  | .string => .str
  | .pointer e => .ptr e
  | .slice e => .slice e
  | .struct fs => .struct (fs.toList.map fun f => (f.offset, f.type, f.name == "_")) (P.stoodInHeld t) (P.eqGuardType P.depth t)
  | .array n e => .array n e
  | .map k e => .map k e
  | .func _ _ _ => .func
  | .interface ms => .iface ms.isEmpty
  | _ => .other

def gather (P : Program) (t : TypeId) : Option TInfo :=
  match P.info? t with
  | none => none
  | some i => match P.underlying t, i.zero with
    | some d, some z => some ⟨tyOfDesc P t d, i.size, i.bytes, z⟩
    | _, _ => none

abbrev Tys := TypeId → Option TInfo
def TyOK (P : Program) (ty : Tys) : Prop := ∀ t i, ty t = some i → gather P t = some i

theorem gather_info {P : Program} {t : TypeId} {i : TInfo} (h : gather P t = some i) : ∃ pi d, P.info? t = some pi ∧ P.underlying t = some d ∧ pi.zero = some i.zero ∧ pi.size = i.size ∧ pi.bytes = i.bytes ∧ i.desc = tyOfDesc P t d := by
  unfold gather at h
  cases hp : P.info? t with
  | none => simp [hp] at h
  | some pi =>
    simp only [hp] at h
    cases hd : P.underlying t with
    | none => simp [hd] at h
    | some d =>
      cases hz : pi.zero with
      | none => simp [hd, hz] at h
      | some z =>
        simp [hd, hz] at h
        subst h
        exact ⟨pi, d, rfl, rfl, hz, rfl, rfl, rfl⟩

section
variable {P : Program} {t : TypeId} {w : World}
theorem run_ul {d : TypeDesc} (h : P.underlying t = some d) : (underlying t).run P w = .ok d w := by simp [underlying, h]
theorem run_ti {i : TypeInfo} (h : P.info? t = some i) : (typeInfo t).run P w = .ok i w := by simp [typeInfo, h]
theorem run_so {i : TypeInfo} (h : P.info? t = some i) : (sizeOf t).run P w = .ok i.size w := by simp [sizeOf, run_ti h]
theorem run_zv {i : TypeInfo} {z : Value} (h : P.info? t = some i) (hz : i.zero = some z) : (zeroValue t).run P w = .ok z w := by simp [zeroValue, run_ti h, hz]
theorem run_ag {d : TypeDesc} (h : P.underlying t = some d) : (isAgg t).run P w = .ok (tyOfDesc P t d).agg w := by
  simp only [isAgg, Sem.run_bind, run_ul h, Result.andThen_ok]
  cases d <;> rfl
end

/-! ### Values of constants -/
def ofCell : Value → AV
  | .int k n => .int k n
  | .bool b => .bool b
  | .string s => .str s.data.toList
  | .slice none 0 0 => .sl 1 false [] .nil
  | .agg _ | .tuple _ => .undef
  | .slice _ _ _ => .undef
  | v => .opq v

theorem ofCell_rel (M : Mem) (ρ : Rho) (v : Value) : Rel M ρ (ofCell v) v := by
  have hs : ∀ s : ByteArray, Rel M ρ (.str s.data.toList) (.string s) := fun s => by
    have h : Rel M ρ (.str s.data.toList) (.string ⟨s.data.toList.toArray⟩) := .str _
    simpa using h
  have hn : Rel M ρ (.sl 1 false [] .nil) (.slice none 0 0) := .sl 1 false [] .nil none 0 0 rfl (by omega) (fun i h => by omega) (fun _ _ => Go.undef) (fun i j h => by omega) (fun i j h => by omega) ⟨rfl, rfl, rfl⟩
  cases v with
  | int k n => exact .int k n
  | bool b => exact .bool b
  | string s => exact hs s
  | agg cs => exact .undef _
  | tuple cs => exact .undef _
  | slice a n c =>
    cases a with
    | none =>
      cases n with
      | zero =>
        cases c with
        | zero => exact hn
        | succ c => exact .undef _
      | succ n => exact .undef _
    | some a => exact .undef _
  | _ => exact .opq _ rfl

def ofVal : Value → AV
  | .agg cs => .agg (cs.toList.map ofCell)
  | v => ofCell v

theorem ofVal_rel (M : Mem) (ρ : Rho) (v : Value) : Rel M ρ (ofVal v) v := by
  cases v with
  | agg cs =>
    refine .agg _ _ (by simp) fun i hi => ?_
    simp at hi
    have := ofCell_rel M ρ cs[i]
    simp only [List.getD_eq_getElem?_getD, Array.getD_eq_getD_getElem?]
    have h1 : (cs.toList.map ofCell)[i]? = some (ofCell cs[i]) := by simp [hi]
    have h2 : cs[i]? = some cs[i] := by simp [hi]
    rw [h1, h2]
    exact this
  | int k n => exact ofCell_rel M ρ (.int k n)
  | bool b => exact ofCell_rel M ρ (.bool b)
  | float k b => exact ofCell_rel M ρ (.float k b)
  | complex k a b => exact ofCell_rel M ρ (.complex k a b)
  | string s => exact ofCell_rel M ρ (.string s)
  | pointer a => exact ofCell_rel M ρ (.pointer a)
  | slice a n c => exact ofCell_rel M ρ (.slice a n c)
  | map r => exact ofCell_rel M ρ (.map r)
  | chan r => exact ofCell_rel M ρ (.chan r)
  | func f a b => exact ofCell_rel M ρ (.func f a b)
  | nilFunc => exact ofCell_rel M ρ .nilFunc
  | iface t v => exact ofCell_rel M ρ (.iface t v)
  | nilIface => exact ofCell_rel M ρ .nilIface
  | tuple l => exact ofCell_rel M ρ (.tuple l)

def evO (env : Env) : Operand → AV
  | .tmp t => env t
  | .const v => ofVal v
  | .func f => .func (.func f) [] []
  | .global g => match Glob.tab g with
    | some x => x
    | none => .undef

theorem ESim.ev {M : Mem} {ρ : Rho} {l : Lam} {env : Env} {loc : Loc} {a : Act} {w : World} (f : ESim M ρ l env loc a w) (x : Operand) : RelS M ρ l (evO env x) (a.eval x) := by
  cases x with
  | tmp t => simpa [Act.eval, Lift.evO, Array.getD_eq_getD_getElem?] using f.slot t
  | const v => exact RelS.of (ofVal_rel M ρ v)
  | func g => exact .func _ [] [] #[] #[] rfl rfl (fun i h => by simp at h) (fun i h => by simp at h)
  | global g =>
    simp only [evO]
    split
    · rename_i x hx; exact RelS.of (f.glob g x hx)
    · exact .undef _

theorem FSim.ev {N : Nat} {M : Mem} {ρ : Rho} {l : Lam} {env : Env} {loc : Loc} {h : Heap} {a : Act} {w : World} (f : FSim N M ρ l env loc h a w) (x : Operand) : RelS M ρ l (evO env x) (a.eval x) := f.e.ev x

/-! ### What comes of an operation -/
inductive Res where
  | v (x : AV)
  | ask (x : AV)
  | cond (c : Prop) [d : Decidable c] (x : AV)
  | bad

def Res.holds : Res → Prop
  | .v _ => True
  | .ask _ => True
  | @Res.cond c _ _ => c
  | .bad => False
def Res.val : Res → AV
  | .v x => x
  | .ask x => x
  | @Res.cond _ _ x => x
  | .bad => .undef

def bt (s : List UInt8) (n : Int) : Int := ((s.getD n.toNat 0).toNat : Int)

def evArith (op : BinOp) (k : IntKind) (a b : Int) : Res :=
  match op with
  | .add => .v (.int k (k.wrap (a + b)))
  | .sub => .v (.int k (k.wrap (a - b)))
  | .mul => .v (.int k (k.wrap (a * b)))
  | .quo => .cond (b ≠ 0) (.int k (k.wrap (a.tdiv b)))
  | .rem => .cond (b ≠ 0) (.int k (a.tmod b))
  | .and => .v (.int k (k.wrap (BitVec.ofInt k.bits a &&& BitVec.ofInt k.bits b).toNat))
  | .or => .v (.int k (k.wrap (BitVec.ofInt k.bits a ||| BitVec.ofInt k.bits b).toNat))
  | .xor => .v (.int k (k.wrap (BitVec.ofInt k.bits a ^^^ BitVec.ofInt k.bits b).toNat))
  | .andNot => .v (.int k (k.wrap (BitVec.ofInt k.bits a &&& ~~~(BitVec.ofInt k.bits b)).toNat))
  | .eql => .v (.bool (a == b))
  | .neq => .v (.bool (a != b))
  | .lss => .v (.bool (decide (a < b)))
  | .leq => .v (.bool (decide (a ≤ b)))
  | .gtr => .v (.bool (decide (a > b)))
  | .geq => .v (.bool (decide (a ≥ b)))
  | _ => .bad

def evShift (op : BinOp) (k : IntKind) (a : Int) (b : Int) : Res :=
  match op with
  | .shl => .cond (0 ≤ b) (.int k (k.wrap (a * 2 ^ (min b.toNat k.bits))))
  | .shr => .cond (0 ≤ b) (.int k (a.fdiv (2 ^ (min b.toNat k.bits))))
  | _ => .bad

def isShift : BinOp → Bool
  | .shl | .shr => true
  | _ => false

def evStr (op : BinOp) (a b : List UInt8) : Res :=
  match op with
  | .add => .cond (((a.length + b.length : Nat) : Int) ≤ 9223372036854775807) (.str (a ++ b))
  | .eql => .v (.bool (a == b))
  | .neq => .v (.bool !(a == b))
  | .lss => .v (.bool (Op.bytesLess a b))
  | .leq => .v (.bool (Op.bytesLess a b || a == b))
  | .gtr => .v (.bool !(Op.bytesLess a b || a == b))
  | .geq => .v (.bool !(Op.bytesLess a b))
  | _ => .bad

/-- Are two values equal, each of a plain kind? -/
def eq1 (ty : Tys) (t : TypeId) (x y : AV) : Option Bool :=
  match ty t with
  | some ⟨.bool, _, _, _⟩ => match x, y with
    | .bool a, .bool b => some (a == b)
    | _, _ => none
  | some ⟨.int _, _, _, _⟩ => match x, y with
    | .int k a, .int k' b => if k = k' then some (a == b) else none
    | _, _ => none
  | some ⟨.str, _, _, _⟩ => match x, y with
    | .str a, .str b => some (a == b)
    | _, _ => none
  | _ => none

/-- The fields in their order, till one differs. -/
def eqFs (ty : Tys) (xs ys : List AV) : List (Nat × TypeId × Bool) → Option Bool
  | [] => some true
  | (o, t, blank) :: r => match blank with
    | true => eqFs ty xs ys r
    | false => match eq1 ty t (xs.getD o .undef) (ys.getD o .undef), eqFs ty xs ys r with
      | some a, some b => some (a && b)
      | _, _ => none

def evEq (ty : Tys) (t : TypeId) (x y : AV) : Option Bool :=
  match x, y with
  | .bool a, .bool b => eq1 ty t x y
  | .agg xs, .agg ys => match ty t with
    | some ⟨.struct fs false false, _, _, _⟩ => eqFs ty xs ys fs
    | _ => none
  | .opq .nilIface, .iface _ _ => match ty t with
    | some ⟨.iface _, _, _, _⟩ => some false
    | _ => none
  | .iface _ _, .opq .nilIface => match ty t with
    | some ⟨.iface _, _, _, _⟩ => some false
    | _ => none
  | _, _ => none

/-! ### Operations over what slots hold -/
/-- A part of a row of cells: a value of n cells. -/
def partA (g : Bool) (n : Nat) (cs : List AV) (off : Nat) : AV :=
  match g with
  | true => .agg ((cs.drop off).take n)
  | false => cs.getD off .undef

/-- What a pointer into what is only read, or to a variable of the function's own, gives. -/
def evLoad (ty : Tys) (loc : Loc) (t : TypeId) (p : AV) : Res :=
  match ty t with
  | none => .bad
  | some i => match p with
    | .ept x k g off => match Nat.beq off 0 && Nat.beq i.size k && (i.desc.agg == g) with
      | true => .ask x
      | false => match Nat.ble (off + i.size) k && (i.desc.agg || Nat.beq i.size 1) with
        | true => .ask (partA i.desc.agg i.size x.cells off)
        | false => .bad
    | .lptr d off => match loc d with
      | some cs => match Nat.ble (off + i.size) cs.length && (i.desc.agg || Nat.beq i.size 1) with
        | true => .v (partA i.desc.agg i.size cs off)
        | false => .bad
      | none => .bad
    | _ => .bad

def evField (ty : Tys) (t : TypeId) (f : Nat) : Option (Nat × TInfo) :=
  match ty t with
  | some ⟨.struct fs _ _, _, _, _⟩ => match fs[f]? with
    | some (o, ft, _) => match ty ft with
      | some i => some (o, i)
      | none => none
    | none => none
  | _ => none

def addOff (x : AV) (n : Nat) : AV :=
  match x with
  | .ept x k g off => .ept x k g (off + n)
  | .lptr d off => .lptr d (off + n)
  | .ptr d off => .ptr d (off + n)
  | _ => .undef

def isPtr : AV → Bool
  | .ept _ _ _ _ | .lptr _ _ | .ptr _ _ => true
  | _ => false

def evIndexAddr (ty : Tys) (t : TypeId) (x : AV) (ix : AV) : Res :=
  match ix with
  | .int _ n => match ty t with
    | some ⟨.slice e, _, _, _⟩ => match ty e with
      | some i => match x with
        | .sl k g els _ => match Nat.beq i.size k && Nat.ble 1 k with
          | true => .cond (0 ≤ n ∧ n < (els.length : Int)) (.ept (els.getD n.toNat .undef) k g 0)
          | false => .bad
        | .row id off len _ => .cond (0 ≤ n ∧ n < (len : Int)) (.ptr id (off + n.toNat * i.size))
        | _ => .bad
      | none => .bad
    | some ⟨.array len e, _, _, _⟩ => match ty e with
      | some i => match isPtr x && Nat.ble 1 i.size with
        | true => .cond (0 ≤ n ∧ n < (len : Int)) (addOff x (n.toNat * i.size))
        | false => .bad
      | none => .bad
    | _ => .bad
  | _ => .bad

def evIndex (ty : Tys) (t : TypeId) (x : AV) (ix : AV) : Res :=
  match ix with
  | .int _ n => match x with
    | .str s => match ty t with
      | some ⟨.str, _, _, _⟩ => .cond (0 ≤ n ∧ n < (s.length : Int)) (.int .u8 (bt s n))
      | _ => .bad
    | .agg cs => match ty t with
      | some ⟨.array len e, _, _, _⟩ => match ty e with
        | some i => match i.desc.agg || Nat.beq i.size 1 with
          | true => .cond (0 ≤ n ∧ n < (len : Int) ∧ n.toNat * i.size + i.size ≤ cs.length) (partA i.desc.agg i.size cs (n.toNat * i.size))
          | false => .bad
        | none => .bad
      | _ => .bad
    | _ => .bad
  | _ => .bad

def intA : Option AV → Int → Option Int
  | none, d => some d
  | some (.int _ n), _ => some n
  | _, _ => none

/-- From l to h, as plainly as may be. -/
def cutL {α : Type} (lo hi : Option AV) (s : List α) (l h : Int) : List α :=
  match hi with
  | none => s.drop l.toNat
  | some _ => match lo with
    | none => s.take h.toNat
    | some _ => (s.take h.toNat).drop l.toNat

def evSlice (ty : Tys) (t : TypeId) (x : AV) (lo hi mx : Option AV) : Res :=
  match ty t with
  | some ⟨.str, _, _, _⟩ => match x, mx with
    | .str s, none => match intA lo 0, intA hi s.length with
      | some l, some h => .cond (0 ≤ l ∧ l ≤ h ∧ h ≤ (s.length : Int)) (.str (cutL lo hi s l h))
      | _, _ => .bad
    | _, _ => .bad
  | some ⟨.slice e, _, _, _⟩ => match ty e with
    | none => .bad
    | some i => match x with
      | .sl k g els cap => match Nat.beq i.size k with
        | false => .bad
        | true => match mx with
          | none => match hi with
            | none => match intA lo 0 with
              | some l => .cond (0 ≤ l ∧ l ≤ (els.length : Int)) (.sl k g (els.drop l.toNat) (match cap with | .full => .full | .nil => .full | _ => .no))
              | none => .bad
            | some hv => match intA lo 0, intA (some hv) 0 with
              | some l, some h => .cond (0 ≤ l ∧ l ≤ h ∧ h ≤ (els.length : Int)) (.sl k g (cutL lo (some hv) els l h) .no)
              | _, _ => .bad
          | some mv => match hi with
            | none => .bad
            | some hv => match intA lo 0, intA (some hv) 0, intA (some mv) 0 with
              | some l, some h, some m => .cond (0 ≤ l ∧ l ≤ h ∧ h = m ∧ h ≤ (els.length : Int)) (.sl k g (cutL lo (some hv) els l h) .full)
              | _, _, _ => .bad
      | .row id off len cap => match mx with
        | none => match intA lo 0, intA hi len with
          | some l, some h => match cap with
            | some c => .cond (0 ≤ l ∧ l ≤ h ∧ h ≤ (c : Int) ∧ (l < (c : Int) ∨ l = 0)) (.row id (off + l.toNat * i.size) (h.toNat - l.toNat) (some (c - l.toNat)))
            | none => .cond (0 ≤ l ∧ l ≤ h ∧ h ≤ (len : Int) ∧ (l < (len : Int) ∨ l = 0)) (.row id (off + l.toNat * i.size) (h.toNat - l.toNat) none)
          | _, _ => .bad
        | some mv => match hi with
          | none => .bad
          | some hv => match intA lo 0, intA (some hv) 0, intA (some mv) 0 with
            | some l, some h, some m => .cond (0 ≤ l ∧ l ≤ h ∧ h ≤ m ∧ m ≤ (len : Int) ∧ (l < m ∨ l = 0)) (.row id (off + l.toNat * i.size) (h.toNat - l.toNat) (some (m.toNat - l.toNat)))
            | _, _, _ => .bad
      | _ => .bad
  | _ => .bad

def evLen (ty : Tys) (t : TypeId) (x : AV) : Res :=
  match ty t with
  | some ⟨.str, _, _, _⟩ => match x with
    | .str s => .v (.int .i64 s.length)
    | _ => .bad
  | some ⟨.slice _, _, _, _⟩ => match x with
    | .sl _ _ els _ => .v (.int .i64 els.length)
    | .row _ _ len _ => .v (.int .i64 len)
    | _ => .bad
  | some ⟨.array n _, _, _, _⟩ => .v (.int .i64 n)
  | _ => .bad

def evMinMax (mx : Bool) : List AV → Res
  | [.int k a, .int _ b] => match mx with
    | true => .v (.int k (if b > a then b else a))
    | false => .v (.int k (if b < a then b else a))
  | _ => .bad

def evBin (ty : Tys) (op : BinOp) (t : TypeId) (x y : AV) : Res :=
  match x, y with
  | .int k a, .int k' b => match isShift op with
    | true => evShift op k a b
    | false => match decide (k = k') with
      | true => evArith op k a b
      | false => .bad
  | .str a, .str b => evStr op a b
  | x, y => match op with
    | .eql => match evEq ty t x y with
      | some b => .v (.bool b)
      | none => .bad
    | .neq => match evEq ty t x y with
      | some b => .v (.bool !b)
      | none => .bad
    | _ => .bad

def isC : Operand → Bool
  | .const _ => true
  | _ => false

/-- Two nil values of an interface type, one of them spelt out; a pointer, a function against nil. -/
def evNil (ty : Tys) (op : BinOp) (t : TypeId) (x y : Operand) (vx vy : AV) : Option Bool :=
  match isC x || isC y with
  | false => none
  | true => match vx, vy with
    | .opq .nilIface, .opq .nilIface => match ty t with
      | some ⟨.iface _, _, _, _⟩ => match op with
        | .eql => some true
        | .neq => some false
        | _ => none
      | _ => none
    | _, _ => none

def evUn (op : UnOp) (x : AV) : Res :=
  match op, x with
  | .not, .bool b => .v (.bool !b)
  | .neg, .int k n => .v (.int k (k.wrap (0 - n)))
  | .xor, .int k n => .v (.int k (k.wrap (BitVec.ofInt k.bits (if k.signed then -1 else k.max) ^^^ BitVec.ofInt k.bits n).toNat))
  | _, _ => .bad

def evConv (ty : Tys) (src dst : TypeId) (x : AV) : Res :=
  match ty dst with
  | some ⟨.int k, _, _, _⟩ => match x with
    | .int _ n => match ty src with
      | some _ => .v (.int k (k.wrap n))
      | none => .bad
    | _ => .bad
  | some ⟨.str, _, _, _⟩ => match x with
    | .str s => match ty src with
      | some _ => .v (.str s)
      | none => .bad
    | _ => .bad
  | _ => .bad

def evExtract (x : AV) (n : Nat) : Res :=
  match x with
  | .tuple l => match l[n]? with
    | some v => .v v
    | none => .bad
  | _ => .bad

def fillA (place : Nat → Option (Nat × Nat)) (cs : List AV) : List (Nat × AV) → Option (List AV)
  | [] => some cs
  | (i, v) :: r => match place i with
    | none => none
    | some (o, sz) => match v.known && v.plain && Nat.beq v.cells.length sz && Nat.ble (o + v.cells.length) cs.length with
      | false => none
      | true => fillA place (cs.take o ++ (v.cells ++ cs.drop (o + v.cells.length))) r

def sizesOf (ty : Tys) : List (Nat × TypeId × Bool) → Option (List (Nat × Nat))
  | [] => some []
  | (o, t, _) :: r => match ty t, sizesOf ty r with
    | some i, some l => some ((o, i.size) :: l)
    | _, _ => none

def evBuild (ty : Tys) (t : TypeId) (parts : List (Nat × AV)) : Res :=
  match ty t with
  | some ⟨.struct fs _ _, _, _, z⟩ => match (ofVal z).known with
    | false => .bad
    | true => match sizesOf ty fs with
      | some l => match fillA (fun i => l[i]?) (ofVal z).cells parts with
        | some cs => .v (.agg cs)
        | none => .bad
      | none => .bad
  | some ⟨.array _ e, _, _, z⟩ => match (ofVal z).known with
    | false => .bad
    | true => match ty e with
      | some i => match fillA (fun j => some (j * i.size, i.size)) (ofVal z).cells parts with
        | some cs => .v (.agg cs)
        | none => .bad
      | none => .bad
  | _ => .bad

def evPick (c a b : AV) : Res :=
  match c with
  | .bool true => .v a
  | .bool false => .v b
  | _ => .bad

def nilOK : AV → Bool
  | .ept _ _ _ _ | .lptr _ _ | .ptr _ _ => true
  | .func (.func _) _ _ => true
  | _ => false

/-- The operations that touch no memory but what is read. -/
def evS (ty : Tys) (env : Env) (loc : Loc) (op : Op) : Res :=
  match op with
  | .move x => .v (evO env x)
  | .assign x => .v (evO env x)
  | .pick c a b => evPick (evO env c) (evO env a) (evO env b)
  | .load t p => evLoad ty loc t (evO env p)
  | .binOp op t x y _ => match evNil ty op t x y (evO env x) (evO env y) with
    | some b => .v (.bool b)
    | none => evBin ty op t (evO env x) (evO env y)
  | .unOp op _ x => evUn op (evO env x)
  | .convert s d x => evConv ty s d (evO env x)
  | .fieldAddr t x f => match evField ty t f with
    | some (o, i) => match isPtr (evO env x) && Nat.ble 1 i.size with
      | true => .v (addOff (evO env x) o)
      | false => .bad
    | none => .bad
  | .field t x f => match evField ty t f with
    | some (o, i) => match evO env x with
      | .agg cs => match Nat.ble (o + i.size) cs.length && (i.desc.agg || Nat.beq i.size 1) with
        | true => .v (partA i.desc.agg i.size cs o)
        | false => .bad
      | _ => .bad
    | none => .bad
  | .nilCheck x => match nilOK (evO env x) with
    | true => .v (evO env x)
    | false => .bad
  | .indexAddr t x i => evIndexAddr ty t (evO env x) (evO env i)
  | .index t x i => evIndex ty t (evO env x) (evO env i)
  | .slice t x lo hi mx => evSlice ty t (evO env x) (lo.map (evO env)) (hi.map (evO env)) (mx.map (evO env))
  | .extract x n => evExtract (evO env x) n
  | .build t ps => evBuild ty t (ps.toList.map fun p => (p.1, evO env p.2))
  | .makeInterface t x => match ty t with
    | some ⟨.iface _, _, _, _⟩ => .bad
    | some _ => match (evO env x).plain with
      | true => .v (.iface t (evO env x))
      | false => .bad
    | none => .bad
  | .makeFunc fn first captured => match first.toList.all (fun x => (evO env x).plain) && captured.toList.all (fun x => (evO env x).plain) with
    | true => .v (.func fn (first.toList.map (evO env)) (captured.toList.map (evO env)))
    | false => .bad
  | .call c => match c.callee with
    | .builtin .len => match c.argTypes[0]?, c.args[0]? with
      | some t, some x => evLen ty t (evO env x)
      | _, _ => .bad
    | .builtin .max => evMinMax true (c.args.toList.map (evO env))
    | .builtin .min => evMinMax false (c.args.toList.map (evO env))
    | _ => .bad
  | _ => .bad

end Go.Lift
