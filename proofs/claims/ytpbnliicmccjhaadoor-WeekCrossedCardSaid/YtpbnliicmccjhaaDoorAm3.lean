/-
  An abstract machine for the model's code, part 3: the operations.
-/
import Derived.Test.YtpbnliicmccjhaaDoorAm2
namespace Go.Am
set_option linter.unusedVariables false
set_option linter.unusedSimpArgs false

structure TI where
  desc : TypeDesc
  size : Nat
  bytes : Nat
  zv : Value
  zero : List Value
  agg : Bool

def isAggD : TypeDesc → Bool
  | .struct _ | .array .. => true
  | _ => false

def ti (P : Program) (t : TypeId) : Option TI :=
  match P.info? t, P.underlying t with
  | some i, some d => i.zero.map fun z => ⟨d, i.size, i.bytes, z, z.cells.toList, isAggD d⟩
  | _, _ => none

structure TOK (P : Program) (t : TypeId) (i : TI) : Prop where
  is : ti P t = some i
  sc : i.zero.all scalar = true
  fl : flat i.zv = true
  len : i.zero.length = i.size

theorem TOK.info {P : Program} {t : TypeId} {i : TI} (h : TOK P t i) :
    ∃ inf z, P.info? t = some inf ∧ inf.size = i.size ∧ inf.bytes = i.bytes ∧ inf.zero = some z ∧ z.cells.toList = i.zero ∧ z = i.zv ∧ P.underlying t = some i.desc ∧ i.agg = isAggD i.desc := by
  have hi := h.is
  unfold ti at hi
  cases h1 : P.info? t with
  | none => simp [h1] at hi
  | some inf =>
    cases h2 : P.underlying t with
    | none => simp [h1, h2] at hi
    | some d =>
      cases h3 : inf.zero with
      | none => simp [h1, h2, h3] at hi
      | some z =>
        simp [h1, h2, h3] at hi
        subst hi
        exact ⟨inf, z, rfl, rfl, rfl, h3, rfl, rfl, rfl, rfl⟩

structure Env where
  P : Program
  T : Nat → Option TI
  G : Globs
  ok : ∀ t i, T t = some i → TOK P t i
  mixed : P.follows .mixedOrders = true

abbrev Fr := Nat → Value
def upd (fr : Fr) (d : Nat) (v : Value) : Fr := fun i => bif Nat.beq i d then v else fr i
def put (fr : Fr) (dst : Option Tmp) (v : Value) : Fr :=
  match dst with
  | some d => upd fr d v
  | none => fr
def ev (fr : Fr) : Operand → Value
  | .tmp t => fr t
  | .const v => v
  | .global g => .pointer (some ⟨g, 0, none⟩)
  | .func f => .func (.func f) #[] #[]

abbrev Kont := Value → St → Prop

/-! ### Words at which a walk stops (each says no more than its one field) -/

/-- A new block. -/
structure New (σ : St) (cs : List Value) (K : Kont) : Prop where
  out : K (.pointer (some ⟨σ.n, 0, none⟩)) (σ.push cs)
/-- A new slice. -/
structure NewS (σ : St) (e n c : Nat) (cs : List Value) (K : Kont) : Prop where
  out : K (.slice (some ⟨σ.n, 0, some e⟩) n c) (σ.push cs)
/-- A load. -/
structure Got (σ : St) (b o : Nat) (K : Value → Prop) : Prop where
  out : ∃ v, σ.ld b o = some v ∧ K v
structure GotA (σ : St) (b o n : Nat) (K : List Value → Prop) : Prop where
  out : ∃ vs, σ.lds b o n = some vs ∧ K vs
/-- A store. -/
structure Stored (σ : St) (b o : Nat) (x : Value) (K : St → Prop) : Prop where
  out : one x = true ∧ ∃ k, σ.get b = some k ∧ k.wr = true ∧ σ.sole b ∧ o < k.cells.length ∧ K (σ.st b (k.cells.set o x))
structure StoredA (σ : St) (b o n : Nat) (x : Value) (K : St → Prop) : Prop where
  out : ∃ cs k, x = .agg cs ∧ cs.size = n ∧ cs.toList.all one = true ∧ σ.get b = some k ∧ k.wr = true ∧ σ.sole b ∧ o + n ≤ k.cells.length ∧
        K (σ.st b (k.cells.take o ++ cs.toList ++ k.cells.drop (o + n)))
/-- An element of a slice. -/
structure Elem (e : Nat) (x i : Value) (K : Value → Prop) : Prop where
  out : ∃ b o n c k j, x = .slice (some ⟨b, o, some e⟩) n c ∧ i = .int k j ∧ 0 ≤ j ∧ j < n ∧ K (.pointer (some ⟨b, o + j.toNat * e, none⟩))
/-- A comparison. -/
structure Cmp (p q : Prop) (K : Bool → Prop) : Prop where
  out : (p → K true) ∧ (q → K false)
/-- A fork. -/
structure If (v : Value) (A B : Prop) : Prop where
  out : ∃ t, v = .bool t ∧ bif t then A else B
def vlen : Value → Option Nat
  | .slice none 0 0 => some 0
  | .slice (some _) n _ => some n
  | _ => none
/-- A length. -/
structure LenOf (x : Value) (K : Value → Prop) : Prop where
  out : ∃ n : Nat, vlen x = some n ∧ K (.int .i64 n)

theorem newS_iff {σ : St} {e n c : Nat} {cs : List Value} {K : Kont} : NewS σ e n c cs K ↔ K (.slice (some ⟨σ.n, 0, some e⟩) n c) (σ.push cs) := ⟨fun h => h.out, fun h => ⟨h⟩⟩
theorem new_iff {σ : St} {cs : List Value} {K : Kont} : New σ cs K ↔ K (.pointer (some ⟨σ.n, 0, none⟩)) (σ.push cs) := ⟨fun h => h.out, fun h => ⟨h⟩⟩
theorem got_iff {σ : St} {b o : Nat} {K : Value → Prop} : Got σ b o K ↔ ∃ v, σ.ld b o = some v ∧ K v := ⟨fun h => h.out, fun h => ⟨h⟩⟩
theorem gotA_iff {σ : St} {b o n : Nat} {K : List Value → Prop} : GotA σ b o n K ↔ ∃ vs, σ.lds b o n = some vs ∧ K vs := ⟨fun h => h.out, fun h => ⟨h⟩⟩
theorem stored_iff {σ : St} {b o : Nat} {x : Value} {K : St → Prop} : Stored σ b o x K ↔ (one x = true ∧ ∃ k, σ.get b = some k ∧ k.wr = true ∧ σ.sole b ∧ o < k.cells.length ∧ K (σ.st b (k.cells.set o x))) := ⟨fun h => h.out, fun h => ⟨h⟩⟩
theorem storedA_iff {σ : St} {b o n : Nat} {x : Value} {K : St → Prop} : StoredA σ b o n x K ↔ (∃ cs k, x = .agg cs ∧ cs.size = n ∧ cs.toList.all one = true ∧ σ.get b = some k ∧ k.wr = true ∧ σ.sole b ∧ o + n ≤ k.cells.length ∧
        K (σ.st b (k.cells.take o ++ cs.toList ++ k.cells.drop (o + n)))) := ⟨fun h => h.out, fun h => ⟨h⟩⟩
theorem elem_iff {e : Nat} {x i : Value} {K : Value → Prop} : Elem e x i K ↔ (∃ b o n c k j, x = .slice (some ⟨b, o, some e⟩) n c ∧ i = .int k j ∧ 0 ≤ j ∧ j < n ∧ K (.pointer (some ⟨b, o + j.toNat * e, none⟩))) := ⟨fun h => h.out, fun h => ⟨h⟩⟩
theorem cmp_iff {p q : Prop} {K : Bool → Prop} : Cmp p q K ↔ (p → K true) ∧ (q → K false) := ⟨fun h => h.out, fun h => ⟨h⟩⟩
theorem if_iff {v : Value} {A B : Prop} : If v A B ↔ ∃ t, v = .bool t ∧ bif t then A else B := ⟨fun h => h.out, fun h => ⟨h⟩⟩
theorem lenOf_iff {x : Value} {K : Value → Prop} : LenOf x K ↔ ∃ n : Nat, vlen x = some n ∧ K (.int .i64 n) := ⟨fun h => h.out, fun h => ⟨h⟩⟩

def awBin (op : BinOp) (x y : Value) (K : Value → Prop) : Prop :=
  match x, y with
  | .int k a, .int k' b =>
    match op with
    | .add => k = k' ∧ ∃ r, r = k.wrap (a + b) ∧ K (.int k r)
    | .sub => k = k' ∧ ∃ r, r = k.wrap (a - b) ∧ K (.int k r)
    | .mul => k = k' ∧ ∃ r, r = k.wrap (a * b) ∧ K (.int k r)
    | .quo => k = k' ∧ b ≠ 0 ∧ ∃ r, r = k.wrap (a.tdiv b) ∧ K (.int k r)
    | .rem => k = k' ∧ b ≠ 0 ∧ ∃ r, r = a.tmod b ∧ K (.int k r)
    | .and => k = k' ∧ ∃ r, r = k.wrap ((BitVec.ofInt k.bits a &&& BitVec.ofInt k.bits b).toNat) ∧ K (.int k r)
    | .or => k = k' ∧ ∃ r, r = k.wrap ((BitVec.ofInt k.bits a ||| BitVec.ofInt k.bits b).toNat) ∧ K (.int k r)
    | .xor => k = k' ∧ ∃ r, r = k.wrap ((BitVec.ofInt k.bits a ^^^ BitVec.ofInt k.bits b).toNat) ∧ K (.int k r)
    | .andNot => k = k' ∧ ∃ r, r = k.wrap ((BitVec.ofInt k.bits a &&& ~~~(BitVec.ofInt k.bits b)).toNat) ∧ K (.int k r)
    | .shl => 0 ≤ b ∧ ∃ r, r = k.wrap (a * 2 ^ (min b.toNat k.bits)) ∧ K (.int k r)
    | .shr => 0 ≤ b ∧ ∃ r, r = a.fdiv (2 ^ (min b.toNat k.bits)) ∧ K (.int k r)
    | .eql => k = k' ∧ Cmp (a = b) (a ≠ b) fun t => K (.bool t)
    | .neq => k = k' ∧ Cmp (a ≠ b) (a = b) fun t => K (.bool t)
    | .lss => k = k' ∧ Cmp (a < b) (b ≤ a) fun t => K (.bool t)
    | .leq => k = k' ∧ Cmp (a ≤ b) (b < a) fun t => K (.bool t)
    | .gtr => k = k' ∧ Cmp (b < a) (a ≤ b) fun t => K (.bool t)
    | .geq => k = k' ∧ Cmp (b ≤ a) (a < b) fun t => K (.bool t)
  | _, _ => False

/-- '==' between bools; of slices, functions and interface values with nil; of lists of ints (arrays and structs). -/
def awEq (E : Env) (t : TypeId) (x y : Value) (K : Bool → Prop) : Prop :=
  match E.T t with
  | none => False
  | some i =>
    match i.desc, x, y with
    | .bool, .bool a, .bool b => Cmp (a = b) (a ≠ b) K
    | .slice _, .slice none _ _, .slice b _ _ => K b.isNone
    | .slice _, .slice (some _) _ _, .slice none _ _ => K false
    | .func _ _ _, .nilFunc, .nilFunc => K true
    | .func _ _ _, .nilFunc, .func _ _ _ => K false
    | .func _ _ _, .func _ _ _, .nilFunc => K false
    | _, _, _ => False

def awUn (op : UnOp) (x : Value) (K : Value → Prop) : Prop :=
  match op, x with
  | .neg, .int k n => ∃ r, r = k.wrap (0 - n) ∧ K (.int k r)
  | .not, .bool b => ∃ r, r = !b ∧ K (.bool r)
  | _, _ => False

/-- A bound of a slice expression. -/
def bnd (v : Value) (n : Nat) : Prop := ∃ k, v = .int k n

def loOk : Option Value → Nat → Prop
  | some v, l => bnd v l
  | none, l => l = 0

def hiOk : Option Value → Nat → Nat → Prop
  | some v, h, _ => bnd v h
  | none, h, n => h = n

/-- A slice of a slice of elements of so many cells. -/
structure awSlice (e : Nat) (x : Value) (low high max : Option Value) (K : Value → Prop) : Prop where
  out : (x = .slice none 0 0 ∧ loOk low 0 ∧ hiOk high 0 0 ∧ (match max with | none => True | some vm => bnd vm 0 ∧ high.isSome = true) ∧ K (.slice none 0 0)) ∨
  ∃ b o n c l h, x = .slice (some ⟨b, o, some e⟩) n c ∧ loOk low l ∧ l ≤ h ∧
    match max with
    | none => hiOk high h n ∧ h ≤ c / 2 ∧ K (.slice (some ⟨b, o + l * e, some e⟩) (h - l) (2 * (c / 2 - l) + c % 2))
    | some vm => ∃ m, bnd vm m ∧ (match high with | some v => bnd v h | none => False) ∧ h ≤ m ∧ m ≤ c / 2 ∧ K (.slice (some ⟨b, o + l * e, some e⟩) (h - l) (2 * (m - l) + 1))

/-- A slice of an array in memory. -/
def awSliceArr (σ : St) (n e : Nat) (x : Value) (low high max : Option Value) (K : Value → Prop) : Prop :=
  match x, max with
  | .pointer (some ⟨b, o, none⟩), none =>
    ∃ l h, loOk low l ∧ hiOk high h n ∧ l ≤ h ∧ h ≤ n ∧ (∃ k, σ.get b = some k ∧ o + n * e ≤ k.cells.length) ∧
      K (.slice (some ⟨b, o + l * e, some e⟩) (h - l) (2 * (n - l) + 1))
  | _, _ => False

def awSl (E : Env) (σ : St) (t : TypeId) (x : Value) (low high max : Option Value) (K : Value → Prop) : Prop :=
  match E.T t with
  | none => False
  | some i =>
    match i.desc with
    | .slice e => match E.T e with
      | some ie => awSlice ie.size x low high max K
      | none => False
    | .array n e => match E.T e with
      | some ie => awSliceArr σ n ie.size x low high max K
      | none => False
    | _ => False

def awIndexAddr (E : Env) (t : TypeId) (x i : Value) (K : Value → Prop) : Prop :=
  match E.T t with
  | none => False
  | some ti =>
    match ti.desc with
    | .slice e => match E.T e with
      | none => False
      | some ie => Elem ie.size x i K
    | .array n e => match E.T e, x with
      | some ie, .pointer (some ⟨b, o, none⟩) => ∃ k j, i = .int k j ∧ 0 ≤ j ∧ j < (n : Int) ∧ K (.pointer (some ⟨b, o + j.toNat * ie.size, none⟩))
      | _, _ => False
    | _ => False

def awFieldAddr (E : Env) (t : TypeId) (x : Value) (f : Nat) (K : Value → Prop) : Prop :=
  match E.T t, x with
  | some ti, .pointer (some ⟨b, o, none⟩) =>
    match ti.desc with
    | .struct fs => match fs[f]? with
      | none => False
      | some fd => match E.T fd.type with
        | none => False
        | some fi => fi.size ≠ 0 ∧ K (.pointer (some ⟨b, o + fd.offset, none⟩))
    | _ => False
  | _, _ => False

/-- A part of an aggregate's cells. -/
def awPart (E : Env) (t : TypeId) (cs : Array Value) (off : Nat) (K : Value → Prop) : Prop :=
  match E.T t with
  | none => False
  | some i => if i.agg then K (.agg (cs.extract off (off + i.size))) else ∃ v, cs[off]? = some v ∧ K v

def awField (E : Env) (t : TypeId) (x : Value) (f : Nat) (K : Value → Prop) : Prop :=
  match E.T t, x with
  | some ti, .agg cs =>
    match ti.desc with
    | .struct fs => match fs[f]? with
      | none => False
      | some fd => awPart E fd.type cs fd.offset K
    | _ => False
  | _, _ => False

def awIndex (E : Env) (t : TypeId) (x i : Value) (K : Value → Prop) : Prop :=
  match E.T t, x, i with
  | some ti, .agg cs, .int _ j =>
    match ti.desc with
    | .array n e => match E.T e with
      | none => False
      | some ie => 0 ≤ j ∧ j < (n : Int) ∧ awPart E e cs (j.toNat * ie.size) K
    | _ => False
  | _, _, _ => False

def awLoad (E : Env) (σ : St) (t : TypeId) (a : Value) (K : Value → Prop) : Prop :=
  match E.T t, a with
  | some i, .pointer (some ⟨b, o, none⟩) =>
    if i.agg then GotA σ b o i.size fun vs => K (.agg vs.toArray) else Got σ b o K
  | _, _ => False

def awStore (E : Env) (σ : St) (t : TypeId) (a x : Value) (K : St → Prop) : Prop :=
  match E.T t, a with
  | some i, .pointer (some ⟨b, o, none⟩) =>
    if i.agg then StoredA σ b o i.size x K
    else i.size = 1 ∧ Stored σ b o x K
  | _, _ => False

def awBox (E : Env) (σ : St) (t : TypeId) (x : Value) (K : Kont) : Prop :=
  match E.T t with
  | none => False
  | some i =>
    if i.agg then match x with
      | .agg cs => New σ cs.toList K
      | _ => False
    else one x = true ∧ New σ [x] K

def awAlloc (E : Env) (σ : St) (t : TypeId) (K : Kont) : Prop :=
  match E.T t with
  | none => False
  | some i => New σ i.zero K

/-- Parts are laid over an aggregate's cells, one after the other ('none': a part does not fit). -/
def lay (agg : Nat → Bool) (place : Nat → Option (Nat × Nat)) (cells : List Value) : List (Nat × Value) → Option (List Value)
  | [] => some cells
  | (i, v) :: rest =>
    match place i with
    | none => none
    | some (off, size) =>
      if agg i then
        match v with
        | .agg cs => if cs.size = size ∧ off + size ≤ cells.length then lay agg place (cells.take off ++ cs.toList ++ cells.drop (off + size)) rest else none
        | _ => none
      else if one v = true ∧ size = 1 ∧ off < cells.length then lay agg place (cells.set off v) rest else none

def fieldPlaceOf (E : Env) (fs : Array Field) (i : Nat) : Option (Nat × Nat) :=
  match fs[i]? with
  | none => none
  | some f => match E.T f.type with
    | none => none
    | some fi => some (f.offset, fi.size)
def fieldAgg (E : Env) (fs : Array Field) (i : Nat) : Bool :=
  match fs[i]? with
  | none => false
  | some f => match E.T f.type with
    | none => false
    | some fi => fi.agg

def awBuild (E : Env) (t : TypeId) (parts : List (Nat × Value)) (K : Value → Prop) : Prop :=
  match E.T t with
  | none => False
  | some i =>
    match i.desc with
    | .struct fs => (∀ f ∈ fs.toList, (E.T f.type).isSome = true) ∧ ∃ cs, lay (fieldAgg E fs) (fieldPlaceOf E fs) i.zero parts = some cs ∧ K (.agg cs.toArray)
    | .array _ e => match E.T e with
      | none => False
      | some ie => ∃ cs, lay (fun _ => ie.agg) (fun j => some (j * ie.size, ie.size)) i.zero parts = some cs ∧ K (.agg cs.toArray)
    | _ => False

/-- The cells of n elements of zero value. -/
def zeros (z : List Value) (n : Nat) : List Value := (List.replicate n z).flatten

def awBuildSlice (E : Env) (σ : St) (t : TypeId) (len : Nat) (parts : List (Nat × Value)) (K : Kont) : Prop :=
  match E.T t with
  | none => False
  | some i =>
    match i.desc with
    | .slice e => match E.T e with
      | none => False
      | some ie => 0 < ie.size ∧ len * ie.size ≤ 16777216 ∧ ∃ cs, lay (fun _ => ie.agg) (fun j => some (j * ie.size, ie.size)) (zeros ie.zero len) parts = some cs ∧
          NewS σ ie.size len (2 * len + 1) cs K
    | _ => False

def awMakeSlice (E : Env) (σ : St) (t : TypeId) (len cap : Value) (K : Kont) : Prop :=
  match E.T t with
  | none => False
  | some i =>
    match i.desc with
    | .slice e => match E.T e with
      | none => False
      | some ie => 0 < ie.size ∧ ie.bytes ≤ 65536 ∧ ∃ k k' n c, len = .int k (n : Nat) ∧ cap = .int k' (c : Nat) ∧ n ≤ c ∧ c ≤ 1073741824 ∧
          NewS σ ie.size n (2 * c + 1) (zeros ie.zero c) K
    | _ => False

def awConvert (E : Env) (s d : TypeId) (x : Value) (K : Value → Prop) : Prop :=
  match E.T s, E.T d, x with
  | some _, some di, .int _ n => match di.desc with
    | .int k => ∃ r, r = k.wrap n ∧ K (.int k r)
    | _ => False
  | _, _, _ => False

def awMakeInterface (E : Env) (t : TypeId) (x : Value) (K : Value → Prop) : Prop :=
  match E.T t with
  | none => False
  | some i => match i.desc with
    | .interface _ => False
    | _ => K (.iface t x)

def awTA (zv x : Value) (asserted : TypeId) (ok : Bool) (K : Value → Prop) : Prop :=
  match x with
  | .nilIface => ok = true ∧ K (.tuple #[zv, .bool false])
  | .iface t v => if t = asserted then K (bif ok then .tuple #[v, .bool true] else v) else ok = true ∧ K (.tuple #[zv, .bool false])
  | _ => False

def awTypeAssert (E : Env) (x : Value) (asserted : TypeId) (commaOk : Bool) (K : Value → Prop) : Prop :=
  match E.T asserted with
  | none => False
  | some i =>
    match i.desc with
    | .interface _ => False
    | _ => awTA i.zv x asserted commaOk K

/-- The operations but the calls. -/
def awPure (E : Env) (fr : Fr) (σ : St) (op : Op) (K : Kont) : Prop :=
  match op with
  | .move x | .assign x => K (ev fr x) σ
  | .pick c a b => ∃ t, ev fr c = .bool t ∧ K (bif t then ev fr a else ev fr b) σ
  | .alloc e => awAlloc E σ e K
  | .box e x => awBox E σ e (ev fr x) K
  | .build t parts => awBuild E t (parts.toList.map fun p => (p.1, ev fr p.2)) fun v => K v σ
  | .buildSlice t n parts => awBuildSlice E σ t n (parts.toList.map fun p => (p.1, ev fr p.2)) K
  | .load t a => awLoad E σ t (ev fr a) fun v => K v σ
  | .store t a x => awStore E σ t (ev fr a) (ev fr x) fun s => K undef s
  | .nilCheck x => ∃ a, ev fr x = .pointer (some a) ∧ K (.pointer (some a)) σ
  | .binOp op t x y _ =>
    match op, ev fr x, ev fr y with
    | _, .int k a, .int k' b => awBin op (.int k a) (.int k' b) fun v => K v σ
    | .eql, a, b => awEq E t a b fun r => K (.bool r) σ
    | .neq, a, b => awEq E t a b fun r => K (.bool !r) σ
    | _, _, _ => False
  | .unOp op _ x => awUn op (ev fr x) fun v => K v σ
  | .convert s d x => awConvert E s d (ev fr x) fun v => K v σ
  | .makeInterface t x => awMakeInterface E t (ev fr x) fun v => K v σ
  | .makeFunc fn first cap => K (.func fn (first.toList.map (ev fr)).toArray (cap.toList.map (ev fr)).toArray) σ
  | .makeSlice t l c => awMakeSlice E σ t (ev fr l) (ev fr c) K
  | .slice t x lo hi mx => awSl E σ t (ev fr x) (lo.map (ev fr)) (hi.map (ev fr)) (mx.map (ev fr)) fun v => K v σ
  | .fieldAddr t x f => awFieldAddr E t (ev fr x) f fun v => K v σ
  | .field t x f => awField E t (ev fr x) f fun v => K v σ
  | .indexAddr t x i => awIndexAddr E t (ev fr x) (ev fr i) fun v => K v σ
  | .index t x i => awIndex E t (ev fr x) (ev fr i) fun v => K v σ
  | .typeAssert x _ a ok => awTypeAssert E (ev fr x) a ok fun v => K v σ
  | .extract t i => match ev fr t with
    | .tuple vs => ∃ v, vs[i]? = some v ∧ K v σ
    | _ => False
  | _ => False

/-! ### What an operation does in the model -/

/-- The run of an operation comes to what the continuation wants. -/
def Fine (G : Globs) (base : World) (φ : Phi) (P : Program) (s : Sem Value) (w : World) (K : Kont) : Prop :=
  ∃ v' w' φ' v σ', s.run P w = .ok v' w' ∧ φ.le φ' ∧ K v σ' ∧ VR φ' v v' ∧ Rel G base φ' σ' w'

variable {E : Env} {base : World} {φ : Phi} {σ : St} {w : World}

/-- As 'Fine', of an operation that leaves the world alone and comes to one value in whatever world. -/
def FineP (φ : Phi) (P : Program) (s : Sem Value) (K : Value → Prop) : Prop := ∃ v' v, (∀ w, s.run P w = .ok v' w) ∧ VR φ v v' ∧ K v

theorem FineP.mk {φ : Phi} {P : Program} {s : Sem Value} {K : Value → Prop} {v v' : Value} (hr : ∀ w, s.run P w = .ok v' w) (hv : VR φ v v') (hk : K v) : FineP φ P s K := ⟨v', v, hr, hv, hk⟩
theorem FineP.fine {s : Sem Value} {K : Kont} (h : Rel E.G base φ σ w) (hf : FineP φ E.P s fun v => K v σ) : Fine E.G base φ E.P s w K :=
  let ⟨v', v, hr, hv, hk⟩ := hf
  ⟨v', w, φ, v, σ, hr w, φ.le_refl, hk, hv, h⟩

theorem Fine.pure (h : Rel E.G base φ σ w) {s : Sem Value} {v v' : Value} {K : Kont} (hr : s.run E.P w = .ok v' w) (hv : VR φ v v') (hk : K v σ) : Fine E.G base φ E.P s w K :=
  ⟨v', w, φ, v, σ, hr, φ.le_refl, hk, hv, h⟩

theorem run_und {t : TypeId} {i : TI} (h : E.T t = some i) (w : World) : (underlying t).run E.P w = .ok i.desc w := by
  obtain ⟨inf, z, _, _, _, _, _, _, hu, _⟩ := (E.ok t i h).info
  exact run_underlying hu w
theorem run_size {t : TypeId} {i : TI} (h : E.T t = some i) (w : World) : (sizeOf t).run E.P w = .ok i.size w := by
  obtain ⟨inf, z, hi, hs, _⟩ := (E.ok t i h).info
  simp [sizeOf, typeInfo, hi, hs]
theorem run_agg {t : TypeId} {i : TI} (h : E.T t = some i) (w : World) : (isAgg t).run E.P w = .ok i.agg w := by
  obtain ⟨inf, z, _, _, _, _, _, _, hu, ha⟩ := (E.ok t i h).info
  rw [ha]
  unfold isAgg
  rw [Sem.run_bind, run_underlying hu]
  simp only [Result.andThen_ok]
  cases i.desc <;> rfl
theorem run_zero {t : TypeId} {i : TI} (h : E.T t = some i) (w : World) : ∃ z, (zeroValue t).run E.P w = .ok z w ∧ z.cells.toList = i.zero := by
  obtain ⟨inf, z, hi, _, _, hz, hc, _⟩ := (E.ok t i h).info
  exact ⟨z, by simp [zeroValue, typeInfo, hi, hz], hc⟩
theorem run_zv {t : TypeId} {i : TI} (h : E.T t = some i) (w : World) : (zeroValue t).run E.P w = .ok i.zv w := by
  obtain ⟨inf, z, hi, _, _, hz, _, he, _⟩ := (E.ok t i h).info
  simp [zeroValue, typeInfo, hi, hz, he]

theorem awBin_ok (op : BinOp) (t : TypeId) (k k' : IntKind) (a b : Int) (K : Value → Prop) (hk : awBin op (.int k a) (.int k' b) K) :
    FineP φ E.P (binOp op t (.int k a) (.int k' b)) K := by
  have fin : ∀ {s : Sem Value} {v : Value}, (∀ w, s.run E.P w = .ok v w) → (∀ ψ, VR ψ v v) → K v → FineP φ E.P s K := fun hr hv hk => .mk hr (hv φ) hk
  cases op <;> simp only [awBin] at hk
  case add => obtain ⟨rfl, r, rfl, hk⟩ := hk; exact fin (fun w => by simp [binOp, Op.intArith]) (fun ψ => .int _ _) hk
  case sub => obtain ⟨rfl, r, rfl, hk⟩ := hk; exact fin (fun w => by simp [binOp, Op.intArith]) (fun ψ => .int _ _) hk
  case mul => obtain ⟨rfl, r, rfl, hk⟩ := hk; exact fin (fun w => by simp [binOp, Op.intArith]) (fun ψ => .int _ _) hk
  case quo => obtain ⟨rfl, h0, r, rfl, hk⟩ := hk; exact fin (fun w => by simp [binOp, Op.intDiv, h0]) (fun ψ => .int _ _) hk
  case rem => obtain ⟨rfl, h0, r, rfl, hk⟩ := hk; exact fin (fun w => by simp [binOp, Op.intDiv, h0]) (fun ψ => .int _ _) hk
  case and => obtain ⟨rfl, r, rfl, hk⟩ := hk; exact fin (fun w => by simp [binOp, Op.intBits]) (fun ψ => .int _ _) hk
  case or => obtain ⟨rfl, r, rfl, hk⟩ := hk; exact fin (fun w => by simp [binOp, Op.intBits]) (fun ψ => .int _ _) hk
  case xor => obtain ⟨rfl, r, rfl, hk⟩ := hk; exact fin (fun w => by simp [binOp, Op.intBits]) (fun ψ => .int _ _) hk
  case andNot => obtain ⟨rfl, r, rfl, hk⟩ := hk; exact fin (fun w => by simp [binOp, Op.intBits]) (fun ψ => .int _ _) hk
  case shl => obtain ⟨h0, r, rfl, hk⟩ := hk; exact fin (fun w => by simp [binOp, Op.shift, Int.not_lt.2 h0]) (fun ψ => .int _ _) hk
  case shr => obtain ⟨h0, r, rfl, hk⟩ := hk; exact fin (fun w => by simp [binOp, Op.shift, Int.not_lt.2 h0]) (fun ψ => .int _ _) hk
  case eql =>
    obtain ⟨rfl, ⟨h1, h2⟩⟩ := hk
    by_cases hab : a = b
    · exact fin (v := .bool true) (fun w => by simp [binOp, Op.intCmp, hab]) (fun ψ => .bool _) (h1 hab)
    · exact fin (v := .bool false) (fun w => by simp [binOp, Op.intCmp, hab]) (fun ψ => .bool _) (h2 hab)
  case neq =>
    obtain ⟨rfl, ⟨h1, h2⟩⟩ := hk
    by_cases hab : a = b
    · exact fin (v := .bool false) (fun w => by simp [binOp, Op.intCmp, hab]) (fun ψ => .bool _) (h2 hab)
    · exact fin (v := .bool true) (fun w => by simp [binOp, Op.intCmp, hab]) (fun ψ => .bool _) (h1 hab)
  case lss =>
    obtain ⟨rfl, ⟨h1, h2⟩⟩ := hk
    by_cases hab : a < b
    · exact fin (v := .bool true) (fun w => by simp [binOp, Op.intCmp, hab]) (fun ψ => .bool _) (h1 hab)
    · exact fin (v := .bool false) (fun w => by simp [binOp, Op.intCmp, Int.not_lt.1 hab]) (fun ψ => .bool _) (h2 (Int.not_lt.1 hab))
  case leq =>
    obtain ⟨rfl, ⟨h1, h2⟩⟩ := hk
    by_cases hab : a ≤ b
    · exact fin (v := .bool true) (fun w => by simp [binOp, Op.intCmp, hab]) (fun ψ => .bool _) (h1 hab)
    · exact fin (v := .bool false) (fun w => by simp [binOp, Op.intCmp, Int.not_le.1 hab]) (fun ψ => .bool _) (h2 (Int.not_le.1 hab))
  case gtr =>
    obtain ⟨rfl, ⟨h1, h2⟩⟩ := hk
    by_cases hab : b < a
    · exact fin (v := .bool true) (fun w => by simp [binOp, Op.intCmp, hab]) (fun ψ => .bool _) (h1 hab)
    · exact fin (v := .bool false) (fun w => by simp [binOp, Op.intCmp, Int.not_lt.1 hab]) (fun ψ => .bool _) (h2 (Int.not_lt.1 hab))
  case geq =>
    obtain ⟨rfl, ⟨h1, h2⟩⟩ := hk
    by_cases hab : b ≤ a
    · exact fin (v := .bool true) (fun w => by simp [binOp, Op.intCmp, hab]) (fun ψ => .bool _) (h1 hab)
    · exact fin (v := .bool false) (fun w => by simp [binOp, Op.intCmp, Int.not_le.1 hab]) (fun ψ => .bool _) (h2 (Int.not_le.1 hab))

end Go.Am
