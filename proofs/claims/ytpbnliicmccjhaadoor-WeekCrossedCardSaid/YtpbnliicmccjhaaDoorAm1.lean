/-
  An abstract machine for the model's code, part 1: abstract values and heaps, and how they stand for the model's own.
-/
import Derived.WalkKit
import Derived.OrdersHeld
namespace Go.Am
set_option linter.unusedVariables false
set_option linter.unusedSimpArgs false

/-- A value of which nothing is known. -/
def junk : Value := .chan (some 0)

/-- Where an abstract block lies: the block, the first cell, and how many cells from there belong to it. -/
structure Img where
  blk : Nat
  off : Nat
  room : Nat

abbrev Phi := Nat → Option Img
def Phi.le (φ ψ : Phi) : Prop := ∀ b m, φ b = some m → ψ b = some m
theorem Phi.le_refl (φ : Phi) : φ.le φ := fun _ _ h => h
theorem Phi.le_trans {a b c : Phi} (h : a.le b) (h' : b.le c) : a.le c := fun x m e => h' x m (h x m e)

/-- An abstract value stands for a value. A slice's abstract address bears the size of an element in 'spot'; its abstract capacity is '2 * lower bound', or '2 * capacity + 1' where it is known. -/
inductive VR (φ : Phi) : Value → Value → Prop
  | junk (v : Value) : VR φ junk v
  | bool (b : Bool) : VR φ (.bool b) (.bool b)
  | int (k : IntKind) (n : Int) : VR φ (.int k n) (.int k n)
  | string (s : ByteArray) : VR φ (.string s) (.string s)
  | nilp : VR φ (.pointer none) (.pointer none)
  | ptr {b o : Nat} {m : Img} (h : φ b = some m) : VR φ (.pointer (some ⟨b, o, none⟩)) (.pointer (some ⟨m.blk, m.off + o, none⟩))
  | nils : VR φ (.slice none 0 0) (.slice none 0 0)
  | slice {b o e n c : Nat} {m : Img} {a' : Addr} {c' : Nat} (h : φ b = some m) (hn : n ≤ c / 2) (hlo : c / 2 ≤ c') (hex : c % 2 = 1 → c' = c / 2)
      (hun : c % 2 = 0 → o + c' * e = m.room) (hroom : o + c' * e ≤ m.room) (hb : a'.block = m.blk) (hs : a'.spot = none) (ha : (c' = 0 ∧ o ≠ 0) ∨ a'.off = m.off + o) :
      VR φ (.slice (some ⟨b, o, some e⟩) n c) (.slice (some a') n c')
  | nilf : VR φ .nilFunc .nilFunc
  | nili : VR φ .nilIface .nilIface
  | func {f : Fn} {x y x' y' : Array Value} (hx : x.size = x'.size) (hy : y.size = y'.size)
      (ex : ∀ (i : Nat) (v v' : Value), x[i]? = some v → x'[i]? = some v' → VR φ v v') (ey : ∀ (i : Nat) (v v' : Value), y[i]? = some v → y'[i]? = some v' → VR φ v v') : VR φ (.func f x y) (.func f x' y')
  | iface {t : TypeId} {v v' : Value} (h : VR φ v v') : VR φ (.iface t v) (.iface t v')
  | agg {x x' : Array Value} (hx : x.size = x'.size) (ex : ∀ (i : Nat) (v v' : Value), x[i]? = some v → x'[i]? = some v' → VR φ v v') : VR φ (.agg x) (.agg x')
  | tuple {x x' : Array Value} (hx : x.size = x'.size) (ex : ∀ (i : Nat) (v v' : Value), x[i]? = some v → x'[i]? = some v' → VR φ v v') : VR φ (.tuple x) (.tuple x')

theorem VR.mono {φ ψ : Phi} (h : φ.le ψ) {v v' : Value} (hv : VR φ v v') : VR ψ v v' := by
  induction hv with
  | junk v => exact .junk v
  | bool b => exact .bool b
  | int k n => exact .int k n
  | string s => exact .string s
  | nilp => exact .nilp
  | ptr hp => exact .ptr (h _ _ hp)
  | nils => exact .nils
  | slice hp hn hlo hex hun hroom hb hs ha => exact .slice (h _ _ hp) hn hlo hex hun hroom hb hs ha
  | nilf => exact .nilf
  | nili => exact .nili
  | func hx hy _ _ ix iy => exact .func hx hy ix iy
  | iface _ ih => exact .iface ih
  | agg hx _ ih => exact .agg hx ih
  | tuple hx _ ih => exact .tuple hx ih

/-- Lists of values, one by one. -/
def VRs (φ : Phi) (l l' : List Value) : Prop := l.length = l'.length ∧ ∀ (i : Nat) (v v' : Value), l[i]? = some v → l'[i]? = some v' → VR φ v v'
theorem VRs.mono {φ ψ : Phi} (h : φ.le ψ) {l l' : List Value} (hv : VRs φ l l') : VRs ψ l l' := ⟨hv.1, fun i v v' a b => (hv.2 i v v' a b).mono h⟩
theorem VRs.nil (φ : Phi) : VRs φ [] [] := ⟨rfl, by simp⟩
theorem VRs.cons {φ : Phi} {v v' : Value} {l l' : List Value} (h : VR φ v v') (hl : VRs φ l l') : VRs φ (v :: l) (v' :: l') := by
  refine ⟨by simp [hl.1], fun i a b ha hb => ?_⟩
  cases i with
  | zero => simp at ha hb; subst ha; subst hb; exact h
  | succ i => simp at ha hb; exact hl.2 i a b ha hb
theorem VRs.of_cons {φ : Phi} {v v' : Value} {l l' : List Value} (h : VRs φ (v :: l) (v' :: l')) : VR φ v v' ∧ VRs φ l l' :=
  ⟨h.2 0 v v' rfl rfl, by have := h.1; simpa using this, fun i a b ha hb => h.2 (i + 1) a b (by simpa using ha) (by simpa using hb)⟩
theorem VRs.append {φ : Phi} {a a' b b' : List Value} (h : VRs φ a a') (g : VRs φ b b') : VRs φ (a ++ b) (a' ++ b') := by
  induction a generalizing a' with
  | nil => cases a' with
    | nil => simpa using g
    | cons _ _ => have := h.1; simp at this
  | cons x a ih => cases a' with
    | nil => have := h.1; simp at this
    | cons x' a' => exact .cons h.of_cons.1 (ih h.of_cons.2)
theorem VRs.map {φ : Phi} {α : Type} (f g : α → Value) (l : List α) (h : ∀ x ∈ l, VR φ (f x) (g x)) : VRs φ (l.map f) (l.map g) := by
  induction l with
  | nil => exact .nil φ
  | cons x l ih => exact .cons (h x (by simp)) (ih fun y hy => h y (by simp [hy]))
theorem VRs.get {φ : Phi} {l l' : List Value} (h : VRs φ l l') {i : Nat} {v : Value} (hv : l[i]? = some v) : ∃ v', l'[i]? = some v' ∧ VR φ v v' := by
  have hi : i < l.length := (List.getElem?_eq_some_iff.1 hv).1
  have hi' : i < l'.length := h.1 ▸ hi
  exact ⟨l'[i], by simp [hi'], h.2 i v _ hv (by simp [hi'])⟩
theorem VRs.get' {φ : Phi} {l l' : List Value} (h : VRs φ l l') {i : Nat} {v' : Value} (hv : l'[i]? = some v') : ∃ v, l[i]? = some v ∧ VR φ v v' := by
  have hi : i < l'.length := (List.getElem?_eq_some_iff.1 hv).1
  have hi' : i < l.length := h.1.symm ▸ hi
  exact ⟨l[i], by simp [hi'], h.2 i _ v' (by simp [hi']) hv⟩
theorem VRs.take {φ : Phi} {l l' : List Value} (h : VRs φ l l') (n : Nat) : VRs φ (l.take n) (l'.take n) := by
  refine ⟨by simp [h.1], fun i v v' a b => ?_⟩
  rw [List.getElem?_take] at a b
  split at a
  · rename_i hi; rw [if_pos hi] at b; exact h.2 i v v' a b
  · cases a
theorem VRs.drop {φ : Phi} {l l' : List Value} (h : VRs φ l l') (n : Nat) : VRs φ (l.drop n) (l'.drop n) := by
  refine ⟨by simp [h.1], fun i v v' a b => ?_⟩
  rw [List.getElem?_drop] at a b
  exact h.2 _ v v' a b
theorem VRs.set {φ : Phi} {l l' : List Value} (h : VRs φ l l') (n : Nat) {u u' : Value} (hu : VR φ u u') : VRs φ (l.set n u) (l'.set n u') := by
  refine ⟨by simp [h.1], fun i v v' a b => ?_⟩
  rw [List.getElem?_set] at a b
  split at a
  · rename_i hi
    subst hi
    split at a
    · rename_i hlt
      rw [if_pos rfl, if_pos (h.1 ▸ hlt)] at b
      cases a; cases b; exact hu
    · cases a
  · rename_i hi
    rw [if_neg hi] at b
    exact h.2 i v v' a b
theorem VR.agg_iff {φ : Phi} {x x' : Array Value} : VR φ (.agg x) (.agg x') ↔ VRs φ x.toList x'.toList := by
  constructor
  · intro h; cases h with
    | agg hx ex => exact ⟨by simpa using hx, by simpa using ex⟩
  · intro h; exact .agg (by simpa using h.1) (by simpa using h.2)
theorem VR.tuple_iff {φ : Phi} {x x' : Array Value} : VR φ (.tuple x) (.tuple x') ↔ VRs φ x.toList x'.toList := by
  constructor
  · intro h; cases h with
    | tuple hx ex => exact ⟨by simpa using hx, by simpa using ex⟩
  · intro h; exact .tuple (by simpa using h.1) (by simpa using h.2)
theorem VR.of_agg {φ : Phi} {x : Array Value} {v' : Value} (h : VR φ (.agg x) v') : ∃ x', v' = .agg x' ∧ VRs φ x.toList x'.toList := by
  cases h with
  | agg hx ex => exact ⟨_, rfl, by simpa using hx, by simpa using ex⟩
theorem VR.of_tuple {φ : Phi} {x : Array Value} {v' : Value} (h : VR φ (.tuple x) v') : ∃ x', v' = .tuple x' ∧ VRs φ x.toList x'.toList := by
  cases h with
  | tuple hx ex => exact ⟨_, rfl, by simpa using hx, by simpa using ex⟩

/-- One cell's worth, and known. -/
def one : Value → Bool
  | .agg _ | .tuple _ | .chan _ => false
  | _ => true
theorem VR.one {φ : Phi} {v v' : Value} (h : VR φ v v') (h1 : one v = true) : v'.oneCell' = true := by
  cases h <;> first | rfl | (simp [Am.one, Am.junk] at h1)
theorem VR.cells_one {φ : Phi} {v v' : Value} (h : VR φ v v') (h1 : Am.one v = true) : v'.cells = #[v'] := by
  have := h.one h1
  cases v' <;> first | rfl | (simp [Value.oneCell'] at this)

/-- A value without addresses stands for itself. -/
def scalar : Value → Bool
  | .bool _ | .int _ _ | .string _ | .pointer none | .slice none 0 0 | .nilFunc | .nilIface => true
  | _ => false
def flat : Value → Bool
  | .agg cs => cs.toList.all scalar
  | .tuple cs => cs.toList.all scalar
  | v => scalar v
theorem VR.scalar {φ : Phi} {v : Value} (h : scalar v = true) : VR φ v v := by
  cases v with
  | bool b => exact .bool b
  | int k n => exact .int k n
  | string s => exact .string s
  | pointer a => cases a with
    | none => exact .nilp
    | some a => simp [Am.scalar] at h
  | slice a n c =>
    cases a with
    | none =>
      cases n with
      | zero => cases c with
        | zero => exact .nils
        | succ c => simp [Am.scalar] at h
      | succ n => simp [Am.scalar] at h
    | some a => simp [Am.scalar] at h
  | nilFunc => exact .nilf
  | nilIface => exact .nili
  | _ => simp [Am.scalar] at h
theorem VRs.scalars {φ : Phi} {l : List Value} (h : l.all Am.scalar = true) : VRs φ l l := by
  induction l with
  | nil => exact .nil φ
  | cons x l ih => simp only [List.all_cons, Bool.and_eq_true] at h; exact .cons (.scalar h.1) (ih h.2)
theorem VR.flat {φ : Phi} {v : Value} (h : flat v = true) : VR φ v v := by
  cases v with
  | agg cs => exact VR.agg_iff.2 (.scalars (by simpa [Am.flat] using h))
  | tuple cs => exact VR.tuple_iff.2 (.scalars (by simpa [Am.flat] using h))
  | _ => exact .scalar (by simpa [Am.flat] using h)

/-! ### Abstract heaps -/

/-- A block: its cells; blocks of one family may share memory; whether it may be written. -/
structure Blk where
  cells : List Value
  fam : Nat
  wr : Bool

structure St where
  n : Nat
  get : Nat → Option Blk

def St.push (σ : St) (cs : List Value) : St := ⟨σ.n + 1, fun b => bif b == σ.n then some ⟨cs, σ.n, true⟩ else σ.get b⟩
/-- As 'push', in the family of an elder block. -/
def St.pushIn (σ : St) (cs : List Value) (fam : Nat) : St := ⟨σ.n + 1, fun b => bif b == σ.n then some ⟨cs, fam, true⟩ else σ.get b⟩
def St.st (σ : St) (b : Nat) (cs : List Value) : St := ⟨σ.n, fun x => bif x == b then (σ.get b).map fun k => { k with cells := cs } else σ.get x⟩
def St.forget (σ : St) (p : Nat → Bool) : St := ⟨σ.n, fun x => bif p x then none else σ.get x⟩
def St.ld (σ : St) (b o : Nat) : Option Value := (σ.get b).bind (·.cells[o]?)
def St.lds (σ : St) (b o n : Nat) : Option (List Value) := (σ.get b).bind fun k => if o + n ≤ k.cells.length then some ((k.cells.drop o).take n) else none
/-- No other block shares memory with this one. -/
def St.sole (σ : St) (b : Nat) : Prop := ∀ k x k', σ.get b = some k → σ.get x = some k' → x ≠ b → k'.fam ≠ k.fam

/-- All blocks of the first world are as they were. -/
structure Kept (w0 w : World) : Prop where
  os : w.os = w0.os
  tape : w.tape = w0.tape
  output : w.output = w0.output
  size : w0.heap.size ≤ w.heap.size
  block : ∀ i, i < w0.heap.size → w.heap[i]? = w0.heap[i]?
  froz : ∀ a, w.frozen? a = w0.frozen? a
theorem froz_alloc (w : World) (cs : Array Value) (e : TypeId) (a : Addr) : (w.alloc (.cells cs e)).frozen? a = w.frozen? a := by
  by_cases h : a.block = w.heap.size
  · have e1 : (w.alloc (.cells cs e)).heap[a.block]? = some (.cells cs e) := by rw [h]; exact heap_alloc_new w _
    have e2 : w.heap[a.block]? = none := by rw [h]; simp
    simp [World.frozen?, e1, e2]
  · exact World.frozen?_alloc_old _ _ _ h
theorem froz_setRow (w : World) (g : Nat) (cs : Array Value) (a : Addr) : (w.setRow g cs).frozen? a = w.frozen? a := by
  by_cases h : a.block = g
  · subst h
    simp only [World.frozen?, World.setRow, Array.getElem?_modify, if_true]
    cases hh : w.heap[a.block]? with
    | none => simp
    | some o => cases o <;> simp
  · simp only [World.frozen?, setRow_other w g a.block cs h]
theorem Kept.refl (w : World) : Kept w w := ⟨rfl, rfl, rfl, Nat.le_refl _, fun _ _ => rfl, fun _ => rfl⟩
theorem Kept.trans {a b c : World} (h : Kept a b) (h' : Kept b c) : Kept a c :=
  ⟨h'.os.trans h.os, h'.tape.trans h.tape, h'.output.trans h.output, Nat.le_trans h.size h'.size, fun i hi => (h'.block i (Nat.lt_of_lt_of_le hi h.size)).trans (h.block i hi), fun x => (h'.froz x).trans (h.froz x)⟩
theorem Kept.drew {a b : World} (h : Kept a b) (n : Nat) : Kept a { b with drawn := n } := ⟨h.os, h.tape, h.output, h.size, h.block, h.froz⟩
theorem Kept.alloc {a b : World} (h : Kept a b) (cs : Array Value) (e : TypeId) : Kept a (b.alloc (.cells cs e)) :=
  h.trans ⟨rfl, rfl, rfl, by simp, fun _ hi => heap_alloc_old b _ hi, froz_alloc b cs e⟩
theorem Kept.setRow {a b : World} (h : Kept a b) (g : Nat) (cs : Array Value) (hg : a.heap.size ≤ g) : Kept a (b.setRow g cs) :=
  ⟨h.os, h.tape, h.output, by simpa [World.setRow] using h.size, fun i hi => (setRow_other b g i cs (by omega)).trans (h.block i hi), fun x => (froz_setRow b g cs x).trans (h.froz x)⟩
theorem Kept.extends {a b : World} (h : Kept a b) : a.Extends b :=
  ⟨h.os, h.tape, h.output, h.size, fun x hx => World.cell?_of_block (h.block x.block hx), fun x hx => World.frozen?_of_block (h.block x.block hx), h.block⟩

/-- What a block's cells stand for. -/
def Lies (φ : Phi) (w : World) (base : World) (m : Img) (k : Blk) : Prop :=
  ∃ cur e fz, w.heap[m.blk]? = some (.cells cur e fz) ∧ m.off + m.room ≤ cur.size ∧ k.cells.length ≤ m.room ∧ (k.wr = true → base.heap.size ≤ m.blk ∧ fz = (0, 0)) ∧
    ∀ (i : Nat) (v : Value), k.cells[i]? = some v → ∃ v', cur[m.off + i]? = some v' ∧ VR φ v v'

/-- The variables that are known: where, and what they hold. -/
abbrev Globs := List (Nat × List Value)

structure Rel (G : Globs) (base : World) (φ : Phi) (σ : St) (w : World) : Prop where
  kept : Kept base w
  wf : ∀ b k, σ.get b = some k → b < σ.n ∧ k.fam < σ.n
  fresh : ∀ b, σ.n ≤ b → φ b = none
  inh : ∀ b m, φ b = some m → m.blk < w.heap.size
  blk : ∀ b k, σ.get b = some k → ∃ m, φ b = some m ∧ Lies φ w base m k
  sep : ∀ b1 b2 k1 k2 m1 m2, σ.get b1 = some k1 → σ.get b2 = some k2 → φ b1 = some m1 → φ b2 = some m2 → b1 ≠ b2 → m1.blk ≠ m2.blk ∨ (k1.fam = k2.fam ∧ m1.off = m2.off)
  glob : ∀ g ∈ G, φ g.1 = some ⟨g.1, 0, g.2.length⟩ ∧ ∃ e fz, base.heap[g.1]? = some (.cells g.2.toArray e fz)

variable {G : Globs} {base : World} {φ : Phi} {σ : St} {w : World}

theorem Lies.kept {w' : World} {m : Img} {k : Blk} (h : Lies φ w base m k) (hw : w'.heap[m.blk]? = w.heap[m.blk]?) : Lies φ w' base m k := by
  obtain ⟨cur, e, fz, h1, h2⟩ := h
  exact ⟨cur, e, fz, hw.trans h1, h2⟩
theorem Lies.mono {ψ : Phi} {m : Img} {k : Blk} (h : Lies φ w base m k) (hp : φ.le ψ) : Lies ψ w base m k := by
  obtain ⟨cur, e, fz, h1, h2, h3, h4, h5⟩ := h
  exact ⟨cur, e, fz, h1, h2, h3, h4, fun i v hv => let ⟨v', a, b⟩ := h5 i v hv; ⟨v', a, b.mono hp⟩⟩

/-- A draw changes nothing. -/
theorem Rel.drew (h : Rel G base φ σ w) (n : Nat) : Rel G base φ σ { w with drawn := n } :=
  ⟨h.kept.drew n, h.wf, h.fresh, h.inh, h.blk, h.sep, h.glob⟩

/-- Blocks may be forgotten. -/
theorem Rel.forget (h : Rel G base φ σ w) (p : Nat → Bool) : Rel G base φ (σ.forget p) w := by
  have hg : ∀ b k, (σ.forget p).get b = some k → σ.get b = some k := fun b k hk => by
    simp only [St.forget] at hk
    cases hp : p b with
    | true => simp [hp] at hk
    | false => simpa [hp] using hk
  exact ⟨h.kept, fun b k hk => h.wf b k (hg b k hk), h.fresh, h.inh, fun b k hk => h.blk b k (hg b k hk),
    fun b1 b2 k1 k2 m1 m2 a1 a2 => h.sep b1 b2 k1 k2 m1 m2 (hg _ _ a1) (hg _ _ a2), h.glob⟩

/-- What is known of a cell that is read. -/
theorem Rel.ld (h : Rel G base φ σ w) {b o : Nat} {v : Value} (hv : σ.ld b o = some v) :
    ∃ m v', φ b = some m ∧ w.cell? ⟨m.blk, m.off + o, none⟩ = some v' ∧ VR φ v v' := by
  unfold St.ld at hv
  cases hk : σ.get b with
  | none => simp [hk] at hv
  | some k =>
    simp [hk] at hv
    obtain ⟨m, hm, cur, e, fz, h1, _, _, _, h5⟩ := h.blk b k hk
    obtain ⟨v', a, hvr⟩ := h5 o v hv
    exact ⟨m, v', hm, by simp [World.cell?, h1, a], hvr⟩

end Go.Am
