/-
  An abstract machine for the model's code, part 12: the evaluator's operations that change no memory.
-/
import Derived.Test.YtpbnliicmccjhaaDoorAmB
namespace Go.Am
set_option linter.unusedVariables false
set_option linter.unusedSimpArgs false
variable {E : Env} {base : World} {φ : Phi} {w : World}

theorem beq_eq (x k : Nat) : Nat.beq x k = decide (x = k) := by
  by_cases h : x = k
  · subst h; simp
  · have : Nat.beq x k = false := by
      cases hh : Nat.beq x k with
      | false => rfl
      | true => exact absurd (Nat.eq_of_beq_eq_true hh) h
    rw [this]; simp [h]

def xBin (op : BinOp) (k k' : IntKind) (a b : Int) : Option Value :=
  match op with
  | .shl => if 0 ≤ b then some (.int k (k.wrap (a * 2 ^ (min b.toNat k.bits)))) else none
  | .shr => if 0 ≤ b then some (.int k (a.fdiv (2 ^ (min b.toNat k.bits)))) else none
  | op => if k = k' then match op with
    | .add => some (.int k (k.wrap (a + b)))
    | .sub => some (.int k (k.wrap (a - b)))
    | .mul => some (.int k (k.wrap (a * b)))
    | .quo => if b = 0 then none else some (.int k (k.wrap (a.tdiv b)))
    | .rem => if b = 0 then none else some (.int k (a.tmod b))
    | .and => some (.int k (k.wrap ((BitVec.ofInt k.bits a &&& BitVec.ofInt k.bits b).toNat)))
    | .or => some (.int k (k.wrap ((BitVec.ofInt k.bits a ||| BitVec.ofInt k.bits b).toNat)))
    | .xor => some (.int k (k.wrap ((BitVec.ofInt k.bits a ^^^ BitVec.ofInt k.bits b).toNat)))
    | .andNot => some (.int k (k.wrap ((BitVec.ofInt k.bits a &&& ~~~(BitVec.ofInt k.bits b)).toNat)))
    | .eql => some (.bool (decide (a = b)))
    | .neq => some (.bool (!decide (a = b)))
    | .lss => some (.bool (decide (a < b)))
    | .leq => some (.bool (decide (a ≤ b)))
    | .gtr => some (.bool (decide (b < a)))
    | .geq => some (.bool (decide (b ≤ a)))
    | _ => none
  else none

theorem xBin_ok {op : BinOp} {k k' : IntKind} {a b : Int} {v : Value} (h : xBin op k k' a b = some v) (K : Value → Prop) (hk : K v) : awBin op (.int k a) (.int k' b) K := by
  have dec : ∀ (p q : Prop) [Decidable p], (q ↔ ¬ p) → K (.bool (decide p)) → (p → K (.bool true)) ∧ (q → K (.bool false)) := by
    intro p q _ hq hk
    by_cases hp : p
    · exact ⟨fun _ => by simpa [hp] using hk, fun h => absurd hp (hq.1 h)⟩
    · exact ⟨fun h => absurd h hp, fun _ => by simpa [hp] using hk⟩
  cases op <;> simp only [xBin] at h <;> simp only [awBin, cmp_iff]
  case shl => split at h <;> cases h; rename_i h0; exact ⟨h0, _, rfl, hk⟩
  case shr => split at h <;> cases h; rename_i h0; exact ⟨h0, _, rfl, hk⟩
  all_goals (split at h; rotate_left; cases h; rename_i hkk)
  case add => cases h; exact ⟨hkk, _, rfl, hk⟩
  case sub => cases h; exact ⟨hkk, _, rfl, hk⟩
  case mul => cases h; exact ⟨hkk, _, rfl, hk⟩
  case quo => split at h <;> cases h; rename_i h0; exact ⟨hkk, h0, _, rfl, hk⟩
  case rem => split at h <;> cases h; rename_i h0; exact ⟨hkk, h0, _, rfl, hk⟩
  case and => cases h; exact ⟨hkk, _, rfl, hk⟩
  case or => cases h; exact ⟨hkk, _, rfl, hk⟩
  case xor => cases h; exact ⟨hkk, _, rfl, hk⟩
  case andNot => cases h; exact ⟨hkk, _, rfl, hk⟩
  case eql => cases h; exact ⟨hkk, dec _ _ Iff.rfl hk⟩
  case neq =>
    cases h
    refine ⟨hkk, ?_⟩
    by_cases hp : a = b
    · exact ⟨fun h => absurd hp h, fun _ => by simpa [hp] using hk⟩
    · exact ⟨fun _ => by simpa [hp] using hk, fun h => absurd h hp⟩
  case lss => cases h; exact ⟨hkk, dec _ _ (by omega) hk⟩
  case leq => cases h; exact ⟨hkk, dec _ _ (by omega) hk⟩
  case gtr => cases h; exact ⟨hkk, dec _ _ (by omega) hk⟩
  case geq => cases h; exact ⟨hkk, dec _ _ (by omega) hk⟩

def xEq (E : Env) (t : TypeId) (x y : Value) : Option Bool :=
  match E.T t with
  | none => none
  | some i => match i.desc, x, y with
    | .bool, .bool a, .bool b => some (decide (a = b))
    | .slice _, .slice none _ _, .slice b _ _ => some b.isNone
    | .slice _, .slice (some _) _ _, .slice none _ _ => some false
    | .func _ _ _, .nilFunc, .nilFunc => some true
    | .func _ _ _, .nilFunc, .func _ _ _ => some false
    | .func _ _ _, .func _ _ _, .nilFunc => some false
    | _, _, _ => none

theorem xEq_ok {t : TypeId} {x y : Value} {r : Bool} (h : xEq E t x y = some r) (K : Bool → Prop) (hk : K r) : awEq E t x y K := by
  unfold xEq at h
  unfold awEq
  simp only [cmp_iff]
  cases ht : E.T t with
  | none => simp [ht] at h
  | some i =>
    simp only [ht] at h ⊢
    generalize i.desc = d at h ⊢
    split at h <;> cases h
    · rename_i a b
      by_cases hab : a = b
      · exact ⟨fun _ => by simpa [hab] using hk, fun h => absurd hab h⟩
      · exact ⟨fun h => absurd h hab, fun _ => by simpa [hab] using hk⟩
    · exact hk
    · exact hk
    · exact hk
    · exact hk
    · exact hk

def xbnd (v : Value) : Option Nat := match v with
  | .int _ (.ofNat n) => some n
  | _ => none
theorem xbnd_ok {v : Value} {n : Nat} (h : xbnd v = some n) : bnd v n := by
  unfold xbnd at h
  split at h <;> cases h
  exact ⟨_, rfl⟩
def xlo : Option Value → Option Nat
  | none => some 0
  | some v => xbnd v
theorem xlo_ok {v : Option Value} {n : Nat} (h : xlo v = some n) : loOk v n := by
  cases v with
  | none => cases h; rfl
  | some v => exact xbnd_ok h
def xhi (v : Option Value) (n : Nat) : Option Nat := match v with
  | none => some n
  | some v => xbnd v
theorem xhi_ok {v : Option Value} {n h : Nat} (hh : xhi v n = some h) : hiOk v h n := by
  cases v with
  | none => cases hh; rfl
  | some v => exact xbnd_ok hh

def xSlice (e : Nat) (x : Value) (low high max : Option Value) : Option Value :=
  match x with
  | .slice none 0 0 => match xlo low, xhi high 0, max with
    | some 0, some 0, none => some (.slice none 0 0)
    | _, _, _ => none
  | .slice (some ⟨b, o, some e'⟩) n c => if e' = e then
      match xlo low, xhi high n, max with
      | some l, some h, none => if l ≤ h ∧ h ≤ c / 2 then some (.slice (some ⟨b, o + l * e, some e⟩) (h - l) (2 * (c / 2 - l) + c % 2)) else none
      | some l, some h, some vm => match high, xbnd vm with
        | some _, some m => if l ≤ h ∧ h ≤ m ∧ m ≤ c / 2 then some (.slice (some ⟨b, o + l * e, some e⟩) (h - l) (2 * (m - l) + 1)) else none
        | _, _ => none
      | _, _, _ => none
    else none
  | _ => none

theorem xSlice_ok {e : Nat} {x v : Value} {low high max : Option Value} (h : xSlice e x low high max = some v) (K : Value → Prop) (hk : K v) : awSlice e x low high max K := by
  unfold xSlice at h
  split at h
  · split at h <;> cases h
    rename_i h1 h2
    exact ⟨.inl ⟨rfl, xlo_ok h1, xhi_ok h2, trivial, hk⟩⟩
  · rename_i b o e' n c
    split at h
    · rename_i he
      subst he
      split at h
      · rename_i l hi h1 h2
        split at h <;> cases h
        rename_i hc
        exact ⟨.inr ⟨b, o, n, c, l, hi, rfl, xlo_ok h1, hc.1, xhi_ok h2, hc.2, hk⟩⟩
      · rename_i l hi vm h1 h2
        split at h
        · rename_i vh m h3
          split at h <;> cases h
          rename_i hc
          exact ⟨.inr ⟨b, o, n, c, l, hi, rfl, xlo_ok h1, hc.1, m, xbnd_ok h3, xhi_ok h2, hc.2.1, hc.2.2, hk⟩⟩
        · cases h
      · cases h
    · cases h
  · cases h

def xSl (E : Env) (σ : St) (t : TypeId) (y : Value) (low high max : Option Value) : Option Value :=
  match E.T t with
  | none => none
  | some i => match i.desc with
    | .slice e => match E.T e with
      | some ie => xSlice ie.size y low high max
      | none => none
    | .array n e => match E.T e with
      | some ie => match y, max with
        | .pointer (some ⟨b, o, none⟩), none => match xlo low, xhi high n, σ.get b with
          | some l, some h, some k => if l ≤ h ∧ h ≤ n ∧ o + n * ie.size ≤ k.cells.length then some (.slice (some ⟨b, o + l * ie.size, some ie.size⟩) (h - l) (2 * (n - l) + 1)) else none
          | _, _, _ => none
        | _, _ => none
      | none => none
    | _ => none

theorem xSl_ok {σ : St} {t : TypeId} {y v : Value} {low high max : Option Value} (h : xSl E σ t y low high max = some v) (K : Value → Prop) (hk : K v) : awSl E σ t y low high max K := by
  unfold xSl at h
  unfold awSl
  cases ht : E.T t with
  | none => simp [ht] at h
  | some i =>
    simp only [ht] at h ⊢
    cases hd : i.desc <;> simp only [hd] at h ⊢ <;> try (cases h; done)
    case slice e =>
      cases he : E.T e with
      | none => simp [he] at h
      | some ie => simp only [he] at h ⊢; exact xSlice_ok h K hk
    case array n e =>
      cases he : E.T e with
      | none => simp [he] at h
      | some ie =>
        simp only [he] at h ⊢
        split at h
        · rename_i b o
          split at h
          · rename_i l hi k h1 h2 h3
            split at h <;> cases h
            rename_i hc
            exact ⟨l, hi, xlo_ok h1, xhi_ok h2, hc.1, hc.2.1, ⟨k, h3, hc.2.2⟩, hk⟩
          · cases h
        · cases h

def xIndexAddr (E : Env) (t : TypeId) (x i : Value) : Option Value :=
  match E.T t, xbnd i with
  | some ti, some j => match ti.desc with
    | .slice e => match E.T e with
      | some ie => match x with
        | .slice (some ⟨b, o, some es⟩) n _ => if es = ie.size ∧ j < n then some (.pointer (some ⟨b, o + j * ie.size, none⟩)) else none
        | _ => none
      | none => none
    | .array n e => match E.T e with
      | some ie => match x with
        | .pointer (some ⟨b, o, none⟩) => if j < n then some (.pointer (some ⟨b, o + j * ie.size, none⟩)) else none
        | _ => none
      | none => none
    | _ => none
  | _, _ => none

theorem xIndexAddr_ok {t : TypeId} {x i v : Value} (h : xIndexAddr E t x i = some v) (K : Value → Prop) (hk : K v) : awIndexAddr E t x i K := by
  unfold xIndexAddr at h
  unfold awIndexAddr
  simp only [elem_iff]
  cases ht : E.T t with
  | none => simp [ht] at h
  | some ti =>
    cases hb : xbnd i with
    | none => simp [ht, hb] at h
    | some j =>
    obtain ⟨k, rfl⟩ := xbnd_ok hb
    simp only [ht, hb] at h ⊢
    cases hd : ti.desc <;> simp only [hd] at h ⊢ <;> try (cases h; done)
    case slice e =>
      cases he : E.T e with
      | none => simp [he] at h
      | some ie =>
      simp only [he] at h ⊢
      split at h <;> try (cases h; done)
      rename_i b o es n c
      split at h <;> cases h
      rename_i hc
      obtain ⟨rfl, hlt⟩ := hc
      exact ⟨b, o, n, c, k, j, rfl, rfl, by simp, by simpa using hlt, by simpa using hk⟩
    case array n e =>
      cases he : E.T e with
      | none => simp [he] at h
      | some ie =>
      simp only [he] at h ⊢
      split at h <;> try (cases h; done)
      rename_i b o
      split at h <;> cases h
      rename_i hlt
      exact ⟨k, j, rfl, by simp, by simpa using hlt, by simpa using hk⟩

def xFieldAddr (E : Env) (t : TypeId) (x : Value) (f : Nat) : Option Value :=
  match E.T t, x with
  | some ti, .pointer (some ⟨b, o, none⟩) => match ti.desc with
    | .struct fs => match fs[f]? with
      | none => none
      | some fd => match E.T fd.type with
        | none => none
        | some fi => if fi.size ≠ 0 then some (.pointer (some ⟨b, o + fd.offset, none⟩)) else none
    | _ => none
  | _, _ => none

theorem xFieldAddr_ok {t : TypeId} {x v : Value} {f : Nat} (h : xFieldAddr E t x f = some v) (K : Value → Prop) (hk : K v) : awFieldAddr E t x f K := by
  unfold xFieldAddr at h
  unfold awFieldAddr
  split at h <;> try (cases h; done)
  rename_i ti b o ht
  simp only [ht]
  cases hd : ti.desc <;> simp only [hd] at h ⊢ <;> try (cases h; done)
  rename_i fs
  cases hf : fs[f]? with
  | none => simp [hf] at h
  | some fd =>
    simp only [hf] at h ⊢
    cases hfi : E.T fd.type with
    | none => simp [hfi] at h
    | some fi =>
      simp only [hfi] at h ⊢
      split at h <;> cases h
      rename_i hc
      exact ⟨hc, hk⟩

def xPart (E : Env) (t : TypeId) (cs : Array Value) (off : Nat) : Option Value :=
  match E.T t with
  | none => none
  | some i => if i.agg then some (.agg (cs.extract off (off + i.size))) else cs[off]?
theorem xPart_ok {t : TypeId} {cs : Array Value} {off : Nat} {v : Value} (h : xPart E t cs off = some v) (K : Value → Prop) (hk : K v) : awPart E t cs off K := by
  unfold xPart at h
  unfold awPart
  cases ht : E.T t with
  | none => simp [ht] at h
  | some i =>
    simp only [ht] at h ⊢
    split at h
    · rename_i ha; rw [if_pos ha]; cases h; exact hk
    · rename_i ha; rw [if_neg ha]; exact ⟨v, h, hk⟩

def xField (E : Env) (t : TypeId) (x : Value) (f : Nat) : Option Value :=
  match E.T t, x with
  | some ti, .agg cs => match ti.desc with
    | .struct fs => match fs[f]? with
      | none => none
      | some fd => xPart E fd.type cs fd.offset
    | _ => none
  | _, _ => none
theorem xField_ok {t : TypeId} {x v : Value} {f : Nat} (h : xField E t x f = some v) (K : Value → Prop) (hk : K v) : awField E t x f K := by
  unfold xField at h
  unfold awField
  split at h <;> try (cases h; done)
  rename_i ti cs ht
  simp only [ht]
  cases hd : ti.desc <;> simp only [hd] at h ⊢ <;> try (cases h; done)
  rename_i fs
  cases hf : fs[f]? with
  | none => simp [hf] at h
  | some fd => simp only [hf] at h ⊢; exact xPart_ok h K hk

def xIndex (E : Env) (t : TypeId) (x i : Value) : Option Value :=
  match E.T t, x, xbnd i with
  | some ti, .agg cs, some j => match ti.desc with
    | .array n e => match E.T e with
      | none => none
      | some ie => if j < n then xPart E e cs (j * ie.size) else none
    | _ => none
  | _, _, _ => none
theorem xIndex_ok {t : TypeId} {x i v : Value} (h : xIndex E t x i = some v) (K : Value → Prop) (hk : K v) : awIndex E t x i K := by
  unfold xIndex at h
  unfold awIndex
  cases hb : xbnd i with
  | none => simp [hb] at h
  | some j =>
  obtain ⟨k, rfl⟩ := xbnd_ok hb
  simp only [hb] at h
  split at h <;> try (cases h; done)
  rename_i ti cs j' ht hj
  cases hj
  simp only [ht]
  cases hd : ti.desc <;> simp only [hd] at h ⊢ <;> try (cases h; done)
  rename_i n e
  cases he : E.T e with
  | none => simp [he] at h
  | some ie =>
    simp only [he] at h ⊢
    split at h <;> try (cases h; done)
    rename_i hlt
    exact ⟨by simp, by simpa using hlt, by simpa using xPart_ok h K hk⟩

def xLoad (E : Env) (σ : St) (t : TypeId) (a : Value) : Option Value :=
  match E.T t, a with
  | some i, .pointer (some ⟨b, o, none⟩) => if i.agg then (σ.lds b o i.size).map fun vs => .agg vs.toArray else σ.ld b o
  | _, _ => none
theorem xLoad_ok {σ : St} {t : TypeId} {a v : Value} (h : xLoad E σ t a = some v) (K : Value → Prop) (hk : K v) : awLoad E σ t a K := by
  unfold xLoad at h
  unfold awLoad
  simp only [got_iff, gotA_iff]
  split at h <;> try (cases h; done)
  rename_i i b o ht
  simp only [ht]
  split at h
  · rename_i ha
    rw [if_pos ha]
    cases hl : σ.lds b o i.size with
    | none => simp [hl] at h
    | some vs => simp only [hl, Option.map_some, Option.some.injEq] at h; subst h; exact ⟨vs, rfl, hk⟩
  · rename_i ha; rw [if_neg ha]; exact ⟨v, h, hk⟩

def xBuild (E : Env) (t : TypeId) (parts : List (Nat × Value)) : Option Value :=
  match E.T t with
  | none => none
  | some i => match i.desc with
    | .struct fs => if fs.toList.all (fun f => (E.T f.type).isSome) = true then (lay (fieldAgg E fs) (fieldPlaceOf E fs) i.zero parts).map fun cs => .agg cs.toArray else none
    | .array _ e => match E.T e with
      | none => none
      | some ie => (lay (fun _ => ie.agg) (fun j => some (j * ie.size, ie.size)) i.zero parts).map fun cs => .agg cs.toArray
    | _ => none
theorem xBuild_ok {t : TypeId} {parts : List (Nat × Value)} {v : Value} (h : xBuild E t parts = some v) (K : Value → Prop) (hk : K v) : awBuild E t parts K := by
  unfold xBuild at h
  unfold awBuild
  cases ht : E.T t with
  | none => simp [ht] at h
  | some i =>
    simp only [ht] at h ⊢
    cases hd : i.desc <;> simp only [hd] at h ⊢ <;> try (cases h; done)
    case struct fs =>
      split at h <;> try (cases h; done)
      rename_i hall
      cases hl : lay (fieldAgg E fs) (fieldPlaceOf E fs) i.zero parts with
      | none => simp [hl] at h
      | some cs => simp only [hl, Option.map_some, Option.some.injEq] at h; subst h; exact ⟨List.all_eq_true.1 hall, cs, rfl, hk⟩
    case array n e =>
      cases he : E.T e with
      | none => simp [he] at h
      | some ie =>
        simp only [he] at h ⊢
        cases hl : lay (fun _ => ie.agg) (fun j => some (j * ie.size, ie.size)) i.zero parts with
        | none => simp [hl] at h
        | some cs => simp only [hl, Option.map_some, Option.some.injEq] at h; subst h; exact ⟨cs, rfl, hk⟩

def xSpread (σ : St) (es : Nat) (x : Value) : Option (Nat × List Value) :=
  match x with
  | .slice none 0 0 => some (0, [])
  | .slice (some ⟨b, o, some e⟩) n _ => if e = es then (σ.lds b o (n * es)).map fun vs => (n, vs) else none
  | _ => none
theorem xSpread_ok {σ : St} {es : Nat} {x : Value} {n : Nat} {vs : List Value} (h : xSpread σ es x = some (n, vs)) : Spread σ es x n vs := by
  unfold xSpread at h
  split at h
  · cases h; exact .inl ⟨rfl, rfl, rfl⟩
  · rename_i b o e m c
    split at h <;> try (cases h; done)
    rename_i he
    subst he
    cases hl : σ.lds b o (m * e) with
    | none => simp [hl] at h
    | some us =>
      simp only [hl, Option.map_some, Option.some.injEq, Prod.mk.injEq] at h
      obtain ⟨rfl, rfl⟩ := h
      exact .inr ⟨b, o, c, rfl, hl⟩
  · cases h

theorem spread_vlen {σ : St} {es n : Nat} {x : Value} {vs : List Value} (h : Spread σ es x n vs) : vlen x = some n := by
  rcases h with ⟨rfl, rfl, _⟩ | ⟨b, o, c, rfl, _⟩ <;> rfl
def xLen (E : Env) (ts : Array TypeId) (x : Value) : Option Value :=
  match ts[0]? with
  | none => none
  | some t => match E.T t with
    | none => none
    | some i => match i.desc with
      | .slice _ => (vlen x).map fun n : Nat => .int .i64 (n : Nat)
      | .array n _ => some (.int .i64 (n : Nat))
      | _ => none
theorem xLen_ok {ts : Array TypeId} {x v : Value} (h : xLen E ts x = some v) (K : Value → Prop) (hk : K v) : awLen E ts x K := by
  unfold xLen at h
  unfold awLen
  simp only [lenOf_iff]
  cases h0 : ts[0]? with
  | none => simp [h0] at h
  | some t =>
    simp only [h0] at h ⊢
    cases ht : E.T t with
    | none => simp [ht] at h
    | some i =>
      simp only [ht] at h ⊢
      cases hd : i.desc <;> simp only [hd] at h ⊢ <;> try (cases h; done)
      case slice e =>
        cases hv : vlen x with
        | none => simp [hv] at h
        | some n => simp only [hv, Option.map_some, Option.some.injEq] at h; subst h; exact ⟨n, rfl, hk⟩
      case array n e => cases h; exact hk

def xFold (f : Int → Int → Int) : Value → List Value → Option Value
  | .int k x, [] => some (.int k x)
  | .int k x, .int _ y :: rest => xFold f (.int k (f x y)) rest
  | _, _ => none
theorem xFold_ok {f : Int → Int → Int} (K : Value → Prop) : ∀ (l : List Value) (x v : Value), xFold f x l = some v → K v → awFold f K x l
  | [], x, v, h, hk => by
    cases x <;> simp only [xFold] at h <;> try (cases h; done)
    cases h; exact hk
  | y :: rest, x, v, h, hk => by
    cases x <;> cases y <;> simp only [xFold] at h <;> try (cases h; done)
    exact ⟨_, rfl, xFold_ok K rest _ v h hk⟩

def xUn (op : UnOp) (x : Value) : Option Value :=
  match op, x with
  | .neg, .int k n => some (.int k (k.wrap (0 - n)))
  | .not, .bool b => some (.bool !b)
  | _, _ => none
theorem xUn_ok {op : UnOp} {x v : Value} (h : xUn op x = some v) (K : Value → Prop) (hk : K v) : awUn op x K := by
  unfold xUn at h
  split at h <;> cases h
  · exact ⟨_, rfl, hk⟩
  · exact ⟨_, rfl, hk⟩

def xConvert (E : Env) (s d : TypeId) (x : Value) : Option Value :=
  match E.T s, E.T d, x with
  | some _, some di, .int _ n => match di.desc with
    | .int k => some (.int k (k.wrap n))
    | _ => none
  | _, _, _ => none
theorem xConvert_ok {s d : TypeId} {x v : Value} (h : xConvert E s d x = some v) (K : Value → Prop) (hk : K v) : awConvert E s d x K := by
  unfold xConvert at h
  unfold awConvert
  split at h <;> try (cases h; done)
  rename_i si di k n h1 h2
  simp only [h1, h2]
  cases hd : di.desc <;> simp only [hd] at h ⊢ <;> try (cases h; done)
  cases h; exact ⟨_, rfl, hk⟩

def xMakeInterface (E : Env) (t : TypeId) (x : Value) : Option Value :=
  match E.T t with
  | none => none
  | some i => match i.desc with
    | .interface _ => none
    | _ => some (.iface t x)
theorem xMakeInterface_ok {t : TypeId} {x v : Value} (h : xMakeInterface E t x = some v) (K : Value → Prop) (hk : K v) : awMakeInterface E t x K := by
  unfold xMakeInterface at h
  unfold awMakeInterface
  cases ht : E.T t with
  | none => simp [ht] at h
  | some i =>
    simp only [ht] at h ⊢
    cases hd : i.desc <;> simp only [hd] at h ⊢ <;> cases h <;> exact hk

def xTA (zv x : Value) (as : TypeId) (ok : Bool) : Option Value :=
  match x with
  | .nilIface => bif ok then some (.tuple #[zv, .bool false]) else none
  | .iface t v => bif Nat.beq t as then some (bif ok then .tuple #[v, .bool true] else v) else bif ok then some (.tuple #[zv, .bool false]) else none
  | _ => none
theorem xTA_ok {zv x v : Value} {as : TypeId} {ok : Bool} (h : xTA zv x as ok = some v) (K : Value → Prop) (hk : K v) : awTA zv x as ok K := by
  unfold xTA at h
  unfold awTA
  cases x <;> simp only at h <;> try (cases h; done)
  case nilIface =>
    cases ok <;> simp only [cond_true, cond_false] at h <;> cases h
    exact ⟨rfl, hk⟩
  case iface t u =>
    simp only [beq_eq] at h
    by_cases hta : t = as
    · simp only [hta, decide_true, cond_true, Option.some.injEq] at h
      simp only [hta, if_true]
      subst h; exact hk
    · simp only [hta, decide_false, cond_false] at h
      simp only [hta, if_false]
      cases ok <;> simp only [cond_true, cond_false] at h <;> cases h
      exact ⟨rfl, hk⟩
def xTypeAssert (E : Env) (x : Value) (as : TypeId) (ok : Bool) : Option Value :=
  match E.T as with
  | none => none
  | some i => match i.desc with
    | .interface _ => none
    | _ => xTA i.zv x as ok
theorem xTypeAssert_ok {x v : Value} {as : TypeId} {ok : Bool} (h : xTypeAssert E x as ok = some v) (K : Value → Prop) (hk : K v) : awTypeAssert E x as ok K := by
  unfold xTypeAssert at h
  unfold awTypeAssert
  cases ht : E.T as with
  | none => simp [ht] at h
  | some i =>
    simp only [ht] at h ⊢
    cases hd : i.desc <;> simp only [hd] at h ⊢ <;> first
      | (cases h; done)
      | exact xTA_ok h K hk

def xBinOp (E : Env) (op : BinOp) (t : TypeId) (x y : Value) : Option Value :=
  match x, y with
  | .int k a, .int k' b => xBin op k k' a b
  | x, y => match op with
    | .eql => (xEq E t x y).map fun r => .bool r
    | .neq => (xEq E t x y).map fun r => .bool !r
    | _ => none

/-- The operations that change no memory. -/
def xVal (E : Env) (op : Op) : Fr → St → Option Value :=
  match op with
  | .move y => fun fr σ => some (ev fr y)
  | .assign y => fun fr σ => some (ev fr y)
  | .pick c a b => fun fr σ => match ev fr c with
    | .bool t => some (bif t then ev fr a else ev fr b)
    | _ => none
  | .build t parts => fun fr σ => xBuild E t (parts.toList.map fun p => (p.1, ev fr p.2))
  | .load t a => fun fr σ => xLoad E σ t (ev fr a)
  | .nilCheck y => fun fr σ => match ev fr y with
    | .pointer (some a) => some (.pointer (some a))
    | _ => none
  | .binOp op t a b _ => fun fr σ => xBinOp E op t (ev fr a) (ev fr b)
  | .unOp op _ y => fun fr σ => xUn op (ev fr y)
  | .convert s d y => fun fr σ => xConvert E s d (ev fr y)
  | .makeInterface t y => fun fr σ => xMakeInterface E t (ev fr y)
  | .makeFunc fn first cap => fun fr σ => some (.func fn (first.toList.map (ev fr)).toArray (cap.toList.map (ev fr)).toArray)
  | .slice t y lo hi mx => fun fr σ => xSl E σ t (ev fr y) (lo.map (ev fr)) (hi.map (ev fr)) (mx.map (ev fr))
  | .fieldAddr t y f => fun fr σ => xFieldAddr E t (ev fr y) f
  | .field t y f => fun fr σ => xField E t (ev fr y) f
  | .indexAddr t y i => fun fr σ => xIndexAddr E t (ev fr y) (ev fr i)
  | .index t y i => fun fr σ => xIndex E t (ev fr y) (ev fr i)
  | .typeAssert y _ a ok => fun fr σ => xTypeAssert E (ev fr y) a ok
  | .extract t i => fun fr σ => match ev fr t with
    | .tuple vs => vs[i]?
    | _ => none
  | .call c => match c.callee with
    | .builtin .len => fun fr _ => match c.args.toList.map (ev fr) with
      | [y] => xLen E c.argTypes y
      | _ => none
    | .builtin .min => fun fr _ => match c.args.toList.map (ev fr) with
      | y :: rest => xFold fmin y rest
      | _ => none
    | .builtin .max => fun fr _ => match c.args.toList.map (ev fr) with
      | y :: rest => xFold fmax y rest
      | _ => none
    | _ => fun _ _ => none
  | _ => fun _ _ => none

theorem xVal_ok {fr : Fr} {σ : St} {op : Op} {v : Value} (h : xVal E op fr σ = some v) (K : Kont) (hk : K v σ) : awOp E fr σ op K := by
  cases op <;> simp only [xVal] at h <;> try (cases h; done)
  case move y => cases h; exact hk
  case assign y => cases h; exact hk
  case pick c a b =>
    simp only [awOp, awPure]
    split at h <;> cases h
    rename_i t ht
    exact ⟨t, ht, hk⟩
  case build t parts => simp only [awOp, awPure]; exact xBuild_ok h _ hk
  case load t a => simp only [awOp, awPure]; exact xLoad_ok h _ hk
  case nilCheck y =>
    simp only [awOp, awPure]
    split at h <;> cases h
    rename_i a ha
    exact ⟨a, ha, hk⟩
  case binOp op t a b yt =>
    simp only [awOp, awPure]
    unfold xBinOp at h
    split at h
    · rename_i k p k' q e1 e2
      rw [e1, e2]
      exact xBin_ok h _ hk
    · rename_i ne
      split at h
      · cases hq : xEq E t (ev fr a) (ev fr b) with
        | none => simp [hq] at h
        | some r =>
          simp only [hq, Option.map_some, Option.some.injEq] at h
          subst h
          split
          · rename_i e1 e2; exact absurd e2 (ne _ _ _ _ e1)
          · exact xEq_ok hq (fun r => K (.bool r) σ) hk
          · contradiction
          · exfalso; simp_all
      · cases hq : xEq E t (ev fr a) (ev fr b) with
        | none => simp [hq] at h
        | some r =>
          simp only [hq, Option.map_some, Option.some.injEq] at h
          subst h
          split
          · rename_i e1 e2; exact absurd e2 (ne _ _ _ _ e1)
          · contradiction
          · exact xEq_ok hq (fun r => K (.bool !r) σ) hk
          · exfalso; simp_all
      · cases h
  case unOp op t y => simp only [awOp, awPure]; exact xUn_ok h _ hk
  case convert s d y => simp only [awOp, awPure]; exact xConvert_ok h _ hk
  case makeInterface t y => simp only [awOp, awPure]; exact xMakeInterface_ok h _ hk
  case makeFunc fn first cap => cases h; exact hk
  case slice t y lo hi mx => simp only [awOp, awPure]; exact xSl_ok h (fun v => K v σ) hk
  case fieldAddr t y f => simp only [awOp, awPure]; exact xFieldAddr_ok h _ hk
  case field t y f => simp only [awOp, awPure]; exact xField_ok h _ hk
  case indexAddr t y i => simp only [awOp, awPure]; exact xIndexAddr_ok h _ hk
  case index t y i => simp only [awOp, awPure]; exact xIndex_ok h _ hk
  case typeAssert y yt as ok => simp only [awOp, awPure]; exact xTypeAssert_ok h _ hk
  case extract t i =>
    simp only [awOp, awPure]
    split at h <;> try (cases h; done)
    rename_i vs hvs
    rw [hvs]
    exact ⟨v, h, hk⟩
  case call c =>
    obtain ⟨callee, args, ats⟩ := c
    cases callee with
    | value f => cases h
    | invoke r n => cases h
    | builtin b =>
    simp only [awOp]
    cases b <;> simp only at h <;> try (cases h; done)
    all_goals simp only [awBuiltin]
    all_goals split at h <;> try (cases h; done)
    · rename_i y hy; rw [hy]; exact xLen_ok h _ hk
    · rename_i y rest hy; rw [hy]; exact xFold_ok _ rest y v h hk
    · rename_i y rest hy; rw [hy]; exact xFold_ok _ rest y v h hk

end Go.Am
