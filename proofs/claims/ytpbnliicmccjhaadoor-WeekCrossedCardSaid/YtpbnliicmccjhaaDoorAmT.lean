/-
  An abstract machine for the model's code, part 14: heaps and frames as trees of bits, for a quick evaluator.
-/
import Derived.Test.YtpbnliicmccjhaaDoorAmY
namespace Go.Am
set_option linter.unusedVariables false
set_option linter.unusedSimpArgs false
variable {E : Env} {base : World} {φ : Phi} {w : World}

noncomputable section

/-- A tree of bits: 1 is the root; 2p and 2p + 1 lie to its left and right. -/
inductive T (α : Type) where
  | e : T α
  | n (v : Option α) (l r : T α) : T α

def T.get {α : Type} (t : T α) : Nat → Option α :=
  T.rec (motive := fun _ => Nat → Option α) (fun _ => none)
    (fun v _ _ gl gr p => Bool.rec (Bool.rec (gr (Nat.div p 2)) (gl (Nat.div p 2)) (Nat.beq (Nat.land p 1) 0)) v (Nat.beq p 1)) t
def T.set {α : Type} (t : T α) : Nat → Option α → T α :=
  T.rec (motive := fun _ => Nat → Option α → T α) (fun _ _ => .e)
    (fun v l r sl sr p x => Bool.rec (Bool.rec (.n v l (sr (Nat.div p 2) x)) (.n v (sl (Nat.div p 2) x) r) (Nat.beq (Nat.land p 1) 0)) (.n x l r) (Nat.beq p 1)) t

theorem land_one (p : Nat) : Nat.beq (Nat.land p 1) 0 = decide (p % 2 = 0) := by
  have : Nat.land p 1 = p % 2 := Nat.and_one_is_mod p
  rw [this, beq_eq]

theorem T.get_n {α : Type} (v : Option α) (l r : T α) (p : Nat) : (T.n v l r).get p = if p = 1 then v else if p % 2 = 0 then l.get (p / 2) else r.get (p / 2) := by
  show (Bool.rec (Bool.rec (r.get (p / 2)) (l.get (p / 2)) (Nat.beq (Nat.land p 1) 0)) v (Nat.beq p 1) : Option α) = _
  rw [land_one, beq_eq]
  by_cases h : p = 1 <;> by_cases h' : p % 2 = 0 <;> simp [h, h']
theorem T.set_n {α : Type} (v : Option α) (l r : T α) (p : Nat) (x : Option α) : (T.n v l r).set p x = if p = 1 then .n x l r else if p % 2 = 0 then .n v (l.set (p / 2) x) r else .n v l (r.set (p / 2) x) := by
  show (Bool.rec (Bool.rec (T.n v l (r.set (p / 2) x)) (T.n v (l.set (p / 2) x) r) (Nat.beq (Nat.land p 1) 0)) (T.n x l r) (Nat.beq p 1) : T α) = _
  rw [land_one, beq_eq]
  by_cases h : p = 1 <;> by_cases h' : p % 2 = 0 <;> simp [h, h']

theorem T.get_set_ne {α : Type} (t : T α) : ∀ (p q : Nat) (x : Option α), q ≠ p → (t.set p x).get q = t.get q := by
  induction t with
  | e => intro p q x _; rfl
  | n v l r ihl ihr =>
    intro p q x hne
    rw [T.set_n]
    split
    · rename_i hp
      have hq : q ≠ 1 := by omega
      rw [T.get_n, T.get_n, if_neg hq, if_neg hq]
    · rename_i hp
      split
      · rename_i h2
        rw [T.get_n, T.get_n]
        by_cases hq : q = 1
        · rw [if_pos hq, if_pos hq]
        · rw [if_neg hq, if_neg hq]
          by_cases hq2 : q % 2 = 0
          · rw [if_pos hq2, if_pos hq2]; exact ihl _ _ _ (by omega)
          · rw [if_neg hq2, if_neg hq2]
      · rename_i h2
        rw [T.get_n, T.get_n]
        by_cases hq : q = 1
        · rw [if_pos hq, if_pos hq]
        · rw [if_neg hq, if_neg hq]
          by_cases hq2 : q % 2 = 0
          · rw [if_pos hq2, if_pos hq2]
          · rw [if_neg hq2, if_neg hq2]; exact ihr _ _ _ (by omega)
theorem T.get_set_eq {α : Type} (t : T α) : ∀ (p : Nat) (x : Option α), (t.set p x).get p = x ∨ (t.set p x).get p = none := by
  induction t with
  | e => intro p x; exact .inr rfl
  | n v l r ihl ihr =>
    intro p x
    rw [T.set_n]
    split
    · rename_i hp; rw [T.get_n, if_pos hp]; exact .inl rfl
    · rename_i hp
      split
      · rename_i h2; rw [T.get_n, if_neg hp, if_pos h2]; exact ihl _ _
      · rename_i h2; rw [T.get_n, if_neg hp, if_neg h2]; exact ihr _ _
theorem T.get_set {α : Type} {t : T α} {p q : Nat} {x : Option α} {u : α} (h : (t.set p x).get q = some u) : (q = p ∧ x = some u) ∨ (q ≠ p ∧ t.get q = some u) := by
  by_cases hq : q = p
  · subst hq
    rcases T.get_set_eq t q x with h' | h'
    · exact .inl ⟨rfl, h'.symm.trans h⟩
    · rw [h'] at h; cases h
  · exact .inr ⟨hq, by rw [← T.get_set_ne t p q x hq]; exact h⟩

/-- An empty tree of so many levels. -/
def T.full {α : Type} (d : Nat) : T α := Nat.rec .e (fun _ t => .n none t t) d
theorem T.get_full {α : Type} (d : Nat) : ∀ p, (T.full d : T α).get p = none := by
  induction d with
  | zero => intro p; rfl
  | succ d ih =>
    intro p
    show (T.n none (T.full d) (T.full d) : T α).get p = none
    rw [T.get_n, ih]; split <;> simp

/-! ### Heaps -/

structure FH where
  n : Nat
  t : T Blk
  m : T (List Nat)

def FH.st (x : FH) : St := ⟨x.n, fun b => x.t.get (Nat.add b 1)⟩
def FH.mem (x : FH) (f : Nat) : List Nat := (x.m.get (Nat.add f 1)).getD []
def HOK (x : FH) : Prop := ∀ b k, x.st.get b = some k → b < x.n ∧ k.fam < x.n ∧ (b = k.fam ∨ b ∈ x.mem k.fam)

def FH.push (x : FH) (cs : List Value) : FH := ⟨Nat.add x.n 1, x.t.set (Nat.add x.n 1) (some ⟨cs, x.n, true⟩), x.m⟩
theorem HOK.push {x : FH} (h : HOK x) (cs : List Value) : HOK (x.push cs) ∧ Sub (x.push cs).st (x.st.push cs) := by
  have key : ∀ b k, (x.push cs).st.get b = some k → (b = x.n ∧ k = ⟨cs, x.n, true⟩) ∨ (b ≠ x.n ∧ x.st.get b = some k) := by
    intro b k hb
    rcases T.get_set hb with ⟨h1, h2⟩ | ⟨h1, h2⟩
    · have h1' : b + 1 = x.n + 1 := h1
      cases h2
      exact .inl ⟨by omega, rfl⟩
    · have h1' : b + 1 ≠ x.n + 1 := h1
      exact .inr ⟨by omega, h2⟩
  refine ⟨fun b k hb => ?_, rfl, fun b k hb => ?_⟩
  · show b < x.n + 1 ∧ k.fam < x.n + 1 ∧ _
    rcases key b k hb with ⟨rfl, rfl⟩ | ⟨hne, hb⟩
    · exact ⟨Nat.lt_succ_self _, Nat.lt_succ_self _, .inl rfl⟩
    · obtain ⟨h1, h2, h3⟩ := h b k hb
      exact ⟨by omega, by omega, h3⟩
  · show (bif b == x.n then some ⟨cs, x.n, true⟩ else x.st.get b) = some k
    rcases key b k hb with ⟨rfl, rfl⟩ | ⟨hne, hb⟩
    · simp
    · have : (b == x.n) = false := by simpa using hne
      rw [this]; exact hb

/-- As 'push', in the family of an elder block. -/
def FH.pushIn (x : FH) (cs : List Value) (fam : Nat) : FH := ⟨Nat.add x.n 1, x.t.set (Nat.add x.n 1) (some ⟨cs, fam, true⟩), x.m.set (Nat.add fam 1) (some (x.n :: x.mem fam))⟩
theorem HOK.pushIn {x : FH} (h : HOK x) (cs : List Value) {fam : Nat} (hf : fam < x.n) (hm : ((x.pushIn cs fam).m.get (Nat.add fam 1)).isSome = true) : HOK (x.pushIn cs fam) ∧ Sub (x.pushIn cs fam).st (x.st.pushIn cs fam) := by
  have key : ∀ b k, (x.pushIn cs fam).st.get b = some k → (b = x.n ∧ k = ⟨cs, fam, true⟩) ∨ (b ≠ x.n ∧ x.st.get b = some k) := by
    intro b k hb
    rcases T.get_set hb with ⟨h1, h2⟩ | ⟨h1, h2⟩
    · have h1' : b + 1 = x.n + 1 := h1
      cases h2
      exact .inl ⟨by omega, rfl⟩
    · have h1' : b + 1 ≠ x.n + 1 := h1
      exact .inr ⟨by omega, h2⟩
  have hmem : ∀ f, (x.pushIn cs fam).mem f = if f = fam then x.n :: x.mem fam else x.mem f := by
    intro f
    unfold FH.mem
    by_cases hff : f = fam
    · subst hff
      rw [if_pos rfl]
      rcases T.get_set_eq x.m (Nat.add f 1) (some (x.n :: x.mem f)) with h' | h'
      · rw [show (x.pushIn cs f).m.get (Nat.add f 1) = _ from h']; rfl
      · rw [show (x.pushIn cs f).m.get (Nat.add f 1) = none from h'] at hm; cases hm
    · rw [if_neg hff, show (x.pushIn cs fam).m.get (Nat.add f 1) = x.m.get (Nat.add f 1) from T.get_set_ne _ _ _ _ (by show f + 1 ≠ fam + 1; omega)]
  refine ⟨fun b k hb => ?_, rfl, fun b k hb => ?_⟩
  · show b < x.n + 1 ∧ k.fam < x.n + 1 ∧ _
    rcases key b k hb with ⟨rfl, rfl⟩ | ⟨hne, hb⟩
    · exact ⟨Nat.lt_succ_self _, Nat.lt_succ_of_lt hf, .inr (by rw [hmem, if_pos rfl]; simp)⟩
    · obtain ⟨h1, h2, h3⟩ := h b k hb
      refine ⟨by omega, by omega, h3.imp id fun h3 => ?_⟩
      rw [hmem]
      split
      · rename_i he; rw [he] at h3; exact List.mem_cons_of_mem _ h3
      · exact h3
  · show (bif b == x.n then some ⟨cs, fam, true⟩ else x.st.get b) = some k
    rcases key b k hb with ⟨rfl, rfl⟩ | ⟨hne, hb⟩
    · simp
    · have : (b == x.n) = false := by simpa using hne
      rw [this]; exact hb

def FH.set (x : FH) (b : Nat) (k : Blk) (cs : List Value) : FH := ⟨x.n, x.t.set (Nat.add b 1) (some ⟨cs, k.fam, k.wr⟩), x.m⟩
theorem HOK.set {x : FH} (h : HOK x) {b : Nat} {k : Blk} (hk : x.st.get b = some k) (cs : List Value) : HOK (x.set b k cs) ∧ Sub (x.set b k cs).st (x.st.st b cs) := by
  have key : ∀ y j, (x.set b k cs).st.get y = some j → (y = b ∧ j = ⟨cs, k.fam, k.wr⟩) ∨ (y ≠ b ∧ x.st.get y = some j) := by
    intro y j hb
    rcases T.get_set hb with ⟨h1, h2⟩ | ⟨h1, h2⟩
    · have h1' : y + 1 = b + 1 := h1
      cases h2
      exact .inl ⟨by omega, rfl⟩
    · have h1' : y + 1 ≠ b + 1 := h1
      exact .inr ⟨by omega, h2⟩
  refine ⟨fun y j hb => ?_, rfl, fun y j hb => ?_⟩
  · rcases key y j hb with ⟨rfl, rfl⟩ | ⟨hne, hb⟩
    · exact h y k hk
    · exact h y j hb
  · simp only [St.st]
    rcases key y j hb with ⟨rfl, rfl⟩ | ⟨hne, hb⟩
    · simp [hk]
    · have : (y == b) = false := by simpa using hne
      rw [this]; exact hb

def FH.del (x : FH) (b : Nat) : FH := ⟨x.n, x.t.set (Nat.add b 1) none, x.m⟩
theorem del_get {x : FH} {b y : Nat} {k : Blk} (h : (x.del b).st.get y = some k) : y ≠ b ∧ x.st.get y = some k := by
  rcases T.get_set h with ⟨_, h2⟩ | ⟨h1, h2⟩
  · cases h2
  · have h1' : y + 1 ≠ b + 1 := h1
    exact ⟨by omega, h2⟩
theorem del_keep {x : FH} {b y : Nat} (h : y ≠ b) : (x.del b).st.get y = x.st.get y := T.get_set_ne _ _ _ _ (by show y + 1 ≠ b + 1; omega)
theorem HOK.del {x : FH} (h : HOK x) (b : Nat) : HOK (x.del b) ∧ Sub (x.del b).st x.st :=
  ⟨fun y k hy => h y k (del_get hy).2, rfl, fun y k hy => (del_get hy).2⟩

/-- Some blocks are forgotten, but one. -/
def FH.dels (x : FH) (b : Nat) (p : Blk → Bool) : List Nat → FH
  | [] => x
  | y :: l => FH.dels (cond (Nat.beq y b) x (match x.t.get (Nat.add y 1) with
    | some k => cond (p k) (x.del y) x
    | none => x)) b p l
theorem dels_ok (b : Nat) (p : Blk → Bool) : ∀ (l : List Nat) (x : FH), HOK x → HOK (x.dels b p l) ∧ Sub (x.dels b p l).st x.st ∧ (x.dels b p l).m = x.m ∧ (x.dels b p l).st.get b = x.st.get b ∧
    ∀ y k, (x.dels b p l).st.get y = some k → y ∈ l → y = b ∨ p k = false
  | [], x, h => ⟨h, Sub.refl _, rfl, rfl, fun _ _ _ h => by cases h⟩
  | y :: l, x, h => by
    have step : ∀ x1, HOK x1 → Sub x1.st x.st → x1.m = x.m → x1.st.get b = x.st.get b → (∀ k, x1.st.get y = some k → y = b ∨ p k = false) →
        HOK (x1.dels b p l) ∧ Sub (x1.dels b p l).st x.st ∧ (x1.dels b p l).m = x.m ∧ (x1.dels b p l).st.get b = x.st.get b ∧ ∀ z k, (x1.dels b p l).st.get z = some k → z ∈ y :: l → z = b ∨ p k = false := by
      intro x1 h1 hs hm hb hy
      obtain ⟨i1, i2, i3, i4, i5⟩ := dels_ok b p l x1 h1
      refine ⟨i1, ⟨i2.1.trans hs.1, fun z k hz => hs.2 z k (i2.2 z k hz)⟩, i3.trans hm, i4.trans hb, fun z k hz hzl => ?_⟩
      rcases List.mem_cons.1 hzl with rfl | hzl
      · exact hy k (i2.2 z k hz)
      · exact i5 z k hz hzl
    simp only [FH.dels]
    rw [beq_eq]
    by_cases hyb : y = b
    · subst hyb
      simp only [decide_true, cond_true]
      exact step x h (Sub.refl _) rfl rfl fun _ _ => .inl rfl
    · simp only [hyb, decide_false, cond_false]
      cases hk : x.t.get (Nat.add y 1) with
      | none => exact step x h (Sub.refl _) rfl rfl fun k hk' => by rw [show x.st.get y = none from hk] at hk'; cases hk'
      | some k =>
        simp only
        cases hp : p k with
        | true => exact step (x.del y) (h.del y).1 (h.del y).2 rfl (del_keep (fun e => hyb e.symm)) fun k' hk' => absurd rfl (del_get hk').1
        | false => exact step x h (Sub.refl _) rfl rfl fun k' hk' => .inr (by rw [show x.st.get y = some k from hk] at hk'; cases hk'; exact hp)

/-- No other block of its family is known. -/
def FH.sole (x : FH) (fam b : Nat) : FH :=
  match x.m.get (Nat.add fam 1) with
  | none => cond (Nat.beq fam b) x (x.dels b (fun k => Nat.beq k.fam fam) [fam])
  | some l => x.dels b (fun k => Nat.beq k.fam fam) (fam :: l)
theorem FH.sole_ok {x : FH} (h : HOK x) {b : Nat} {k : Blk} (hk : x.st.get b = some k) : HOK (x.sole k.fam b) ∧ Sub (x.sole k.fam b).st x.st ∧ (x.sole k.fam b).st.get b = some k ∧ (x.sole k.fam b).st.sole b := by
  have fin : ∀ l : List Nat, (∀ y, y = k.fam ∨ y ∈ x.mem k.fam → y ∈ l) → HOK (x.dels b (fun j => Nat.beq j.fam k.fam) l) ∧ Sub (x.dels b (fun j => Nat.beq j.fam k.fam) l).st x.st ∧ (x.dels b (fun j => Nat.beq j.fam k.fam) l).st.get b = some k ∧
      (x.dels b (fun j => Nat.beq j.fam k.fam) l).st.sole b := by
    intro l hl
    obtain ⟨i1, i2, i3, i4, i5⟩ := dels_ok b (fun j => Nat.beq j.fam k.fam) l x h
    refine ⟨i1, i2, i4.trans hk, fun k1 y k2 h1 h2 hne hf => ?_⟩
    have e : k1 = k := by have := h1.symm.trans (i4.trans hk); cases this; rfl
    subst e
    have hm := (i1 y k2 h2).2.2
    rw [hf] at hm
    have hmem : (x.dels b (fun j => Nat.beq j.fam k1.fam) l).mem k1.fam = x.mem k1.fam := by unfold FH.mem; rw [i3]
    rw [hmem] at hm
    rcases i5 y k2 h2 (hl y hm) with h' | h'
    · exact hne h'
    · rw [beq_eq, hf] at h'; simp at h'
  unfold FH.sole
  cases hm : x.m.get (Nat.add k.fam 1) with
  | none =>
    have hmem : x.mem k.fam = [] := by unfold FH.mem; rw [hm]; rfl
    simp only
    rw [beq_eq]
    by_cases hb : k.fam = b
    · simp only [hb, decide_true, cond_true]
      refine ⟨h, Sub.refl _, hk, fun k1 y k2 h1 h2 hne hf => ?_⟩
      have e : k1 = k := by have := h1.symm.trans hk; cases this; rfl
      subst e
      have := (h y k2 h2).2.2
      rw [hf, hmem] at this
      rcases this with h' | h'
      · exact hne (h'.trans hb)
      · cases h'
    · simp only [hb, decide_false, cond_false]
      exact fin [k.fam] fun y hy => by
        rw [hmem] at hy
        rcases hy with rfl | hy
        · simp
        · cases hy
  | some l =>
    have hmem : x.mem k.fam = l := by unfold FH.mem; rw [hm]; rfl
    exact fin (k.fam :: l) fun y hy => by
      rw [hmem] at hy
      rcases hy with rfl | hy
      · simp
      · exact List.mem_cons_of_mem _ hy

/-- No longer block of its family is known. -/
def FH.drop (x : FH) (fam b len : Nat) : FH := x.dels b (fun k => Nat.beq k.fam fam && Nat.blt len k.cells.length) (fam :: x.mem fam)
theorem FH.drop_ok {x : FH} (h : HOK x) {b len : Nat} {k : Blk} (hk : x.st.get b = some k) (hlen : k.cells.length ≤ len) : HOK (x.drop k.fam b len) ∧ Sub (x.drop k.fam b len).st x.st ∧ (x.drop k.fam b len).st.get b = some k ∧
    ∀ y k', (x.drop k.fam b len).st.get y = some k' → k'.fam = k.fam → k'.cells.length ≤ len := by
  unfold FH.drop
  obtain ⟨i1, i2, i3, i4, i5⟩ := dels_ok b (fun j => Nat.beq j.fam k.fam && Nat.blt len j.cells.length) (k.fam :: x.mem k.fam) x h
  refine ⟨i1, i2, i4.trans hk, fun y k' h2 hf => ?_⟩
  have hm := (h y k' (i2.2 y k' h2)).2.2
  rw [hf] at hm
  rcases i5 y k' h2 (by rcases hm with rfl | hm; simp; exact List.mem_cons_of_mem _ hm) with h' | h'
  · subst h'
    have := h2.symm.trans (i4.trans hk)
    cases this; exact hlen
  · rw [beq_eq, hf] at h'
    simp only [decide_true, Bool.true_and] at h'
    rcases Nat.lt_or_ge len k'.cells.length with hl | hl
    · rw [show Nat.blt len k'.cells.length = true by simpa using hl] at h'; cases h'
    · exact hl

/-! ### Frames -/

abbrev FF := T Value
def fget (f : FF) : Fr := fun i => match f.get (Nat.add i 1) with
  | some v => v
  | none => junk
def fput (f : FF) (dst : Option Tmp) (v : Value) : FF :=
  match dst with
  | some d => f.set (Nat.add d 1) (some v)
  | none => f
theorem fput_weak (f : FF) (dst : Option Tmp) (v : Value) : ∀ i, fget (fput f dst v) i = junk ∨ fget (fput f dst v) i = put (fget f) dst v i := by
  intro i
  cases dst with
  | none => exact .inr rfl
  | some d =>
    simp only [fput, put, upd, beq_eq]
    unfold fget
    by_cases hi : i = d
    · subst hi
      simp only [decide_true, cond_true]
      rcases T.get_set_eq f (Nat.add i 1) (some v) with h | h <;> rw [h]
      · exact .inr rfl
      · exact .inl rfl
    · simp only [hi, decide_false, cond_false]
      rw [T.get_set_ne _ _ _ _ (by show i + 1 ≠ d + 1; omega)]
      exact .inr rfl

def fargs : Nat → List Value → FF → FF
  | _, [], f => f
  | k, v :: l, f => fargs (Nat.add k 1) l (f.set k (some v))
theorem fargs_get (l : List Value) : ∀ (k : Nat) (f : FF) (p : Nat) (u : Value), (fargs k l f).get p = some u → (∃ i, p = k + i ∧ l[i]? = some u) ∨ f.get p = some u := by
  induction l with
  | nil => intro k f p u h; exact .inr h
  | cons v l ih =>
    intro k f p u h
    rcases ih _ _ _ _ h with ⟨i, hi, hu⟩ | h
    · exact .inl ⟨i + 1, by have : p = k + 1 + i := hi; omega, by simpa using hu⟩
    · rcases T.get_set h with ⟨h1, h2⟩ | ⟨_, h2⟩
      · exact .inl ⟨0, by omega, by simpa using h2⟩
      · exact .inr h2
theorem fargs_weak (l : List Value) (d : Nat) : ∀ i, fget (fargs 1 l (T.full d)) i = junk ∨ fget (fargs 1 l (T.full d)) i = frOf l i := by
  intro i
  unfold fget
  cases h : (fargs 1 l (T.full d)).get (Nat.add i 1) with
  | none => exact .inl rfl
  | some u =>
    rcases fargs_get _ _ _ _ _ h with ⟨j, hj, hu⟩ | h
    · have hj' : i + 1 = 1 + j := hj
      have : j = i := by omega
      subst this
      exact .inr (by simp [frOf, hu])
    · rw [T.get_full] at h; cases h

end
end Go.Am
