/-
  An abstract machine for the model's code, part 13: the evaluator: regions, plans, results.
-/
import Derived.Test.YtpbnliicmccjhaaDoorAmX
namespace Go.Am
set_option linter.unusedVariables false
set_option linter.unusedSimpArgs false
variable {E : Env} {base : World} {φ : Phi} {w : World}

/-- Methods of pointer types, by type and name. -/
abbrev XMeth := List (Nat × String × Nat)
def xmeth : XMeth → Nat → String → Option Nat
  | [], _, _ => none
  | (t, s, k) :: l, u, r => bif Nat.beq t u && decide (s = r) then some k else xmeth l u r
theorem xmeth_ok {M : XMeth} (hM : ∀ p ∈ M, Meth E p.1 p.2.1 p.2.2) {t : Nat} {s : String} {k : Nat} (h : xmeth M t s = some k) : Meth E t s k := by
  induction M with
  | nil => cases h
  | cons p l ih =>
    obtain ⟨u, r, j⟩ := p
    simp only [xmeth, beq_eq] at h
    by_cases hc : (decide (u = t) && decide (r = s)) = true
    · rw [hc] at h
      cases h
      simp only [Bool.and_eq_true, decide_eq_true_eq] at hc
      have := hM _ (List.mem_cons_self ..)
      simp only at this
      rw [hc.1, hc.2] at this
      exact this
    · rw [Bool.eq_false_iff.2 hc] at h
      exact ih (fun p hp => hM p (List.mem_cons_of_mem _ hp)) h

def xWant (ops : Array Oper) (fr : Fr) (o : Oper) : Option Bool :=
  match o.guard with
  | none => some true
  | some (j, want) => match (ops[j]?).bind (·.dst) with
    | none => some false
    | some d => match fr d with
      | .bool true => some want
      | .bool false => some (!want)
      | .tuple _ => some false
      | _ => none
theorem xWant_ok {ops : Array Oper} {fr : Fr} {o : Oper} {b : Bool} (h : xWant ops fr o = some b) {A B : Prop} (hk : bif b then A else B) : awWant ops fr o A B := by
  unfold xWant at h
  unfold awWant
  cases hg : o.guard with
  | none => simp only [hg] at h; cases h; exact hk
  | some jw =>
    obtain ⟨j, want⟩ := jw
    simp only [hg] at h ⊢
    cases hd : (ops[j]?).bind (·.dst) with
    | none => simp only [hd] at h; cases h; exact hk
    | some d =>
      simp only [hd] at h ⊢
      refine ⟨?_⟩
      unfold awGuard
      split at h <;> cases h
      · rename_i hv; rw [hv]; exact hk
      · rename_i hv; rw [hv]; cases want <;> exact hk
      · rename_i hv; rw [hv]; exact hk

def xStillOp (E : Env) (op : Op) : Fr → St → Option Value :=
  match op with
  | .load t a => fun fr σ => xLoad E σ t (ev fr a)
  | op => bif pureKind op then xVal E op else fun _ _ => none
theorem xStillOp_ok {fr : Fr} {σ : St} {op : Op} {v : Value} (h : xStillOp E op fr σ = some v) (K : Value → Prop) (hk : K v) : awStillOp E fr σ op K := by
  have gen : (bif pureKind op then xVal E op else fun _ _ => none) fr σ = some v → pureKind op = true ∧ awOp E fr σ op fun v _ => K v := by
    intro h
    cases hp : pureKind op with
    | false => rw [hp] at h; cases h
    | true => rw [hp] at h; exact ⟨rfl, xVal_ok h (fun v _ => K v) hk⟩
  cases op <;> first
    | exact gen h
    | exact xLoad_ok h K hk

def allTakes (l : List Oper) : Bool := l.all fun o => takes o.op
def leadTakes : List Oper → Nat
  | [] => 0
  | o :: l => bif takes o.op then leadTakes l + 1 else 0

/-- Two values that are surely the same, and stand for one value alone ('n': how deep it is looked). -/
def xveqs (q : Value → Value → Bool) : List Value → List Value → Bool
  | [], [] => true
  | a :: l, b :: m => q a b && xveqs q l m
  | _, _ => false
def xveq : Nat → Value → Value → Bool
  | 0, _, _ => false
  | n + 1, a, b => match a, b with
    | .bool x, .bool y => bif x then y else !y
    | .int .i64 x, .int .i64 y => decide (x = y)
    | .int .u64 x, .int .u64 y => decide (x = y)
    | .pointer none, .pointer none => true
    | .pointer (some ⟨b, o, none⟩), .pointer (some ⟨b', o', none⟩) => Nat.beq b b' && Nat.beq o o'
    | .slice none 0 0, .slice none 0 0 => true
    | .slice (some ⟨b, o, some e⟩) m c, .slice (some ⟨b', o', some e'⟩) m' c' => Nat.beq b b' && Nat.beq o o' && Nat.beq e e' && Nat.beq m m' && Nat.beq c c' && Nat.blt 0 e && (Nat.blt 0 m || Nat.beq o 0)
    | .nilFunc, .nilFunc => true
    | .nilIface, .nilIface => true
    | .func (.func k) x y, .func (.func k') x' y' => Nat.beq k k' && xveqs (xveq n) x.toList x'.toList && xveqs (xveq n) y.toList y'.toList
    | .iface t v, .iface t' v' => Nat.beq t t' && xveq n v v'
    | _, _ => false

theorem xveqs_ok {q : Value → Value → Bool} (hq : ∀ a b, q a b = true → a = b ∧ Det a) : ∀ l m, xveqs q l m = true → l = m ∧ ∀ v ∈ l, Det v
  | [], [], _ => ⟨rfl, by simp⟩
  | a :: l, b :: m, h => by
    simp only [xveqs, Bool.and_eq_true] at h
    obtain ⟨h1, h2⟩ := h
    obtain ⟨rfl, hd⟩ := hq a b h1
    obtain ⟨rfl, hd'⟩ := xveqs_ok hq l m h2
    exact ⟨rfl, by simpa using ⟨hd, hd'⟩⟩
  | [], _ :: _, h => by simp [xveqs] at h
  | _ :: _, [], h => by simp [xveqs] at h
theorem nbeq {a b : Nat} (h : Nat.beq a b = true) : a = b := Nat.eq_of_beq_eq_true h
theorem xveq_ok : ∀ n a b, xveq n a b = true → a = b ∧ Det a
  | 0, _, _, h => by cases h
  | n + 1, a, b, h => by
    have ih := xveq_ok n
    unfold xveq at h
    split at h
    · rename_i x y; cases x <;> cases y <;> simp at h <;> exact ⟨rfl, .bool _⟩
    · rename_i x y; rw [of_decide_eq_true h]; exact ⟨rfl, .int _ _⟩
    · rename_i x y; rw [of_decide_eq_true h]; exact ⟨rfl, .int _ _⟩
    · exact ⟨rfl, .nilp⟩
    · rename_i b o b' o'
      simp only [Bool.and_eq_true] at h
      rw [nbeq h.1, nbeq h.2]; exact ⟨rfl, .ptr _ _⟩
    · exact ⟨rfl, .nils⟩
    · rename_i b o e m c b' o' e' m' c'
      simp only [Bool.and_eq_true] at h
      obtain ⟨⟨⟨⟨⟨⟨h1, h2⟩, h3⟩, h4⟩, h5⟩, h6⟩, h7⟩ := h
      rw [nbeq h1, nbeq h2, nbeq h3, nbeq h4, nbeq h5]
      rw [nbeq h3] at h6
      rw [nbeq h4, nbeq h2] at h7
      refine ⟨rfl, .slice _ _ _ _ _ (by simpa using h6) ?_⟩
      simp only [Bool.or_eq_true] at h7
      exact h7.imp (by simp) nbeq
    · exact ⟨rfl, .nilf⟩
    · exact ⟨rfl, .nili⟩
    · rename_i k x y k' x' y'
      simp only [Bool.and_eq_true] at h
      obtain ⟨e1, d1⟩ := xveqs_ok ih _ _ h.1.2
      obtain ⟨e2, d2⟩ := xveqs_ok ih _ _ h.2
      rw [nbeq h.1.1, Array.toList_inj.1 e1, Array.toList_inj.1 e2]
      rw [Array.toList_inj.1 e1] at d1
      rw [Array.toList_inj.1 e2] at d2
      exact ⟨rfl, .func (fun i v hv => d1 v (by have := Array.mem_of_getElem? hv; simpa using this)) (fun i v hv => d2 v (by have := Array.mem_of_getElem? hv; simpa using this))⟩
    · rename_i t v t' v'
      simp only [Bool.and_eq_true] at h
      obtain ⟨e1, d1⟩ := ih _ _ h.2
      rw [nbeq h.1, e1]
      rw [e1] at d1
      exact ⟨rfl, .iface d1⟩
    · cases h

def xRin (R : Reads) (σ : St) : Bool := R.all fun r => match σ.ld r.1 r.2.1 with
  | some u => xveq 4 u r.2.2
  | none => false
theorem xRin_ok {R : Reads} {σ : St} (h : xRin R σ = true) : R.in σ ∧ ∀ r ∈ R, Det r.2.2 := by
  have key : ∀ r ∈ R, σ.ld r.1 r.2.1 = some r.2.2 ∧ Det r.2.2 := fun r hr => by
    have := List.all_eq_true.1 h r hr
    cases hl : σ.ld r.1 r.2.1 with
    | none => simp [hl] at this
    | some u =>
      simp only [hl] at this
      obtain ⟨rfl, hd⟩ := xveq_ok _ _ _ this
      exact ⟨rfl, hd⟩
  exact ⟨fun r hr => (key r hr).1, fun r hr => (key r hr).2⟩

def xlook : Reads → Nat → Nat → Option Value
  | [], _, _ => none
  | (b, o, v) :: l, b', o' => bif Nat.beq b b' && Nat.beq o o' then some v else xlook l b' o'
theorem xlook_ok : ∀ (R : Reads) (b o : Nat) (v : Value), xlook R b o = some v → (b, o, v) ∈ R
  | [], _, _, _, h => by cases h
  | (b, o, u) :: l, b', o', v, h => by
    simp only [xlook] at h
    cases hc : (Nat.beq b b' && Nat.beq o o') with
    | true =>
      rw [hc] at h; cases h
      simp only [Bool.and_eq_true] at hc
      rw [nbeq hc.1, nbeq hc.2]; simp
    | false => rw [hc] at h; exact List.mem_cons_of_mem _ (xlook_ok l b' o' v h)

def xTake (E : Env) (R : Reads) (op : Op) : Fr → St → Option Value :=
  match op with
  | .load t y => match E.T t with
    | some i => cond i.agg (fun _ _ => none) fun fr _ => match ev fr y with
      | .pointer (some ⟨b, o, none⟩) => xlook R b o
      | _ => none
    | none => fun _ _ => none
  | op => cond (pureKind op) (xVal E op) fun _ _ => none
theorem xTake_ok {R : Reads} {fr : Fr} {σ : St} {op : Op} {v : Value} (h : xTake E R op fr σ = some v) (K : Value → Prop) (hk : K v) : awTake E R fr σ op K := by
  have gen : (cond (pureKind op) (xVal E op) fun _ _ => none) fr σ = some v → awOp E fr σ op fun v _ => K v := by
    intro h
    cases hp : pureKind op with
    | false => rw [hp] at h; cases h
    | true => rw [hp] at h; exact xVal_ok h (fun v _ => K v) hk
  cases op
  case load t y =>
    unfold xTake at h
    unfold awTake
    cases ht : E.T t with
    | none => simp [ht] at h
    | some i =>
    simp only [ht] at h ⊢
    cases ha : i.agg with
    | true => rw [ha] at h; cases h
    | false =>
      rw [ha] at h
      simp only [cond_false] at h
      split at h <;> try (cases h; done)
      rename_i b o hy
      rw [hy]
      exact ⟨ha, v, xlook_ok _ _ _ _ h, hk⟩
  all_goals exact gen h

/-- A plan in which at each time one operation may come. -/
def mkPlan (ops : Array Oper) : Nat → Array Bool → Plan
  | 0, _ => .done
  | n + 1, listed => match Region.ready .any ops listed with
    | [] => .done
    | r => match r.find? fun i => ((ops[i]?).map fun o => takes o.op).getD false && Region.free .any ops listed i with
      | some i => .take i (mkPlan ops n (listed.setIfInBounds i true))
      | none => match r with
        | [i] => .only i (mkPlan ops n (listed.setIfInBounds i true))
        | _ => .done
def planned (ops : Array Oper) : Bool := Region.noSelect ops && planB ops ops.size (Array.replicate ops.size false) (mkPlan ops ops.size (Array.replicate ops.size false))

theorem SW_block {N id : Nat} {c : Code} {fr : Fr} {σ : St} {K : Post} (h : SW E N c fr σ (blockK id K)) : SW E N (.block id c) fr σ K := fun base φ w a hr hf hd => by
  refine wp_block (wp_mono (h base φ w a hr hf hd) fun e a' w' hp => ?_)
  obtain ⟨x, fr', σ', φ', h1, h2, h3, h4, h5, h6⟩ := hp
  cases e with
  | exit i =>
    cases x <;> simp only [exm] at h1
    subst h1
    simp only [blockK] at h2
    simp only [Exit.inBlock]
    by_cases hid : i = id
    · subst hid
      rw [if_pos rfl]
      have : Nat.beq i i = true := by simp
      rw [this] at h2
      exact ⟨.normal, fr', σ', φ', trivial, h2, h3, h4, h5, h6⟩
    · rw [if_neg hid]
      have : Nat.beq i id = false := by rw [beq_eq]; simp [hid]
      rw [this] at h2
      exact ⟨.exit i, fr', σ', φ', rfl, h2, h3, h4, h5, h6⟩
  | normal => cases x <;> simp only [exm] at h1; exact ⟨.normal, fr', σ', φ', trivial, h2, h3, h4, h5, h6⟩
  | goto i => cases x <;> simp only [exm] at h1; exact ⟨.goto _, fr', σ', φ', h1, h2, h3, h4, h5, h6⟩
  | ret => cases x <;> simp only [exm] at h1; exact ⟨.ret, fr', σ', φ', trivial, h2, h3, h4, h5, h6⟩
  | panic c => cases x <;> exact h1.elim
  | outgrown => cases x <;> exact h1.elim
theorem SW_scope {N : Nat} {c : Code} {fr : Fr} {σ : St} {K : Post} (h : SW E N c fr σ (noGotoK K)) : SW E N (.scope c) fr σ K := fun base φ w a hr hf hd => by
  refine wp_scope_straight (wp_mono (h base φ w a hr hf hd) fun e a' w' hp => ?_)
  obtain ⟨x, fr', σ', φ', h1, h2, h3, h4, h5, h6⟩ := hp
  cases e with
  | normal => cases x <;> simp only [exm] at h1; exact ⟨.normal, fr', σ', φ', trivial, h2, h3, h4, h5, h6⟩
  | exit i => cases x <;> simp only [exm] at h1; exact ⟨.exit _, fr', σ', φ', h1, h2, h3, h4, h5, h6⟩
  | goto i => cases x <;> simp only [exm] at h1; exact h2.elim
  | ret => cases x <;> simp only [exm] at h1; exact ⟨.ret, fr', σ', φ', trivial, h2, h3, h4, h5, h6⟩
  | panic c => cases x <;> exact h1.elim
  | outgrown => cases x <;> exact h1.elim

def xRet (E : Env) (fr : Fr) (σ : St) : List ResultVar → List Value → Option Value
  | [], acc => some (tup acc.reverse)
  | .tmp t :: rest, acc => xRet E fr σ rest (fr t :: acc)
  | .cell a t :: rest, acc => match xLoad E σ t (fr a) with
    | some v => xRet E fr σ rest (v :: acc)
    | none => none
theorem xRet_ok {fr : Fr} {σ : St} : ∀ (l : List ResultVar) (acc : List Value) (v : Value), xRet E fr σ l acc = some v → ∀ K : Value → Prop, K v → awRet E fr σ l acc K
  | [], acc, v, h, K, hk => by cases h; exact hk
  | .tmp t :: rest, acc, v, h, K, hk => xRet_ok rest _ v h K hk
  | .cell a t :: rest, acc, v, h, K, hk => by
    simp only [xRet] at h
    cases hl : xLoad E σ t (fr a) with
    | none => simp [hl] at h
    | some u => simp only [hl] at h; exact xLoad_ok hl _ (xRet_ok rest _ v h K hk)

end Go.Am
