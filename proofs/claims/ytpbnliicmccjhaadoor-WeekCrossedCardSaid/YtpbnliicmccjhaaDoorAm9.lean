/-
  An abstract machine for the model's code, part 9: code, regions in any order, the calls of functions with a body.
-/
import Derived.Test.YtpbnliicmccjhaaDoorAm8
namespace Go.Am
set_option linter.unusedVariables false
set_option linter.unusedSimpArgs false
variable {E : Env} {base : World} {φ : Phi} {σ : St} {w : World}

/-! ### Frames -/

def FR (N : Nat) (φ : Phi) (fr : Fr) (tmps : Array Value) : Prop := tmps.size = N ∧ ∀ i, i < N → VR φ (fr i) (tmps.getD i undef)

theorem FR.mono {N : Nat} {φ ψ : Phi} (h : φ.le ψ) {fr : Fr} {t : Array Value} (hf : FR N φ fr t) : FR N ψ fr t := ⟨hf.1, fun i hi => (hf.2 i hi).mono h⟩

def dstOK (N : Nat) : Option Tmp → Bool
  | some d => decide (d < N)
  | none => true

theorem FR.put {N : Nat} {fr : Fr} {a : Act} (h : FR N φ fr a.tmps) {dst : Option Tmp} (hd : dstOK N dst = true) {v v' : Value} (hv : VR φ v v') : FR N φ (Am.put fr dst v) (a.put dst v').tmps := by
  cases dst with
  | none => exact h
  | some d =>
    have hd' : d < N := by simpa [dstOK] using hd
    refine ⟨by simp [Act.put, h.1], fun i hi => ?_⟩
    simp only [Am.put, upd, Act.put]
    by_cases hid : i = d
    · subst hid
      have : (Nat.beq i i) = true := by simp
      rw [this]
      simp [h.1, hi, hv]
    · have hb : Nat.beq i d = false := by
        cases hh : Nat.beq i d with
        | false => rfl
        | true => exact absurd (Nat.eq_of_beq_eq_true hh) hid
      rw [hb]
      have := h.2 i hi
      simpa [Array.getElem?_setIfInBounds_ne (Ne.symm hid)] using this

def okOpnd (N : Nat) (G : Globs) : Operand → Bool
  | .tmp t => decide (t < N)
  | .const v => flat v
  | .global g => G.any fun x => Nat.beq x.1 g
  | .func _ => true

theorem FR.ev {N : Nat} {fr : Fr} {a : Act} (hr : Rel E.G base φ σ w) (h : FR N φ fr a.tmps) {x : Operand} (hx : okOpnd N E.G x = true) : VR φ (Am.ev fr x) (a.eval x) := by
  cases x with
  | tmp t => exact h.2 t (by simpa [okOpnd] using hx)
  | const v => exact .flat hx
  | global g =>
    simp only [okOpnd, List.any_eq_true] at hx
    obtain ⟨x, hx1, hx2⟩ := hx
    have hx3 := Nat.eq_of_beq_eq_true hx2
    have hg := (hr.glob x hx1).1
    rw [hx3] at hg
    exact .ptr (o := 0) hg
  | func f => exact .func rfl rfl (by simp) (by simp)

def operOK (N : Nat) (G : Globs) (o : Oper) : Bool := dstOK N o.dst && o.op.operands.toList.all (okOpnd N G)

def codeOK (N : Nat) (G : Globs) : Code → Bool
  | .region _ ops _ => ops.toList.all (operOK N G)
  | .seq a b => codeOK N G a && codeOK N G b
  | .cond c a b => okOpnd N G c && codeOK N G a && codeOK N G b
  | .block _ b | .loop b | .scope b => codeOK N G b
  | _ => true

theorem operOK_dst {N : Nat} {G : Globs} {o : Oper} (h : operOK N G o = true) : dstOK N o.dst = true := by simp only [operOK, Bool.and_eq_true] at h; exact h.1
theorem operOK_ev {N : Nat} {o : Oper} (h : operOK N E.G o = true) {fr : Fr} {a : Act} (hr : Rel E.G base φ σ w) (hf : FR N φ fr a.tmps) :
    ∀ x ∈ o.op.operands, VR φ (ev fr x) (a.eval x) := fun x hx => by
  simp only [operOK, Bool.and_eq_true] at h
  exact FR.ev hr hf (List.all_eq_true.1 h.2 x (by simpa using hx))

/-! ### Guards -/

def awGuard (v : Value) (want : Bool) (A B : Prop) : Prop :=
  match v with
  | .bool true => bif want then A else B
  | .bool false => bif want then B else A
  | .tuple _ => B
  | _ => False

/-- A guard: a walk stops here. -/
structure Gd (v : Value) (want : Bool) (A B : Prop) : Prop where
  out : awGuard v want A B

def awWant (ops : Array Oper) (fr : Fr) (o : Oper) (A B : Prop) : Prop :=
  match o.guard with
  | none => A
  | some (j, want) => match (ops[j]?).bind (·.dst) with
    | none => B
    | some d => Gd (fr d) want A B

theorem awWant_ok {N : Nat} {ops : Array Oper} (hops : ops.toList.all (operOK N E.G) = true) {fr : Fr} {a : Act} (hf : FR N φ fr a.tmps) {o : Oper} {A B : Prop} (h : awWant ops fr o A B) :
    (Region.wanted o (yielded ops a.tmps) = true ∧ A) ∨ (Region.wanted o (yielded ops a.tmps) = false ∧ B) := by
  unfold awWant at h
  cases hg : o.guard with
  | none => simp only [hg] at h; exact .inl ⟨by simp [Region.wanted, hg], h⟩
  | some jw =>
    obtain ⟨j, want⟩ := jw
    simp only [hg] at h
    cases hd : (ops[j]?).bind (·.dst) with
    | none =>
      simp only [hd] at h
      exact .inr ⟨by simp [Region.wanted, hg, yielded, hd], h⟩
    | some d =>
      simp only [hd] at h
      replace h := h.out
      have hdN : d < N := by
        cases hj : ops[j]? with
        | none => simp [hj] at hd
        | some oj =>
          simp [hj] at hd
          have hmem : oj ∈ ops.toList := by have := Array.mem_of_getElem? hj; simpa using this
          have := operOK_dst (List.all_eq_true.1 hops oj hmem)
          rw [hd] at this
          simpa [dstOK] using this
      have hv := hf.2 d hdN
      have hyv : yielded ops a.tmps j = (match a.tmps.getD d undef with | .bool b => some b | _ => none) := by
        simp only [yielded, hd, Option.bind_some]
        have : a.tmps[d]? = some (a.tmps.getD d undef) := by
          have hlt : d < a.tmps.size := by rw [hf.1]; exact hdN
          simp [hlt]
        rw [this]
        cases a.tmps.getD d undef <;> rfl
      generalize fr d = x at h hv
      generalize a.tmps.getD d undef = x' at hv hyv
      unfold awGuard at h
      split at h
      · have := hv.to_bool
        subst this
        cases want with
        | true => exact .inl ⟨by simp [Region.wanted, hg, hyv], h⟩
        | false => exact .inr ⟨by simp [Region.wanted, hg, hyv], h⟩
      · have := hv.to_bool
        subst this
        cases want with
        | true => exact .inr ⟨by simp [Region.wanted, hg, hyv], h⟩
        | false => exact .inl ⟨by simp [Region.wanted, hg, hyv], h⟩
      · obtain ⟨x'', rfl, _⟩ := hv.of_tuple
        exact .inr ⟨by simp [Region.wanted, hg, hyv], h⟩
      · exact h.elim

def awOps (E : Env) (ops : Array Oper) : List Oper → Fr → St → (Fr → St → Prop) → Prop
  | [], fr, σ, Q => Q fr σ
  | o :: rest, fr, σ, Q => awWant ops fr o (awOp E fr σ o.op fun v σ' => awOps E ops rest (put fr o.dst v) σ' Q) (awOps E ops rest (put fr o.dst undef) σ Q)

/-! ### How code ends -/

inductive Ex where
  | normal
  | exit (id : Nat)
  | goto (l : Nat)
  | ret

def exm : Exit → Ex → Prop
  | .normal, .normal => True
  | .exit i, .exit j => i = j
  | .goto i, .goto j => i = j
  | .ret, .ret => True
  | _, _ => False

abbrev Post := Ex → Fr → St → Prop

def post (E : Env) (N : Nat) (base : World) (φ : Phi) (K : Post) (e : Exit) (a : Act) (w : World) : Prop :=
  ∃ x fr σ φ', exm e x ∧ K x fr σ ∧ φ.le φ' ∧ FR N φ' fr a.tmps ∧ a.defers = [] ∧ Rel E.G base φ' σ w

/-- What code does, from a frame and a heap that stand for the model's. -/
def SW (E : Env) (N : Nat) (c : Code) (fr : Fr) (σ : St) (K : Post) : Prop :=
  ∀ (base : World) (φ : Phi) (w : World) (a : Act), Rel E.G base φ σ w → FR N φ fr a.tmps → a.defers = [] → c.wp E.P (post E N base φ K) a w

theorem post.le {N : Nat} {φ ψ : Phi} {K : Post} (h : φ.le ψ) {e : Exit} {a : Act} {w : World} (hp : post E N base ψ K e a w) : post E N base φ K e a w := by
  obtain ⟨x, fr, σ, φ', h1, h2, h3, rest⟩ := hp
  exact ⟨x, fr, σ, φ', h1, h2, Phi.le_trans h h3, rest⟩

theorem Act.put_defers' (a : Act) (d : Option Tmp) (v : Value) : (a.put d v).defers = a.defers := by cases d <;> rfl

theorem awOps_ok {N : Nat} {ops : Array Oper} (hops : ops.toList.all (operOK N E.G) = true) (K : Post) : ∀ (l : List Oper), (∀ o ∈ l, operOK N E.G o = true) → ∀ (fr : Fr) (σ : St) (φ0 φ : Phi) (a : Act) (w : World),
    φ0.le φ → Rel E.G base φ σ w → FR N φ fr a.tmps → a.defers = [] → awOps E ops l fr σ (fun fr σ => K .normal fr σ) → wpList E.P ops (post E N base φ0 K) l a w
  | [], _, fr, σ, φ0, φ, a, w, hle, hr, hf, hd, hk => ⟨.normal, fr, σ, φ, trivial, hk, hle, hf, hd, hr⟩
  | o :: rest, hl, fr, σ, φ0, φ, a, w, hle, hr, hf, hd, hk => by
    have ho := hl o (by simp)
    have ih := awOps_ok hops K rest (fun x hx => hl x (by simp [hx]))
    simp only [awOps] at hk
    unfold wpList
    rcases awWant_ok hops hf hk with ⟨hw, hk⟩ | ⟨hw, hk⟩
    · rw [if_pos hw]
      refine .inl (op_ok hr (operOK_ev ho hr hf) hk fun v v' σ' φ' w' hk' hle' hv hrel => ?_)
      exact ih _ _ φ0 φ' _ w' (Phi.le_trans hle hle') hrel ((hf.mono hle').put (operOK_dst ho) hv) (by rw [Act.put_defers', hd]) hk'
    · rw [if_neg (by simp [hw])]
      exact ih _ _ φ0 φ _ w hle hr (hf.put (operOK_dst ho) (vr_undef φ)) (by rw [Act.put_defers', hd]) hk

end Go.Am
