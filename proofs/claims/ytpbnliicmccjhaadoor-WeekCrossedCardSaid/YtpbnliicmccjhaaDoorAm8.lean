/-
  An abstract machine for the model's code, part 8: an operation in the model's frame; calls of Go functions.
-/
import Derived.Test.YtpbnliicmccjhaaDoorAm7
namespace Go.Am
set_option linter.unusedVariables false
set_option linter.unusedSimpArgs false
variable {E : Env} {base : World} {φ : Phi} {σ : St} {w : World}

/-- A Go function that can be entered. -/
def FnOK (E : Env) (f : FuncId) : Prop := ∃ fn, E.P.funcs[f]? = some fn ∧ (fn.name == "runtime.NumGoroutine") = false ∧ fn.body.isSome = true

/-- THE CONTRACT OF A CALL: with these arguments, over this abstract heap, the call returns, and 'Q' holds of the result and the heap. -/
structure AC (E : Env) (f : FuncId) (args : List Value) (σ : St) (Q : Kont) : Prop where
  ok : FnOK E f
  run : ∀ (base : World) (φ : Phi) (w : World) (args' : List Value), Rel E.G base φ σ w → VRs φ args args' →
    Calls E.P f args'.toArray w fun e w' => ∃ v v' σ' φ', e = .returned v' ∧ Q v σ' ∧ VR φ' v v' ∧ φ.le φ' ∧ Rel E.G base φ' σ' w'

theorem AC.mono {f : FuncId} {args : List Value} {Q Q' : Kont} (h : AC E f args σ Q) (hq : ∀ v s, Q v s → Q' v s) : AC E f args σ Q' :=
  ⟨h.1, fun base φ w args' hr hv => (h.2 base φ w args' hr hv).mono fun _ _ ⟨v, v', s, ψ, he, q, rest⟩ => ⟨v, v', s, ψ, he, hq v s q, rest⟩⟩

/-- A call's heap may be forgotten in part. -/
theorem AC.forget {f : FuncId} {args : List Value} {Q : Kont} (p : Nat → Bool) (h : AC E f args (σ.forget p) Q) : AC E f args σ Q :=
  ⟨h.1, fun base φ w args' hr hv => h.2 base φ w args' (hr.forget p) hv⟩
theorem AC.mono_forget {f : FuncId} {args : List Value} {Q Q' : Kont} (h : AC E f args σ Q) (hq : ∀ v s, Q v s → ∃ p, Q' v (s.forget p)) : AC E f args σ Q' :=
  ⟨h.1, fun base φ w args' hr hv => (h.2 base φ w args' hr hv).mono fun _ _ ⟨v, v', s, ψ, he, q, a, b, c⟩ => let ⟨p, q'⟩ := hq v s q; ⟨v, v', s.forget p, ψ, he, q', a, b, c.forget p⟩⟩

def Wf (σ : St) : Prop := ∀ b k, σ.get b = some k → b < σ.n ∧ k.fam < σ.n
theorem AC.wf {f : FuncId} {args : List Value} {Q : Kont} (hf : FnOK E f) (h : Wf σ → AC E f args σ Q) : AC E f args σ Q :=
  ⟨hf, fun base φ w args' hr hv => (h hr.wf).2 base φ w args' hr hv⟩

/-- How an interface's method is found: a method of a pointer's type. -/
def Meth (E : Env) (t : TypeId) (name : String) (k : FuncId) : Prop := ∀ v w, (method (E.P.types.size + Made.depth) t v name).run E.P w = .ok (k, v) w

def awOp (E : Env) (fr : Fr) (σ : St) (o : Op) (K : Kont) : Prop :=
  match o with
  | .call c =>
    match c.callee with
    | .builtin b => awBuiltin E σ b c.argTypes (c.args.toList.map (ev fr)) K
    | .value f => match ev fr f with
      | .func (.func k) first cap => AC E k (first.toList ++ c.args.toList.map (ev fr) ++ cap.toList) σ K
      | _ => False
    | .invoke r name => match ev fr r with
      | .iface t v => ∃ k, Meth E t name k ∧ AC E k (v :: c.args.toList.map (ev fr)) σ K
      | _ => False
  | o => awPure E fr σ o K

theorem upon_fine {o : Oper} {a : Act} {s : Sem Value} {K : Kont} {next : Act → World → Prop} {Q : Exit → Act → World → Prop} (he : execOp a.eval o = (do let v ← s; pure (.value v)))
    (hf : Fine E.G base φ E.P s w K) (hn : ∀ v v' σ' φ' w', K v σ' → φ.le φ' → VR φ' v v' → Rel E.G base φ' σ' w' → next (a.put o.dst v') w') : o.wp E.P a w next Q := by
  obtain ⟨v', w', φ', v, σ', hr, hle, hk, hv, hrel⟩ := hf
  unfold Oper.wp
  rw [he, Sem.run_bind, hr]
  simp only [Result.andThen_ok, Sem.run_pure, Oper.upon_value]
  exact hn v v' σ' φ' w' hk hle hv hrel

def pureKind : Op → Bool
  | .move _ | .assign _ | .pick .. | .nilCheck _ | .binOp .. | .unOp .. | .convert .. | .makeInterface .. | .makeFunc .. | .fieldAddr .. | .field .. | .indexAddr .. | .index .. | .typeAssert .. | .extract .. => true
  | .slice .. => true
  | .call { callee := .builtin .len, .. } | .call { callee := .builtin .min, .. } | .call { callee := .builtin .max, .. } => true
  | _ => false

theorem vrs_map {fr : Fr} {a : Act} (l : List Operand) (h : ∀ x ∈ l, VR φ (ev fr x) (a.eval x)) : VRs φ (l.map (ev fr)) (l.map a.eval) := VRs.map _ _ l h

theorem vro_map {fr : Fr} {a : Act} (x : Option Operand) (h : ∀ y, x = some y → VR φ (ev fr y) (a.eval y)) : VRo φ (x.map (ev fr)) (x.map a.eval) := by
  cases x with
  | none => trivial
  | some y => exact h y rfl

theorem eqGuard_run (op : BinOp) (t : TypeId) (x y : Operand) {a b : Value} (h : ¬ (a = .nilIface ∧ b = .nilIface)) (h' : ∀ p q, ¬ (a = .agg p ∧ b = .agg q)) (P : Program) (w : World) :
    (eqGuard op t x y a b).run P w = .ok () w := by
  cases op <;> first
    | rfl
    | (cases a <;> cases b <;> first
        | rfl
        | exact absurd ⟨rfl, rfl⟩ h
        | exact absurd ⟨rfl, rfl⟩ (h' _ _))

theorem awEq_shape {t : TypeId} {x y x' y' : Value} {K : Bool → Prop} (hx : VR φ x x') (hy : VR φ y y') (hk : awEq E t x y K) :
    (¬ (x' = .nilIface ∧ y' = .nilIface) ∧ ∀ p q, ¬ (x' = .agg p ∧ y' = .agg q)) ∧
    binOp .eql t x' y' = (do pure (.bool (← Op.equal t x' y'))) ∧ binOp .neq t x' y' = (do pure (.bool (!(← Op.equal t x' y')))) := by
  unfold awEq at hk
  simp only [cmp_iff] at hk
  cases ht : E.T t with
  | none => simp [ht] at hk
  | some i =>
    simp only [ht] at hk
    cases hd : i.desc <;> simp only [hd] at hk <;> try exact hk.elim
    case bool => cases hx <;> cases hy <;> first | exact False.elim hk | exact ⟨⟨by simp, by simp⟩, rfl, rfl⟩
    case slice e => cases hx <;> cases hy <;> first | exact False.elim hk | exact ⟨⟨by simp, by simp⟩, rfl, rfl⟩
    case func ps rs v => cases hx <;> cases hy <;> first | exact False.elim hk | exact ⟨⟨by simp, by simp⟩, rfl, rfl⟩

/-- The operations that only compute: one value, in whatever world. -/
theorem awPure_finep {o : Oper} {a : Act} {fr : Fr} (hrel : Rel E.G base φ σ w) (hE : ∀ x ∈ o.op.operands, VR φ (ev fr x) (a.eval x)) {K : Value → Prop} (hp : pureKind o.op = true)
    (hk : awOp E fr σ o.op fun v _ => K v) : ∃ s, execOp a.eval o = (do let v ← s; pure (.value v)) ∧ FineP φ E.P s K := by
  obtain ⟨dst, op, type, pos, after, guard⟩ := o
  simp only at hE hp hk
  cases op <;> simp only [pureKind, Bool.false_eq_true] at hp <;> simp only [awOp, awPure] at hk
  case move x => exact ⟨pure (a.eval x), rfl, .mk (fun w => rfl) (hE x (by simp [Op.operands])) hk⟩
  case assign x => exact ⟨pure (a.eval x), rfl, .mk (fun w => rfl) (hE x (by simp [Op.operands])) hk⟩
  case pick c x y =>
    obtain ⟨t, ht, hk⟩ := hk
    have hc := hE c (by simp [Op.operands])
    rw [ht] at hc
    refine ⟨do pure (if ← asBool (a.eval c) then a.eval x else a.eval y), by simp [execOp], .mk (v' := if t then a.eval x else a.eval y) (fun w => ?_) ?_ hk⟩
    · simp [hc.to_bool, asBool]
    · cases t
      · exact hE y (by simp [Op.operands])
      · exact hE x (by simp [Op.operands])
  case nilCheck x =>
    obtain ⟨ad, ha, hk⟩ := hk
    have hx := hE x (by simp [Op.operands])
    rw [ha] at hx
    have hp' : ∃ ad', a.eval x = .pointer (some ad') ∧ VR φ (.pointer (some ad)) (.pointer (some ad')) := by
      generalize a.eval x = x' at hx
      cases hx with
      | ptr hm => exact ⟨_, rfl, .ptr hm⟩
    obtain ⟨ad', he', hv'⟩ := hp'
    exact ⟨pure (.pointer (some ad')), by simp only [execOp, he']; rfl, .mk (fun w => rfl) hv' hk⟩
  case binOp bop t x y yt =>
    have hx := hE x (by simp [Op.operands])
    have hy := hE y (by simp [Op.operands])
    refine ⟨do eqGuard bop t x y (a.eval x) (a.eval y); binOp bop t (a.eval x) (a.eval y), rfl, ?_⟩
    have guarded : ∀ {s : Sem Value}, (∀ w, (eqGuard bop t x y (a.eval x) (a.eval y)).run E.P w = .ok () w) → FineP φ E.P s K → FineP φ E.P (do eqGuard bop t x y (a.eval x) (a.eval y); s) K :=
      fun hg ⟨v', v, hr, rest⟩ => ⟨v', v, fun w => by rw [Sem.run_bind, hg]; exact hr w, rest⟩
    split at hk
    · rename_i k p k' q e1 e2
      rw [e1] at hx; rw [e2] at hy
      have h1 := hx.to_int
      have h2 := hy.to_int
      refine guarded (fun w => eqGuard_run _ _ _ _ (by rw [h1]; simp) (by rw [h1]; simp) _ _) ?_
      rw [h1, h2]
      exact awBin_ok _ t k k' p q K hk
    · rename_i ne
      obtain ⟨r, hr, heq⟩ := awEq_ok t (fun r => K (.bool r)) hx hy hk
      have shape := awEq_shape hx hy hk
      refine guarded (fun w => eqGuard_run _ _ _ _ shape.1.1 shape.1.2 _ _) (.mk (v' := .bool r) (fun w => ?_) (.bool _) hr)
      rw [shape.2.1, Sem.run_bind, heq w]; rfl
    · rename_i ne
      obtain ⟨r, hr, heq⟩ := awEq_ok t (fun r => K (.bool !r)) hx hy hk
      have shape := awEq_shape hx hy hk
      refine guarded (fun w => eqGuard_run _ _ _ _ shape.1.1 shape.1.2 _ _) (.mk (v' := .bool !r) (fun w => ?_) (.bool _) hr)
      rw [shape.2.2, Sem.run_bind, heq w]; rfl
    · exact hk.elim
  case unOp uop t x =>
    exact ⟨_, rfl, awUn_ok uop K (hE x (by simp [Op.operands])) hk⟩
  case convert s d x => exact ⟨_, rfl, awConvert_ok K (hE x (by simp [Op.operands])) hk⟩
  case makeInterface t x => exact ⟨_, rfl, awMakeInterface_ok K (hE x (by simp [Op.operands])) hk⟩
  case makeFunc fn first cap =>
    refine ⟨_, rfl, .mk (fun w => rfl) (v := .func fn (first.toList.map (ev fr)).toArray (cap.toList.map (ev fr)).toArray) ?_ hk⟩
    have h1 := vrs_map (φ := φ) (fr := fr) (a := a) first.toList fun x hx => hE x (by simp [Op.operands]; exact .inl (by simpa using hx))
    have h2 := vrs_map (φ := φ) (fr := fr) (a := a) cap.toList fun x hx => hE x (by simp [Op.operands]; exact .inr (by simpa using hx))
    refine .func (by simp) (by simp) (fun i v v' p q => ?_) (fun i v v' p q => ?_)
    · exact h1.2 i v v' (by simpa using p) (by simpa [← Array.getElem?_toList] using q)
    · exact h2.2 i v v' (by simpa using p) (by simpa [← Array.getElem?_toList] using q)
  case slice t x lo hi mx =>
    refine ⟨_, rfl, ?_⟩
    have hx := hE x (by simp [Op.operands])
    have hlo := vro_map (φ := φ) (fr := fr) (a := a) lo fun y hy => hE y (by simp [Op.operands, hy])
    have hhi := vro_map (φ := φ) (fr := fr) (a := a) hi fun y hy => hE y (by simp [Op.operands, hy])
    have hmx := vro_map (φ := φ) (fr := fr) (a := a) mx fun y hy => hE y (by simp [Op.operands, hy])
    unfold awSl at hk
    cases ht : E.T t with
    | none => simp [ht] at hk
    | some i =>
      simp only [ht] at hk
      cases hd : i.desc <;> simp only [hd] at hk <;> try exact hk.elim
      case slice e =>
        cases he : E.T e with
        | none => simp [he] at hk
        | some ie => simp only [he] at hk; exact awSlice_ok K ht hd he hx hlo hhi hmx hk
      case array n e =>
        cases he : E.T e with
        | none => simp [he] at hk
        | some ie => simp only [he] at hk; exact awSliceArr_ok hrel K ht hd he hx hlo hhi hmx hk
  case fieldAddr t x f => exact ⟨_, rfl, awFieldAddr_ok K (hE x (by simp [Op.operands])) hk⟩
  case field t x f => exact ⟨_, rfl, awField_ok K (hE x (by simp [Op.operands])) hk⟩
  case indexAddr t x i => exact ⟨_, rfl, awIndexAddr_ok K (hE x (by simp [Op.operands])) (hE i (by simp [Op.operands])) hk⟩
  case index t x i => exact ⟨_, rfl, awIndex_ok K (hE x (by simp [Op.operands])) (hE i (by simp [Op.operands])) hk⟩
  case typeAssert x xt as ok => exact ⟨_, rfl, awTypeAssert_ok K (hE x (by simp [Op.operands])) hk⟩
  case extract t i =>
    refine ⟨_, rfl, ?_⟩
    have hx := hE t (by simp [Op.operands])
    split at hk
    · rename_i vs he
      rw [he] at hx
      obtain ⟨v, hv, hk⟩ := hk
      obtain ⟨vs', h1, h2⟩ := hx.of_tuple
      obtain ⟨v', h3, h4⟩ := h2.get (i := i) (v := v) (by simpa using hv)
      exact .mk (v' := v') (fun w => by rw [h1]; simp [Instr.extract, show vs'[i]? = some v' by simpa using h3]) h4 hk
    · exact hk.elim
  case call c =>
    obtain ⟨callee, args, ats⟩ := c
    cases callee with
    | value f => simp at hp
    | invoke r n => simp at hp
    | builtin b =>
      have hargs : VRs φ (args.toList.map (ev fr)) (args.toList.map a.eval) := vrs_map args.toList fun x hx => hE x (by show x ∈ #[] ++ args; simpa using hx)
      simp only at hk
      have hexec : ∀ (s : Array Value → Sem Value), (∀ as, builtin b ats type (args.map fun | .const _ => true | _ => false) as = (do let v ← s as; pure (.value v))) →
          execOp a.eval ⟨dst, .call ⟨.builtin b, args, ats⟩, type, pos, after, guard⟩ = (do let v ← s (args.map a.eval); pure (.value v)) := by
        intro s hs
        exact hs (args.map a.eval)
      have harr' : args.map a.eval = (args.toList.map a.eval).toArray := Array.toList_inj.1 (by rw [Array.toList_map])
      generalize hl : args.toList.map (ev fr) = l at hk hargs
      generalize hl' : args.toList.map a.eval = l' at harr' hargs
      cases b <;> first | (simp at hp; done) | skip
      case len =>
        simp only [awBuiltin] at hk
        match l, hk with
        | [x], hk =>
          match l', hargs with
          | [x'], hargs =>
            refine ⟨_, hexec (Builtin.len_ ats type) (fun as => rfl), ?_⟩
            rw [harr']
            exact awLen_ok K hargs.of_cons.1 hk
          | [], hargs => have := hargs.1; simp at this
          | _ :: _ :: _, hargs => have := hargs.1; simp at this
      case min =>
        simp only [awBuiltin] at hk
        match l, hk with
        | x :: rest, hk =>
          match l', hargs with
          | x' :: rest', hargs =>
            refine ⟨_, hexec (Builtin.min_ ats type) (fun as => rfl), ?_⟩
            rw [harr']
            exact awFold_ok (g := Builtin.min2) (fun k k' x y => rfl) K rest rest' x x' hargs.of_cons.1 hargs.of_cons.2 hk
          | [], hargs => have := hargs.1; simp at this
      case max =>
        simp only [awBuiltin] at hk
        match l, hk with
        | x :: rest, hk =>
          match l', hargs with
          | x' :: rest', hargs =>
            refine ⟨_, hexec (Builtin.max_ ats type) (fun as => rfl), ?_⟩
            rw [harr']
            exact awFold_ok (g := Builtin.max2) (fun k k' x y => rfl) K rest rest' x x' hargs.of_cons.1 hargs.of_cons.2 hk
          | [], hargs => have := hargs.1; simp at this

theorem run_callFunc {f : FuncId} (h : FnOK E f) (args : Array Value) (w : World) : (callFunc f args).run E.P w = .ok (.enter f args) w := by
  obtain ⟨fn, h1, h2, h3⟩ := h
  cases hb : fn.body with
  | none => simp [hb] at h3
  | some c =>
    have h4 : ¬ (fn.name = "runtime.NumGoroutine") := by simpa using h2
    simp [callFunc, h1, h4, hb]

theorem upon_call {o : Oper} {a : Act} {f : FuncId} {args args' : List Value} {K : Kont} {next : Act → World → Prop} {Q : Exit → Act → World → Prop} (h : Rel E.G base φ σ w)
    (he : (execOp a.eval o).run E.P w = .ok (.enter f args'.toArray) w) (hv : VRs φ args args') (hc : AC E f args σ K)
    (hn : ∀ v v' σ' φ' w', K v σ' → φ.le φ' → VR φ' v v' → Rel E.G base φ' σ' w' → next (a.put o.dst v') w') : o.wp E.P a w next Q := by
  unfold Oper.wp
  rw [he, Oper.upon_enter]
  refine (hc.2 base φ w args' h hv).mono fun e w' ⟨v, v', σ', φ', hr, hk, hvr, hle, hrel⟩ => ?_
  subst hr
  exact hn v v' σ' φ' w' hk hle hvr hrel

theorem vr_undef (φ : Phi) : VR φ undef undef := .flat rfl

theorem parts_eq {fr : Fr} {a : Act} (parts : Array (Nat × Operand)) (h : ∀ x ∈ (parts.toList.map (·.2)).toArray, VR φ (ev fr x) (a.eval x)) :
    (parts.map fun (i, x) => (i, a.eval x)) = (parts.toList.map fun p => (p.1, a.eval p.2)).toArray ∧
    (parts.toList.map fun p => (p.1, ev fr p.2)).map (·.1) = (parts.toList.map fun p => (p.1, a.eval p.2)).map (·.1) ∧
    VRs φ ((parts.toList.map fun p => (p.1, ev fr p.2)).map (·.2)) ((parts.toList.map fun p => (p.1, a.eval p.2)).map (·.2)) := by
  refine ⟨Array.toList_inj.1 (by rw [Array.toList_map]), by simp [Function.comp_def], ?_⟩
  simp only [List.map_map, Function.comp_def]
  refine VRs.map _ _ _ fun p hp => h p.2 ?_
  simp only [List.mem_toArray, List.mem_map]
  exact ⟨p, hp, rfl⟩

theorem awCopy_ok (h : Rel E.G base φ σ w) {ts : Array TypeId} {ty : TypeId} {d d' s s' : Value} (K : Kont) (hd : VR φ d d') (hs : VR φ s s') (hk : awCopy E σ ts d s K) :
    Fine E.G base φ E.P (Builtin.copy_ ts ty #[d', s']) w K := by
  unfold awCopy at hk
  cases h0 : ts[0]? with
  | none => simp [h0] at hk
  | some t =>
  simp only [h0] at hk
  cases ht : E.T t with
  | none => simp [ht] at hk
  | some i =>
  simp only [ht] at hk
  have hu := run_und ht w
  cases hdd : i.desc <;> simp only [hdd] at hk <;> try exact hk.elim
  rename_i e
  rw [hdd] at hu
  cases he : E.T e with
  | none => simp [he] at hk
  | some ie =>
  simp only [he] at hk
  have hsz := run_size he w
  obtain ⟨b, o, n, c, nx, news, k, rfl, hnx, hvl, hsp, hg, hw, hso, h1, hl, hk⟩ := hk
  obtain ⟨ax, cx, news', rfl, hv, hlen, hf⟩ := run_spread' h hs hsp
  cases hd with
  | slice hφ hn hlo hex hun hroom hb hspt ha =>
    rename_i m a' c'
    have hmin : Nat.min nx n = nx := Nat.min_eq_left hnx
    by_cases hz : news.length = 0
    · have hn0 : news = [] := List.eq_nil_of_length_eq_zero hz
      subst hn0
      have hn0' : news' = [] := List.eq_nil_of_length_eq_zero (by have := hv.1; simpa using this.symm)
      subst hn0'
      have hsame : σ.st b (k.cells.take o ++ [] ++ k.cells.drop (o + ([] : List Value).length)) = σ := by
        apply St.ext
        · rfl
        · intro x
          by_cases hxb : x = b
          · subst hxb; rw [st_get_same hg, hg]; simp
          · rw [st_get_ne _ _ hxb]
      rw [hsame] at hk
      refine .pure h (v' := .int .i64 (nx : Nat)) ?_ (.int _ _) hk
      simp [Builtin.copy_, h0, hu, Builtin.lenOf, hmin, hsz, hf w rfl, storeCells, goInt]
    · have hc0 : c' ≠ 0 := by
        intro hc; subst hc
        have : nx = 0 := by omega
        subst this
        have := hv.1; rw [hlen, Nat.zero_mul] at this; exact hz this
      have ha' : a'.off = m.off + o := by omega
      have haddr : a' = ⟨m.blk, m.off + o, none⟩ := by
        obtain ⟨p, q, r⟩ := a'
        simp at hb hspt ha'
        subst hb; subst hspt; subst ha'
        rfl
      obtain ⟨w', hr, hrel⟩ := run_store_cells h hg hφ hw hso hv h1 o hl
      rw [← haddr] at hr
      refine ⟨.int .i64 (nx : Nat), w', φ, _, _, ?_, φ.le_refl, hk, .int _ _, hrel⟩
      simp [Builtin.copy_, h0, hu, Builtin.lenOf, hmin, hsz, hf w rfl, hr, goInt]

theorem awClear_ok (h : Rel E.G base φ σ w) {ts : Array TypeId} {ty : TypeId} {x x' : Value} (K : Kont) (hx : VR φ x x') (hk : awClear E σ ts x K) :
    Fine E.G base φ E.P (Builtin.clear_ ts ty #[x']) w K := by
  unfold awClear at hk
  cases h0 : ts[0]? with
  | none => simp [h0] at hk
  | some t =>
  simp only [h0] at hk
  cases ht : E.T t with
  | none => simp [ht] at hk
  | some i =>
  simp only [ht] at hk
  have hu := run_und ht w
  cases hdd : i.desc <;> simp only [hdd] at hk <;> try exact hk.elim
  rename_i e
  rw [hdd] at hu
  cases he : E.T e with
  | none => simp [he] at hk
  | some ie =>
  simp only [he] at hk
  obtain ⟨z, hz, hzc⟩ := run_zero he w
  rcases hk with ⟨hvl, hk⟩ | ⟨b, o, n, c, k, rfl, hn0, hg, hw, hso, h1, hl, hk⟩
  · refine .pure h (v' := .tuple #[]) ?_ (.flat rfl) hk
    cases hx <;> simp [vlen] at hvl
    case junk => cases hvl
    case nils => simp [Builtin.clear_, h0, hu]
    case slice => subst hvl; simp [Builtin.clear_, h0, hu]
  · cases hx with
    | slice hφ hn hlo hex hun hroom hb hspt ha =>
      rename_i m a' c'
      have hc0 : c' ≠ 0 := by omega
      have ha' : a'.off = m.off + o := by omega
      have haddr : a' = ⟨m.blk, m.off + o, none⟩ := by
        obtain ⟨p, q, r⟩ := a'
        simp at hb hspt ha'
        subst hb; subst hspt; subst ha'
        rfl
      have hzs : z.cells.size = ie.size := by rw [← (E.ok e ie he).len, ← hzc]; simp
      have hzl : (zeros ie.zero n).length = n * ie.size := by rw [zeros_length, (E.ok e ie he).len]
      have hzone : (zeros ie.zero n).all one = true := by
        rw [List.all_eq_true]
        intro v hv
        unfold zeros at hv
        rw [List.mem_flatten] at hv
        obtain ⟨l, hl1, hl2⟩ := hv
        rw [List.eq_of_mem_replicate hl1] at hl2
        exact List.all_eq_true.1 h1 v hl2
      have hsc := VRs.scalars (φ := φ) (zeros_scalar (E.ok e ie he).sc n)
      obtain ⟨w', hr, hrel⟩ := run_store_cells h hg hφ hw hso hsc hzone o (by omega)
      rw [hzl] at hrel
      rw [← haddr] at hr
      refine ⟨.tuple #[], w', φ, _, _, ?_, φ.le_refl, hk, .flat rfl, hrel⟩
      have hne : n ≠ 0 := by omega
      have hzz : (Builtin.zeroCells z.cells n).toList = zeros ie.zero n := by
        by_cases hs0 : z.cells.size = 0
        · have h3 : (Builtin.zeroCells z.cells n) = #[] := by simp [Builtin.zeroCells, hs0]
          have h4 : zeros ie.zero n = [] := List.eq_nil_of_length_eq_zero (by rw [hzl, ← hzs, hs0, Nat.mul_zero])
          rw [h3, h4]
        · have := zeros_eq z.cells n (by omega)
          rw [hzc] at this
          exact this
      obtain ⟨nn, rfl⟩ : ∃ nn, n = nn + 1 := ⟨n - 1, by omega⟩
      simp [Builtin.clear_, h0, hu, hz, hzz, hr]

theorem op_pure {o : Oper} {a : Act} {fr : Fr} {K : Kont} {next : Act → World → Prop} {Q : Exit → Act → World → Prop} (h : Rel E.G base φ σ w)
    (hE : ∀ x ∈ o.op.operands, VR φ (ev fr x) (a.eval x)) (hp : pureKind o.op = true)
    (hk : awOp E fr σ o.op fun v _ => K v σ)
    (hn : ∀ v v' σ' φ' w', K v σ' → φ.le φ' → VR φ' v v' → Rel E.G base φ' σ' w' → next (a.put o.dst v') w') : o.wp E.P a w next Q := by
  obtain ⟨s, he, hf⟩ := awPure_finep h hE hp hk
  exact upon_fine he (hf.fine h) hn

theorem op_value {f : Operand} {args : Array Operand} {ats : Array TypeId} {dst : Option Tmp} {type : TypeId} {pos : String} {after : Array Edge} {guard : Option (Nat × Bool)} {a : Act} {fr : Fr} {K : Kont} {next : Act → World → Prop} {Q : Exit → Act → World → Prop} (h : Rel E.G base φ σ w)
    (hE : ∀ y ∈ (Op.call ⟨.value f, args, ats⟩).operands, VR φ (ev fr y) (a.eval y)) (hk : awOp E fr σ (.call ⟨.value f, args, ats⟩) K)
    (hn : ∀ v v' σ' φ' w', K v σ' → φ.le φ' → VR φ' v v' → Rel E.G base φ' σ' w' → next (a.put dst v') w') : (Oper.mk dst (.call ⟨.value f, args, ats⟩) type pos after guard).wp E.P a w next Q := by
  simp only [awOp] at hk
  have hf := hE f (by show f ∈ #[f] ++ args; simp)
  have hargs : VRs φ (args.toList.map (ev fr)) (args.toList.map a.eval) := vrs_map args.toList fun x hx => hE x (by show x ∈ #[f] ++ args; simp; exact .inr (by simpa using hx))
  split at hk
  · rename_i k first cap hev
    rw [hev] at hf
    generalize hfe : a.eval f = f' at hf
    cases hf with
    | func hx hy ex ey =>
      rename_i first' cap'
      have h1 : VRs φ first.toList first'.toList := ⟨by simpa using hx, by simpa using ex⟩
      have h2 : VRs φ cap.toList cap'.toList := ⟨by simpa using hy, by simpa using ey⟩
      refine upon_call h (f := k) (args' := first'.toList ++ args.toList.map a.eval ++ cap'.toList) ?_ ((h1.append hargs).append h2) hk hn
      have hrun := run_callFunc hk.1 (first' ++ args.map a.eval ++ cap') w
      have harr : (first'.toList ++ args.toList.map a.eval ++ cap'.toList).toArray = first' ++ args.map a.eval ++ cap' := Array.toList_inj.1 (by simp)
      rw [harr, ← hrun]
      have he : execOp a.eval ⟨dst, .call ⟨.value f, args, ats⟩, type, pos, after, guard⟩ = callFunc k (first' ++ args.map a.eval ++ cap') := by
        simp only [execOp, resolve, hfe, Deferred.ofValue, pure_bind, invoke]
      rw [he]
  · exact hk.elim

theorem op_invoke {r : Operand} {name : String} {args : Array Operand} {ats : Array TypeId} {dst : Option Tmp} {type : TypeId} {pos : String} {after : Array Edge} {guard : Option (Nat × Bool)} {a : Act} {fr : Fr} {K : Kont} {next : Act → World → Prop} {Q : Exit → Act → World → Prop} (h : Rel E.G base φ σ w)
    (hE : ∀ y ∈ (Op.call ⟨.invoke r name, args, ats⟩).operands, VR φ (ev fr y) (a.eval y)) (hk : awOp E fr σ (.call ⟨.invoke r name, args, ats⟩) K)
    (hn : ∀ v v' σ' φ' w', K v σ' → φ.le φ' → VR φ' v v' → Rel E.G base φ' σ' w' → next (a.put dst v') w') : (Oper.mk dst (.call ⟨.invoke r name, args, ats⟩) type pos after guard).wp E.P a w next Q := by
  simp only [awOp] at hk
  have hf := hE r (by show r ∈ #[r] ++ args; simp)
  have hargs : VRs φ (args.toList.map (ev fr)) (args.toList.map a.eval) := vrs_map args.toList fun x hx => hE x (by show x ∈ #[r] ++ args; simp; exact .inr (by simpa using hx))
  split at hk
  · rename_i t v hev
    rw [hev] at hf
    generalize hfe : a.eval r = f' at hf
    cases hf with
    | iface hv =>
      rename_i v'
      obtain ⟨k, hm, hc⟩ := hk
      refine upon_call h (f := k) (args' := v' :: args.toList.map a.eval) ?_ (.cons hv hargs) hc hn
      have hrun := run_callFunc hc.1 (#[v'] ++ args.map a.eval) w
      have harr : (v' :: args.toList.map a.eval).toArray = #[v'] ++ args.map a.eval := Array.toList_inj.1 (by rw [Array.toList_append, Array.toList_map]; rfl)
      rw [harr, ← hrun]
      have hex : (#[Value.iface t v'] ++ args.map a.eval).extract 1 (#[Value.iface t v'] ++ args.map a.eval).size = args.map a.eval := by
        apply Array.toList_inj.1
        rw [Array.toList_extract, List.extract_eq_take_drop, Array.toList_append]
        show List.take _ ((args.map a.eval).toList) = _
        exact List.take_of_length_le (by simp)
      have hget : (#[Value.iface t v'] ++ args.map a.eval)[0]? = some (Value.iface t v') := by rw [← Array.getElem?_toList, Array.toList_append]; rfl
      show (invoke (.fn (.method name) #[]) (#[a.eval r] ++ args.map a.eval)).run E.P w = _
      rw [hfe]
      simp only [invoke, hget, hex, callMethod, Sem.run_bind, run_program, Result.andThen_ok, hm v' w]
  · exact hk.elim

theorem op_builtin {b : Builtin} {args : Array Operand} {ats : Array TypeId} {dst : Option Tmp} {type : TypeId} {pos : String} {after : Array Edge} {guard : Option (Nat × Bool)} {a : Act} {fr : Fr} {K : Kont} {next : Act → World → Prop} {Q : Exit → Act → World → Prop} (h : Rel E.G base φ σ w)
    (hE : ∀ y ∈ (Op.call ⟨.builtin b, args, ats⟩).operands, VR φ (ev fr y) (a.eval y)) (hk : awOp E fr σ (.call ⟨.builtin b, args, ats⟩) K)
    (hn : ∀ v v' σ' φ' w', K v σ' → φ.le φ' → VR φ' v v' → Rel E.G base φ' σ' w' → next (a.put dst v') w') : (Oper.mk dst (.call ⟨.builtin b, args, ats⟩) type pos after guard).wp E.P a w next Q := by
  simp only [awOp] at hk
  have hargs : VRs φ (args.toList.map (ev fr)) (args.toList.map a.eval) := vrs_map args.toList fun x hx => hE x (by show x ∈ #[] ++ args; simpa using hx)
  have hexec : ∀ (s : Array Value → Sem Value), (∀ as, builtin b ats type (args.map fun | .const _ => true | _ => false) as = (do let v ← s as; pure (.value v))) →
      execOp a.eval ⟨dst, .call ⟨.builtin b, args, ats⟩, type, pos, after, guard⟩ = (do let v ← s (args.map a.eval); pure (.value v)) := fun s hs => hs (args.map a.eval)
  have harr' : args.map a.eval = (args.toList.map a.eval).toArray := Array.toList_inj.1 (by rw [Array.toList_map])
  generalize hl : args.toList.map (ev fr) = l at hk hargs
  generalize hl' : args.toList.map a.eval = l' at harr' hargs
  cases b <;> simp only [awBuiltin] at hk <;> first
    | exact hk.elim
    | skip
  case len =>
    match l, hk with
    | [x], hk =>
      match l', hargs with
      | [x'], hargs =>
        refine upon_fine (hexec (Builtin.len_ ats type) (fun as => rfl)) ?_ hn
        rw [harr']
        exact (awLen_ok _ hargs.of_cons.1 hk).fine h
      | [], hargs => have := hargs.1; simp at this
      | _ :: _ :: _, hargs => have := hargs.1; simp at this
  case min =>
    match l, hk with
    | x :: rest, hk =>
      match l', hargs with
      | x' :: rest', hargs =>
        refine upon_fine (hexec (Builtin.min_ ats type) (fun as => rfl)) ?_ hn
        rw [harr']
        exact (awFold_ok (g := Builtin.min2) (fun k k' x y => rfl) _ rest rest' x x' hargs.of_cons.1 hargs.of_cons.2 hk).fine h
      | [], hargs => have := hargs.1; simp at this
  case max =>
    match l, hk with
    | x :: rest, hk =>
      match l', hargs with
      | x' :: rest', hargs =>
        refine upon_fine (hexec (Builtin.max_ ats type) (fun as => rfl)) ?_ hn
        rw [harr']
        exact (awFold_ok (g := Builtin.max2) (fun k k' x y => rfl) _ rest rest' x x' hargs.of_cons.1 hargs.of_cons.2 hk).fine h
      | [], hargs => have := hargs.1; simp at this
  case append =>
    match l, hk with
    | [x, y], hk =>
      match l', hargs with
      | [x', y'], hargs =>
        refine upon_fine (hexec (Builtin.append_ ats type) (fun as => rfl)) ?_ hn
        rw [harr']
        exact awAppend_ok h K hargs.of_cons.1 hargs.of_cons.2.of_cons.1 hk
      | [], hargs => have := hargs.1; simp at this
      | [_], hargs => have := hargs.1; simp at this
      | _ :: _ :: _ :: _, hargs => have := hargs.1; simp at this
  case copy =>
    match l, hk with
    | [x, y], hk =>
      match l', hargs with
      | [x', y'], hargs =>
        refine upon_fine (hexec (Builtin.copy_ ats type) (fun as => rfl)) ?_ hn
        rw [harr']
        exact awCopy_ok h K hargs.of_cons.1 hargs.of_cons.2.of_cons.1 hk
      | [], hargs => have := hargs.1; simp at this
      | [_], hargs => have := hargs.1; simp at this
      | _ :: _ :: _ :: _, hargs => have := hargs.1; simp at this
  case clear =>
    match l, hk with
    | [x], hk =>
      match l', hargs with
      | [x'], hargs =>
        refine upon_fine (hexec (Builtin.clear_ ats type) (fun as => rfl)) ?_ hn
        rw [harr']
        exact awClear_ok h K hargs.of_cons.1 hk
      | [], hargs => have := hargs.1; simp at this
      | _ :: _ :: _, hargs => have := hargs.1; simp at this


set_option maxHeartbeats 2000000 in
/-- Any operation. -/
theorem op_ok {o : Oper} {a : Act} {fr : Fr} {K : Kont} {next : Act → World → Prop} {Q : Exit → Act → World → Prop} (h : Rel E.G base φ σ w)
    (hE : ∀ x ∈ o.op.operands, VR φ (ev fr x) (a.eval x)) (hk : awOp E fr σ o.op K)
    (hn : ∀ v v' σ' φ' w', K v σ' → φ.le φ' → VR φ' v v' → Rel E.G base φ' σ' w' → next (a.put o.dst v') w') : o.wp E.P a w next Q := by
  obtain ⟨dst, op, type, pos, after, guard⟩ := o
  simp only at hE hk
  cases op
  case call c =>
    obtain ⟨callee, args, ats⟩ := c
    cases callee with
    | value f => exact op_value h hE hk hn
    | invoke r name => exact op_invoke h hE hk hn
    | builtin b => exact op_builtin h hE hk hn
  case alloc e => simp only [awOp, awPure] at hk; exact upon_fine (s := Instr.alloc e true (.tuple #[])) rfl (awAlloc_ok h K hk) hn
  case box e x => simp only [awOp, awPure] at hk; exact upon_fine (s := Instr.box e (a.eval x)) rfl (awBox_ok h K (hE x (by simp [Op.operands])) hk) hn
  case build t parts =>
    simp only [awOp, awPure] at hk
    obtain ⟨h1, h2, h3⟩ := parts_eq (φ := φ) (fr := fr) (a := a) parts hE
    have := awBuild_ok h (t := t) K h2 h3 hk
    rw [← h1] at this
    exact upon_fine (s := Instr.build t (parts.map fun (i, x) => (i, a.eval x))) rfl this hn
  case buildSlice t n parts =>
    simp only [awOp, awPure] at hk
    obtain ⟨h1, h2, h3⟩ := parts_eq (φ := φ) (fr := fr) (a := a) parts hE
    have := awBuildSlice_ok h (t := t) (len := n) K h2 h3 hk
    rw [← h1] at this
    exact upon_fine (s := Instr.buildSlice t n (parts.map fun (i, x) => (i, a.eval x))) rfl this hn
  case load t x => simp only [awOp, awPure] at hk; exact upon_fine (s := Instr.loadAt t (a.eval x)) rfl (awLoad_ok h K (hE x (by simp [Op.operands])) hk) hn
  case store t x y =>
    simp only [awOp, awPure] at hk
    obtain ⟨w', σ', hr, hk', hrel⟩ := awStore_ok h (fun s => K undef s) (hE x (by simp [Op.operands])) (hE y (by simp [Op.operands])) hk
    unfold Oper.wp
    have he : execOp a.eval ⟨dst, .store t x y, type, pos, after, guard⟩ = (do Instr.storeAt t (a.eval x) (a.eval y); pure .skip) := rfl
    rw [he, Sem.run_bind, hr]
    simp only [Result.andThen_ok, Sem.run_pure, Oper.upon_skip]
    exact hn undef undef σ' φ w' hk' φ.le_refl (vr_undef φ) hrel
  case makeSlice t l c => simp only [awOp, awPure] at hk; exact upon_fine (s := Instr.makeSlice t (a.eval l) (a.eval c)) rfl (awMakeSlice_ok h K (hE l (by simp [Op.operands])) (hE c (by simp [Op.operands])) hk) hn
  all_goals first
    | exact op_pure h hE rfl hk hn
    | exact hk.elim

end Go.Am
