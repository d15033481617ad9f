/-
  An abstract machine for the model's code, part 16: the evaluator: any operation, code, calls.
-/
import Derived.Test.YtpbnliicmccjhaaDoorAmF
namespace Go.Am
set_option linter.unusedVariables false
set_option linter.unusedSimpArgs false
variable {E : Env} {base : World} {φ : Phi} {w : World}
noncomputable section

/-! ### Any operation -/

def fOp (E : Env) (M : XMeth) (op : Op) : FCall → FF → FH → FK → R :=
  match op with
  | .alloc e => match E.T e with
    | some i => fun _ _ x k => fPush x i.zero fun n x => k (.pointer (some ⟨n, 0, none⟩)) x
    | none => fun _ _ _ _ => none
  | .box e y => fun _ f x k => fBox E e (ev (fget f) y) x k
  | .buildSlice t n parts => fun _ f x k => fBuildSlice E t n (parts.toList.map fun p => (p.1, ev (fget f) p.2)) x k
  | .store t a y => fun _ f x k => fStore E t (ev (fget f) a) (ev (fget f) y) x fun x => k undef x
  | .makeSlice t l c => fun _ f x k => fMakeSlice E t (ev (fget f) l) (ev (fget f) c) x k
  | .call ⟨.value g, args, _⟩ => fun call f x k => match ev (fget f) g with
    | .func (.func j) first cap => call j (first.toList ++ args.toList.map (ev (fget f)) ++ cap.toList) x k
    | _ => none
  | .call ⟨.invoke r name, args, _⟩ => fun call f x k => match ev (fget f) r with
    | .iface t v => match xmeth M t name with
      | some j => call j (v :: args.toList.map (ev (fget f))) x k
      | none => none
    | _ => none
  | .call ⟨.builtin .append, args, ats⟩ => fun _ f x k => match args.toList.map (ev (fget f)) with
    | [s, y] => fAppend E ats s y x fun v x => fV v fun v => k v x
    | _ => none
  | .call ⟨.builtin .copy, args, ats⟩ => fun _ f x k => match args.toList.map (ev (fget f)) with
    | [s, y] => fCopy E ats s y x k
    | _ => none
  | op => fun _ f x k => match xVal E op (fget f) x.st with
    | some v => fV v fun v => k v x
    | none => none

theorem fOp_ok {M : XMeth} (hM : ∀ p ∈ M, Meth E p.1 p.2.1 p.2.2) {call : FCall} (hcall : FCallOK E call) {op : Op} {f : FF} {x : FH} (hx : HOK x) {k : FK} {r : Value} (h : fOp E M op call f x k = some r) :
    ∃ v x', k v x' = some r ∧ FStep E (fget f) x op v x' := by
  have val : (match xVal E op (fget f) x.st with
    | some v => fV v fun v => k v x
    | none => none) = some r → ∃ v x', k v x' = some r ∧ FStep E (fget f) x op v x' := by
    intro h
    cases hv : xVal E op (fget f) x.st with
    | none => simp [hv] at h
    | some u =>
      simp only [hv, fV_eq] at h
      exact ⟨u, x, h, hx, x.st, x.st, Sub.refl _, Sub.refl _, fun K hk => xVal_ok hv K hk⟩
  unfold fOp at h
  split at h
  · rename_i e
    cases hi : E.T e with
    | none => simp [hi] at h
    | some i =>
      simp only [hi, fPush_eq] at h
      refine ⟨_, _, h, (hx.push _).1, x.st, _, Sub.refl _, (hx.push _).2, fun K hk => ?_⟩
      simp only [awOp, awPure, awAlloc, hi]
      exact ⟨hk⟩
  · obtain ⟨v, x', h1, h2, σ', h3, h4⟩ := fBox_ok hx h
    exact ⟨v, x', h1, h2, x.st, σ', Sub.refl _, h3, h4⟩
  · obtain ⟨v, x', h1, h2, σ', h3, h4⟩ := fBuildSlice_ok hx h
    exact ⟨v, x', h1, h2, x.st, σ', Sub.refl _, h3, h4⟩
  · obtain ⟨x', h1, h2, σ1, σ', h3, h4, h5⟩ := fStore_ok hx h
    exact ⟨undef, x', h1, h2, σ1, σ', h3, h4, fun K hk => h5 (fun s => K undef s) hk⟩
  · obtain ⟨v, x', h1, h2, σ', h3, h4⟩ := fMakeSlice_ok hx h
    exact ⟨v, x', h1, h2, x.st, σ', Sub.refl _, h3, h4⟩
  · rename_i g args ats
    split at h <;> try (cases h; done)
    rename_i j first cap hg
    obtain ⟨v, x', h1, h2, h3⟩ := hcall _ _ _ _ _ hx h
    refine ⟨v, x', h2, h1, x.st, x'.st, Sub.refl _, Sub.refl _, fun K hk => ?_⟩
    simp only [awOp, hg]
    exact h3 K hk
  · rename_i q name args ats
    split at h <;> try (cases h; done)
    rename_i t u hr
    cases hm : xmeth M t name with
    | none => simp [hm] at h
    | some j =>
      simp only [hm] at h
      obtain ⟨v, x', h1, h2, h3⟩ := hcall _ _ _ _ _ hx h
      refine ⟨v, x', h2, h1, x.st, x'.st, Sub.refl _, Sub.refl _, fun K hk => ?_⟩
      simp only [awOp, hr]
      exact ⟨j, xmeth_ok hM hm, h3 K hk⟩
  · rename_i args ats
    split at h <;> try (cases h; done)
    rename_i s y hargs
    simp only [fV_eq] at h
    obtain ⟨v, x', h1, h2, σ1, σ', h3, h4, h5⟩ := fAppend_ok hx h
    refine ⟨v, x', h1, h2, σ1, σ', h3, h4, fun K hk => ?_⟩
    simp only [awOp, hargs, awBuiltin]
    exact h5 K hk
  · rename_i args ats
    split at h <;> try (cases h; done)
    rename_i s y hargs
    obtain ⟨v, x', h1, h2, σ1, σ', h3, h4, h5⟩ := fCopy_ok hx h
    refine ⟨v, x', h1, h2, σ1, σ', h3, h4, fun K hk => ?_⟩
    simp only [awOp, hargs, awBuiltin]
    exact h5 K hk
  · exact val h

/-! ### Operations one behind the other -/

/-- The frame behind an operation. -/
theorem FR.fput {N : Nat} {f : FF} {a : Act} (h : FR N φ (fget f) a.tmps) {dst : Option Tmp} (hd : dstOK N dst = true) {v v' : Value} (hv : VR φ v v') : FR N φ (fget (Am.fput f dst v)) (a.put dst v').tmps :=
  (h.put hd hv).weak (fput_weak f dst v)

def fOps (E : Env) (M : XMeth) (ops : Array Oper) : List Oper → FCall → FF → FH → (FF → FH → R) → R
  | [] => fun _ f x k => k f x
  | o :: rest => match o.guard with
    | none => fun call f x k => fOp E M o.op call f x fun v x => fOps E M ops rest call (fput f o.dst v) x k
    | some _ => fun call f x k => match xWant ops (fget f) o with
      | some true => fOp E M o.op call f x fun v x => fOps E M ops rest call (fput f o.dst v) x k
      | some false => fOps E M ops rest call (fput f o.dst undef) x k
      | none => none

/-- Behind a piece of code: the run goes on from what stands for this frame and this heap. -/
abbrev Next := FF → FH → (Act → World → Prop) → Prop

theorem fOps_ok {M : XMeth} (hM : ∀ p ∈ M, Meth E p.1 p.2.1 p.2.2) {call : FCall} (hcall : FCallOK E call) {N : Nat} {ops : Array Oper} (hops : ops.toList.all (operOK N E.G) = true) :
    ∀ (l : List Oper), (∀ o ∈ l, operOK N E.G o = true) → ∀ (f : FF) (x : FH) (k : FF → FH → R) (r : Value), HOK x → fOps E M ops l call f x k = some r →
      ∃ f' x', k f' x' = some r ∧ HOK x' ∧ ∀ (base : World) (φ0 φ : Phi) (a : Act) (w : World) (K : Post), φ0.le φ → Rel E.G base φ x.st w → FR N φ (fget f) a.tmps → a.defers = [] → K .normal (fget f') x'.st → wpList E.P ops (post E N base φ0 K) l a w
  | [], _, f, x, k, r, hx, h => ⟨f, x, h, hx, fun base φ0 φ a w K hle hr hf hd hk => ⟨.normal, _, _, φ, trivial, hk, hle, hf, hd, hr⟩⟩
  | o :: rest, hl, f, x, k, r, hx, h => by
    have ho := hl o (by simp)
    have ih := fOps_ok hM hcall hops rest (fun x hx => hl x (by simp [hx]))
    have run : xWant ops (fget f) o = some true → (fOp E M o.op call f x fun v x => fOps E M ops rest call (fput f o.dst v) x k) = some r →
        ∃ f' x', k f' x' = some r ∧ HOK x' ∧ ∀ (base : World) (φ0 φ : Phi) (a : Act) (w : World) (K : Post), φ0.le φ → Rel E.G base φ x.st w → FR N φ (fget f) a.tmps → a.defers = [] → K .normal (fget f') x'.st → wpList E.P ops (post E N base φ0 K) (o :: rest) a w := by
      intro hw h
      obtain ⟨v, x1, h1, h2, σ1, σ', hs1, hs2, hstep⟩ := fOp_ok hM hcall hx h
      obtain ⟨f', x', h3, h4, h5⟩ := ih _ _ _ _ h2 h1
      refine ⟨f', x', h3, h4, fun base φ0 φ a w K hle hr hf hd hk => ?_⟩
      rcases awWant_ok hops hf (xWant_ok hw (A := True) (B := False) trivial) with ⟨hw', _⟩ | ⟨_, hh⟩
      · unfold wpList
        rw [if_pos hw']
        refine .inl (op_ok (hr.sub hs1) (operOK_ev ho (hr.sub hs1) hf) (hstep (fun u s => u = v ∧ s = σ') ⟨rfl, rfl⟩) fun u u' s φ' w' hus hle' hv hrel => ?_)
        obtain ⟨rfl, rfl⟩ := hus
        exact h5 base φ0 φ' _ w' K (Phi.le_trans hle hle') (hrel.sub hs2) ((hf.mono hle').fput (operOK_dst ho) hv) (by rw [Act.put_defers', hd]) hk
      · exact hh.elim
    have skip : xWant ops (fget f) o = some false → fOps E M ops rest call (fput f o.dst undef) x k = some r →
        ∃ f' x', k f' x' = some r ∧ HOK x' ∧ ∀ (base : World) (φ0 φ : Phi) (a : Act) (w : World) (K : Post), φ0.le φ → Rel E.G base φ x.st w → FR N φ (fget f) a.tmps → a.defers = [] → K .normal (fget f') x'.st → wpList E.P ops (post E N base φ0 K) (o :: rest) a w := by
      intro hw h
      obtain ⟨f', x', h3, h4, h5⟩ := ih _ _ _ _ hx h
      refine ⟨f', x', h3, h4, fun base φ0 φ a w K hle hr hf hd hk => ?_⟩
      rcases awWant_ok hops hf (xWant_ok hw (A := False) (B := True) trivial) with ⟨_, hh⟩ | ⟨hw', _⟩
      · exact hh.elim
      · unfold wpList
        rw [if_neg (by simp [hw'])]
        exact h5 base φ0 φ _ w K hle hr (hf.fput (operOK_dst ho) (vr_undef φ)) (by rw [Act.put_defers', hd]) hk
    simp only [fOps] at h
    cases hg : o.guard with
    | none =>
      simp only [hg] at h
      exact run (by simp [xWant, hg]) h
    | some jw =>
      simp only [hg] at h
      cases hw : xWant ops (fget f) o with
      | none => simp [hw] at h
      | some b => cases b <;> simp only [hw] at h <;> first | exact run hw h | exact skip hw h

/-- Operations that only read. -/
def fStill (E : Env) (ops : Array Oper) : List Oper → FF → FH → (FF → R) → R
  | [] => fun f _ k => k f
  | o :: rest => match o.guard with
    | none => fun f x k => match xStillOp E o.op (fget f) x.st with
      | some v => fV v fun v => fStill E ops rest (fput f o.dst v) x k
      | none => none
    | some _ => fun f x k => match xWant ops (fget f) o with
      | some true => match xStillOp E o.op (fget f) x.st with
        | some v => fV v fun v => fStill E ops rest (fput f o.dst v) x k
        | none => none
      | some false => fStill E ops rest (fput f o.dst undef) x k
      | none => none

theorem fStill_ok {N : Nat} {ops : Array Oper} (hops : ops.toList.all (operOK N E.G) = true) :
    ∀ (l : List Oper), (∀ o ∈ l, operOK N E.G o = true) → ∀ (f : FF) (x : FH) (k : FF → R) (r : Value), fStill E ops l f x k = some r →
      ∃ f', k f' = some r ∧ ∀ (base : World) (φ : Phi) (a : Act) (w : World) (Q' : Act → Prop), Rel E.G base φ x.st w → FR N φ (fget f) a.tmps → a.defers = [] → (∀ a, FR N φ (fget f') a.tmps → a.defers = [] → Q' a) → wpStill E.P ops w Q' l a
  | [], _, f, x, k, r, h => ⟨f, h, fun base φ a w Q' _ hf hd hq => hq a hf hd⟩
  | o :: rest, hl, f, x, k, r, h => by
    have ho := hl o (by simp)
    have ih := fStill_ok hops rest (fun x hx => hl x (by simp [hx]))
    have run : xWant ops (fget f) o = some true → (match xStillOp E o.op (fget f) x.st with
        | some v => fV v fun v => fStill E ops rest (fput f o.dst v) x k
        | none => none) = some r →
        ∃ f', k f' = some r ∧ ∀ (base : World) (φ : Phi) (a : Act) (w : World) (Q' : Act → Prop), Rel E.G base φ x.st w → FR N φ (fget f) a.tmps → a.defers = [] → (∀ a, FR N φ (fget f') a.tmps → a.defers = [] → Q' a) → wpStill E.P ops w Q' (o :: rest) a := by
      intro hw h
      cases hop : xStillOp E o.op (fget f) x.st with
      | none => simp [hop] at h
      | some v =>
        simp only [hop, fV_eq] at h
        obtain ⟨f', h1, h2⟩ := ih _ _ _ _ h
        refine ⟨f', h1, fun base φ a w Q' hr hf hd hq => ?_⟩
        rcases awWant_ok hops hf (xWant_ok hw (A := True) (B := False) trivial) with ⟨hw', _⟩ | ⟨_, hh⟩
        · unfold wpStill
          rw [if_pos hw']
          obtain ⟨u, u', rfl, hv, hrun⟩ := stillOp_ok hr (operOK_ev ho hr hf) (xStillOp_ok hop (fun u => u = v) rfl)
          unfold Oper.still
          rw [hrun, Oper.stillUpon_value]
          exact h2 base φ _ w Q' hr (hf.fput (operOK_dst ho) hv) (by rw [Act.put_defers', hd]) hq
        · exact hh.elim
    have skip : xWant ops (fget f) o = some false → fStill E ops rest (fput f o.dst undef) x k = some r →
        ∃ f', k f' = some r ∧ ∀ (base : World) (φ : Phi) (a : Act) (w : World) (Q' : Act → Prop), Rel E.G base φ x.st w → FR N φ (fget f) a.tmps → a.defers = [] → (∀ a, FR N φ (fget f') a.tmps → a.defers = [] → Q' a) → wpStill E.P ops w Q' (o :: rest) a := by
      intro hw h
      obtain ⟨f', h1, h2⟩ := ih _ _ _ _ h
      refine ⟨f', h1, fun base φ a w Q' hr hf hd hq => ?_⟩
      rcases awWant_ok hops hf (xWant_ok hw (A := False) (B := True) trivial) with ⟨_, hh⟩ | ⟨hw', _⟩
      · exact hh.elim
      · unfold wpStill
        rw [if_neg (by simp [hw'])]
        exact h2 base φ _ w Q' hr (hf.fput (operOK_dst ho) (vr_undef φ)) (by rw [Act.put_defers', hd]) hq
    simp only [fStill] at h
    cases hg : o.guard with
    | none =>
      simp only [hg] at h
      exact run (by simp [xWant, hg]) h
    | some jw =>
      simp only [hg] at h
      cases hw : xWant ops (fget f) o with
      | none => simp [hw] at h
      | some b => cases b <;> simp only [hw] at h <;> first | exact run hw h | exact skip hw h

/-! ### Plans -/

/-- What the loads at a plan's start read. -/
def fGather (E : Env) (ops : Array Oper) : Plan → FF → FH → Reads
  | .take i p => match ops[i]? with
    | none => fun _ _ => []
    | some o => fun f x => match xWant ops (fget f) o with
      | some true => match xStillOp E o.op (fget f) x.st with
        | none => []
        | some v => match o.op with
          | .load _ y => match ev (fget f) y with
            | .pointer (some ⟨b, off, none⟩) => (b, off, v) :: fGather E ops p (fput f o.dst v) x
            | _ => []
          | _ => fGather E ops p (fput f o.dst v) x
      | some false => fGather E ops p (fput f o.dst undef) x
      | none => []
  | _ => fun _ _ => []

def fPlan (E : Env) (M : XMeth) (ops : Array Oper) (R' : Reads) : Plan → FCall → FF → FH → (FF → FH → R) → R
  | .done => fun _ f x k => k f x
  | .take i p => match ops[i]? with
    | none => fun _ _ _ _ => none
    | some o => fun call f x k => match xWant ops (fget f) o with
      | some true => match xTake E R' o.op (fget f) x.st with
        | some v => fV v fun v => fPlan E M ops R' p call (fput f o.dst v) x k
        | none => none
      | some false => fPlan E M ops R' p call (fput f o.dst undef) x k
      | none => none
  | .only i p => match ops[i]? with
    | none => fun _ _ _ _ => none
    | some o => fun call f x k => match xWant ops (fget f) o with
      | some true => fOp E M o.op call f x fun v x => cond (xRin R' x.st) (fPlan E M ops R' p call (fput f o.dst v) x k) none
      | some false => fPlan E M ops R' p call (fput f o.dst undef) x k
      | none => none
  | .two .. => fun _ _ _ _ => none

theorem fPlan_ok {M : XMeth} (hM : ∀ p ∈ M, Meth E p.1 p.2.1 p.2.2) {call : FCall} (hcall : FCallOK E call) {N : Nat} {ops : Array Oper} {R' : Reads} (hops : ops.toList.all (operOK N E.G) = true) (hsel : Region.noSelect ops = true) (hR : ∀ x ∈ R', Det x.2.2) :
    ∀ (p : Plan) (f : FF) (x : FH) (k : FF → FH → R) (r : Value), HOK x → fPlan E M ops R' p call f x k = some r → ∃ f' x', k f' x' = some r ∧ HOK x' ∧
      ∀ (base : World) (φ0 : Phi) (K : Post) (n : Nat) (listed : Array Bool) (φ : Phi) (a : Act) (w : World), (∀ x ∈ R', ∃ m v0, φ0 x.1 = some m ∧ VR φ0 x.2.2 v0) → planB ops n listed p = true → φ0.le φ → Rel E.G base φ x.st w → R'.in x.st → FR N φ (fget f) a.tmps → a.defers = [] →
        K .normal (fget f') x'.st → wpAnyH E.P .any ops (post E N base φ0 K) (Cls E base φ0 R') n listed a w := by
  intro p
  induction p with
  | done =>
    intro f x k r hx h
    refine ⟨f, x, h, hx, fun base φ0 K n listed φ a w h0 hp hle hr hin hf hd hk => ?_⟩
    cases n <;> exact wpAnyH_done (by simpa [planB] using hp) ⟨.normal, _, _, φ, trivial, hk, hle, hf, hd, hr⟩ _
  | take i p ih =>
    intro f x k r hx h
    simp only [fPlan] at h
    cases hi : ops[i]? with
    | none => simp [hi] at h
    | some o =>
      simp only [hi] at h
      have ho : operOK N E.G o = true := List.all_eq_true.1 hops o (by have := Array.mem_of_getElem? hi; simpa using this)
      have hQ : ∀ (base : World) (φ0 : Phi) (K : Post) (v : Value) c a w, post E N base φ0 K (.panic c) (a.put o.dst v) w → post E N base φ0 K (.panic c) a w := fun base φ0 K v c a w ⟨x, fr, σ, φ', hx, _⟩ => by cases x <;> exact hx.elim
      cases hw : xWant ops (fget f) o with
      | none => simp [hw] at h
      | some b =>
        cases b with
        | true =>
          simp only [hw] at h
          cases ht : xTake E R' o.op (fget f) x.st with
          | none => simp [ht] at h
          | some v =>
            simp only [ht, fV_eq] at h
            obtain ⟨f', x', h1, h1', h2⟩ := ih _ _ _ _ hx h
            refine ⟨f', x', h1, h1', fun base φ0 K n listed φ a w h0 hp hle hr hin hf hd hk => ?_⟩
            cases n with
            | zero => simp [planB] at hp
            | succ n =>
              simp only [planB, Bool.and_eq_true] at hp
              obtain ⟨⟨⟨hp1, hp2⟩, hp3⟩, hp4⟩ := hp
              simp only [hi] at hp1
              rcases awWant_ok hops hf (xWant_ok hw (A := True) (B := False) trivial) with ⟨hw', _⟩ | ⟨_, hh⟩
              · obtain ⟨u, u', hku, hv, hrun⟩ := take_ok (φ0 := φ0) hR hle hr hin h0 (operOK_ev ho hr hf) (by simpa using hp1) (xTake_ok ht (fun u => u = v) rfl)
                subst hku
                exact wpAnyH_take hi hsel hp2 hp3 (hQ base φ0 K u') (.inl ⟨hw', hrun⟩) ⟨x.st, φ, hle, hr, hin⟩ (h2 base φ0 K n _ φ _ w h0 hp4 hle hr hin (hf.fput (operOK_dst ho) hv) (by rw [Act.put_defers', hd]) hk)
              · exact hh.elim
        | false =>
          simp only [hw] at h
          obtain ⟨f', x', h1, h1', h2⟩ := ih _ _ _ _ hx h
          refine ⟨f', x', h1, h1', fun base φ0 K n listed φ a w h0 hp hle hr hin hf hd hk => ?_⟩
          cases n with
          | zero => simp [planB] at hp
          | succ n =>
            simp only [planB, Bool.and_eq_true] at hp
            obtain ⟨⟨⟨hp1, hp2⟩, hp3⟩, hp4⟩ := hp
            rcases awWant_ok hops hf (xWant_ok hw (A := False) (B := True) trivial) with ⟨_, hh⟩ | ⟨hw', _⟩
            · exact hh.elim
            · exact wpAnyH_take hi hsel hp2 hp3 (hQ base φ0 K undef) (.inr ⟨hw', rfl⟩) ⟨x.st, φ, hle, hr, hin⟩ (h2 base φ0 K n _ φ _ w h0 hp4 hle hr hin (hf.fput (operOK_dst ho) (vr_undef φ)) (by rw [Act.put_defers', hd]) hk)
  | only i p ih =>
    intro f x k r hx h
    simp only [fPlan] at h
    cases hi : ops[i]? with
    | none => simp [hi] at h
    | some o =>
      simp only [hi] at h
      have ho : operOK N E.G o = true := List.all_eq_true.1 hops o (by have := Array.mem_of_getElem? hi; simpa using this)
      cases hw : xWant ops (fget f) o with
      | none => simp [hw] at h
      | some b =>
        cases b with
        | true =>
          simp only [hw] at h
          obtain ⟨v, x1, g1, g2, σ1, σ', hs1, hs2, hstep⟩ := fOp_ok hM hcall hx h
          cases hrin : xRin R' x1.st with
          | false => rw [hrin] at g1; cases g1
          | true =>
          rw [hrin] at g1
          simp only [cond_true] at g1
          obtain ⟨f', x', h1, h1', h2⟩ := ih _ _ _ _ g2 g1
          refine ⟨f', x', h1, h1', fun base φ0 K n listed φ a w h0 hp hle hr hin hf hd hk => ?_⟩
          cases n with
          | zero => simp [planB] at hp
          | succ n =>
            simp only [planB, Bool.and_eq_true, beq_iff_eq] at hp
            refine wpAnyH_all hp.1 (by simp) fun j hj => ?_
            have hji : j = i := by simpa using hj
            subst hji
            unfold wpOp
            simp only [hi]
            rcases awWant_ok hops hf (xWant_ok hw (A := True) (B := False) trivial) with ⟨hw', _⟩ | ⟨_, hh⟩
            · rw [if_pos hw']
              refine .inl (op_ok (hr.sub hs1) (operOK_ev ho (hr.sub hs1) hf) (hstep (fun u s => u = v ∧ s = σ') ⟨rfl, rfl⟩) fun u u' s φ' w' hus hle' hv hrel => ?_)
              obtain ⟨rfl, rfl⟩ := hus
              have hin2 := (xRin_ok hrin).1
              exact ⟨⟨x1.st, φ', Phi.le_trans hle hle', hrel.sub hs2, hin2⟩, h2 base φ0 K n _ φ' _ w' h0 hp.2 (Phi.le_trans hle hle') (hrel.sub hs2) hin2 ((hf.mono hle').fput (operOK_dst ho) hv) (by rw [Act.put_defers', hd]) hk⟩
            · exact hh.elim
        | false =>
          simp only [hw] at h
          obtain ⟨f', x', h1, h1', h2⟩ := ih _ _ _ _ hx h
          refine ⟨f', x', h1, h1', fun base φ0 K n listed φ a w h0 hp hle hr hin hf hd hk => ?_⟩
          cases n with
          | zero => simp [planB] at hp
          | succ n =>
            simp only [planB, Bool.and_eq_true, beq_iff_eq] at hp
            refine wpAnyH_all hp.1 (by simp) fun j hj => ?_
            have hji : j = i := by simpa using hj
            subst hji
            unfold wpOp
            simp only [hi]
            rcases awWant_ok hops hf (xWant_ok hw (A := False) (B := True) trivial) with ⟨_, hh⟩ | ⟨hw', _⟩
            · exact hh.elim
            · rw [if_neg (by simp [hw'])]
              exact ⟨⟨x.st, φ, hle, hr, hin⟩, h2 base φ0 K n _ φ _ w h0 hp.2 hle hr hin (hf.fput (operOK_dst ho) (vr_undef φ)) (by rw [Act.put_defers', hd]) hk⟩
  | two i j p q => intro f x k r hx h; cases h

/-! ### Regions -/

def fHeld (E : Env) (M : XMeth) (ops : Array Oper) (p : Plan) (call : FCall) (f : FF) (x : FH) (k : FF → FH → R) : R :=
  (fun R' => cond (xRin R' x.st) (fPlan E M ops R' p call f x k) none) (fGather E ops p f x)

def fRegion (E : Env) (M : XMeth) (ops : Array Oper) (draw : Bool) : FCall → FF → FH → (FF → FH → R) → R :=
  cond draw
    (cond (Region.lexB .any ops && allTakes ops.toList) (fun _ f x k => fStill E ops ops.toList f x fun f => k f x)
      (cond (Region.lexTailB .any ops.toList.toArray (leadTakes ops.toList))
        (fun call f x k => fStill E ops (ops.toList.take (leadTakes ops.toList)) f x fun f => fOps E M ops (ops.toList.drop (leadTakes ops.toList)) call f x k)
        (cond (planned ops) (fHeld E M ops (mkPlan ops ops.size (Array.replicate ops.size false))) fun _ _ _ _ => none)))
    (fOps E M ops ops.toList)

theorem fRegion_ok {M : XMeth} (hM : ∀ p ∈ M, Meth E p.1 p.2.1 p.2.2) {call : FCall} (hcall : FCallOK E call) {N id : Nat} {ops : Array Oper} {draw : Bool} (hc : codeOK N E.G (.region id ops draw) = true) {f : FF} {x : FH} (hx : HOK x) {k : FF → FH → R} {r : Value}
    (h : fRegion E M ops draw call f x k = some r) : ∃ f' x', k f' x' = some r ∧ HOK x' ∧ ∀ K : Post, K .normal (fget f') x'.st → SW E N (.region id ops draw) (fget f) x.st K := by
  simp only [codeOK] at hc
  have hall := List.all_eq_true.1 hc
  unfold fRegion at h
  cases draw with
  | false =>
    simp only [cond_false] at h
    obtain ⟨f', x', h1, h2, h3⟩ := fOps_ok hM hcall hc ops.toList hall f x k r hx h
    exact ⟨f', x', h1, h2, fun K hk base φ w a hr hf hd => wp_region_list (h3 base φ φ a w K φ.le_refl hr hf hd hk)⟩
  | true =>
    simp only [cond_true] at h
    cases hs : (Region.lexB .any ops && allTakes ops.toList) with
    | true =>
      rw [hs] at h
      simp only [Bool.and_eq_true] at hs
      simp only [cond_true] at h
      obtain ⟨f', h1, h2⟩ := fStill_ok hc ops.toList hall f x _ r h
      refine ⟨f', x, h1, hx, fun K hk base φ w a hr hf hd => ?_⟩
      exact wp_region_still E.mixed hs.1 (h2 base φ a _ _ (hr.drew _) hf hd fun a' hf' hd' => ⟨.normal, _, x.st, φ, trivial, hk, φ.le_refl, hf', hd', hr.drew _⟩)
    | false =>
      rw [hs] at h
      simp only [cond_false] at h
      cases ht : Region.lexTailB .any ops.toList.toArray (leadTakes ops.toList) with
      | true =>
        rw [ht] at h
        simp only [cond_true] at h
        obtain ⟨f1, h1, h2⟩ := fStill_ok hc (ops.toList.take (leadTakes ops.toList)) (fun o ho => hall o (List.mem_of_mem_take ho)) f x _ r h
        obtain ⟨f', x', h3, h4, h5⟩ := fOps_ok hM hcall hc (ops.toList.drop (leadTakes ops.toList)) (fun o ho => hall o (List.mem_of_mem_drop ho)) f1 x k r hx h1
        refine ⟨f', x', h3, h4, fun K hk base φ w a hr hf hd => ?_⟩
        exact wp_region_still_tail (l := ops.toList) (leadTakes ops.toList) E.mixed ht (h2 base φ a _ _ (hr.drew _) hf hd fun a' hf' hd' => h5 base φ φ a' _ K φ.le_refl (hr.drew _) hf' hd' hk)
      | false =>
        rw [ht] at h
        simp only [cond_false] at h
        cases hp : planned ops with
        | false => rw [hp] at h; cases h
        | true =>
        rw [hp] at h
        simp only [cond_true] at h
        simp only [planned, Bool.and_eq_true] at hp
        unfold fHeld at h
        generalize fGather E ops (mkPlan ops ops.size (Array.replicate ops.size false)) f x = R' at h
        simp only at h
        cases hR : xRin R' x.st with
        | false => rw [hR] at h; cases h
        | true =>
        rw [hR] at h
        simp only [cond_true] at h
        obtain ⟨hin, hdet⟩ := xRin_ok hR
        obtain ⟨f', x', h1, h2, h3⟩ := fPlan_ok hM hcall hc hp.1 hdet _ f x k r hx h
        refine ⟨f', x', h1, h2, fun K hk base φ w a hr hf hd => ?_⟩
        have h0 : ∀ x ∈ R', ∃ m v0, φ x.1 = some m ∧ VR φ x.2.2 v0 := fun x hx => by
          obtain ⟨m, v', hm, _, hv⟩ := hr.ld (hin x hx)
          exact ⟨m, v', hm, hv⟩
        exact wp_region_held E.mixed (h3 base φ K ops.size _ φ a _ h0 hp.2 φ.le_refl (hr.drew _) hin hf hd hk)

/-! ### Code -/

abbrev KC := Ex → FF → FH → R
def fLoop (g : FF → FH → KC → R) (m : Nat) : FF → FH → KC → R :=
  Nat.rec (fun _ _ _ => none) (fun _ ih f x k => g f x fun e f x => match e with
    | .normal => ih f x k
    | e => k e f x) m

def fCode (E : Env) (M : XMeth) (L : Nat) : Code → FCall → FF → FH → KC → R
  | .skip => fun _ f x k => k .normal f x
  | .label _ => fun _ f x k => k .normal f x
  | .region _ ops draw => fun call f x k => fRegion E M ops draw call f x fun f x => k .normal f x
  | .seq a b => fun call f x k => fCode E M L a call f x fun e f x => match e with
    | .normal => fCode E M L b call f x k
    | e => k e f x
  | .cond c a b => fun call f x k => match ev (fget f) c with
    | .bool t => cond t (fCode E M L a call f x k) (fCode E M L b call f x k)
    | _ => none
  | .block id c => fun call f x k => fCode E M L c call f x fun e f x => match e with
    | .exit i => k (cond (Nat.beq i id) .normal (.exit i)) f x
    | e => k e f x
  | .loop c => fun call f x k => fLoop (fCode E M L c call) L f x k
  | .exit id => fun _ f x k => k (.exit id) f x
  | .scope c => fun call f x k => fCode E M L c call f x fun e f x => match e with
    | .goto _ => none
    | e => k e f x
  | .goto l => fun _ f x k => k (.goto l) f x
  | .ret => fun _ f x k => k .ret f x
  | _ => fun _ _ _ _ => none

def FCodeOK (E : Env) (N : Nat) (c : Code) (g : FF → FH → KC → R) : Prop :=
  ∀ f x k r, HOK x → g f x k = some r → ∃ e f' x', k e f' x' = some r ∧ HOK x' ∧ ∀ K : Post, K e (fget f') x'.st → SW E N c (fget f) x.st K

theorem fLoop_ok {N : Nat} {c : Code} {g : FF → FH → KC → R} (hb : FCodeOK E N c g) : ∀ (m : Nat) (f : FF) (x : FH) (k : KC) (r : Value), HOK x → fLoop g m f x k = some r →
    ∃ e f' x', k e f' x' = some r ∧ HOK x' ∧ ∀ K : Post, K e (fget f') x'.st → ∀ (base : World) (φ0 φ : Phi) (a : Act) (w : World), φ0.le φ → Rel E.G base φ x.st w → FR N φ (fget f) a.tmps → a.defers = [] → Code.rounds E.P c (post E N base φ0 K) m a w
  | 0, _, _, _, _, _, h => by cases h
  | m + 1, f, x, k, r, hx, h => by
    have h' : g f x (fun e f x => match e with
      | .normal => fLoop g m f x k
      | e => k e f x) = some r := h
    obtain ⟨e1, f1, x1, h1, h2, h3⟩ := hb _ _ _ _ hx h'
    have stop : e1 ≠ .normal → k e1 f1 x1 = some r → ∃ e f' x', k e f' x' = some r ∧ HOK x' ∧ ∀ K : Post, K e (fget f') x'.st → ∀ (base : World) (φ0 φ : Phi) (a : Act) (w : World), φ0.le φ → Rel E.G base φ x.st w → FR N φ (fget f) a.tmps → a.defers = [] → Code.rounds E.P c (post E N base φ0 K) (m + 1) a w := by
      intro hne hk1
      refine ⟨e1, f1, x1, hk1, h2, fun K hk base φ0 φ a w hle hr hf hd => ?_⟩
      rw [rounds_succ]
      refine wp_mono (h3 (thenK (fun _ _ => False) K) (by cases e1 <;> first | exact absurd rfl hne | exact hk) base φ w a hr hf hd) fun _ _ _ hp => ?_
      exact post_then (hp.le hle) fun _ _ _ hh => hh.elim
    cases e1 with
    | normal =>
      obtain ⟨e, f', x', h4, h5, h6⟩ := fLoop_ok hb m f1 x1 k r h2 h1
      refine ⟨e, f', x', h4, h5, fun K hk base φ0 φ a w hle hr hf hd => ?_⟩
      rw [rounds_succ]
      refine wp_mono (h3 (thenK (fun fr s => fr = fget f1 ∧ s = x1.st) K) ⟨rfl, rfl⟩ base φ w a hr hf hd) fun _ _ _ hp => ?_
      exact post_then (hp.le hle) fun fr s φ' hh hle' hfr hd' hr' => by
        obtain ⟨rfl, rfl⟩ := hh
        exact h6 K hk base φ0 φ' _ _ hle' hr' hfr hd'
    | exit i => exact stop (by simp) h1
    | goto i => exact stop (by simp) h1
    | ret => exact stop (by simp) h1

theorem fCode_ok {M : XMeth} (hM : ∀ p ∈ M, Meth E p.1 p.2.1 p.2.2) {call : FCall} (hcall : FCallOK E call) {L N : Nat} : ∀ c : Code, codeOK N E.G c = true → FCodeOK E N c (fCode E M L c call)
  | .skip, _ => fun f x k r hx h => ⟨_, _, _, h, hx, fun K hk => aw_sound .skip _ _ _ rfl hk⟩
  | .label l, _ => fun f x k r hx h => ⟨_, _, _, h, hx, fun K hk => aw_sound (.label l) _ _ _ rfl hk⟩
  | .exit i, _ => fun f x k r hx h => ⟨_, _, _, h, hx, fun K hk => aw_sound (.exit i) _ _ _ rfl hk⟩
  | .goto l, _ => fun f x k r hx h => ⟨_, _, _, h, hx, fun K hk => aw_sound (.goto l) _ _ _ rfl hk⟩
  | .ret, _ => fun f x k r hx h => ⟨_, _, _, h, hx, fun K hk => aw_sound .ret _ _ _ rfl hk⟩
  | .region id ops draw, hc => fun f x k r hx h => by
    obtain ⟨f', x', h1, h2, h3⟩ := fRegion_ok hM hcall hc hx h
    exact ⟨.normal, f', x', h1, h2, h3⟩
  | .seq a b, hc => fun f x k r hx h => by
    simp only [codeOK, Bool.and_eq_true] at hc
    obtain ⟨e1, f1, x1, h1, h2, h3⟩ := fCode_ok hM hcall a hc.1 _ _ _ _ hx h
    have stop : e1 ≠ .normal → k e1 f1 x1 = some r → ∃ e f' x', k e f' x' = some r ∧ HOK x' ∧ ∀ K : Post, K e (fget f') x'.st → SW E N (.seq a b) (fget f) x.st K := by
      intro hne hk1
      exact ⟨e1, f1, x1, hk1, h2, fun K hk => SW_seq (h3 (fun e fr s => e ≠ .normal ∧ K e fr s) ⟨hne, hk⟩) (fun fr s hh => absurd rfl hh.1) fun e fr s _ hh => hh.2⟩
    cases e1 with
    | normal =>
      obtain ⟨e, f', x', h4, h5, h6⟩ := fCode_ok hM hcall b hc.2 _ _ _ _ h2 h1
      refine ⟨e, f', x', h4, h5, fun K hk => SW_seq (h3 (fun e fr s => e = .normal ∧ fr = fget f1 ∧ s = x1.st) ⟨rfl, rfl, rfl⟩) (fun fr s hh => ?_) fun e fr s hne hh => absurd hh.1 hne⟩
      obtain ⟨_, rfl, rfl⟩ := hh
      exact h6 K hk
    | exit i => exact stop (by simp) h1
    | goto i => exact stop (by simp) h1
    | ret => exact stop (by simp) h1
  | .cond c a b, hc => fun f x k r hx h => by
    simp only [codeOK, Bool.and_eq_true] at hc
    simp only [fCode] at h
    split at h <;> try (cases h; done)
    rename_i t hv
    have hcond : ∀ (K : Post) (base : World) (φ : Phi) (w : World) (ac : Act), Rel E.G base φ x.st w → FR N φ (fget f) ac.tmps → ac.eval c = .bool t := fun K base φ w ac hr hf => by
      have hvr := hf.ev hr hc.1.1
      rw [hv] at hvr
      exact hvr.to_bool
    cases t with
    | true =>
      obtain ⟨e, f', x', h1, h2, h3⟩ := fCode_ok hM hcall a hc.1.2 _ _ _ _ hx h
      exact ⟨e, f', x', h1, h2, fun K hk base φ w ac hr hf hd => wp_cond (hcond K base φ w ac hr hf) (h3 K hk base φ w ac hr hf hd)⟩
    | false =>
      obtain ⟨e, f', x', h1, h2, h3⟩ := fCode_ok hM hcall b hc.2 _ _ _ _ hx h
      exact ⟨e, f', x', h1, h2, fun K hk base φ w ac hr hf hd => wp_cond (hcond K base φ w ac hr hf) (h3 K hk base φ w ac hr hf hd)⟩
  | .block id c, hc => fun f x k r hx h => by
    simp only [codeOK] at hc
    obtain ⟨e1, f1, x1, h1, h2, h3⟩ := fCode_ok hM hcall c hc _ _ _ _ hx h
    cases e1 with
    | exit i =>
      refine ⟨_, f1, x1, h1, h2, fun K hk => SW_block (h3 _ ?_)⟩
      simp only [blockK]
      cases hb : Nat.beq i id <;> rw [hb] at hk <;> exact hk
    | normal => exact ⟨_, f1, x1, h1, h2, fun K hk => SW_block (h3 _ hk)⟩
    | goto i => exact ⟨_, f1, x1, h1, h2, fun K hk => SW_block (h3 _ hk)⟩
    | ret => exact ⟨_, f1, x1, h1, h2, fun K hk => SW_block (h3 _ hk)⟩
  | .loop c, hc => fun f x k r hx h => by
    simp only [codeOK] at hc
    obtain ⟨e, f', x', h1, h2, h3⟩ := fLoop_ok (fCode_ok hM hcall c hc) L f x k r hx h
    exact ⟨e, f', x', h1, h2, fun K hk base φ w a hr hf hd => wp_loop_rounds L (h3 K hk base φ φ a w φ.le_refl hr hf hd)⟩
  | .scope c, hc => fun f x k r hx h => by
    simp only [codeOK] at hc
    obtain ⟨e1, f1, x1, h1, h2, h3⟩ := fCode_ok hM hcall c hc _ _ _ _ hx h
    cases e1 with
    | goto i => cases h1
    | exit i => exact ⟨_, f1, x1, h1, h2, fun K hk => SW_scope (h3 (noGotoK K) hk)⟩
    | normal => exact ⟨_, f1, x1, h1, h2, fun K hk => SW_scope (h3 (noGotoK K) hk)⟩
    | ret => exact ⟨_, f1, x1, h1, h2, fun K hk => SW_scope (h3 (noGotoK K) hk)⟩
  | .rangeFunc _ _ _ _, _ => fun f x k r _ h => by cases h
  | .refuse _, _ => fun f x k r _ h => by cases h

/-! ### Calls -/

def fFn (E : Env) (fn : Func) (c : Code) : Bool := !(fn.name == "runtime.NumGoroutine") && (codeOK fn.ntmps E.G c && fn.results.toList.all (resOK fn.ntmps))
def fTree (n : Nat) : FF := cond (Nat.ble n 30) (T.full 5) (cond (Nat.ble n 126) (T.full 7) (T.full 10))
theorem fTree_weak (l : List Value) (n : Nat) : ∀ i, fget (fargs 1 l (fTree n)) i = junk ∨ fget (fargs 1 l (fTree n)) i = frOf l i := by
  unfold fTree
  cases Nat.ble n 30
  · cases Nat.ble n 126
    · exact fargs_weak l 10
    · exact fargs_weak l 7
  · exact fargs_weak l 5

def fCallStep (E : Env) (M : XMeth) (L : Nat) (call : FCall) (j : Nat) : List Value → FH → FK → R :=
  match E.P.funcs[j]? with
  | none => fun _ _ _ => none
  | some fn => match fn.body with
    | none => fun _ _ _ => none
    | some c => cond (fFn E fn c)
        (fun args x k => cond (Nat.ble args.length fn.ntmps)
          (fCode E M L c call (fargs 1 args (fTree fn.ntmps)) x fun e f x => match e with
            | .exit _ => none
            | .goto _ => none
            | _ => match xRet E (fget f) x.st fn.results.toList [] with
              | some v => k v x
              | none => none) none) fun _ _ _ => none

theorem fCallStep_ok {M : XMeth} (hM : ∀ p ∈ M, Meth E p.1 p.2.1 p.2.2) {L : Nat} {call : FCall} (hcall : FCallOK E call) : FCallOK E (fCallStep E M L call) := by
  intro j args x k r hx h
  unfold fCallStep at h
  cases hf : E.P.funcs[j]? with
  | none => simp [hf] at h
  | some fn =>
  simp only [hf] at h
  cases hb : fn.body with
  | none => simp [hb] at h
  | some c =>
  simp only [hb] at h
  cases hg : fFn E fn c with
  | false => rw [hg] at h; cases h
  | true =>
  rw [hg] at h
  simp only [cond_true] at h
  cases hlen : Nat.ble args.length fn.ntmps with
  | false => rw [hlen] at h; cases h
  | true =>
  rw [hlen] at h
  simp only [cond_true] at h
  unfold fFn at hg
  have hg1 := ((Bool.and_eq_true _ _).mp hg).1
  have hg2 := ((Bool.and_eq_true _ _).mp hg).2
  have hcode : codeOK fn.ntmps E.G c = true := ((Bool.and_eq_true _ _).mp hg2).1
  obtain ⟨e1, f1, x1, h1, h2, h3⟩ := fCode_ok hM hcall c hcode _ _ _ _ hx h
  have fin : (match xRet E (fget f1) x1.st fn.results.toList [] with
      | some v => k v x1
      | none => none) = some r → (∀ K : Kont, awRet E (fget f1) x1.st fn.results.toList [] (fun v => K v x1.st) → retK E fn.results.toList K e1 (fget f1) x1.st) →
      ∃ v x', HOK x' ∧ k v x' = some r ∧ ∀ K : Kont, K v x'.st → AC E j args x.st K := by
    intro h hret
    cases hr : xRet E (fget f1) x1.st fn.results.toList [] with
    | none => simp [hr] at h
    | some u =>
      simp only [hr] at h
      refine ⟨u, x1, h2, h, fun K hk => ac_of_sw hf hb (by simpa using hg1) rfl (Nat.le_of_ble_eq_true hlen) hg2 ?_⟩
      have := h3 (retK E fn.results.toList K) (hret K (xRet_ok _ _ _ hr _ hk))
      exact fun base φ w a hr hf hd => this base φ w a hr (hf.weak (fTree_weak args fn.ntmps)) hd
  cases e1 with
  | exit i => cases h1
  | goto i => cases h1
  | normal => exact fin h1 fun K hk => hk
  | ret => exact fin h1 fun K hk => hk

def fCall (E : Env) (M : XMeth) (L d : Nat) : FCall := Nat.rec (fun _ _ _ _ => none) (fun _ ih => fCallStep E M L ih) d
theorem fCall_ok {M : XMeth} (hM : ∀ p ∈ M, Meth E p.1 p.2.1 p.2.2) (L : Nat) : ∀ d, FCallOK E (fCall E M L d)
  | 0 => fun _ _ _ _ _ _ h => by cases h
  | d + 1 => fCallStep_ok hM (fCall_ok hM L d)

/-- The known variables alone. -/
def fG (G : Globs) : FH := ⟨(G.map (·.1 + 1)).foldl max 0, G.foldr (fun g t => t.set (Nat.add g.1 1) (some ⟨g.2, g.1, false⟩)) (T.full 14), T.full 14⟩
theorem fG_get : ∀ (G : Globs) (b : Nat) (k : Blk), (G.map (·.1)).Nodup → (G.foldr (fun g t => t.set (Nat.add g.1 1) (some ⟨g.2, g.1, false⟩)) (T.full 14) : T Blk).get (Nat.add b 1) = some k →
    (G.find? fun x => Nat.beq x.1 b).map (fun x => (⟨x.2, x.1, false⟩ : Blk)) = some k
  | [], b, k, _, h => by rw [List.foldr_nil, T.get_full] at h; cases h
  | g :: l, b, k, hnd, h => by
    simp only [List.map_cons, List.nodup_cons] at hnd
    simp only [List.foldr_cons] at h
    rw [List.find?_cons]
    rcases T.get_set h with ⟨h1, h2⟩ | ⟨h1, h2⟩
    · have hb : b = g.1 := by have : b + 1 = g.1 + 1 := h1; omega
      subst hb
      have : Nat.beq g.1 g.1 = true := by simp
      rw [this]
      exact h2
    · have hb : Nat.beq g.1 b = false := by
        rw [beq_eq]
        simp only [decide_eq_false_iff_not]
        intro e
        exact h1 (by rw [e])
      rw [hb]
      exact fG_get l b k hnd.2 h2
theorem fG_ok {G : Globs} (hnd : (G.map (·.1)).Nodup) : HOK (fG G) ∧ Sub (fG G).st (gst G) := by
  have hs : Sub (fG G).st (gst G) := ⟨rfl, fun b k h => fG_get G b k hnd h⟩
  refine ⟨fun b k h => ?_, hs⟩
  have := hs.2 b k h
  simp only [gst] at this
  cases hf : G.find? fun x => Nat.beq x.1 b with
  | none => simp [hf] at this
  | some g =>
    simp only [hf, Option.map_some, Option.some.injEq] at this
    obtain ⟨hg, rfl⟩ := find_glob hf
    subst this
    have hlt : g.1 < (fG G).n := le_foldl_max _ 0 (g.1 + 1) (.inl (List.mem_map.2 ⟨g, hg, rfl⟩))
    exact ⟨hlt, hlt, .inl rfl⟩

/-- What the evaluator comes to from the known variables alone, every run comes to. -/
def fRun (E : Env) (M : XMeth) (L d j : Nat) (args : List Value) : R := fCall E M L d j args (fG E.G) fun v _ => some v
theorem fRun_ok {M : XMeth} (hM : ∀ p ∈ M, Meth E p.1 p.2.1 p.2.2) (hnd : (E.G.map (·.1)).Nodup) {L d j : Nat} {args : List Value} {v : Value} (h : fRun E M L d j args = some v) :
    AC E j args (gst E.G) fun u _ => u = v := by
  obtain ⟨h1, h2⟩ := fG_ok hnd
  obtain ⟨u, x', _, h4, h5⟩ := fCall_ok hM L d j args (fG E.G) _ v h1 h
  cases h4
  exact (h5 (fun u _ => u = v) rfl).sub h2

end
end Go.Am
