/-
  An abstract machine for the model's code, part 10: regions whose order is open; code; functions.
-/
import Derived.Test.YtpbnliicmccjhaaDoorAm9
import Derived.StillTail
namespace Go.Am
set_option linter.unusedVariables false
set_option linter.unusedSimpArgs false
variable {E : Env} {base : World} {φ : Phi} {σ : St} {w : World}

/-- A value that stands for one value alone. -/
inductive Det : Value → Prop
  | bool (b : Bool) : Det (.bool b)
  | int (k : IntKind) (n : Int) : Det (.int k n)
  | nilp : Det (.pointer none)
  | ptr (b o : Nat) : Det (.pointer (some ⟨b, o, none⟩))
  | nils : Det (.slice none 0 0)
  | slice (b o e n c : Nat) (he : 0 < e) (h : 0 < n ∨ o = 0) : Det (.slice (some ⟨b, o, some e⟩) n c)
  | nilf : Det .nilFunc
  | nili : Det .nilIface
  | func {f : Fn} {x y : Array Value} (hx : ∀ (i : Nat) (v : Value), x[i]? = some v → Det v) (hy : ∀ (i : Nat) (v : Value), y[i]? = some v → Det v) : Det (.func f x y)
  | iface {t : TypeId} {v : Value} (h : Det v) : Det (.iface t v)

theorem arr_det {φ ψ : Phi} {x x1 x2 : Array Value} (ih : ∀ (i : Nat) (v : Value), x[i]? = some v → ∀ {a b : Value}, VR φ v a → VR ψ v b → a = b) (h1 : x.size = x1.size)
    (h3 : ∀ (i : Nat) (v v' : Value), x[i]? = some v → x1[i]? = some v' → VR φ v v') (g1 : x.size = x2.size) (g3 : ∀ (i : Nat) (v v' : Value), x[i]? = some v → x2[i]? = some v' → VR ψ v v') : x1 = x2 := by
  refine Array.ext (by omega) fun i p q => ?_
  have hx : i < x.size := by omega
  exact ih i x[i] (by simp [hx]) (h3 i x[i] x1[i] (by simp [hx]) (by simp [p])) (g3 i x[i] x2[i] (by simp [hx]) (by simp [q]))

theorem Det.one {v : Value} (h : Det v) {φ ψ : Phi} {a b : Value} (ha : VR φ v a) (hle : φ.le ψ) (hb : VR ψ v b) : a = b := by
  induction h generalizing a b with
  | bool b => rw [ha.to_bool, hb.to_bool]
  | int k n => rw [ha.to_int, hb.to_int]
  | nilp => cases ha; cases hb; rfl
  | ptr b o =>
    obtain ⟨m, h1, rfl⟩ := ha.to_ptr
    obtain ⟨m', h2, rfl⟩ := hb.to_ptr
    have := hle _ _ h1
    rw [h2] at this; cases this; rfl
  | nils => cases ha; cases hb; rfl
  | slice b o e n c he h =>
    cases ha with
    | slice hφ hn hlo hex hun hroom hbk hsp hao =>
      rename_i m a1 c1
      cases hb with
      | slice hφ' hn' hlo' hex' hun' hroom' hbk' hsp' hao' =>
        rename_i m' a2 c2
        have := hle _ _ hφ
        rw [hφ'] at this; cases this
        have hc : c1 = c2 := by
          rcases Nat.mod_two_eq_zero_or_one c with h0 | h0
          · have e1 := hun h0
            have e2 := hun' h0
            have : c1 * e = c2 * e := by omega
            exact Nat.eq_of_mul_eq_mul_right he this
          · rw [hex h0, hex' h0]
        subst hc
        have hoff : a1.off = a2.off := by omega
        obtain ⟨p1, q1, r1⟩ := a1
        obtain ⟨p2, q2, r2⟩ := a2
        simp at hbk hbk' hsp hsp' hoff
        subst hbk; subst hbk'; subst hsp; subst hsp'; subst hoff
        rfl
  | nilf => cases ha; cases hb; rfl
  | nili => cases ha; cases hb; rfl
  | func hx hy ihx ihy =>
    cases ha with
    | func h1 h2 h3 h4 =>
      cases hb with
      | func g1 g2 g3 g4 =>
        rw [arr_det (fun i v hv a b => ihx i v hv) h1 h3 g1 g3, arr_det (fun i v hv a b => ihy i v hv) h2 h4 g2 g4]
  | iface h ih =>
    cases ha with
    | iface ha => cases hb with
      | iface hb => rw [ih ha hb]

/-! ### Regions whose order is open -/

/-- An order in which the operations of a region may be looked at: 'take': this one, which only reads, may be taken first; 'only': no other may come now; 'two': these two may. -/
inductive Plan where
  | done
  | take (i : Nat) (p : Plan)
  | only (i : Nat) (p : Plan)
  | two (i j : Nat) (p q : Plan)

def takes : Op → Bool
  | .load .. => true
  | o => pureKind o

def planB (ops : Array Oper) : Nat → Array Bool → Plan → Bool
  | _, listed, .done => (Region.ready .any ops listed).isEmpty
  | n + 1, listed, .take i p => ((ops[i]?).map fun o => takes o.op).getD false && Region.free .any ops listed i && (Region.ready .any ops listed).contains i && planB ops n (listed.setIfInBounds i true) p
  | n + 1, listed, .only i p => (Region.ready .any ops listed == [i]) && planB ops n (listed.setIfInBounds i true) p
  | n + 1, listed, .two i j p q => (Region.ready .any ops listed == [i, j]) && planB ops n (listed.setIfInBounds i true) p && planB ops n (listed.setIfInBounds j true) q
  | 0, _, _ => false

abbrev Reads := List (Nat × Nat × Value)
def Reads.in (R : Reads) (σ : St) : Prop := ∀ x ∈ R, σ.ld x.1 x.2.1 = some x.2.2

def awTake (E : Env) (R : Reads) (fr : Fr) (σ : St) (op : Op) (K : Value → Prop) : Prop :=
  match op with
  | .load t x => match E.T t, ev fr x with
    | some i, .pointer (some ⟨b, o, none⟩) => i.agg = false ∧ ∃ v, (b, o, v) ∈ R ∧ K v
    | _, _ => False
  | op => awOp E fr σ op fun v _ => K v

def awPlan (E : Env) (ops : Array Oper) (R : Reads) : Plan → Fr → St → (Fr → St → Prop) → Prop
  | .done, fr, σ, Q => Q fr σ
  | .take i p, fr, σ, Q => match ops[i]? with
    | none => False
    | some o => awWant ops fr o (awTake E R fr σ o.op fun v => awPlan E ops R p (put fr o.dst v) σ Q) (awPlan E ops R p (put fr o.dst undef) σ Q)
  | .only i p, fr, σ, Q => match ops[i]? with
    | none => False
    | some o => awWant ops fr o (awOp E fr σ o.op fun v σ' => R.in σ' ∧ awPlan E ops R p (put fr o.dst v) σ' Q) (awPlan E ops R p (put fr o.dst undef) σ Q)
  | .two i j p q, fr, σ, Q => (match ops[i]? with
    | none => False
    | some o => awWant ops fr o (awOp E fr σ o.op fun v σ' => R.in σ' ∧ awPlan E ops R p (put fr o.dst v) σ' Q) (awPlan E ops R p (put fr o.dst undef) σ Q)) ∧
    (match ops[j]? with
    | none => False
    | some o => awWant ops fr o (awOp E fr σ o.op fun v σ' => R.in σ' ∧ awPlan E ops R q (put fr o.dst v) σ' Q) (awPlan E ops R q (put fr o.dst undef) σ Q))

/-- The class of worlds in which the region's loads read what they read at its start. -/
def Cls (E : Env) (base : World) (φ : Phi) (R : Reads) (w : World) : Prop := ∃ σ φ', φ.le φ' ∧ Rel E.G base φ' σ w ∧ R.in σ

theorem take_ok {R : Reads} (hR : ∀ x ∈ R, Det x.2.2) {φ0 : Phi} {fr : Fr} {a : Act} (hle : φ0.le φ) (h : Rel E.G base φ σ w) (hin : R.in σ)
    (h0 : ∀ x ∈ R, ∃ m v0, φ0 x.1 = some m ∧ VR φ0 x.2.2 v0) {o : Oper} (hE : ∀ x ∈ o.op.operands, VR φ (ev fr x) (a.eval x)) (ht : takes o.op = true) {K : Value → Prop} (hk : awTake E R fr σ o.op K) :
    ∃ v v', K v ∧ VR φ v v' ∧ ∀ w', Cls E base φ0 R w' → (execOp a.eval o).run E.P w' = .ok (.value v') w' := by
  obtain ⟨dst, op, type, pos, after, guard⟩ := o
  simp only at hE ht hk
  have pureCase : pureKind op = true → (awOp E fr σ op fun v _ => K v) →
      ∃ v v', K v ∧ VR φ v v' ∧ ∀ w', Cls E base φ0 R w' → (execOp a.eval ⟨dst, op, type, pos, after, guard⟩).run E.P w' = .ok (.value v') w' := by
    intro hp hk
    obtain ⟨s, he, v', v, hr, hv, hkv⟩ := awPure_finep (o := ⟨dst, op, type, pos, after, guard⟩) h hE hp hk
    exact ⟨v, v', hkv, hv, fun w' _ => by rw [he, Sem.run_bind, hr]; rfl⟩
  cases op
  case load t x =>
    simp only [awTake] at hk
    have hx := hE x (by simp [Op.operands])
    split at hk
    · rename_i i b off hti hev
      obtain ⟨hagg, v, hmem, hk⟩ := hk
      rw [hev] at hx
      obtain ⟨m, hm, hax⟩ := hx.to_ptr
      have hld := hin _ hmem
      obtain ⟨m', v', hm', hc, hv⟩ := h.ld hld
      simp only at hm'
      rw [hm] at hm'; cases hm'
      refine ⟨v, v', hk, hv, fun w' ⟨σ', φ', hle', hrel', hin'⟩ => ?_⟩
      obtain ⟨m0, v0, hm0, hv0⟩ := h0 _ hmem
      simp only at hm0 hv0
      have e1 := hle _ _ hm0
      rw [hm] at e1; cases e1
      obtain ⟨m2, v2, hm2, hc2, hv2⟩ := hrel'.ld (hin' _ hmem)
      simp only at hm2 hc2 hv2
      have e2 := hle' _ _ hm0
      rw [hm2] at e2; cases e2
      have hag := run_agg hti w'
      rw [hagg] at hag
      have hvv : v' = v2 := by
        have hd : Det v := hR _ hmem
        exact (hd.one hv0 hle hv).symm.trans (hd.one hv0 hle' hv2)
      subst hvv
      show (do let v ← Instr.loadAt t (a.eval x); pure (.value v) : Sem Next).run E.P w' = _
      rw [hax]
      simp [Instr.loadAt, Instr.sureAddr, loadVar, hag, hc2]
    · exact hk.elim
  all_goals first
    | exact pureCase ht hk
    | (simp [takes, pureKind] at ht; done)

theorem plan_ok {N : Nat} {ops : Array Oper} {R : Reads} {φ0 : Phi} (hops : ops.toList.all (operOK N E.G) = true) (hsel : Region.noSelect ops = true) (hR : ∀ x ∈ R, Det x.2.2)
    (h0 : ∀ x ∈ R, ∃ m v0, φ0 x.1 = some m ∧ VR φ0 x.2.2 v0) (K : Post) :
    ∀ (p : Plan) (n : Nat) (listed : Array Bool) (fr : Fr) (σ : St) (φ : Phi) (a : Act) (w : World), planB ops n listed p = true → φ0.le φ → Rel E.G base φ σ w → R.in σ → FR N φ fr a.tmps → a.defers = [] →
      awPlan E ops R p fr σ (fun fr σ => K .normal fr σ) → wpAnyH E.P .any ops (post E N base φ0 K) (Cls E base φ0 R) n listed a w := by
  have onlyCase : ∀ (i : Nat) (p : Plan) (n : Nat) (listed : Array Bool),
      (∀ (fr : Fr) (σ : St) (φ : Phi) (a : Act) (w : World), φ0.le φ → Rel E.G base φ σ w → R.in σ → FR N φ fr a.tmps → a.defers = [] →
        awPlan E ops R p fr σ (fun fr σ => K .normal fr σ) → wpAnyH E.P .any ops (post E N base φ0 K) (Cls E base φ0 R) n (listed.setIfInBounds i true) a w) →
      ∀ (fr : Fr) (σ : St) (φ : Phi) (a : Act) (w : World), φ0.le φ → Rel E.G base φ σ w → R.in σ → FR N φ fr a.tmps → a.defers = [] →
        (match ops[i]? with
        | none => False
        | some o => awWant ops fr o (awOp E fr σ o.op fun v σ' => R.in σ' ∧ awPlan E ops R p (put fr o.dst v) σ' (fun fr σ => K .normal fr σ)) (awPlan E ops R p (put fr o.dst undef) σ (fun fr σ => K .normal fr σ))) →
        wpOp E.P ops (post E N base φ0 K) i (fun a' w' => Cls E base φ0 R w' ∧ wpAnyH E.P .any ops (post E N base φ0 K) (Cls E base φ0 R) n (listed.setIfInBounds i true) a' w') a w := by
    intro i p n listed ih fr σ φ a w hle hr hin hf hd hk
    cases hi : ops[i]? with
    | none => simp [hi] at hk
    | some o =>
      simp only [hi] at hk
      have ho : operOK N E.G o = true := List.all_eq_true.1 hops o (by have := Array.mem_of_getElem? hi; simpa using this)
      unfold wpOp
      simp only [hi]
      rcases awWant_ok hops hf hk with ⟨hw, hk⟩ | ⟨hw, hk⟩
      · rw [if_pos hw]
        refine .inl (op_ok hr (operOK_ev ho hr hf) hk fun v v' σ' φ' w' hk' hle' hv hrel => ?_)
        have hle2 := Phi.le_trans hle hle'
        exact ⟨⟨σ', φ', hle2, hrel, hk'.1⟩, ih _ _ φ' _ w' hle2 hrel hk'.1 ((hf.mono hle').put (operOK_dst ho) hv) (by rw [Act.put_defers', hd]) hk'.2⟩
      · rw [if_neg (by simp [hw])]
        exact ⟨⟨σ, φ, hle, hr, hin⟩, ih _ _ φ _ w hle hr hin (hf.put (operOK_dst ho) (vr_undef φ)) (by rw [Act.put_defers', hd]) hk⟩
  intro p
  induction p with
  | done =>
    intro n listed fr σ φ a w hp hle hr hin hf hd hk
    cases n <;> exact wpAnyH_done (by simpa [planB] using hp) ⟨.normal, fr, σ, φ, trivial, hk, hle, hf, hd, hr⟩ _
  | take i p ih =>
    intro n listed fr σ φ a w hp hle hr hin hf hd hk
    cases n with
    | zero => simp [planB] at hp
    | succ n =>
      simp only [planB, Bool.and_eq_true] at hp
      obtain ⟨⟨⟨h1, h2⟩, h3⟩, h4⟩ := hp
      simp only [awPlan] at hk
      cases hi : ops[i]? with
      | none => simp [hi] at hk
      | some o =>
        simp only [hi] at hk h1
        have ho : operOK N E.G o = true := List.all_eq_true.1 hops o (by have := Array.mem_of_getElem? hi; simpa using this)
        have hQ : ∀ (v : Value) c a w, post E N base φ0 K (.panic c) (a.put o.dst v) w → post E N base φ0 K (.panic c) a w := fun v c a w ⟨x, fr, σ, φ', hx, _⟩ => by cases x <;> exact hx.elim
        rcases awWant_ok hops hf hk with ⟨hw, hk⟩ | ⟨hw, hk⟩
        · obtain ⟨v, v', hkv, hv, hrun⟩ := take_ok (φ0 := φ0) hR hle hr hin h0 (operOK_ev ho hr hf) (by simpa using h1) hk
          exact wpAnyH_take hi hsel h2 h3 (hQ v') (.inl ⟨hw, hrun⟩) ⟨σ, φ, hle, hr, hin⟩
            (ih n _ _ σ φ _ w h4 hle hr hin (hf.put (operOK_dst ho) hv) (by rw [Act.put_defers', hd]) hkv)
        · exact wpAnyH_take hi hsel h2 h3 (hQ undef) (.inr ⟨hw, rfl⟩) ⟨σ, φ, hle, hr, hin⟩
            (ih n _ _ σ φ _ w h4 hle hr hin (hf.put (operOK_dst ho) (vr_undef φ)) (by rw [Act.put_defers', hd]) hk)
  | only i p ih =>
    intro n listed fr σ φ a w hp hle hr hin hf hd hk
    cases n with
    | zero => simp [planB] at hp
    | succ n =>
      simp only [planB, Bool.and_eq_true, beq_iff_eq] at hp
      obtain ⟨h1, h2⟩ := hp
      refine wpAnyH_all h1 (by simp) fun j hj => ?_
      have hji : j = i := by simpa using hj
      subst hji
      exact onlyCase j p n listed (fun fr σ φ a w hle hr hin hf hd hk => ih n _ fr σ φ a w h2 hle hr hin hf hd hk) fr σ φ a w hle hr hin hf hd hk
  | two i j p q ihp ihq =>
    intro n listed fr σ φ a w hp hle hr hin hf hd hk
    cases n with
    | zero => simp [planB] at hp
    | succ n =>
      simp only [planB, Bool.and_eq_true, beq_iff_eq] at hp
      obtain ⟨⟨h1, h2⟩, h3⟩ := hp
      refine wpAnyH_all h1 (by simp) fun x hx => ?_
      have hx' : x = i ∨ x = j := by simpa using hx
      rcases hx' with rfl | rfl
      · exact onlyCase x p n listed (fun fr σ φ a w hle hr hin hf hd hk => ihp n _ fr σ φ a w h2 hle hr hin hf hd hk) fr σ φ a w hle hr hin hf hd hk.1
      · exact onlyCase x q n listed (fun fr σ φ a w hle hr hin hf hd hk => ihq n _ fr σ φ a w h3 hle hr hin hf hd hk) fr σ φ a w hle hr hin hf hd hk.2

/-- An operation that only reads. -/
def awStillOp (E : Env) (fr : Fr) (σ : St) (op : Op) (K : Value → Prop) : Prop :=
  match op with
  | .load t x => awLoad E σ t (ev fr x) K
  | op => pureKind op = true ∧ awOp E fr σ op fun v _ => K v

def awStill (E : Env) (ops : Array Oper) (σ : St) : List Oper → Fr → (Fr → Prop) → Prop
  | [], fr, Q => Q fr
  | o :: rest, fr, Q => awWant ops fr o (awStillOp E fr σ o.op fun v => awStill E ops σ rest (put fr o.dst v) Q) (awStill E ops σ rest (put fr o.dst undef) Q)

theorem stillOp_ok {o : Oper} {a : Act} {fr : Fr} (h : Rel E.G base φ σ w) (hE : ∀ x ∈ o.op.operands, VR φ (ev fr x) (a.eval x)) {K : Value → Prop} (hk : awStillOp E fr σ o.op K) :
    ∃ v v', K v ∧ VR φ v v' ∧ (execOp a.eval o).run E.P w = .ok (.value v') w := by
  obtain ⟨dst, op, type, pos, after, guard⟩ := o
  simp only at hE hk
  have pureCase : (pureKind op = true ∧ awOp E fr σ op fun v _ => K v) →
      ∃ v v', K v ∧ VR φ v v' ∧ (execOp a.eval ⟨dst, op, type, pos, after, guard⟩).run E.P w = .ok (.value v') w := by
    intro hk
    obtain ⟨hp, hk⟩ := hk
    obtain ⟨s, he, v', v, hr, hv, hkv⟩ := awPure_finep (o := ⟨dst, op, type, pos, after, guard⟩) h hE hp hk
    exact ⟨v, v', hkv, hv, by rw [he, Sem.run_bind, hr]; rfl⟩
  cases op
  case load t x =>
    obtain ⟨v', v, hr, hv, hk⟩ := awLoad_run h _ (hE x (by simp [Op.operands])) hk
    refine ⟨v, v', hk, hv, ?_⟩
    show (do let v ← Instr.loadAt t (a.eval x); pure (.value v) : Sem Next).run E.P w = _
    rw [Sem.run_bind, hr]; rfl
  all_goals exact pureCase hk

theorem awStill_ok {N : Nat} {ops : Array Oper} (hops : ops.toList.all (operOK N E.G) = true) (Q' : Act → Prop) : ∀ (l : List Oper), (∀ o ∈ l, operOK N E.G o = true) → ∀ (fr : Fr) (a : Act),
    Rel E.G base φ σ w → FR N φ fr a.tmps → a.defers = [] → ∀ (Q : Fr → Prop), (∀ fr a, Q fr → FR N φ fr a.tmps → a.defers = [] → Q' a) → awStill E ops σ l fr Q → wpStill E.P ops w Q' l a
  | [], _, fr, a, hr, hf, hd, Q, hQ, hk => hQ fr a hk hf hd
  | o :: rest, hl, fr, a, hr, hf, hd, Q, hQ, hk => by
    have ho := hl o (by simp)
    have ih := awStill_ok hops Q' rest (fun x hx => hl x (by simp [hx]))
    simp only [awStill] at hk
    unfold wpStill
    rcases awWant_ok hops hf hk with ⟨hw, hk⟩ | ⟨hw, hk⟩
    · rw [if_pos hw]
      obtain ⟨v, v', hkv, hv, hrun⟩ := stillOp_ok hr (operOK_ev ho hr hf) hk
      unfold Oper.still
      rw [hrun, Oper.stillUpon_value]
      exact ih _ _ hr (hf.put (operOK_dst ho) hv) (by rw [Act.put_defers', hd]) Q hQ hkv
    · rw [if_neg (by simp [hw])]
      exact ih _ _ hr (hf.put (operOK_dst ho) (vr_undef φ)) (by rw [Act.put_defers', hd]) Q hQ hk

/-- How a region whose order is open is walked: by a plan, and what its loads read; or: its first operations only read, and the others come one behind the other; or: all only read. -/
inductive How where
  | plan (p : Plan) (R : Reads)
  | tail (n : Nat)
  | still

def awDraw (E : Env) (ops : Array Oper) (fr : Fr) (σ : St) (Q : Fr → St → Prop) : How → Prop
  | .plan p R => (Region.noSelect ops && planB ops ops.size (Array.replicate ops.size false) p) = true ∧ ((∀ x ∈ R, Det x.2.2) ∧ R.in σ) ∧ awPlan E ops R p fr σ Q
  | .tail n => Region.lexTailB .any ops.toList.toArray n = true ∧ awStill E ops σ (ops.toList.take n) fr fun fr => awOps E ops (ops.toList.drop n) fr σ Q
  | .still => Region.lexB .any ops = true ∧ awStill E ops σ ops.toList fr fun fr => Q fr σ

/-! ### Code -/

def thenK (f : Fr → St → Prop) (K : Post) : Post
  | .normal, fr, σ => f fr σ
  | e, fr, σ => K e fr σ
def blockK (id : Nat) (K : Post) : Post
  | .exit i, fr, σ => bif Nat.beq i id then K .normal fr σ else K (.exit i) fr σ
  | e, fr, σ => K e fr σ
/-- Less is known of the frame and of the heap. -/
def Sub (σ0 σ : St) : Prop := σ0.n = σ.n ∧ ∀ b k, σ0.get b = some k → σ.get b = some k
def Weak (fr0 : Fr) (σ0 : St) (fr : Fr) (σ : St) : Prop := (∀ i, fr0 i = junk ∨ fr0 i = fr i) ∧ Sub σ0 σ
theorem Sub.refl (σ : St) : Sub σ σ := ⟨rfl, fun _ _ h => h⟩
theorem Rel.sub {σ0 : St} (h : Rel E.G base φ σ w) (hs : Sub σ0 σ) : Rel E.G base φ σ0 w :=
  ⟨h.kept, fun b k hk => by rw [hs.1]; exact h.wf b k (hs.2 b k hk), fun b hb => h.fresh b (by rw [← hs.1]; exact hb), h.inh, fun b k hk => h.blk b k (hs.2 b k hk),
    fun b1 b2 k1 k2 m1 m2 a1 a2 => h.sep b1 b2 k1 k2 m1 m2 (hs.2 _ _ a1) (hs.2 _ _ a2), h.glob⟩
/-- Less is known, or less may be written. -/
def Le (σ0 σ : St) : Prop := σ0.n = σ.n ∧ ∀ b k0, σ0.get b = some k0 → ∃ k, σ.get b = some k ∧ k.cells = k0.cells ∧ k.fam = k0.fam ∧ (k0.wr = true → k.wr = true)
theorem Sub.le {σ0 σ : St} (h : Sub σ0 σ) : Le σ0 σ := ⟨h.1, fun b k hk => ⟨k, h.2 b k hk, rfl, rfl, id⟩⟩
theorem Le.refl (σ : St) : Le σ σ := (Sub.refl σ).le
theorem Le.trans {a b c : St} (h : Le a b) (g : Le b c) : Le a c := ⟨h.1.trans g.1, fun x k hx => by
  obtain ⟨k1, h1, h2, h3, h4⟩ := h.2 x k hx
  obtain ⟨k2, g1, g2, g3, g4⟩ := g.2 x k1 h1
  exact ⟨k2, g1, g2.trans h2, g3.trans h3, fun e => g4 (h4 e)⟩⟩
theorem Rel.le {σ0 : St} (h : Rel E.G base φ σ w) (hs : Le σ0 σ) : Rel E.G base φ σ0 w := by
  refine ⟨h.kept, fun b k hk => ?_, fun b hb => h.fresh b (by rw [← hs.1]; exact hb), h.inh, fun b k hk => ?_, fun b1 b2 k1 k2 m1 m2 a1 a2 p1 p2 hne => ?_, h.glob⟩
  · obtain ⟨j, h1, _, h3, _⟩ := hs.2 b k hk
    rw [hs.1, ← h3]; exact h.wf b j h1
  · obtain ⟨j, h1, h2, _, h4⟩ := hs.2 b k hk
    obtain ⟨m, hm, cur, e, fz, c1, c2, c3, c4, c5⟩ := h.blk b j h1
    rw [h2] at c3 c5
    exact ⟨m, hm, cur, e, fz, c1, c2, c3, fun e => c4 (h4 e), c5⟩
  · obtain ⟨j1, g1, _, f1, _⟩ := hs.2 b1 k1 a1
    obtain ⟨j2, g2, _, f2, _⟩ := hs.2 b2 k2 a2
    rw [← f1, ← f2]
    exact h.sep b1 b2 j1 j2 m1 m2 g1 g2 p1 p2 hne
theorem AC.le {f : FuncId} {args : List Value} {σ0 : St} {Q : Kont} (hs : Le σ0 σ) (h : AC E f args σ0 Q) : AC E f args σ Q :=
  ⟨h.1, fun base φ w args' hr hv => h.2 base φ w args' (hr.le hs) hv⟩
theorem AC.mono_le {f : FuncId} {args : List Value} {Q Q' : Kont} (h : AC E f args σ Q) (hq : ∀ v s, Q v s → ∃ s0, Le s0 s ∧ Q' v s0) : AC E f args σ Q' :=
  ⟨h.1, fun base φ w args' hr hv => (h.2 base φ w args' hr hv).mono fun _ _ ⟨v, v', s, ψ, he, q, a, b, c⟩ => let ⟨s0, hs, q'⟩ := hq v s q; ⟨v, v', s0, ψ, he, q', a, b, c.le hs⟩⟩
theorem FR.weak {N : Nat} {fr0 fr : Fr} {t : Array Value} (h : FR N φ fr t) (hw : ∀ i, fr0 i = junk ∨ fr0 i = fr i) : FR N φ fr0 t :=
  ⟨h.1, fun i hi => by rcases hw i with e | e <;> rw [e] <;> first | exact .junk _ | exact h.2 i hi⟩
theorem AC.sub {f : FuncId} {args : List Value} {σ0 : St} {Q : Kont} (hs : Sub σ0 σ) (h : AC E f args σ0 Q) : AC E f args σ Q :=
  ⟨h.1, fun base φ w args' hr hv => h.2 base φ w args' (hr.sub hs) hv⟩
theorem AC.mono_sub {f : FuncId} {args : List Value} {Q Q' : Kont} (h : AC E f args σ Q) (hq : ∀ v s, Q v s → ∃ s0, Sub s0 s ∧ Q' v s0) : AC E f args σ Q' :=
  ⟨h.1, fun base φ w args' hr hv => (h.2 base φ w args' hr hv).mono fun _ _ ⟨v, v', s, ψ, he, q, a, b, c⟩ => let ⟨s0, hs, q'⟩ := hq v s q; ⟨v, v', s0, ψ, he, q', a, b, c.sub hs⟩⟩

/-- A frame given by a list of slots. -/
def frL : List (Nat × Value) → Fr
  | [], _ => junk
  | (k, v) :: l, i => bif Nat.beq i k then v else frL l i
def Agr : List (Nat × Value) → Fr → Prop
  | [], _ => True
  | (k, v) :: l, fr => fr k = v ∧ Agr l fr
theorem Agr.weak : ∀ (l : List (Nat × Value)) (fr : Fr), Agr l fr → ∀ i, frL l i = junk ∨ frL l i = fr i
  | [], _, _, _ => .inl rfl
  | (k, v) :: l, fr, h, i => by
    simp only [frL]
    cases hb : Nat.beq i k with
    | true =>
      rw [Nat.eq_of_beq_eq_true hb]
      exact .inr h.1.symm
    | false => exact Agr.weak l fr h.2 i

def noGotoK (K : Post) : Post
  | .goto _, _, _ => False
  | e, fr, σ => K e fr σ

/-- What holds of code if 'K' is to hold at its end. -/
def aw (E : Env) : Code → Fr → St → Post → Prop
  | .skip, fr, σ, K => K .normal fr σ
  | .label _, fr, σ, K => K .normal fr σ
  | .region _ ops draw, fr, σ, K =>
    match draw with
    | false => awOps E ops ops.toList fr σ fun fr σ => K .normal fr σ
    | true => ∃ h : How, awDraw E ops fr σ (fun fr σ => K .normal fr σ) h
  | .seq a b, fr, σ, K => aw E a fr σ (thenK (fun fr σ => aw E b fr σ K) K)
  | .cond c a b, fr, σ, K => If (ev fr c) (aw E a fr σ K) (aw E b fr σ K)
  | .block id c, fr, σ, K => aw E c fr σ (blockK id K)
  | .loop c, fr, σ, K => ∃ (X : Type) (F : X → List (Nat × Value)) (S : X → St → Prop) (μ : X → Nat), (∃ x0 s0, Agr (F x0) fr ∧ Le s0 σ ∧ S x0 s0) ∧
      ∀ x s, S x s → aw E c (frL (F x)) s (thenK (fun fr' s' => ∃ x' s0, Agr (F x') fr' ∧ Le s0 s' ∧ S x' s0 ∧ μ x' < μ x) K)
  | .exit id, fr, σ, K => K (.exit id) fr σ
  | .scope c, fr, σ, K => aw E c fr σ (noGotoK K) ∨ ∀ N, SW E N (.scope c) fr σ K
  | .goto l, fr, σ, K => K (.goto l) fr σ
  | .ret, fr, σ, K => K .ret fr σ
  | _, _, _, _ => False

theorem SW.mono {N : Nat} {c : Code} {fr : Fr} {σ : St} {K K' : Post} (h : SW E N c fr σ K) (hk : ∀ e fr σ, K e fr σ → K' e fr σ) : SW E N c fr σ K' :=
  fun base φ w a hr hf hd => wp_mono (h base φ w a hr hf hd) fun _ _ _ ⟨x, fr, σ, φ', h1, h2, rest⟩ => ⟨x, fr, σ, φ', h1, hk x fr σ h2, rest⟩

theorem exm_normal {e : Exit} {x : Ex} (h : exm e x) : (e = .normal ↔ x = .normal) := by
  cases e <;> cases x <;> simp_all [exm]

/-- What holds behind a piece of code, handed on to what stands behind it. -/
theorem post_then {N : Nat} {f : Fr → St → Prop} {K : Post} {next : Act → World → Prop} {e : Exit} {a : Act} {w : World} (h : post E N base φ (thenK f K) e a w)
    (hn : ∀ fr σ φ', f fr σ → φ.le φ' → FR N φ' fr a.tmps → a.defers = [] → Rel E.G base φ' σ w → next a w) : Exit.then next (post E N base φ K) e a w := by
  obtain ⟨x, fr, σ, φ', h1, h2, h3, h4, h5, h6⟩ := h
  cases e with
  | normal =>
    cases x <;> simp only [exm] at h1
    exact hn fr σ φ' h2 h3 h4 h5 h6
  | exit i => cases x <;> simp only [exm] at h1; exact ⟨.exit _, fr, σ, φ', h1, h2, h3, h4, h5, h6⟩
  | goto i => cases x <;> simp only [exm] at h1; exact ⟨.goto _, fr, σ, φ', h1, h2, h3, h4, h5, h6⟩
  | ret => cases x <;> simp only [exm] at h1; exact ⟨.ret, fr, σ, φ', trivial, h2, h3, h4, h5, h6⟩
  | panic c => cases x <;> exact h1.elim
  | outgrown => cases x <;> exact h1.elim

theorem post_other {N : Nat} {K' K : Post} {e : Exit} {a : Act} {w : World} (h : post E N base φ K' e a w) (he : e ≠ .normal) (hk : ∀ x fr s, x ≠ .normal → K' x fr s → K x fr s) : post E N base φ K e a w := by
  obtain ⟨x, fr, σ, φ', h1, h2, h3, h4, h5, h6⟩ := h
  refine ⟨x, fr, σ, φ', h1, hk x fr σ (fun hx => ?_) h2, h3, h4, h5, h6⟩
  subst hx
  cases e <;> first | exact absurd rfl he | exact h1.elim

theorem SW_seq {N : Nat} {a b : Code} {fr : Fr} {σ : St} {M K : Post} (ha : SW E N a fr σ M) (hn : ∀ fr s, M .normal fr s → SW E N b fr s K) (ho : ∀ x fr s, x ≠ .normal → M x fr s → K x fr s) : SW E N (.seq a b) fr σ K :=
  fun base φ w ac hr hf hd => by
    refine wp_seq (wp_mono (ha base φ w ac hr hf hd) fun e a' w' hp => ?_)
    refine post_then (f := fun fr s => SW E N b fr s K) (?_ : post E N base φ (thenK (fun fr s => SW E N b fr s K) K) e a' w') fun fr' σ' φ' hf' hle hfr hd' hr' => wp_mono (hf' base φ' w' a' hr' hfr hd') fun _ _ _ hq => hq.le hle
    obtain ⟨x, fr, σ, φ', h1, h2, h3, h4, h5, h6⟩ := hp
    refine ⟨x, fr, σ, φ', h1, ?_, h3, h4, h5, h6⟩
    cases x with
    | normal => exact hn fr σ h2
    | exit i => exact ho (.exit i) fr σ (by simp) h2
    | goto i => exact ho (.goto i) fr σ (by simp) h2
    | ret => exact ho .ret fr σ (by simp) h2

theorem SW_loop {N : Nat} {X : Type} {c : Code} {K : Post} (F : X → List (Nat × Value)) (S : X → St → Prop) (μ : X → Nat)
    (hround : ∀ x s, S x s → SW E N c (frL (F x)) s (thenK (fun fr' s' => ∃ x' s0, Agr (F x') fr' ∧ Le s0 s' ∧ S x' s0 ∧ μ x' < μ x) K))
    {x0 : X} {s0 : St} {fr : Fr} {σ : St} (ha0 : Agr (F x0) fr) (hs0 : Le s0 σ) (hS0 : S x0 s0) : SW E N (.loop c) fr σ K := fun base φ w a hr hf hd => by
  have key : ∀ (k : Nat) (x : X) (s : St) (φ' : Phi) (a : Act) (w : World), μ x < k → S x s → φ.le φ' → Rel E.G base φ' s w → FR N φ' (frL (F x)) a.tmps → a.defers = [] →
      Code.rounds E.P c (post E N base φ K) k a w := by
    intro k
    induction k with
    | zero => intro x _ _ _ _ hlt; exact absurd hlt (Nat.not_lt_zero _)
    | succ k ih =>
      intro x s φ' a w hlt hS hle hr hf hd
      rw [rounds_succ]
      refine wp_mono (hround x s hS base φ' w a hr hf hd) fun e a' w' hp => ?_
      exact post_then (hp.le hle) fun fr' σ' φ'' ⟨x', s1, h1, h2, h3, h4⟩ hle' hfr hd' hr' => ih x' s1 φ'' a' w' (by omega) h3 hle' (hr'.le h2) (hfr.weak (Agr.weak _ _ h1)) hd'
  exact wp_loop_rounds (μ x0 + 1) (key (μ x0 + 1) x0 s0 φ a w (Nat.lt_succ_self _) hS0 φ.le_refl (hr.le hs0) (hf.weak (Agr.weak _ _ ha0)) hd)

theorem aw_sound {N : Nat} : ∀ (c : Code) (fr : Fr) (σ : St) (K : Post), codeOK N E.G c = true → aw E c fr σ K → SW E N c fr σ K
  | .skip, fr, σ, K, _, h => fun base φ w a hr hf hd => wp_skip ⟨.normal, fr, σ, φ, trivial, h, φ.le_refl, hf, hd, hr⟩
  | .label _, fr, σ, K, _, h => fun base φ w a hr hf hd => wp_label ⟨.normal, fr, σ, φ, trivial, h, φ.le_refl, hf, hd, hr⟩
  | .exit id, fr, σ, K, _, h => fun base φ w a hr hf hd => wp_exit ⟨.exit id, fr, σ, φ, rfl, h, φ.le_refl, hf, hd, hr⟩
  | .goto l, fr, σ, K, _, h => fun base φ w a hr hf hd => wp_goto ⟨.goto l, fr, σ, φ, rfl, h, φ.le_refl, hf, hd, hr⟩
  | .ret, fr, σ, K, _, h => fun base φ w a hr hf hd => wp_ret ⟨.ret, fr, σ, φ, trivial, h, φ.le_refl, hf, hd, hr⟩
  | .region id ops false, fr, σ, K, hc, h => fun base φ w a hr hf hd => by
    simp only [codeOK] at hc
    exact wp_region_list (awOps_ok hc K ops.toList (List.all_eq_true.1 hc) fr σ φ φ a w φ.le_refl hr hf hd h)
  | .region id ops true, fr, σ, K, hc, h => fun base φ w a hr hf hd => by
    simp only [codeOK] at hc
    obtain ⟨how, hk⟩ := h
    cases how with
    | still =>
      obtain ⟨hB, hk⟩ := hk
      refine wp_region_still E.mixed hB (awStill_ok hc _ ops.toList (List.all_eq_true.1 hc) fr a (hr.drew _) hf hd _ (fun fr' a' hq hf' hd' => ?_) hk)
      exact ⟨.normal, fr', σ, φ, trivial, hq, φ.le_refl, hf', hd', hr.drew _⟩
    | tail n =>
      obtain ⟨hB, hk⟩ := hk
      have hops : ops.toList.toArray = ops := rfl
      have hall := List.all_eq_true.1 hc
      refine wp_region_still_tail (l := ops.toList) n E.mixed hB (awStill_ok hc _ (ops.toList.take n) (fun o ho => hall o (List.mem_of_mem_take ho)) fr a (hr.drew _) hf hd _ (fun fr' a' hq hf' hd' => ?_) hk)
      exact awOps_ok hc K (ops.toList.drop n) (fun o ho => hall o (List.mem_of_mem_drop ho)) fr' σ φ φ a' _ φ.le_refl (hr.drew _) hf' hd' hq
    | plan p R =>
    obtain ⟨hp, ⟨hR, hin⟩, hk⟩ := hk
    simp only [Bool.and_eq_true] at hp
    have h0 : ∀ x ∈ R, ∃ m v0, φ x.1 = some m ∧ VR φ x.2.2 v0 := fun x hx => by
      obtain ⟨m, v', hm, _, hv⟩ := hr.ld (hin x hx)
      exact ⟨m, v', hm, hv⟩
    exact wp_region_held E.mixed (plan_ok hc hp.1 hR h0 K p ops.size _ fr σ φ a _ hp.2 φ.le_refl (hr.drew _) hin hf hd hk)
  | .seq a b, fr, σ, K, hc, h => fun base φ w ac hr hf hd => by
    simp only [codeOK, Bool.and_eq_true] at hc
    refine wp_seq (wp_mono (aw_sound a fr σ _ hc.1 h base φ w ac hr hf hd) fun e a' w' hp => ?_)
    exact post_then hp fun fr' σ' φ' hf' hle hfr hd' hr' => wp_mono (aw_sound b fr' σ' K hc.2 hf' base φ' w' a' hr' hfr hd') fun _ _ _ hq => hq.le hle
  | .cond c x y, fr, σ, K, hc, h => fun base φ w a hr hf hd => by
    simp only [codeOK, Bool.and_eq_true] at hc
    obtain ⟨t, ht, h⟩ := h.out
    have hv := hf.ev hr hc.1.1
    rw [ht] at hv
    refine wp_cond hv.to_bool ?_
    cases t with
    | true => exact aw_sound x fr σ K hc.1.2 h base φ w a hr hf hd
    | false => exact aw_sound y fr σ K hc.2 h base φ w a hr hf hd
  | .block id c, fr, σ, K, hc, h => fun base φ w a hr hf hd => by
    simp only [codeOK] at hc
    refine wp_block (wp_mono (aw_sound c fr σ _ hc h base φ w a hr hf hd) fun e a' w' hp => ?_)
    obtain ⟨x, fr', σ', φ', h1, h2, h3, h4, h5, h6⟩ := hp
    cases e with
    | exit i =>
      cases x <;> simp only [exm] at h1
      subst h1
      simp only [blockK] at h2
      simp only [Exit.inBlock]
      by_cases hid : i = id
      · subst hid
        rw [if_pos rfl]
        have : Nat.beq i i = true := by simp
        rw [this] at h2
        exact ⟨.normal, fr', σ', φ', trivial, h2, h3, h4, h5, h6⟩
      · rw [if_neg hid]
        have : Nat.beq i id = false := by
          cases hh : Nat.beq i id with
          | false => rfl
          | true => exact absurd (Nat.eq_of_beq_eq_true hh) hid
        rw [this] at h2
        exact ⟨.exit i, fr', σ', φ', rfl, h2, h3, h4, h5, h6⟩
    | normal => cases x <;> simp only [exm] at h1; exact ⟨.normal, fr', σ', φ', trivial, h2, h3, h4, h5, h6⟩
    | goto i => cases x <;> simp only [exm] at h1; exact ⟨.goto _, fr', σ', φ', h1, h2, h3, h4, h5, h6⟩
    | ret => cases x <;> simp only [exm] at h1; exact ⟨.ret, fr', σ', φ', trivial, h2, h3, h4, h5, h6⟩
    | panic c => cases x <;> exact h1.elim
    | outgrown => cases x <;> exact h1.elim
  | .loop c, fr, σ, K, hc, h => fun base φ w a hr hf hd => by
    simp only [codeOK] at hc
    obtain ⟨X, F, S, μ, ⟨x0, s0, ha0, hs0, hS0⟩, hround⟩ := h
    exact SW_loop F S μ (fun x s hs => aw_sound c (frL (F x)) s _ hc (hround x s hs)) ha0 hs0 hS0 base φ w a hr hf hd
  | .scope c, fr, σ, K, hc, h => fun base φ w a hr hf hd => by
    rcases h with h | h
    · simp only [codeOK] at hc
      refine wp_scope_straight (wp_mono (aw_sound c fr σ _ hc h base φ w a hr hf hd) fun e a' w' hp => ?_)
      obtain ⟨x, fr', σ', φ', h1, h2, h3, h4, h5, h6⟩ := hp
      cases e with
      | normal => cases x <;> simp only [exm] at h1; exact ⟨.normal, fr', σ', φ', trivial, h2, h3, h4, h5, h6⟩
      | exit i => cases x <;> simp only [exm] at h1; exact ⟨.exit _, fr', σ', φ', h1, h2, h3, h4, h5, h6⟩
      | goto i => cases x <;> simp only [exm] at h1; exact h2.elim
      | ret => cases x <;> simp only [exm] at h1; exact ⟨.ret, fr', σ', φ', trivial, h2, h3, h4, h5, h6⟩
      | panic c => cases x <;> exact h1.elim
      | outgrown => cases x <;> exact h1.elim
    · exact h N base φ w a hr hf hd

/-! ### Functions -/

def frOf (args : List Value) : Fr := fun i => args.getD i undef
def tup : List Value → Value
  | [v] => v
  | vs => .tuple vs.toArray

def awRet (E : Env) (fr : Fr) (σ : St) : List ResultVar → List Value → (Value → Prop) → Prop
  | [], acc, K => K (tup acc.reverse)
  | .tmp t :: rest, acc, K => awRet E fr σ rest (fr t :: acc) K
  | .cell a t :: rest, acc, K => awLoad E σ t (fr a) fun v => awRet E fr σ rest (v :: acc) K

def retK (E : Env) (rs : List ResultVar) (Q : Kont) : Post
  | .normal, fr, σ => awRet E fr σ rs [] fun v => Q v σ
  | .ret, fr, σ => awRet E fr σ rs [] fun v => Q v σ
  | _, _, _ => False

def resOK (N : Nat) : ResultVar → Bool
  | .tmp t => decide (t < N)
  | .cell a _ => decide (a < N)

def resOne (t : Array Value) : ResultVar → Sem Value
  | .tmp x => pure (t.getD x undef)
  | .cell a ty => do loadVar ty (← asAddr (t.getD a undef))

theorem awRet_ok {N : Nat} (h : Rel E.G base φ σ w) {fr : Fr} {t : Array Value} (hf : FR N φ fr t) (K : Value → Prop) : ∀ (rs : List ResultVar) (acc acc' : List Value), rs.all (resOK N) = true → VRs φ acc acc' →
    awRet E fr σ rs acc K → ∃ v vs', K v ∧ (rs.mapM (resOne t)).run E.P w = .ok vs' w ∧ VR φ v (tup (acc'.reverse ++ vs'))
  | [], acc, acc', _, hv, hk => by
    refine ⟨_, [], hk, by simp, ?_⟩
    rw [List.append_nil]
    have hrev : VRs φ acc.reverse acc'.reverse := ⟨by simp [hv.1], fun i v v' p q => by
      have hi := (List.getElem?_eq_some_iff.1 p).1
      have hi' := (List.getElem?_eq_some_iff.1 q).1
      rw [List.getElem?_reverse (by simpa using hi)] at p
      rw [List.getElem?_reverse (by simpa using hi')] at q
      rw [hv.1] at p
      exact hv.2 _ v v' p q⟩
    generalize acc.reverse = l at hrev
    generalize acc'.reverse = l' at hrev
    match l, l', hrev with
    | [], [], hrev => exact VR.tuple_iff.2 (.nil φ)
    | [v], [v'], hrev => exact hrev.of_cons.1
    | a :: b :: l, a' :: b' :: l', hrev => exact VR.tuple_iff.2 hrev
    | [], _ :: _, hrev => have := hrev.1; simp at this
    | [_], [], hrev => have := hrev.1; simp at this
    | [_], _ :: _ :: _, hrev => have := hrev.1; simp at this
    | _ :: _ :: _, [], hrev => have := hrev.1; simp at this
    | _ :: _ :: _, [_], hrev => have := hrev.1; simp at this
  | .tmp x :: rest, acc, acc', hall, hv, hk => by
    simp only [List.all_cons, Bool.and_eq_true] at hall
    have hx : x < N := by simpa [resOK] using hall.1
    obtain ⟨v, vs', h1, h2, h3⟩ := awRet_ok h hf K rest (fr x :: acc) (t.getD x undef :: acc') hall.2 (.cons (hf.2 x hx) hv) hk
    refine ⟨v, t.getD x undef :: vs', h1, ?_, by simpa using h3⟩
    rw [List.mapM_cons]
    simp only [resOne, Sem.run_bind, Sem.run_pure, Result.andThen_ok, h2]
  | .cell x ty :: rest, acc, acc', hall, hv, hk => by
    simp only [List.all_cons, Bool.and_eq_true] at hall
    have hx : x < N := by simpa [resOK] using hall.1
    simp only [awRet] at hk
    obtain ⟨u', u, hr, hu, hk⟩ := awLoad_run h _ (hf.2 x hx) hk
    obtain ⟨v, vs', h1, h2, h3⟩ := awRet_ok h hf K rest (u :: acc) (u' :: acc') hall.2 (.cons hu hv) hk
    refine ⟨v, u' :: vs', h1, ?_, by simpa using h3⟩
    rw [List.mapM_cons]
    have hload : (resOne t (.cell x ty)).run E.P w = .ok u' w := by
      show (do loadVar ty (← asAddr (t.getD x undef)) : Sem Value).run E.P w = _
      generalize t.getD x undef = p at hr ⊢
      unfold Instr.loadAt at hr
      cases p with
      | pointer a => cases a with
        | some a => simpa [Instr.sureAddr, asAddr] using hr
        | none => simp [Instr.sureAddr] at hr
      | _ => simp [Instr.sureAddr] at hr
    rw [Sem.run_bind, hload]
    simp only [Sem.run_bind, Sem.run_pure, Result.andThen_ok, h2]

/-- THE RULE FOR A FUNCTION: its body's walk gives its contract. -/
theorem ac_of_sw {f : FuncId} {fn : Func} {c : Code} {N : Nat} {args : List Value} {σ : St} {Q : Kont} (hf : E.P.funcs[f]? = some fn) (hb : fn.body = some c) (hn : (fn.name == "runtime.NumGoroutine") = false)
    (hN : fn.ntmps = N) (hl : args.length ≤ N) (hc : (codeOK N E.G c && fn.results.toList.all (resOK N)) = true) (h : SW E N c (frOf args) σ (retK E fn.results.toList Q)) : AC E f args σ Q := by
  simp only [Bool.and_eq_true] at hc
  refine ⟨⟨fn, hf, hn, by simp [hb]⟩, fun base φ w args' hr hv => ?_⟩
  have hlen := hv.1
  have hFR : FR N φ (frOf args) (args'.toArray ++ Array.replicate (fn.ntmps - args'.toArray.size) undef) := by
    refine ⟨by simp [hN]; omega, fun i hi => ?_⟩
    by_cases h1 : i < args'.length
    · have h2 : i < args.length := by omega
      have e1 : frOf args i = args[i] := by simp [frOf, h2]
      have e2 : (args'.toArray ++ Array.replicate (fn.ntmps - args'.toArray.size) undef).getD i undef = args'[i] := by
        simp [Array.getD_eq_getD_getElem?, Array.getElem?_append, h1]
      rw [e1, e2]
      exact hv.2 i _ _ (by simp [h2]) (by simp [h1])
    · have h2 : ¬ i < args.length := by omega
      have e1 : frOf args i = undef := by simp [frOf, List.getElem?_eq_none (Nat.le_of_not_lt h2)]
      have e2 : (args'.toArray ++ Array.replicate (fn.ntmps - args'.toArray.size) undef).getD i undef = undef := by
        simp only [Array.getD_eq_getD_getElem?, Array.getElem?_append]
        rw [if_neg (by simpa using h1)]
        simp only [Array.getElem?_replicate]
        split <;> rfl
      rw [e1, e2]; exact vr_undef φ
  refine calls_of_wp hf hb (wp_mono (h base φ w _ hr hFR rfl) fun e a w' hp => ?_)
  obtain ⟨x, fr, σ', φ', h1, h2, h3, h4, h5, h6⟩ := hp
  have fin : awRet E fr σ' fn.results.toList [] (fun v => Q v σ') → a.defers = [] ∧ ∃ v, (results fn a.tmps).run E.P w' = .ok v w' ∧
      ∃ u v' s ψ, Ending.returned v = .returned v' ∧ Q u s ∧ VR ψ u v' ∧ φ.le ψ ∧ Rel E.G base ψ s w' := by
    intro hk
    obtain ⟨v, vs', hq, hrun, hvr⟩ := awRet_ok h6 h4 _ fn.results.toList [] [] hc.2 (.nil φ') hk
    simp only [List.reverse_nil, List.nil_append] at hvr
    refine ⟨h5, tup vs', ?_, v, tup vs', σ', φ', rfl, hq, hvr, h3, h6⟩
    have e : results fn a.tmps = (do let vs ← fn.results.mapM (resOne a.tmps); pure (if h : vs.size = 1 then vs[0] else .tuple vs)) := rfl
    rw [e, Sem.run_bind, Array.mapM_eq_mapM_toList, Sem.run_map, hrun]
    simp only [Result.andThen_ok, Sem.run_pure]
    congr 1
    match vs' with
    | [] => rfl
    | [v] => rfl
    | a :: b :: l => simp [tup]
  cases e with
  | normal => cases x <;> simp only [exm] at h1; exact fin h2
  | ret => cases x <;> simp only [exm] at h1; exact fin h2
  | exit i => cases x <;> first | exact h1.elim | exact h2.elim
  | goto i => cases x <;> first | exact h1.elim | exact h2.elim
  | panic c => cases x <;> exact h1.elim
  | outgrown => cases x <;> exact h1.elim

theorem ac_of_aw {f : FuncId} {fn : Func} {c : Code} {N : Nat} {args : List Value} {σ : St} {Q : Kont} (hf : E.P.funcs[f]? = some fn) (hb : fn.body = some c) (hn : (fn.name == "runtime.NumGoroutine") = false)
    (hN : fn.ntmps = N) (hl : args.length ≤ N) (hc : (codeOK N E.G c && fn.results.toList.all (resOK N)) = true) (h : aw E c (frOf args) σ (retK E fn.results.toList Q)) : AC E f args σ Q :=
  ac_of_sw hf hb hn hN hl hc (aw_sound c _ σ _ (by simp only [Bool.and_eq_true] at hc; exact hc.1) h)

/-! ### Calls that look at no memory but the known variables' -/

/-- The heap that holds the known variables alone. -/
def gst (G : Globs) : St := ⟨(G.map (·.1 + 1)).foldl max 0, fun b => (G.find? fun x => Nat.beq x.1 b).map fun x => ⟨x.2, x.1, false⟩⟩
def gphi (G : Globs) : Phi := fun b => (G.find? fun x => Nat.beq x.1 b).map fun x => ⟨x.1, 0, x.2.length⟩

theorem le_foldl_max (l : List Nat) (a x : Nat) (h : x ∈ l ∨ x ≤ a) : x ≤ l.foldl max a := by
  induction l generalizing a with
  | nil => simpa using h
  | cons y l ih =>
    simp only [List.foldl_cons]
    refine ih _ ?_
    rcases h with h | h
    · rcases List.mem_cons.1 h with rfl | h
      · exact .inr (Nat.le_max_right _ _)
      · exact .inl h
    · exact .inr (Nat.le_trans h (Nat.le_max_left _ _))

theorem find_glob {G : Globs} {b : Nat} {x : Nat × List Value} (h : (G.find? fun x => Nat.beq x.1 b) = some x) : x ∈ G ∧ x.1 = b :=
  ⟨List.mem_of_find?_eq_some h, Nat.eq_of_beq_eq_true (by have := List.find?_some h; simpa using this)⟩

/-- The heap of the known variables alone stands for any world in which they hold what they should. -/
theorem rel_begin (hG : ∀ g ∈ E.G, g.2.all scalar = true) (hnd : (E.G.map (·.1)).Nodup) (hcell : ∀ g ∈ E.G, ∃ e fz, w.heap[g.1]? = some (.cells g.2.toArray e fz)) : Rel E.G w (gphi E.G) (gst E.G) w := by
  have hfind : ∀ g ∈ E.G, (E.G.find? fun x => Nat.beq x.1 g.1) = some g := by
    intro g hg
    cases hf : E.G.find? fun x => Nat.beq x.1 g.1 with
    | none => have := List.find?_eq_none.1 hf g hg; simp at this
    | some x =>
      obtain ⟨hx, he⟩ := find_glob hf
      congr 1
      -- one entry a variable
      have key : ∀ (l : Globs), (l.map (·.1)).Nodup → x ∈ l → g ∈ l → x = g := by
        intro l
        induction l with
        | nil => intro _ h; cases h
        | cons y l ih =>
          intro hn h1 h2
          simp only [List.map_cons, List.nodup_cons] at hn
          rcases List.mem_cons.1 h1 with p | p <;> rcases List.mem_cons.1 h2 with q | q
          · exact p.trans q.symm
          · exact (hn.1 (List.mem_map.2 ⟨g, q, by rw [← p]; exact he.symm⟩)).elim
          · exact (hn.1 (List.mem_map.2 ⟨x, p, by rw [← q]; exact he⟩)).elim
          · exact ih hn.2 p q
      exact key _ hnd hx hg
  have hlt : ∀ g ∈ E.G, g.1 < (gst E.G).n := fun g hg => le_foldl_max _ 0 (g.1 + 1) (.inl (List.mem_map.2 ⟨g, hg, rfl⟩))
  refine ⟨Kept.refl w, ?_, ?_, ?_, ?_, ?_, ?_⟩
  · intro b k hk
    simp only [gst] at hk
    cases hf : E.G.find? fun x => Nat.beq x.1 b with
    | none => simp [hf] at hk
    | some x =>
      simp only [hf, Option.map_some, Option.some.injEq] at hk
      obtain ⟨hx, rfl⟩ := find_glob hf
      subst hk
      exact ⟨hlt x hx, hlt x hx⟩
  · intro b hb
    simp only [gphi]
    cases hf : E.G.find? fun x => Nat.beq x.1 b with
    | none => rfl
    | some x =>
      obtain ⟨hx, rfl⟩ := find_glob hf
      exact absurd (hlt x hx) (Nat.not_lt.2 hb)
  · intro b m hm
    simp only [gphi] at hm
    cases hf : E.G.find? fun x => Nat.beq x.1 b with
    | none => simp [hf] at hm
    | some x =>
      simp only [hf, Option.map_some, Option.some.injEq] at hm
      obtain ⟨hx, _⟩ := find_glob hf
      subst hm
      obtain ⟨e, fz, hc⟩ := hcell x hx
      exact (Array.getElem?_eq_some_iff.1 hc).1
  · intro b k hk
    simp only [gst] at hk
    cases hf : E.G.find? fun x => Nat.beq x.1 b with
    | none => simp [hf] at hk
    | some x =>
      simp only [hf, Option.map_some, Option.some.injEq] at hk
      obtain ⟨hx, _⟩ := find_glob hf
      subst hk
      obtain ⟨e, fz, hc⟩ := hcell x hx
      refine ⟨⟨x.1, 0, x.2.length⟩, by simp [gphi, hf], x.2.toArray, e, fz, hc, by simp, Nat.le_refl _, (fun hh => by cases hh), fun i v hi => ⟨v, ?_, .scalar ?_⟩⟩
      · simpa using hi
      · exact List.all_eq_true.1 (hG x hx) v (List.mem_of_getElem? hi)
  · intro b1 b2 k1 k2 m1 m2 g1 g2 i1 i2 hne
    simp only [gphi] at i1 i2
    cases hf1 : E.G.find? fun x => Nat.beq x.1 b1 with
    | none => simp [hf1] at i1
    | some x1 =>
      cases hf2 : E.G.find? fun x => Nat.beq x.1 b2 with
      | none => simp [hf2] at i2
      | some x2 =>
        simp only [hf1, hf2, Option.map_some, Option.some.injEq] at i1 i2
        subst i1; subst i2
        obtain ⟨_, e1⟩ := find_glob hf1
        obtain ⟨_, e2⟩ := find_glob hf2
        exact .inl (by simp only; omega)
  · intro g hg
    obtain ⟨e, fz, hc⟩ := hcell g hg
    exact ⟨by simp [gphi, hfind g hg], e, fz, hc⟩

theorem rel_gst (hG : ∀ g ∈ E.G, g.2.all scalar = true) (hnd : (E.G.map (·.1)).Nodup) (h : Rel E.G base φ σ w) : Rel E.G w (gphi E.G) (gst E.G) w :=
  rel_begin hG hnd fun g hg => by
    obtain ⟨e, fz, hc⟩ := (h.glob g hg).2
    have hb := (Array.getElem?_eq_some_iff.1 hc).1
    exact ⟨e, fz, (h.kept.block g.1 hb).trans hc⟩

theorem Rel.again {w' : World} (h : Rel E.G base φ σ w) (hk : Kept w w') : Rel E.G base φ σ w' :=
  ⟨h.kept.trans hk, h.wf, h.fresh, fun b m hm => Nat.lt_of_lt_of_le (h.inh b m hm) hk.size,
    fun b k hb => let ⟨m, hm, hl⟩ := h.blk b k hb; ⟨m, hm, hl.kept (hk.block _ (h.inh b m hm))⟩, h.sep, h.glob⟩

/-- **A call that was shown over the known variables alone holds over every heap, and leaves it as it was.** -/
theorem AC.closed {f : FuncId} {args : List Value} {v : Value} (hG : ∀ g ∈ E.G, g.2.all scalar = true) (hnd : (E.G.map (·.1)).Nodup) (ha : args.all scalar = true) (hv : flat v = true)
    (h : AC E f args (gst E.G) fun r _ => r = v) (σ : St) : AC E f args σ fun r s => r = v ∧ s = σ := by
  refine ⟨h.1, fun base φ w args' hr hva => ?_⟩
  have hargs : args' = args := by
    apply List.ext_getElem?
    intro i
    cases hi : args[i]? with
    | none =>
      have h1 : args.length ≤ i := List.getElem?_eq_none_iff.1 hi
      exact List.getElem?_eq_none_iff.2 (by rw [← hva.1]; exact h1)
    | some u =>
      obtain ⟨u', h1, h2⟩ := hva.get hi
      have hsc := List.all_eq_true.1 ha u (List.mem_of_getElem? hi)
      rw [h1]
      have : u' = u := by
        cases u <;> simp only [scalar, Bool.false_eq_true] at hsc
        case bool => exact h2.to_bool
        case int => exact h2.to_int
        case string => cases h2; rfl
        case pointer a => cases a <;> simp only [Bool.false_eq_true] at hsc; cases h2; rfl
        case slice a n c =>
          cases h2 with
          | nils => rfl
          | slice => simp at hsc
        case nilFunc => cases h2; rfl
        case nilIface => cases h2; rfl
      rw [this]
  subst hargs
  refine (h.2 w (gphi E.G) w args' (rel_gst hG hnd hr) (.scalars ha)).mono fun e w' ⟨r, v', s, ψ, he, hrv, hvr, _, hrel⟩ => ?_
  subst hrv
  have hvv : v' = r := by
    have hsc : ∀ {u u' : Value}, scalar u = true → VR ψ u u' → u' = u := by
      intro u u' hs h2
      cases u <;> simp only [scalar, Bool.false_eq_true] at hs
      case bool => exact h2.to_bool
      case int => exact h2.to_int
      case string => cases h2; rfl
      case pointer a => cases a <;> simp only [Bool.false_eq_true] at hs; cases h2; rfl
      case slice a n c =>
        cases h2 with
        | nils => rfl
        | slice => simp at hs
      case nilFunc => cases h2; rfl
      case nilIface => cases h2; rfl
    have harr : ∀ {x x' : Array Value}, x.toList.all scalar = true → VRs ψ x.toList x'.toList → x' = x := by
      intro x x' hs h2
      apply Array.toList_inj.1
      apply List.ext_getElem?
      intro i
      cases hi : x.toList[i]? with
      | none => exact List.getElem?_eq_none_iff.2 (by rw [← h2.1]; exact List.getElem?_eq_none_iff.1 hi)
      | some u =>
        obtain ⟨u', h3, h4⟩ := h2.get hi
        rw [h3, hsc (List.all_eq_true.1 hs u (List.mem_of_getElem? hi)) h4]
    cases r with
    | agg cs => obtain ⟨x', rfl, h2⟩ := hvr.of_agg; rw [harr (by simpa [flat] using hv) h2]
    | tuple cs => obtain ⟨x', rfl, h2⟩ := hvr.of_tuple; rw [harr (by simpa [flat] using hv) h2]
    | _ => exact hsc (by simpa [flat] using hv) hvr
  subst hvv
  exact ⟨v', v', σ, φ, he, ⟨rfl, rfl⟩, .flat hv, φ.le_refl, hr.again hrel.kept⟩

end Go.Am
