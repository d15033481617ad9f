/-
  An abstract machine for the model's code: frames: what a call leaves as it was; variables of one's own.
-/
import Derived.Test.YtpbnliicmccjhaaDoorAmB
namespace Go.Am
set_option linter.unusedVariables false
set_option linter.unusedSimpArgs false
variable {E : Env} {σ s t : St} {X Y Z : Nat → Prop}

/-! ### States -/

theorem get_push_self (σ : St) (cs : List Value) : (σ.push cs).get σ.n = some ⟨cs, σ.n, true⟩ := by simp [St.push]
theorem get_push_ne (σ : St) (cs : List Value) {b : Nat} (h : b ≠ σ.n) : (σ.push cs).get b = σ.get b := by
  have : (b == σ.n) = false := by simpa using h
  simp [St.push, this]
theorem get_st_self {b : Nat} {k : Blk} (h : σ.get b = some k) (cs : List Value) : (σ.st b cs).get b = some { k with cells := cs } := by simp [St.st, h]
theorem get_st_ne {b c : Nat} (h : c ≠ b) (cs : List Value) : (σ.st b cs).get c = σ.get c := by
  have : (c == b) = false := by simpa using h
  simp [St.st, this]
theorem push_n (σ : St) (cs : List Value) : (σ.push cs).n = σ.n + 1 := rfl
theorem st_n (σ : St) (b : Nat) (cs : List Value) : (σ.st b cs).n = σ.n := rfl

theorem Wf.push (h : Wf σ) (cs : List Value) : Wf (σ.push cs) := fun b k hk => by
  rw [push_n]
  by_cases hb : b = σ.n
  · subst hb; rw [get_push_self] at hk; cases hk; exact ⟨Nat.lt_succ_self _, Nat.lt_succ_self _⟩
  · rw [get_push_ne _ _ hb] at hk; have := h b k hk; omega
theorem Wf.st (h : Wf σ) (b : Nat) (cs : List Value) : Wf (σ.st b cs) := fun c k hk => by
  rw [st_n]
  by_cases hb : c = b
  · subst hb
    cases hg : σ.get c with
    | none => simp [St.st, hg] at hk
    | some j => rw [get_st_self hg] at hk; cases hk; exact h c j hg
  · rw [get_st_ne hb] at hk; exact h c k hk
theorem Wf.forget (h : Wf σ) (p : Nat → Bool) : Wf (σ.forget p) := fun b k hk => by
  simp only [St.forget] at hk
  cases hp : p b with
  | true => simp [hp] at hk
  | false => simp [hp] at hk; exact h b k hk
theorem Wf.none (h : Wf σ) {b : Nat} (hb : σ.n ≤ b) : σ.get b = none := by
  cases hg : σ.get b with
  | none => rfl
  | some k => have := (h b k hg).1; omega

/-- Some blocks are not written any more. -/
def St.freeze (σ : St) (p : Nat → Bool) : St := ⟨σ.n, fun b => bif p b then (σ.get b).map fun k => { k with wr := false } else σ.get b⟩
theorem freeze_get (σ : St) (p : Nat → Bool) (b : Nat) : (σ.freeze p).get b = if p b then (σ.get b).map (fun k => { k with wr := false }) else σ.get b := by
  simp only [St.freeze]
  cases p b <;> rfl
theorem freeze_le (σ : St) (p : Nat → Bool) : Le (σ.freeze p) σ := ⟨rfl, fun b k hk => by
  rw [freeze_get] at hk
  split at hk
  · cases hg : σ.get b with
    | none => simp [hg] at hk
    | some j => simp only [hg, Option.map_some, Option.some.injEq] at hk; subst hk; exact ⟨j, rfl, rfl, rfl, by simp⟩
  · exact ⟨k, hk, rfl, rfl, id⟩⟩
theorem Wf.freeze (h : Wf σ) (p : Nat → Bool) : Wf (σ.freeze p) := fun b k hk => by
  obtain ⟨j, h1, _, h3, _⟩ := (freeze_le σ p).2 b k hk
  rw [← h3]
  exact h b j h1

/-! ### What is left as it was -/

/-- The heap has grown: but for some blocks the elder ones are as they were; what nobody writes any more is as it was; new blocks are of new families. -/
structure Ext (X : Nat → Prop) (σ s : St) : Prop where
  wf : Wf σ
  wf' : Wf s
  n : σ.n ≤ s.n
  fro : ∀ b k, σ.get b = some k → k.wr = false → s.get b = some k
  old : ∀ b, b < σ.n → ¬ X b → s.get b = σ.get b
  fam : ∀ b k, b < σ.n → s.get b = some k → ∃ j, σ.get b = some j ∧ k.fam = j.fam
  new : ∀ b k, σ.n ≤ b → s.get b = some k → σ.n ≤ k.fam

/-- Nothing but new blocks. -/
abbrev Grow (σ s : St) : Prop := Ext (fun _ => False) σ s

theorem Ext.refl (h : Wf σ) : Ext X σ σ := ⟨h, h, Nat.le_refl _, fun _ _ h _ => h, fun _ _ _ => rfl, fun _ k _ h => ⟨k, h, rfl⟩, fun b k hb hk => by rw [h.none hb] at hk; cases hk⟩
theorem Ext.mono (h : Ext X σ s) (hx : ∀ b, b < σ.n → X b → Y b) : Ext Y σ s := ⟨h.wf, h.wf', h.n, h.fro, fun b hb hy => h.old b hb fun x => hy (hx b hb x), h.fam, h.new⟩
theorem Ext.trans (h : Ext X σ s) (g : Ext Y s t) (hx : ∀ b, b < σ.n → X b → Z b) (hy : ∀ b, b < σ.n → Y b → Z b) : Ext Z σ t := by
  refine ⟨h.wf, g.wf', Nat.le_trans h.n g.n, fun b k hk hw => g.fro b k (h.fro b k hk hw) hw, fun b hb hz => ?_, fun b k hb hk => ?_, fun b k hb hk => ?_⟩
  · have hn := h.n
    exact (g.old b (by omega) fun y => hz (hy b hb y)).trans (h.old b hb fun x => hz (hx b hb x))
  · have hn := h.n
    obtain ⟨j, h1, h2⟩ := g.fam b k (by omega) hk
    obtain ⟨i, h3, h4⟩ := h.fam b j hb h1
    exact ⟨i, h3, h2.trans h4⟩
  · by_cases hbs : b < s.n
    · obtain ⟨j, h1, h2⟩ := g.fam b k hbs hk
      rw [h2]
      exact h.new b j hb h1
    · exact Nat.le_trans h.n (g.new b k (by omega) hk)
theorem Grow.trans (h : Grow σ s) (g : Ext X s t) : Ext X σ t := Ext.trans h g (fun _ _ h => h.elim) fun _ _ h => h
theorem Ext.grow (h : Ext X σ s) (g : Grow s t) : Ext X σ t := Ext.trans h g (fun _ _ h => h) fun _ _ h => h.elim

theorem Ext.push (h : Ext X σ s) (cs : List Value) : Ext X σ (s.push cs) := by
  have hn := h.n
  have hne : ∀ b, b < σ.n → b ≠ s.n := fun b hb => by omega
  refine ⟨h.wf, h.wf'.push cs, Nat.le_succ_of_le h.n, fun b k hk hw => ?_, fun b hb hx => ?_, fun b k hb hk => ?_, fun b k hb hk => ?_⟩
  · rw [get_push_ne _ _ (hne b (h.wf b k hk).1)]; exact h.fro b k hk hw
  · rw [get_push_ne _ _ (hne b hb)]; exact h.old b hb hx
  · rw [get_push_ne _ _ (hne b hb)] at hk; exact h.fam b k hb hk
  · by_cases hbn : b = s.n
    · subst hbn; rw [get_push_self] at hk; cases hk; exact h.n
    · rw [get_push_ne _ _ hbn] at hk; exact h.new b k hb hk
theorem Ext.st {b : Nat} {k : Blk} (h : Ext X σ s) (hk : s.get b = some k) (hw : k.wr = true) (hb : b < σ.n → X b) (cs : List Value) : Ext X σ (s.st b cs) := by
  refine ⟨h.wf, h.wf'.st b cs, h.n, fun c j hj hwj => ?_, fun c hc hx => ?_, fun c j hc hj => ?_, fun c j hc hj => ?_⟩
  · have h1 := h.fro c j hj hwj
    by_cases hcb : c = b
    · subst hcb; rw [hk] at h1; cases h1; rw [hw] at hwj; cases hwj
    · rw [get_st_ne hcb]; exact h1
  · by_cases hcb : c = b
    · subst hcb; exact absurd (hb hc) hx
    · rw [get_st_ne hcb]; exact h.old c hc hx
  · by_cases hcb : c = b
    · subst hcb; rw [get_st_self hk] at hj; cases hj; exact h.fam c k hc hk
    · rw [get_st_ne hcb] at hj; exact h.fam c j hc hj
  · by_cases hcb : c = b
    · subst hcb; rw [get_st_self hk] at hj; cases hj; exact h.new c k hc hk
    · rw [get_st_ne hcb] at hj; exact h.new c j hc hj
theorem Ext.forget1 {b : Nat} {k : Blk} (h : Ext X σ s) (hk : s.get b = some k) (hw : k.wr = true) (hb : b < σ.n → X b) : Ext X σ (s.forget (· == b)) := by
  have hg : ∀ c, c ≠ b → (s.forget (· == b)).get c = s.get c := fun c hc => by
    have : (c == b) = false := by simpa using hc
    simp [St.forget, this]
  have hg0 : (s.forget (· == b)).get b = none := by simp [St.forget]
  refine ⟨h.wf, h.wf'.forget _, h.n, fun c j hj hwj => ?_, fun c hc hx => ?_, fun c j hc hj => ?_, fun c j hc hj => ?_⟩
  · have h1 := h.fro c j hj hwj
    by_cases hcb : c = b
    · subst hcb; rw [hk] at h1; cases h1; rw [hw] at hwj; cases hwj
    · rw [hg c hcb]; exact h1
  · by_cases hcb : c = b
    · subst hcb; exact absurd (hb hc) hx
    · rw [hg c hcb]; exact h.old c hc hx
  · by_cases hcb : c = b
    · subst hcb; rw [hg0] at hj; cases hj
    · rw [hg c hcb] at hj; exact h.fam c j hc hj
  · by_cases hcb : c = b
    · subst hcb; rw [hg0] at hj; cases hj
    · rw [hg c hcb] at hj; exact h.new c j hc hj
/-- What is new, or may change, may be frozen. -/
theorem Ext.freeze (h : Ext X σ s) (p : Nat → Bool) (hp : ∀ b, b < σ.n → p b = true → X b) : Ext X σ (s.freeze p) := by
  refine ⟨h.wf, h.wf'.freeze p, h.n, fun b k hk hw => ?_, fun b hb hx => ?_, fun b k hb hk => ?_, fun b k hb hk => ?_⟩
  · rw [freeze_get, h.fro b k hk hw]
    split
    · obtain ⟨c, f, wr⟩ := k; simp at hw; subst hw; rfl
    · rfl
  · rw [freeze_get, if_neg (fun hpb => hx (hp b hb hpb))]; exact h.old b hb hx
  · obtain ⟨j, h1, _, h3, _⟩ := (freeze_le s p).2 b k hk
    obtain ⟨i, h4, h5⟩ := h.fam b j hb h1
    exact ⟨i, h4, h3.symm.trans h5⟩
  · obtain ⟨j, h1, _, h3, _⟩ := (freeze_le s p).2 b k hk
    rw [← h3]
    exact h.new b j hb h1

theorem Sl.ext {e n : Nat} {v : Value} {cs : List Value} (h : Sl σ e v n cs) (g : Ext X σ s) : Sl s e v n cs := by
  rcases h with h | ⟨b, o, c, k, h1, h2, h3, h4, h5⟩
  · exact .inl h
  · have hk := g.fro b k h3 h4
    refine .inr ⟨b, o, c, k, h1, h2, hk, h4, ?_⟩
    unfold St.lds at h5 ⊢
    rw [hk]; rw [h3] at h5; exact h5
theorem SlI.ext {v : Value} {xs : List Int} (h : SlI σ v xs) (g : Ext X σ s) : SlI s v xs := Sl.ext h g
theorem SlR.ext {v : Value} {xss : List (List Int)} (h : SlR σ v xss) (g : Ext X σ s) : SlR s v xss :=
  let ⟨vs, h1, h2⟩ := h; ⟨vs, h1.ext g, fun i u xs a b => (h2 i u xs a b).ext g⟩

/-! ### Variables of one's own -/

/-- A block that only this run knows, and writes. -/
def Own (σ : St) (b : Nat) (cs : List Value) : Prop := σ.get b = some ⟨cs, b, true⟩ ∧ σ.sole b

theorem Own.new (h : Wf σ) (cs : List Value) : Own (σ.push cs) σ.n cs := by
  refine ⟨get_push_self σ cs, fun k x j h1 h2 hne hf => ?_⟩
  rw [get_push_self] at h1; cases h1
  rw [get_push_ne _ _ hne] at h2
  have := (h x j h2).2
  simp only at hf
  omega
theorem Own.lt {b : Nat} {cs : List Value} (h : Own σ b cs) (hw : Wf σ) : b < σ.n := (hw b _ h.1).1
theorem Own.push {b : Nat} {cs : List Value} (h : Own σ b cs) (hw : Wf σ) (cs' : List Value) : Own (σ.push cs') b cs := by
  have hb := h.lt hw
  have hne : b ≠ σ.n := by omega
  refine ⟨by rw [get_push_ne _ _ hne]; exact h.1, fun k x j h1 h2 hxb hf => ?_⟩
  rw [get_push_ne _ _ hne, h.1] at h1; cases h1
  by_cases hx : x = σ.n
  · subst hx; rw [get_push_self] at h2; cases h2; simp only at hf; omega
  · rw [get_push_ne _ _ hx] at h2; exact h.2 _ x j h.1 h2 hxb hf
theorem Own.st {b : Nat} {cs : List Value} (h : Own σ b cs) (cs' : List Value) : Own (σ.st b cs') b cs' := by
  refine ⟨by rw [get_st_self h.1], fun k x j h1 h2 hxb hf => ?_⟩
  rw [get_st_self h.1] at h1; cases h1
  rw [get_st_ne hxb] at h2
  exact h.2 _ x j h.1 h2 hxb hf
theorem Own.st_ne {b c : Nat} {cs : List Value} (h : Own σ b cs) (hne : b ≠ c) (cs' : List Value) : Own (σ.st c cs') b cs := by
  refine ⟨by rw [get_st_ne hne]; exact h.1, fun k x j h1 h2 hxb hf => ?_⟩
  rw [get_st_ne hne, h.1] at h1; cases h1
  by_cases hx : x = c
  · subst hx
    cases hg : σ.get x with
    | none => simp [St.st, hg] at h2
    | some i => rw [get_st_self hg] at h2; cases h2; exact h.2 _ x i h.1 hg hxb hf
  · rw [get_st_ne hx] at h2; exact h.2 _ x j h.1 h2 hxb hf
theorem Own.forget_ne {b c : Nat} {cs : List Value} (h : Own σ b cs) (hne : b ≠ c) : Own (σ.forget (· == c)) b cs := by
  have hg : ∀ x, x ≠ c → (σ.forget (· == c)).get x = σ.get x := fun x hx => by
    have : (x == c) = false := by simpa using hx
    simp [St.forget, this]
  refine ⟨by rw [hg b hne]; exact h.1, fun k x j h1 h2 hxb hf => ?_⟩
  rw [hg b hne, h.1] at h1; cases h1
  by_cases hx : x = c
  · subst hx; simp [St.forget] at h2
  · rw [hg x hx] at h2; exact h.2 _ x j h.1 h2 hxb hf
theorem Own.ext {b : Nat} {cs : List Value} (h : Own σ b cs) (g : Ext X σ s) (hx : ¬ X b) : Own s b cs := by
  have hb := h.lt g.wf
  have hgb : s.get b = some ⟨cs, b, true⟩ := by rw [g.old b hb hx]; exact h.1
  refine ⟨hgb, fun k x j h1 h2 hxb hf => ?_⟩
  rw [hgb] at h1; cases h1
  by_cases hxn : x < σ.n
  · obtain ⟨i, h3, h4⟩ := g.fam x j hxn h2
    exact h.2 _ x i h.1 h3 hxb (h4.symm.trans hf)
  · have := g.new x j (by omega) h2
    simp only at hf; omega
theorem Own.freeze_ne {b : Nat} {cs : List Value} {p : Nat → Bool} (h : Own σ b cs) (hp : p b = false) : Own (σ.freeze p) b cs := by
  have hg : (σ.freeze p).get b = some ⟨cs, b, true⟩ := by rw [freeze_get, hp]; exact h.1
  refine ⟨hg, fun k x j h1 h2 hxb hf => ?_⟩
  rw [hg] at h1; cases h1
  obtain ⟨i, h3, _, h5, _⟩ := (freeze_le σ p).2 x j h2
  exact h.2 _ x i h.1 h3 hxb (h5.trans hf)
theorem Own.ld {b : Nat} {v : Value} (h : Own σ b [v]) : σ.ld b 0 = some v := by simp [St.ld, h.1]
theorem Own.ne {b c : Nat} {cs ds : List Value} (h : Own σ b cs) (g : Own σ c ds) (hne : cs ≠ ds) : b ≠ c := fun e => by subst e; have := h.1.symm.trans g.1; cases this; exact hne rfl
/-- What is written is no frozen block. -/
theorem Own.keeps {b : Nat} {cs : List Value} (h : Own σ b cs) {v : Value} {e n : Nat} {ds : List Value} (g : Sl σ e v n ds) (cs' : List Value) : Sl (σ.st b cs') e v n ds := by
  rcases g with g | ⟨c, o, cc, k, h1, h2, h3, h4, h5⟩
  · exact .inl g
  · have hne : c ≠ b := fun e => by subst e; rw [h.1] at h3; cases h3; cases h4
    refine .inr ⟨c, o, cc, k, h1, h2, by rw [get_st_ne hne]; exact h3, h4, ?_⟩
    unfold St.lds at h5 ⊢
    rw [get_st_ne hne]; exact h5

/-- A slice of one's own that grows: its spine. -/
def Acc (σ : St) (v : Value) (vs : List Value) : Prop :=
  (v = .slice none 0 0 ∧ vs = []) ∨ ∃ b, v = .slice (some ⟨b, 0, some 1⟩) vs.length (2 * vs.length) ∧ Own σ b vs

/-- Its rows: lists of ints that nobody writes any more; the spine lies from so many on. -/
def AccR (m : Nat) (σ : St) (v : Value) (xss : List (List Int)) : Prop :=
  ∃ vs : List Value, ((v = .slice none 0 0 ∧ vs = []) ∨ ∃ b, m ≤ b ∧ v = .slice (some ⟨b, 0, some 1⟩) vs.length (2 * vs.length) ∧ Own σ b vs) ∧
    vs.length = xss.length ∧ ∀ (i : Nat) (u : Value) (xs : List Int), vs[i]? = some u → xss[i]? = some xs → SlI σ u xs
theorem AccR.nil (m : Nat) (σ : St) : AccR m σ (.slice none 0 0) [] := ⟨[], .inl ⟨rfl, rfl⟩, rfl, by simp⟩
theorem AccR.one {m : Nat} {v : Value} {xss : List (List Int)} (h : AccR m σ v xss) : Am.one v = true := by
  obtain ⟨vs, ⟨rfl, _⟩ | ⟨b, _, rfl, _⟩, _⟩ := h <;> rfl
theorem AccR.push {m : Nat} {v : Value} {xss : List (List Int)} (h : AccR m σ v xss) (hw : Wf σ) (cs : List Value) : AccR m (σ.push cs) v xss := by
  obtain ⟨vs, h1, h2, h3⟩ := h
  refine ⟨vs, h1.imp id fun ⟨b, hb, e, ho⟩ => ⟨b, hb, e, ho.push hw cs⟩, h2, fun i u xs a b => (h3 i u xs a b).ext ((Ext.refl (X := fun _ => False) hw).push cs)⟩
theorem AccR.freeze {m : Nat} {v : Value} {xss : List (List Int)} (h : AccR m σ v xss) (hw : Wf σ) (c : Nat) (hc : ∀ b o e n d, v = .slice (some ⟨b, o, e⟩) n d → b ≠ c) : AccR m (σ.freeze (· == c)) v xss := by
  obtain ⟨vs, h1, h2, h3⟩ := h
  refine ⟨vs, h1.imp id fun ⟨b, hb, e, ho⟩ => ⟨b, hb, e, ho.freeze_ne (by simpa using hc b _ _ _ _ e)⟩, h2, fun i u xs a b => (h3 i u xs a b).ext ((Ext.refl (X := fun _ => True) hw).freeze _ fun _ _ _ => trivial)⟩

/-- A slice that has no room. -/
def SlX (σ : St) (v : Value) (xs : List Int) : Prop := SlI σ v xs ∧ (v = .slice none 0 0 ∨ ∃ b o, v = .slice (some ⟨b, o, some 1⟩) xs.length (2 * xs.length + 1))
theorem slice_full {v : Value} {xs : List Int} (h : SlI σ v xs) {K : Value → Prop} (hk : ∀ u, SlX σ u xs → K u) : awSlice 1 v none (some (.int .i64 xs.length)) (some (.int .i64 xs.length)) K := by
  rcases h with ⟨rfl, hl, _⟩ | ⟨b, o, c, k, rfl, hc, hg, hw, hd⟩
  · have : xs = [] := List.eq_nil_of_length_eq_zero hl
    subst this
    exact ⟨.inl ⟨rfl, rfl, ⟨_, rfl⟩, ⟨⟨_, rfl⟩, rfl⟩, hk _ ⟨SlI.nil σ, .inl rfl⟩⟩⟩
  · refine ⟨.inr ⟨b, o, xs.length, c, 0, xs.length, rfl, rfl, Nat.zero_le _, xs.length, ⟨_, rfl⟩, ⟨_, rfl⟩, Nat.le_refl _, hc, ?_⟩⟩
    refine hk _ ⟨.inr ⟨b, o + 0 * 1, _, k, rfl, by omega, hg, hw, ?_⟩, .inr ⟨b, o + 0 * 1, rfl⟩⟩
    simpa using hd
theorem SlX.append {v : Value} {xs : List Int} (h : SlX σ v xs) (x : Value) (hl : xs.length + 1 ≤ 1073741824) {K : Kont} (hk : K (.slice (some ⟨σ.n, 0, some 1⟩) (xs.length + 1) (2 * (xs.length + 1))) (σ.push (xs.map (Value.int .i64) ++ [x]))) :
    AppTo σ 1 v 1 [x] K := by
  obtain ⟨h1, rfl | ⟨b, o, rfl⟩⟩ := h
  · rcases h1 with ⟨_, hn, _⟩ | ⟨b, o, c, k, hv, _⟩
    · have : xs = [] := List.eq_nil_of_length_eq_zero hn
      subst this
      exact .nil rfl (by omega) (by omega) hk
    · cases hv
  · rcases h1 with ⟨hv, _⟩ | ⟨b', o', c', k, hv, hc, hg, hw, hd⟩
    · cases hv
    · cases hv
      exact .fresh rfl (by omega) (by omega) hd hl hk

theorem AccR.st {m b : Nat} {v : Value} {xss : List (List Int)} {cs : List Value} (h : AccR m σ v xss) (ho : Own σ b cs) (hb : b < m) (cs' : List Value) : AccR m (σ.st b cs') v xss := by
  obtain ⟨vs, h1, h2, h3⟩ := h
  exact ⟨vs, h1.imp id fun ⟨c, hc, e, hoc⟩ => ⟨c, hc, e, hoc.st_ne (by omega) _⟩, h2, fun i u xs a b => ho.keeps (h3 i u xs a b) cs'⟩
theorem lay_one {v z : Value} (h : Am.one v = true) : lay (fun _ => false) (fun j => some (j * 1, 1)) [z] [(0, v)] = some [v] := by simp [lay, h]
theorem spread_new (σ : St) (v : Value) (c : Nat) : Spread (σ.push [v]) 1 (.slice (some ⟨σ.n, 0, some 1⟩) 1 c) 1 [v] :=
  .inr ⟨σ.n, 0, c, rfl, by simp [St.lds, get_push_self]⟩

/-- A row more. -/
theorem AccR.app {m : Nat} {v lv : Value} {xss : List (List Int)} {l : List Int} (h : AccR m σ v xss) (hw : Wf σ) (hm : m ≤ σ.n) (hl : SlI σ lv l) (hlen : xss.length + 1 ≤ 1073741824) {K : Kont}
    (hk : ∀ v' s', AccR m s' v' (xss ++ [l]) → Ext (fun b => m ≤ b) σ s' → (∀ b cs, b < m → Own σ b cs → Own s' b cs) → K v' s') : AppTo σ 1 v 1 [lv] K := by
  obtain ⟨vs, h1, h2, h3⟩ := h
  have rows : ∀ s', Ext (fun b => m ≤ b) σ s' → ∀ (i : Nat) (u : Value) (xs : List Int), (vs ++ [lv])[i]? = some u → (xss ++ [l])[i]? = some xs → SlI s' u xs := by
    intro s' g i u xs hu hx
    rw [List.getElem?_append] at hu hx
    split at hu
    · rename_i hi
      rw [if_pos (h2 ▸ hi)] at hx
      exact (h3 i u xs hu hx).ext g
    · rename_i hi
      rw [if_neg (h2 ▸ hi), h2.symm] at hx
      have e0 : i - vs.length = 0 := by
        rcases Nat.eq_zero_or_pos (i - vs.length) with h0 | h0
        · exact h0
        · rw [List.getElem?_eq_none (by simp; omega)] at hu; cases hu
      rw [e0] at hu hx
      cases hu; cases hx
      exact hl.ext g
  rcases h1 with ⟨rfl, rfl⟩ | ⟨b, hb, rfl, ho⟩
  · have hx : xss = [] := List.eq_nil_of_length_eq_zero (by simpa using h2.symm)
    subst hx
    have g : Ext (fun b => m ≤ b) σ (σ.push [lv]) := (Ext.refl hw).push _
    refine .nil rfl (by omega) (by omega) (hk _ _ ⟨[lv], .inr ⟨σ.n, hm, rfl, Own.new hw _⟩, rfl, rows _ g⟩ g fun b cs _ h => h.push hw _)
  · have hbn := ho.lt hw
    have g : Ext (fun b => m ≤ b) σ ((σ.forget (· == b)).push (vs ++ [lv])) := ((Ext.refl hw).forget1 ho.1 rfl fun _ => hb).push _
    have hlds : σ.lds b 0 (vs.length * 1) = some vs := by simp [St.lds, ho.1]
    refine .own rfl (by omega) ho.1 rfl ho.2 hlds (by simp [SlI.one hl]) (by omega) (hk _ _ ⟨vs ++ [lv], .inr ⟨σ.n, hm, by simp, Own.new (hw.forget _) _⟩, by simp [h2], rows _ g⟩ g fun c cs hc h => ?_)
    exact (h.forget_ne (by omega)).push (hw.forget _) _

theorem AccR.lt {m : Nat} {v : Value} {xss : List (List Int)} (h : AccR m σ v xss) (hw : Wf σ) {b o : Nat} {e : Option Nat} {n d : Nat} (hv : v = .slice (some ⟨b, o, e⟩) n d) : b < σ.n := by
  obtain ⟨vs, ⟨rfl, _⟩ | ⟨c, _, rfl, ho⟩, _⟩ := h
  · cases hv
  · cases hv; exact ho.lt hw
/-- A new block that is frozen. -/
theorem AccR.newf {m : Nat} {v : Value} {xss : List (List Int)} (h : AccR m σ v xss) (hw : Wf σ) (cs : List Value) : AccR m ((σ.push cs).freeze (· == σ.n)) v xss :=
  (h.push hw cs).freeze (hw.push cs) σ.n fun b o e n d hv => by have := h.lt hw hv; omega
theorem Own.newf {b : Nat} {cs : List Value} (h : Own σ b cs) (hw : Wf σ) (ds : List Value) : Own ((σ.push ds).freeze (· == σ.n)) b cs :=
  (h.push hw ds).freeze_ne (by have := h.lt hw; simp; omega)
theorem Ext.newf (h : Ext X σ s) (cs : List Value) : Ext X σ ((s.push cs).freeze (· == s.n)) :=
  (h.push cs).freeze _ fun b hb hp => absurd (show b = s.n by simpa using hp) (by have := h.n; omega)
theorem SlI.newf {cs : List Value} {xs : List Int} {n c : Nat} (hcs : cs = xs.map (Value.int .i64)) (hn : n = xs.length) (hc : n ≤ c / 2) : SlI ((σ.push cs).freeze (· == σ.n)) (.slice (some ⟨σ.n, 0, some 1⟩) n c) xs := by
  subst hn; subst hcs
  have hg : ((σ.push (xs.map (Value.int .i64))).freeze (· == σ.n)).get σ.n = some ⟨xs.map (Value.int .i64), σ.n, false⟩ := by
    rw [freeze_get, get_push_self]; simp
  exact .inr ⟨σ.n, 0, c, _, rfl, hc, hg, rfl, by simp only [St.lds, hg, Option.bind_some]; rw [if_pos (by simp), List.drop_zero, List.take_of_length_le (by simp)]⟩

/-- What has grown is done: nobody writes it any more. -/
theorem AccR.done {m : Nat} {v : Value} {xss : List (List Int)} (h : AccR m σ v xss) (hw : Wf σ) : ∃ s0, Le s0 σ ∧ SlR s0 v xss ∧ ∀ (X : Nat → Prop) (t : St), t.n ≤ m → Ext X t σ → Ext X t s0 := by
  obtain ⟨vs, ⟨rfl, rfl⟩ | ⟨b, hb, rfl, ho⟩, h2, h3⟩ := h
  · have : xss = [] := List.eq_nil_of_length_eq_zero (by simpa using h2.symm)
    subst this
    exact ⟨σ, Le.refl σ, SlR.nil σ, fun _ _ _ h => h⟩
  · have hg : (σ.freeze (· == b)).get b = some ⟨vs, b, false⟩ := by rw [freeze_get, ho.1]; simp
    have hl : Sl (σ.freeze (· == b)) 1 (.slice (some ⟨b, 0, some 1⟩) vs.length (2 * vs.length)) xss.length vs := by
      rw [h2]
      exact .inr ⟨b, 0, _, _, rfl, by omega, hg, rfl, by simp only [St.lds, hg, Option.bind_some]; rw [if_pos (by simp; omega), List.drop_zero, List.take_of_length_le (by simp; omega)]⟩
    exact ⟨σ.freeze (· == b), freeze_le _ _, ⟨vs, hl, fun i u xs a c => (h3 i u xs a c).ext ((Ext.refl (X := fun _ => True) hw).freeze _ fun _ _ _ => trivial)⟩, fun X t ht g => g.freeze _ fun c hc hp => absurd (show c = b by simpa using hp) (by omega)⟩

theorem det_cap {k : Nat} {caps : Array Value} (h : ∀ v ∈ caps.toList, Det v) : Det (.func (.func k) #[] caps) :=
  .func (fun i v hv => by simp at hv) fun i v hv => h v (by have := Array.mem_of_getElem? hv; simpa using this)
theorem flat_le {α : Type} (f : Nat → List α) {i n : Nat} (h : i ≤ n) : ((List.range i).flatMap f).length ≤ ((List.range n).flatMap f).length := by
  induction h with
  | refl => exact Nat.le_refl _
  | step _ ih =>
    rw [List.range_succ, List.flatMap_append, List.length_append]
    omega

end Go.Am
