/-
  An abstract machine for the model's code: what a walk knows of the heap: memory of one's own, piece by piece, and what nobody writes any more.
-/
import Derived.Test.YtpbnliicmccjhaaDoorAmC
namespace Go.Am
set_option linter.unusedVariables false
set_option linter.unusedSimpArgs false
variable {E : Env} {s t : St} {α β : Type}

/-- What nobody writes any more is as it was. -/
def Fz (s t : St) : Prop := ∀ b k, s.get b = some k → k.wr = false → t.get b = some k
theorem Fz.refl (s : St) : Fz s s := fun _ _ h _ => h
theorem Fz.trans {a b c : St} (h : Fz a b) (g : Fz b c) : Fz a c := fun x k e w => g x k (h x k e w) w
theorem Sl.fz {e n : Nat} {v : Value} {cs : List Value} (h : Sl s e v n cs) (g : Fz s t) : Sl t e v n cs := by
  rcases h with h | ⟨b, o, c, k, h1, h2, h3, h4, h5⟩
  · exact .inl h
  · have hk := g b k h3 h4
    refine .inr ⟨b, o, c, k, h1, h2, hk, h4, ?_⟩
    unfold St.lds at h5 ⊢
    rw [hk]; rw [h3] at h5; exact h5

/-! ### How things lie in cells -/

structure Rep (α : Type) where
  size : Nat
  pos : 0 < size
  rep : St → List Value → α → Prop
  keep : ∀ {s t : St} {vs : List Value} {a : α}, Fz s t → rep s vs a → rep t vs a
  len : ∀ {s : St} {vs : List Value} {a : α}, rep s vs a → vs.length = size
  ones : ∀ {s : St} {vs : List Value} {a : α}, rep s vs a → vs.all one = true

/-- Elements one behind the other. -/
def Rep.all (R : Rep α) (s : St) : List α → List Value → Prop
  | [], cs => cs = []
  | a :: l, cs => ∃ c d, cs = c ++ d ∧ R.rep s c a ∧ R.all s l d

theorem Rep.all_keep (R : Rep α) (g : Fz s t) : ∀ {l : List α} {cs : List Value}, R.all s l cs → R.all t l cs
  | [], _, h => h
  | _ :: _, _, ⟨c, d, e, h1, h2⟩ => ⟨c, d, e, R.keep g h1, R.all_keep g h2⟩
theorem Rep.all_len (R : Rep α) : ∀ {l : List α} {cs : List Value}, R.all s l cs → cs.length = l.length * R.size
  | [], _, h => by cases h; simp
  | a :: l, _, ⟨c, d, e, h1, h2⟩ => by subst e; rw [List.length_append, R.len h1, R.all_len h2, List.length_cons, Nat.add_mul]; omega
theorem Rep.all_ones (R : Rep α) : ∀ {l : List α} {cs : List Value}, R.all s l cs → cs.all one = true
  | [], _, h => by cases h; rfl
  | a :: l, _, ⟨c, d, e, h1, h2⟩ => by subst e; rw [List.all_append, R.ones h1, R.all_ones h2]; rfl
theorem Rep.all_app (R : Rep α) {m : List α} {ds : List Value} (h2 : R.all s m ds) : ∀ {l : List α} {cs : List Value}, R.all s l cs → R.all s (l ++ m) (cs ++ ds)
  | [], _, h => by cases h; exact h2
  | _ :: _, _, ⟨c, d, e, h1, h3⟩ => ⟨c, d ++ ds, by rw [e, List.append_assoc], h1, R.all_app h2 h3⟩
theorem Rep.all_one (R : Rep α) {a : α} {cs : List Value} (h : R.rep s cs a) : R.all s [a] cs := ⟨cs, [], by simp, h, rfl⟩
theorem Rep.all_drop (R : Rep α) : ∀ {l : List α} {cs : List Value} (i : Nat), R.all s l cs → R.all s (l.drop i) (cs.drop (i * R.size))
  | [], _, i, h => by cases h; simp [Rep.all]
  | a :: l, cs, 0, h => by simpa using h
  | a :: l, _, i + 1, ⟨c, d, e, h1, h2⟩ => by
    subst e
    have := R.all_drop i h2
    rw [List.drop_succ_cons, List.drop_append, List.drop_of_length_le (l := c) (by rw [R.len h1, Nat.add_mul]; omega), List.nil_append, R.len h1, Nat.add_mul, Nat.one_mul, Nat.add_sub_cancel]
    exact this
theorem Rep.all_take (R : Rep α) : ∀ {l : List α} {cs : List Value} (i : Nat), R.all s l cs → R.all s (l.take i) (cs.take (i * R.size))
  | [], _, i, h => by cases h; simp [Rep.all]
  | a :: l, cs, 0, h => by simp [Rep.all]
  | a :: l, _, i + 1, ⟨c, d, e, h1, h2⟩ => by
    subst e
    refine ⟨c, d.take (i * R.size), ?_, h1, R.all_take i h2⟩
    rw [List.take_append, List.take_of_length_le (by rw [R.len h1, Nat.add_mul]; omega), R.len h1, Nat.add_mul, Nat.one_mul, Nat.add_sub_cancel]
theorem Rep.all_get (R : Rep α) : ∀ {l : List α} {cs : List Value} {i : Nat} (h : i < l.length), R.all s l cs → R.rep s ((cs.drop (i * R.size)).take R.size) l[i]
  | a :: l, _, 0, _, ⟨c, d, e, h1, h2⟩ => by
    subst e
    rw [Nat.zero_mul, List.drop_zero, List.take_append_of_le_length (by rw [R.len h1]; exact Nat.le_refl _), List.take_of_length_le (by rw [R.len h1]; exact Nat.le_refl _)]
    exact h1
  | a :: l, _, i + 1, hi, ⟨c, d, e, h1, h2⟩ => by
    subst e
    have := R.all_get (i := i) (by simpa using hi) h2
    rw [List.drop_append, List.drop_of_length_le (by rw [R.len h1, Nat.add_mul]; omega), List.nil_append, R.len h1, Nat.add_mul, Nat.one_mul, Nat.add_sub_cancel]
    exact this
theorem Rep.all_set (R : Rep α) {a : α} {vs : List Value} (hv : R.rep s vs a) : ∀ {l : List α} {cs : List Value} {i : Nat}, i < l.length → R.all s l cs → R.all s (l.set i a) (cs.take (i * R.size) ++ vs ++ cs.drop (i * R.size + R.size))
  | b :: l, _, 0, _, ⟨c, d, e, h1, h2⟩ => by
    subst e
    refine ⟨vs, d, ?_, hv, h2⟩
    rw [Nat.zero_mul, List.take_zero, List.nil_append, Nat.zero_add, List.drop_append, List.drop_of_length_le (by rw [R.len h1]; exact Nat.le_refl _), R.len h1, Nat.sub_self]; simp
  | b :: l, _, i + 1, hi, ⟨c, d, e, h1, h2⟩ => by
    subst e
    refine ⟨c, d.take (i * R.size) ++ vs ++ d.drop (i * R.size + R.size), ?_, h1, R.all_set hv (by simpa using hi) h2⟩
    have e1 : (i + 1) * R.size = R.size + i * R.size := by rw [Nat.add_mul, Nat.one_mul, Nat.add_comm]
    rw [e1, List.take_append, List.drop_append, List.take_of_length_le (by rw [R.len h1]; omega), List.drop_of_length_le (by rw [R.len h1]; omega), R.len h1, List.nil_append, show R.size + i * R.size - R.size = i * R.size by omega,
      show R.size + i * R.size + R.size - R.size = i * R.size + R.size by omega]
    simp [List.append_assoc]

/-- A number. -/
def repK (k : IntKind) : Rep Int where
  size := 1
  pos := Nat.one_pos
  rep := fun _ vs n => vs = [.int k n]
  keep := fun _ h => h
  len := fun h => by rw [h]; rfl
  ones := fun h => by rw [h]; rfl
abbrev repI : Rep Int := repK .i64
theorem repK_all {k : IntKind} : ∀ {l : List Int} {cs : List Value}, (repK k).all s l cs ↔ cs = l.map (Value.int k)
  | [], cs => Iff.rfl
  | a :: l, cs => by
    constructor
    · rintro ⟨c, d, rfl, rfl, h⟩; rw [repK_all.1 h]; rfl
    · intro h; exact ⟨[.int k a], l.map (Value.int k), h, rfl, repK_all.2 rfl⟩

/-- A slice that nobody writes any more. -/
def slof (R : Rep α) (s : St) (v : Value) (l : List α) : Prop := ∃ cs, Sl s R.size v l.length cs ∧ R.all s l cs
theorem slof.fz {R : Rep α} {v : Value} {l : List α} (h : slof R s v l) (g : Fz s t) : slof R t v l := let ⟨cs, h1, h2⟩ := h; ⟨cs, h1.fz g, R.all_keep g h2⟩
theorem slof.nil (R : Rep α) (s : St) : slof R s (.slice none 0 0) [] := ⟨[], Sl.nil _ _, rfl⟩
theorem slof.vlen {R : Rep α} {v : Value} {l : List α} (h : slof R s v l) : vlen v = some l.length := let ⟨_, h1, _⟩ := h; Sl.len h1
theorem slof.one {R : Rep α} {v : Value} {l : List α} (h : slof R s v l) : Am.one v = true := let ⟨_, h1, _⟩ := h; Sl.one h1
def repS (R : Rep α) : Rep (List α) where
  size := 1
  pos := Nat.one_pos
  rep := fun s vs l => ∃ v, vs = [v] ∧ slof R s v l
  keep := fun g ⟨v, e, h⟩ => ⟨v, e, h.fz g⟩
  len := fun ⟨v, e, _⟩ => by rw [e]; rfl
  ones := fun ⟨v, e, h⟩ => by rw [e]; simp [h.one]
/-- A truth value. -/
def repB : Rep Bool where
  size := 1
  pos := Nat.one_pos
  rep := fun _ vs b => vs = [.bool b]
  keep := fun _ h => h
  len := fun h => by rw [h]; rfl
  ones := fun h => by rw [h]; rfl
/-- Two things one behind the other. -/
def repP (R : Rep α) (Q : Rep β) : Rep (α × β) where
  size := R.size + Q.size
  pos := by have := R.pos; omega
  rep := fun s vs x => ∃ c d, vs = c ++ d ∧ R.rep s c x.1 ∧ Q.rep s d x.2
  keep := fun g ⟨c, d, e, h1, h2⟩ => ⟨c, d, e, R.keep g h1, Q.keep g h2⟩
  len := fun ⟨c, d, e, h1, h2⟩ => by rw [e, List.length_append, R.len h1, Q.len h2]
  ones := fun ⟨c, d, e, h1, h2⟩ => by rw [e, List.all_append, R.ones h1, Q.ones h2]; rfl

/-! ### What is known for good -/

structure Fact where
  holds : St → Prop
  keep : ∀ {s t : St}, Fz s t → holds s → holds t
/-- A slice that reads as a list, and that nobody writes any more. -/
def frz (R : Rep α) (v : Value) (l : List α) : Fact := ⟨fun s => slof R s v l, fun g h => h.fz g⟩
/-- As 'frz', without room. -/
def frzX (R : Rep α) (v : Value) (l : List α) : Fact := ⟨fun s => slof R s v l ∧ (v = .slice none 0 0 ∨ ∃ b o, v = .slice (some ⟨b, o, some R.size⟩) l.length (2 * l.length + 1)), fun g h => ⟨h.1.fz g, h.2⟩⟩
/-- Cells that nobody writes any more. -/
def mem (b o : Nat) (vs : List Value) : Fact := ⟨fun s => ∃ k, s.get b = some k ∧ k.wr = false ∧ s.lds b o vs.length = some vs, fun g ⟨k, h1, h2, h3⟩ => ⟨k, g _ _ h1 h2, h2, by
  unfold St.lds at h3 ⊢; rw [g _ _ h1 h2]; rw [h1] at h3; exact h3⟩⟩
/-- Cells that stand for something. -/
def has (R : Rep α) (vs : List Value) (a : α) : Fact := ⟨fun s => R.rep s vs a, fun g h => R.keep g h⟩

/-! ### Memory of one's own -/

structure Res where
  holds : St → List Nat → Prop
  keep : ∀ {s t : St} {P : List Nat}, Fz s t → (∀ b ∈ P, t.get b = s.get b) → holds s P → holds t P
def pt (b : Nat) (cs : List Value) : Res := ⟨fun s P => P = [b] ∧ ∃ f, s.get b = some ⟨cs, f, true⟩, fun {s t P} _ h ⟨e, f, hf⟩ => ⟨e, f, by rw [h b (by simp [e])]; exact hf⟩⟩
/-- A slice that grows. -/
def acc (R : Rep α) (v : Value) (l : List α) : Res :=
  ⟨fun s P => (v = .slice none 0 0 ∧ l = [] ∧ P = []) ∨ ∃ b cs f, v = .slice (some ⟨b, 0, some R.size⟩) l.length (2 * l.length) ∧ P = [b] ∧ s.get b = some ⟨cs, f, true⟩ ∧ R.all s l cs,
   fun {s t P} g h => Or.imp id fun ⟨b, cs, f, h1, h2, h3, h4⟩ => ⟨b, cs, f, h1, h2, by rw [h b (by simp [h2])]; exact h3, R.all_keep g h4⟩⟩
/-- A block whose cells stand for elements. -/
def arr (R : Rep α) (b : Nat) (l : List α) : Res := ⟨fun s P => P = [b] ∧ ∃ cs f, s.get b = some ⟨cs, f, true⟩ ∧ R.all s l cs, fun {s t P} g h ⟨e, cs, f, h1, h2⟩ => ⟨e, cs, f, by rw [h b (by simp [e])]; exact h1, R.all_keep g h2⟩⟩

/-- Nobody else knows these blocks, which may be written. -/
def Priv (s : St) (P : List Nat) : Prop := ∀ b ∈ P, ∃ k, s.get b = some k ∧ k.wr = true ∧ ∀ x j, s.get x = some j → x ∉ P → j.fam ≠ k.fam
def Seps (s : St) : List Res → List Nat → Prop
  | [], P => P = []
  | r :: L, P => ∃ A B, r.holds s A ∧ Priv s A ∧ Seps s L B ∧ P = A ++ B
structure Sep (s : St) (L : List Res) (F : List Fact) : Prop where
  wf : Wf s
  sep : ∃ P, Seps s L P ∧ P.Nodup
  fro : ∀ f ∈ F, f.holds s

variable {L L' : List Res} {F F' : List Fact} {r r' : Res}

theorem Seps.perm {L L' : List Res} (h : L.Perm L') : ∀ P, Seps s L P → ∃ P', Seps s L' P' ∧ P.Perm P' := by
  induction h with
  | nil => exact fun P h => ⟨P, h, .refl _⟩
  | cons x _ ih => rintro P ⟨A, B, h1, h2, h3, rfl⟩; obtain ⟨B', h4, h5⟩ := ih B h3; exact ⟨A ++ B', ⟨A, B', h1, h2, h4, rfl⟩, h5.append_left A⟩
  | swap x y l =>
    rintro P ⟨A, B, h1, h2, ⟨C, D, h3, h4, h5, rfl⟩, rfl⟩
    refine ⟨C ++ (A ++ D), ⟨C, A ++ D, h3, h4, ⟨A, D, h1, h2, h5, rfl⟩, rfl⟩, ?_⟩
    rw [← List.append_assoc, ← List.append_assoc]
    exact List.perm_append_comm.append_right D
  | trans _ _ ih1 ih2 => intro P h; obtain ⟨P1, h1, p1⟩ := ih1 P h; obtain ⟨P2, h2, p2⟩ := ih2 P1 h1; exact ⟨P2, h2, p1.trans p2⟩
theorem Sep.perm (h : Sep s L F) (p : L.Perm L') : Sep s L' F := by
  obtain ⟨P, h1, h2⟩ := h.sep
  obtain ⟨P', h3, h4⟩ := Seps.perm p P h1
  exact ⟨h.wf, ⟨P', h3, (h4.nodup_iff).1 h2⟩, h.fro⟩
theorem Sep.nil (h : Wf s) : Sep s [] [] := ⟨h, ⟨[], rfl, List.nodup_nil⟩, by simp⟩
theorem Sep.facts (h : Sep s L F) (g : ∀ f ∈ F', f.holds s) : Sep s L F' := ⟨h.wf, h.sep, g⟩
theorem Sep.add (h : Sep s L F) {f : Fact} (g : f.holds s) : Sep s L (f :: F) := ⟨h.wf, h.sep, fun x hx => by
  rcases List.mem_cons.1 hx with rfl | hx
  · exact g
  · exact h.fro x hx⟩
theorem Sep.drop1 (h : Sep s (r :: L) F) : Sep s L F := by
  obtain ⟨P, ⟨A, B, h1, h2, h3, rfl⟩, h4⟩ := h.sep
  exact ⟨h.wf, ⟨B, h3, (List.nodup_append.1 h4).2.1⟩, h.fro⟩

/-- One of the pieces at the head. -/
def atHead (L : List Res) (i : Nat) : List Res := match L[i]? with
  | some r => r :: L.eraseIdx i
  | none => L
theorem head_perm : ∀ (L : List Res) (i : Nat), L.Perm (atHead L i)
  | [], i => by simp [atHead]
  | r :: L, 0 => by simp [atHead]
  | r :: L, i + 1 => by
    have ih := head_perm L i
    simp only [atHead, List.getElem?_cons_succ, List.eraseIdx_cons_succ] at ih ⊢
    cases hi : L[i]? with
    | none => exact List.Perm.refl _
    | some q => rw [hi] at ih; exact (ih.cons r).trans (.swap _ _ _)
theorem head_of {i : Nat} (hi : L[i]? = some r) : atHead L i = r :: L.eraseIdx i := by simp [atHead, hi]
theorem set_perm {i : Nat} (hi : L[i]? = some r) (r' : Res) : (r' :: L.eraseIdx i).Perm (L.set i r') := by
  have h1 : (L.set i r')[i]? = some r' := by
    rw [List.getElem?_set_self (List.getElem?_eq_some_iff.1 hi).1]
  have h2 := head_perm (L.set i r') i
  rw [head_of h1] at h2
  have h3 : (L.set i r').eraseIdx i = L.eraseIdx i := List.eraseIdx_set_eq
  rw [h3] at h2
  exact h2.symm
theorem Sep.front (h : Sep s L F) (i : Nat) : Sep s (atHead L i) F := h.perm (head_perm L i)
theorem Sep.at (h : Sep s L F) {i : Nat} (hi : L[i]? = some r) : Sep s (r :: L.eraseIdx i) F := by have := h.front i; rwa [head_of hi] at this
theorem Sep.drop (h : Sep s L F) {i : Nat} (hi : L[i]? = some r) : Sep s (L.eraseIdx i) F := (h.at hi).drop1
theorem Sep.put (i : Nat) (hi : L[i]? = some r) (h : Sep s (r' :: L.eraseIdx i) F) : Sep s (L.set i r') F := h.perm (set_perm hi r')

theorem Seps.keep {P : List Nat} (g : Fz s t) (hb : ∀ b ∈ P, t.get b = s.get b) (hf : ∀ x j, t.get x = some j → x ∉ P → s.get x = some j ∨ (∀ b ∈ P, ∀ k, s.get b = some k → j.fam ≠ k.fam)) :
    ∀ {L : List Res} {Q : List Nat}, (∀ b ∈ Q, b ∈ P) → Seps s L Q → Seps t L Q
  | [], _, _, h => h
  | r :: L, _, hq, ⟨A, B, h1, h2, h3, e⟩ => by
    subst e
    refine ⟨A, B, r.keep g (fun b hb' => hb b (hq b (by simp [hb']))) h1, fun b hb' => ?_, Seps.keep g hb hf (fun b hb' => hq b (by simp [hb'])) h3, rfl⟩
    have hbP := hq b (by simp [hb'])
    obtain ⟨k, k1, k2, k3⟩ := h2 b hb'
    refine ⟨k, by rw [hb b hbP]; exact k1, k2, fun x j hx hxA => ?_⟩
    by_cases hxP : x ∈ P
    · rw [hb x hxP] at hx; exact k3 x j hx hxA
    · rcases hf x j hx hxP with h0 | h0
      · exact k3 x j h0 hxA
      · exact h0 b hbP k k1

/-- The first piece changes, or new blocks come. -/
theorem Sep.upd (h : Sep s (r :: L) F) (wt : Wf t) (g : Fz s t) (hn : ∀ (A : List Nat), r.holds s A → Priv s A → ∃ A', r'.holds t A' ∧ Priv t A' ∧ A'.Nodup ∧ (∀ b ∈ A', b ∈ A ∨ s.n ≤ b) ∧
    (∀ b, b < s.n → b ∉ A → t.get b = s.get b) ∧ (∀ x j, t.get x = some j → (x < s.n ∧ x ∉ A) ∨ s.n ≤ j.fam ∨ ∃ y ∈ A, ∃ k, s.get y = some k ∧ k.fam = j.fam)) : Sep t (r' :: L) F := by
  obtain ⟨P, ⟨A, B, h1, h2, h3, rfl⟩, h4⟩ := h.sep
  obtain ⟨A', a1, a2, a3, a4, a5, a6⟩ := hn A h1 h2
  obtain ⟨nA, nB, nAB⟩ := List.nodup_append.1 h4
  have ltB : ∀ {L : List Res} {Q : List Nat}, Seps s L Q → ∀ b ∈ Q, ∃ k, s.get b = some k ∧ b < s.n ∧ k.wr = true := by
    intro L
    induction L with
    | nil => intro Q e b hb; cases e; simp at hb
    | cons q L ih =>
      rintro Q ⟨A, B, q1, q2, q3, rfl⟩ b hb
      rcases List.mem_append.1 hb with hb | hb
      · obtain ⟨k, k1, k2, _⟩ := q2 b hb; exact ⟨k, k1, (h.wf b k k1).1, k2⟩
      · exact ih q3 b hb
  have hbB : ∀ b ∈ B, t.get b = s.get b := fun b hb => by
    obtain ⟨k, _, k2, _⟩ := ltB h3 b hb
    exact a5 b k2 fun hbA => nAB b hbA b hb rfl
  have famB : ∀ {L : List Res} {Q : List Nat}, Seps s L Q → ∀ b ∈ Q, ∀ k, s.get b = some k → ∀ y j, s.get y = some j → y ∉ Q → j.fam ≠ k.fam := by
    intro L
    induction L with
    | nil => intro Q e b hb; cases e; simp at hb
    | cons q L ih =>
      rintro Q ⟨A, B, q1, q2, q3, rfl⟩ b hb k hk y j hy hyQ
      simp only [List.mem_append, not_or] at hyQ
      rcases List.mem_append.1 hb with hb | hb
      · obtain ⟨k', k1, _, k3⟩ := q2 b hb; rw [hk] at k1; cases k1; exact k3 y j hy hyQ.1
      · exact ih q3 b hb k hk y j hy hyQ.2
  refine ⟨wt, ⟨A' ++ B, ⟨A', B, a1, a2, Seps.keep (P := B) g hbB (fun x j hx hxB => ?_) (fun b hb => hb) h3, rfl⟩, ?_⟩, fun f hf => f.keep g (h.fro f hf)⟩
  · rcases a6 x j hx with ⟨hlt, hxA⟩ | h0 | ⟨y, hy, k, k1, k2⟩
    · exact .inl (by rw [← a5 x hlt hxA]; exact hx)
    · exact .inr fun b hb k hk => by have := (h.wf b k hk).2; omega
    · exact .inr fun b hb k' hk' => by rw [← k2]; exact famB h3 b hb k' hk' y k k1 fun hyB => nAB y hy y hyB rfl
  · refine List.nodup_append.2 ⟨a3, nB, fun b hb c hc e => ?_⟩
    subst e
    rcases a4 b hb with hbA | hbn
    · exact nAB b hbA b hc rfl
    · obtain ⟨k, _, k2, _⟩ := ltB h3 b hc
      omega

end Go.Am
