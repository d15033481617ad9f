/-
  Plain mathematics: Rado's theorem for a submodular function, and Hall's theorem out of it. No program here.
-/
import Derived.WalkKit
namespace Go.Am
set_option linter.unusedVariables false
set_option linter.unusedSimpArgs false

def card (n : Nat) (J : Nat → Bool) : Nat := ((List.range n).filter J).length
/-- What some of the sets hold together. -/
def un (n : Nat) (A : Nat → Nat → Bool) (J : Nat → Bool) (x : Nat) : Bool := (List.range n).any fun i => J i && A i x
theorem un_iff {n : Nat} {A : Nat → Nat → Bool} {J : Nat → Bool} {x : Nat} : un n A J x = true ↔ ∃ i, i < n ∧ J i = true ∧ A i x = true := by simp [un]

theorem card_mono {n : Nat} {J K : Nat → Bool} (h : ∀ i, i < n → J i = true → K i = true) : card n J ≤ card n K := by
  induction n with
  | zero => simp [card]
  | succ n ih =>
    have ih := ih fun i hi => h i (by omega)
    simp only [card, List.range_succ, List.filter_append, List.length_append, List.filter_cons, List.filter_nil] at ih ⊢
    have := h n (by omega)
    cases hJ : J n <;> cases hK : K n <;> simp [hJ, hK] at this ⊢ <;> omega
theorem card_congr {n : Nat} {J K : Nat → Bool} (h : ∀ i, i < n → J i = K i) : card n J = card n K :=
  Nat.le_antisymm (card_mono fun i hi e => by rw [← h i hi]; exact e) (card_mono fun i hi e => by rw [h i hi]; exact e)
theorem card_or_and (n : Nat) (J K : Nat → Bool) : card n (fun i => J i || K i) + card n (fun i => J i && K i) = card n J + card n K := by
  induction n with
  | zero => simp [card]
  | succ n ih =>
    simp only [card, List.range_succ, List.filter_append, List.length_append, List.filter_cons, List.filter_nil] at ih ⊢
    cases hJ : J n <;> cases hK : K n <;> simp <;> omega
theorem card_none (n : Nat) : card n (fun _ => false) = 0 := by simp [card]
theorem card_all (n : Nat) : card n (fun _ => true) = n := by
  rw [card, List.filter_eq_self.2 (by simp), List.length_range]
/-- One element less. -/
theorem card_less {n : Nat} {J : Nat → Bool} {i : Nat} (hi : i < n) (hJ : J i = true) : card n (fun j => J j && j != i) + 1 = card n J := by
  induction n with
  | zero => omega
  | succ n ih =>
    simp only [card, List.range_succ, List.filter_append, List.length_append, List.filter_cons, List.filter_nil] at ih ⊢
    by_cases hin : i = n
    · subst hin
      have e : card i (fun j => J j && j != i) = card i J := card_congr fun j hj => by
        have : (j != i) = true := by simp; omega
        rw [this, Bool.and_true]
      simp only [card] at e
      rw [e]
      simp [hJ]
    · have h1 := ih (by omega)
      have : (n != i) = true := by simp; omega
      rw [this, Bool.and_true]
      cases hn : J n <;> simp <;> omega
theorem card_one {n i : Nat} (hi : i < n) : card n (fun j => j == i) = 1 := by
  have h := card_less (n := n) (J := fun j => j == i) hi (by simp)
  have e : card n (fun j => (j == i) && j != i) = 0 := by
    rw [← card_none n]
    exact card_congr fun j _ => by cases hji : (j == i) <;> simp [bne, hji]
  omega
theorem card_pos {n : Nat} {J : Nat → Bool} (h : 0 < card n J) : ∃ i, i < n ∧ J i = true := by
  obtain ⟨i, hi⟩ := List.exists_mem_of_length_pos h
  rw [List.mem_filter, List.mem_range] at hi
  exact ⟨i, hi⟩
theorem card_le (n : Nat) (J : Nat → Bool) : card n J ≤ n := by
  have := List.length_filter_le J (List.range n)
  simpa [card] using this

structure Rank (r : (Nat → Bool) → Nat) : Prop where
  zero : r (fun _ => false) = 0
  mono : ∀ p q : Nat → Bool, (∀ x, p x = true → q x = true) → r p ≤ r q
  sub : ∀ p q : Nat → Bool, r (fun x => p x || q x) + r (fun x => p x && q x) ≤ r p + r q

theorem rank_card (m : Nat) : Rank (card m) := ⟨card_none m, fun _ _ h => card_mono fun i _ => h i, fun p q => Nat.le_of_eq (card_or_and m p q)⟩

/-- One element is taken out of one of the sets. -/
def without (A : Nat → Nat → Bool) (i x : Nat) (j y : Nat) : Bool := A j y && !(j == i && y == x)

def sizes2 (n m : Nat) (A : Nat → Nat → Bool) : Nat := ((List.range n).map fun i => card m (A i)).sum
theorem sizes2_less {n m : Nat} {A : Nat → Nat → Bool} {i x : Nat} (hi : i < n) (hx : x < m) (h : A i x = true) : sizes2 n m (without A i x) < sizes2 n m A := by
  induction n with
  | zero => omega
  | succ n ih =>
    simp only [sizes2, List.range_succ, List.map_append, List.sum_append, List.map_cons, List.map_nil, List.sum_cons, List.sum_nil] at ih ⊢
    by_cases hin : i = n
    · subst hin
      have e1 : (List.range i).map (fun j => card m (without A i x j)) = (List.range i).map fun j => card m (A j) := List.map_congr_left fun j hj => card_congr fun y _ => by
        have : (j == i) = false := by have := List.mem_range.1 hj; simp; omega
        simp [without, this]
      have e2 := card_less hx h
      have e3 : card m (without A i x i) = card m (fun y => A i y && y != x) := card_congr fun y _ => by simp [without, bne]
      rw [e1, e3]
      omega
    · have e3 : card m (without A i x n) = card m (A n) := card_congr fun y _ => by
        have : (n == i) = false := by simp; omega
        simp [without, this]
      have := ih (by omega)
      rw [e3]
      omega

/-- RADO's THEOREM, for a function that is monotone and submodular: sets of which any so many hold enough have an element each of which the same is true. -/
theorem rado {r : (Nat → Bool) → Nat} (hr : Rank r) (n m : Nat) : ∀ (N : Nat) (A : Nat → Nat → Bool), sizes2 n m A ≤ N → (∀ i x, A i x = true → x < m) → (∀ J, card n J ≤ r (un n A J)) →
    ∃ f : Nat → Nat, (∀ i, i < n → A i (f i) = true) ∧ ∀ J, card n J ≤ r (un n (fun i x => x == f i) J) := by
  intro N
  induction N with
  | zero =>
    intro A hN hm hH
    -- all sets are empty: there are none
    have hn : n = 0 := by
      rcases Nat.eq_zero_or_pos n with h | h
      · exact h
      · exfalso
        have h1 := hH fun j => j == 0
        rw [card_one h] at h1
        have h2 : ∀ x, un n A (fun j => j == 0) x = false := fun x => by
          cases hx : un n A (fun j => j == 0) x with
          | false => rfl
          | true =>
            obtain ⟨i, hi, _, hA⟩ := un_iff.1 hx
            have := sizes2_less hi (hm i x hA) hA
            omega
        have h3 : un n A (fun j => j == 0) = fun _ => false := funext h2
        rw [h3, hr.zero] at h1
        omega
    subst hn
    exact ⟨fun _ => 0, fun i hi => by omega, fun J => by simp [card]⟩
  | succ N ih =>
    intro A hN hm hH
    by_cases hb : ∃ i x y, i < n ∧ A i x = true ∧ A i y = true ∧ x ≠ y
    · obtain ⟨i, x, y, hi, hx, hy, hxy⟩ := hb
      have step : ∀ z, A i z = true → (∀ J, card n J ≤ r (un n (without A i z) J)) → ∃ f : Nat → Nat, (∀ i, i < n → A i (f i) = true) ∧ ∀ J, card n J ≤ r (un n (fun i x => x == f i) J) := fun z hz hHz => by
        obtain ⟨f, h1, h2⟩ := ih (without A i z) (by have := sizes2_less hi (hm i z hz) hz; omega) (fun j w h => hm j w (by simp [without] at h; exact h.1)) hHz
        exact ⟨f, fun j hj => by have := h1 j hj; simp only [without, Bool.and_eq_true] at this; exact this.1, h2⟩
      by_cases h1 : ∀ J, card n J ≤ r (un n (without A i x) J)
      · exact step x hx h1
      · by_cases h2 : ∀ J, card n J ≤ r (un n (without A i y) J)
        · exact step y hy h2
        · exfalso
          simp only [Classical.not_forall, Nat.not_le] at h1 h2
          obtain ⟨J, hJ⟩ := h1
          obtain ⟨K, hK⟩ := h2
          -- both hold the set in question
          have same : ∀ (z : Nat) (M : Nat → Bool), M i = false → ∀ w, un n (without A i z) M w = un n A M w := fun z M hM w => by
            rw [Bool.eq_iff_iff, un_iff, un_iff]
            constructor
            · rintro ⟨j, hj, hMj, hA⟩; simp only [without, Bool.and_eq_true] at hA; exact ⟨j, hj, hMj, hA.1⟩
            · rintro ⟨j, hj, hMj, hA⟩
              have : (j == i) = false := by
                cases hji : (j == i) with
                | false => rfl
                | true => rw [beq_iff_eq] at hji; subst hji; rw [hM] at hMj; cases hMj
              exact ⟨j, hj, hMj, by simp [without, hA, this]⟩
          have hJi : J i = true := by
            cases h : J i with
            | true => rfl
            | false => have := hH J; rw [← funext (same x J h)] at this; omega
          have hKi : K i = true := by
            cases h : K i with
            | true => rfl
            | false => have := hH K; rw [← funext (same y K h)] at this; omega
          have u1 : r (un n A fun j => J j || K j) ≤ r (fun w => un n (without A i x) J w || un n (without A i y) K w) := hr.mono _ _ fun w hw => by
            obtain ⟨j, hj, hjk, hA⟩ := un_iff.1 hw
            rw [Bool.or_eq_true, un_iff, un_iff]
            by_cases hji : j = i
            · subst hji
              by_cases hwx : w = x
              · subst hwx
                exact .inr ⟨j, hj, hKi, by simp [without, hA, hxy]⟩
              · exact .inl ⟨j, hj, hJi, by simp [without, hA, hwx]⟩
            · rcases Bool.or_eq_true _ _ ▸ hjk with h | h
              · exact .inl ⟨j, hj, h, by simp [without, hA, hji]⟩
              · exact .inr ⟨j, hj, h, by simp [without, hA, hji]⟩
          have u2 : r (un n A fun j => (J j && K j) && j != i) ≤ r (fun w => un n (without A i x) J w && un n (without A i y) K w) := hr.mono _ _ fun w hw => by
            obtain ⟨j, hj, hjk, hA⟩ := un_iff.1 hw
            simp only [Bool.and_eq_true, bne_iff_ne, ne_eq] at hjk
            rw [Bool.and_eq_true, un_iff, un_iff]
            exact ⟨⟨j, hj, hjk.1.1, by simp [without, hA, hjk.2]⟩, ⟨j, hj, hjk.1.2, by simp [without, hA, hjk.2]⟩⟩
          have s1 := hr.sub (un n (without A i x) J) (un n (without A i y) K)
          have s2 := hH fun j => J j || K j
          have s3 := hH fun j => (J j && K j) && j != i
          have s4 := card_or_and n J K
          have s5 := card_less (n := n) (J := fun j => J j && K j) hi (by simp [hJi, hKi])
          omega
    · -- each set has one element
      have hex : ∀ i, i < n → ∃ x, A i x = true := fun i hi => by
        have h1 := hH fun j => j == i
        rw [card_one hi] at h1
        apply Classical.byContradiction
        intro hno
        have h2 : un n A (fun j => j == i) = fun _ => false := funext fun x => by
          cases hx : un n A (fun j => j == i) x with
          | false => rfl
          | true =>
            obtain ⟨j, _, hji, hA⟩ := un_iff.1 hx
            rw [beq_iff_eq] at hji
            subst hji
            exact absurd ⟨x, hA⟩ hno
        rw [h2, hr.zero] at h1
        omega
      refine ⟨fun i => if h : i < n then Classical.choose (hex i h) else 0, fun i hi => ?_, fun J => ?_⟩
      · show A i (dite (i < n) _ _) = true
        rw [dif_pos hi]; exact Classical.choose_spec (hex i hi)
      · refine Nat.le_trans (hH J) (hr.mono _ _ fun x hx => ?_)
        obtain ⟨i, hi, hJ, hA⟩ := un_iff.1 hx
        refine un_iff.2 ⟨i, hi, hJ, ?_⟩
        show (x == dite (i < n) _ _) = true
        rw [dif_pos hi, beq_iff_eq]
        apply Classical.byContradiction
        intro hne
        exact hb ⟨i, _, _, hi, hA, Classical.choose_spec (hex i hi), hne⟩

/-- HALL's THEOREM. -/
theorem hall (n m : Nat) (A : Nat → Nat → Bool) (hm : ∀ i x, A i x = true → x < m) (hH : ∀ J, card n J ≤ card m (un n A J)) :
    ∃ f : Nat → Nat, (∀ i, i < n → A i (f i) = true) ∧ ∀ i j, i < n → j < n → f i = f j → i = j := by
  obtain ⟨f, h1, h2⟩ := rado (rank_card m) n m _ A (Nat.le_refl _) hm hH
  refine ⟨f, h1, fun i j hi hj he => ?_⟩
  apply Classical.byContradiction
  intro hne
  have h3 := h2 fun k => k == i || k == j
  have h4 := card_or_and n (fun k => k == i) (fun k => k == j)
  rw [card_one hi, card_one hj] at h4
  have h5 : card n (fun k => (k == i) && (k == j)) = 0 := by
    rw [← card_none n]
    exact card_congr fun k _ => by
      cases hki : (k == i) with
      | false => rfl
      | true => rw [beq_iff_eq] at hki; subst hki; simp [hne]
  have h6 : card m (un n (fun i x => x == f i) fun k => k == i || k == j) ≤ card m (fun x => x == f i) := card_mono fun x _ hx => by
    obtain ⟨k, _, hk, hxk⟩ := un_iff.1 hx
    rw [Bool.or_eq_true, beq_iff_eq, beq_iff_eq] at hk
    rw [beq_iff_eq] at hxk ⊢
    rcases hk with rfl | rfl
    · exact hxk
    · rw [hxk, he]
  have h7 := card_one (hm i _ (h1 i hi))
  omega

end Go.Am
