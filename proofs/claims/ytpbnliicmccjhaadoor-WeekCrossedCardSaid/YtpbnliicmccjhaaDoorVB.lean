/-
  The week's plain law, part 3: a plan that is not full has a row that fits (by Hall's theorem).
-/
import Derived.Test.YtpbnliicmccjhaaDoorV9
import Derived.Test.YtpbnliicmccjhaaDoorMaR
namespace Go.Am
set_option linter.unusedVariables false
set_option linter.unusedSimpArgs false

theorem errRow_iff (n : Nat) (P : List (List Int)) : ∀ (l r : List Int), errRow n P r l = 0 ↔ (∀ x ∈ l, 0 ≤ x ∧ x < n) ∧ (∀ (j : Nat) (x : Int), l[j]? = some x → x ∉ r ++ l.take j) ∧ ∀ (j : Nat) (x : Int), l[j]? = some x → met P (r.length + j) x = false
  | [], r => by simp [errRow]
  | x :: l, r => by
    simp only [errRow]
    by_cases h1 : x < 0 ∨ (n : Int) ≤ x
    · rw [if_pos h1]
      constructor
      · intro h; simp at h
      · rintro ⟨h, _⟩; have := h x (by simp); omega
    · rw [if_neg h1]
      by_cases h2 : x ∈ r
      · rw [if_pos h2]
        constructor
        · intro h; simp at h
        · rintro ⟨_, h, _⟩; exact absurd (by simpa using h2) (h 0 x rfl)
      · rw [if_neg h2]
        by_cases h3 : met P r.length x = true
        · rw [if_pos h3]
          constructor
          · intro h; simp at h
          · rintro ⟨_, _, h⟩; have := h 0 x rfl; simp [h3] at this
        · rw [if_neg h3, errRow_iff n P l (r ++ [x])]
          constructor
          · rintro ⟨a, b, c⟩
            refine ⟨fun y hy => ?_, fun j y hy => ?_, fun j y hy => ?_⟩
            · rcases List.mem_cons.1 hy with rfl | hy
              · omega
              · exact a y hy
            · cases j with
              | zero => simp at hy; subst hy; simpa using h2
              | succ j => have := b j y (by simpa using hy); simpa [List.append_assoc] using this
            · cases j with
              | zero => simp at hy; subst hy; simpa using h3
              | succ j =>
                have := c j y (by simpa using hy)
                rw [List.length_append, List.length_singleton] at this
                rw [show r.length + (j + 1) = r.length + 1 + j by omega]; exact this
          · rintro ⟨a, b, c⟩
            refine ⟨fun y hy => a y (by simp [hy]), fun j y hy => ?_, fun j y hy => ?_⟩
            · have := b (j + 1) y (by simpa using hy)
              simpa [List.append_assoc] using this
            · have := c (j + 1) y (by simpa using hy)
              rw [List.length_append, List.length_singleton, show r.length + 1 + j = r.length + (j + 1) by omega]; exact this

/-- A row that fits a plan. -/
structure Fits (n : Nat) (P : List (List Int)) (l : List Int) : Prop where
  len : l.length = n
  rng : ∀ x ∈ l, 0 ≤ x ∧ x < n
  nd : l.Nodup
  col : ∀ (d : Nat) (x : Int), l[d]? = some x → met P d x = false

theorem nodup_iff {l : List Int} : (∀ (j : Nat) (x : Int), l[j]? = some x → x ∉ l.take j) ↔ l.Nodup := by
  induction l with
  | nil => simp
  | cons y l ih =>
    rw [List.nodup_cons, ← ih]
    constructor
    · intro h
      refine ⟨fun hy => ?_, fun j x hx hm => ?_⟩
      · obtain ⟨j, hj⟩ := List.getElem?_of_mem hy
        exact h (j + 1) y (by simpa using hj) (by simp)
      · exact h (j + 1) x (by simpa using hx) (by simp [hm])
    · rintro ⟨h1, h2⟩ j x hx hm
      cases j with
      | zero => simp at hm
      | succ j =>
        simp only [List.getElem?_cons_succ] at hx
        simp only [List.take_succ_cons, List.mem_cons] at hm
        rcases hm with rfl | hm
        · exact h1 (List.mem_of_getElem? hx)
        · exact h2 j x hx hm
theorem fits_iff {n : Nat} {P : List (List Int)} {l : List Int} (hl : l.length = n) : errRow n P [] l = 0 ↔ Fits n P l := by
  rw [errRow_iff]
  simp only [List.nil_append, List.length_nil, Nat.zero_add, nodup_iff]
  exact ⟨fun ⟨a, b, c⟩ => ⟨hl, a, b, c⟩, fun h => ⟨h.rng, h.nd, h.col⟩⟩
theorem mem_fit (n : Nat) (P : List (List Int)) : ∀ (k : Nat) (r t : List Int), t.length = k → errRow n P r t = 0 → r ++ t ∈ fitS n P k r
  | 0, r, t, h, _ => by have : t = [] := List.eq_nil_of_length_eq_zero h; subst this; simp [fitS]
  | k + 1, r, [], h, _ => by simp at h
  | k + 1, r, x :: t, h, he => by
    simp only [errRow] at he
    split at he
    · simp at he
    · split at he
      · simp at he
      · split at he
        · simp at he
        · rename_i h1 h2 h3
          have ih := mem_fit n P k (r ++ [x]) t (by simpa using h) he
          simp only [fitS, List.mem_flatMap, List.mem_range]
          refine ⟨x.toNat, by omega, ?_⟩
          have hx : ((x.toNat : Nat) : Int) = x := by omega
          rw [hx, clash_eq, if_neg (by simp [h2, h3])]
          simpa [List.append_assoc] using ih
theorem fit_iff {n : Nat} {P : List (List Int)} {l : List Int} : l ∈ fitS n P n [] ↔ Fits n P l := by
  constructor
  · intro h
    obtain ⟨t, e, h1, h2⟩ := fit_row n P n [] l h
    simp only [List.nil_append] at e
    subst e
    exact (fits_iff h1).1 h2
  · intro h
    have := mem_fit n P n [] l h.len ((fits_iff h.len).2 h)
    simpa using this

theorem good_app {n : Nat} {P : List (List Int)} {l : List Int} : Good n (P ++ [l]) ↔ P.length < n ∧ Good n P ∧ Fits n P l := by
  unfold Good
  rw [errRows_app, List.length_append, List.length_singleton]
  by_cases h : errRows n n [] P = 0
  · rw [if_pos h]
    simp only [errRows, List.nil_append]
    by_cases h1 : (l.length : Int) ≠ n ∨ (n : Int) < n
    · rw [if_pos h1]
      constructor
      · rintro ⟨_, h2⟩; simp at h2
      · rintro ⟨_, _, h2⟩; have := h2.len; omega
    · rw [if_neg h1]
      have hl : l.length = n := by omega
      rw [← fits_iff hl]
      by_cases h2 : errRow n P [] l = 0
      · rw [if_pos h2]; exact ⟨fun ⟨a, _⟩ => ⟨by omega, ⟨by omega, h⟩, h2⟩, fun ⟨a, _, _⟩ => ⟨by omega, rfl⟩⟩
      · rw [if_neg h2]; exact ⟨fun ⟨_, b⟩ => absurd b h2, fun ⟨_, _, b⟩ => absurd b h2⟩
  · rw [if_neg h]; exact ⟨fun ⟨_, b⟩ => absurd b h, fun ⟨_, ⟨_, b⟩, _⟩ => absurd b h⟩

/-! ### Counting -/

def sumf (n : Nat) (f : Nat → Nat) : Nat := ((List.range n).map f).sum
theorem sumf_succ (n : Nat) (f : Nat → Nat) : sumf (n + 1) f = sumf n f + f n := by simp [sumf, List.range_succ]
theorem sumf_le {n : Nat} {f g : Nat → Nat} (h : ∀ i, i < n → f i ≤ g i) : sumf n f ≤ sumf n g := by
  induction n with
  | zero => simp [sumf]
  | succ n ih => rw [sumf_succ, sumf_succ]; have := ih fun i hi => h i (by omega); have := h n (by omega); omega
theorem sumf_add (n : Nat) (f g : Nat → Nat) : sumf n (fun i => f i + g i) = sumf n f + sumf n g := by
  induction n with
  | zero => simp [sumf]
  | succ n ih => rw [sumf_succ, sumf_succ, sumf_succ, ih]; omega
theorem card_succ (n : Nat) (J : Nat → Bool) : card (n + 1) J = card n J + if J n then 1 else 0 := by
  simp only [card, List.range_succ, List.filter_append, List.length_append, List.filter_cons, List.filter_nil]
  cases J n <;> simp
theorem sumf_if (n c : Nat) (J : Nat → Bool) : sumf n (fun i => if J i then c else 0) = c * card n J := by
  induction n with
  | zero => simp [sumf, card]
  | succ n ih => rw [sumf_succ, ih, card_succ, Nat.mul_add]; cases J n <;> simp
theorem card_sum (n : Nat) (J : Nat → Bool) : card n J = sumf n fun i => if J i then 1 else 0 := by rw [sumf_if, Nat.one_mul]
theorem dbl (m : Nat) (B : Nat → Nat → Bool) : ∀ n, sumf n (fun i => card m (B i)) = sumf m fun x => card n fun i => B i x
  | 0 => by
    have : (fun x : Nat => card 0 fun i => B i x) = fun _ => 0 := rfl
    rw [this]
    induction m with
    | zero => rfl
    | succ m ih => rw [sumf_succ, ← ih]; rfl
  | n + 1 => by
    rw [sumf_succ, dbl m B n]
    have : (fun x => card (n + 1) fun i => B i x) = fun x => card n (fun i => B i x) + if B n x then 1 else 0 := funext fun x => card_succ n _
    rw [this, sumf_add, ← card_sum]

theorem card_not (n : Nat) (J : Nat → Bool) : card n (fun i => !J i) + card n J = n := by
  induction n with
  | zero => simp [card]
  | succ n ih => rw [card_succ, card_succ]; cases J n <;> simp <;> omega
theorem card_full {n : Nat} {J : Nat → Bool} (h : n ≤ card n J) {i : Nat} (hi : i < n) : J i = true := by
  cases hJ : J i with
  | true => rfl
  | false =>
    have h1 := card_not n J
    have h2 := card_less (n := n) (J := fun i => !J i) hi (by simp [hJ])
    omega
/-- At most one street is met by a row on a day. -/
theorem row_one (n : Nat) (r : List Int) (d : Nat) : card n (fun s => decide (r[d]? = some (s : Int))) ≤ 1 := by
  cases h : r[d]? with
  | none => simp [card_none]
  | some x =>
    by_cases hx : ∃ s : Nat, s < n ∧ x = s
    · obtain ⟨s, hs, rfl⟩ := hx
      rw [← card_one hs]
      exact card_mono fun i _ hi => by simp at hi ⊢; omega
    · have : card n (fun s => decide (some x = some (s : Int))) = card n fun _ => false := card_congr fun i hi => by
        cases hd : decide (some x = some (i : Int)) with
        | false => rfl
        | true => simp at hd; exact absurd ⟨i, hi, hd⟩ hx
      rw [this, card_none]; omega
theorem met_day (n d : Nat) : ∀ P : List (List Int), card n (fun s => met P d s) ≤ P.length
  | [] => by simp [met, card_none]
  | r :: P => by
    have h1 := row_one n r d
    have h2 := met_day n d P
    have h3 := card_or_and n (fun s => decide (r[d]? = some (s : Int))) (fun s => met P d s)
    have h4 : card n (fun s => met (r :: P) d s) = card n (fun s => decide (r[d]? = some (s : Int)) || met P d s) := card_congr fun s _ => by simp [met]
    rw [h4, List.length_cons]
    omega
theorem mem_count (n : Nat) : ∀ l : List Int, l.Nodup → (∀ x ∈ l, 0 ≤ x ∧ x < n) → l.length ≤ card n fun s => decide ((s : Int) ∈ l)
  | [], _, _ => by simp
  | x :: l, hn, hr => by
    obtain ⟨h1, h2⟩ := List.nodup_cons.1 hn
    have ih := mem_count n l h2 fun y hy => hr y (by simp [hy])
    have hx := hr x (by simp)
    have h3 := card_or_and n (fun s => s == x.toNat) (fun s => decide ((s : Int) ∈ l))
    rw [card_one (by omega)] at h3
    have h4 : card n (fun s => (s == x.toNat) && decide ((s : Int) ∈ l)) = 0 := by
      rw [← card_none n]
      refine card_congr fun s _ => ?_
      cases hs : (s == x.toNat) with
      | false => rfl
      | true =>
        rw [beq_iff_eq] at hs
        subst hs
        have : ((x.toNat : Nat) : Int) = x := by omega
        simp [this, h1]
    have h5 : card n (fun s => decide ((s : Int) ∈ x :: l)) = card n (fun s => (s == x.toNat) || decide ((s : Int) ∈ l)) := card_congr fun s _ => by
      rw [Bool.eq_iff_iff]
      simp only [decide_eq_true_eq, List.mem_cons, Bool.or_eq_true, beq_iff_eq]
      exact or_congr ⟨fun h => by omega, fun h => by omega⟩ Iff.rfl
    rw [h5, List.length_cons]
    omega
theorem Fits.mem {n : Nat} {P : List (List Int)} {l : List Int} (h : Fits n P l) {s : Nat} (hs : s < n) : (s : Int) ∈ l := by
  have h1 := mem_count n l h.nd h.rng
  rw [h.len] at h1
  have := card_full h1 hs
  simpa using this
theorem met_street (n s : Nat) (hs : s < n) : ∀ (k : Nat) (P : List (List Int)), P.length = k → Good n P → k ≤ card n fun d => met P d s := by
  intro k
  induction k with
  | zero => intro P _ _; omega
  | succ k ih =>
    intro P hk hG
    rcases List.eq_nil_or_concat P with rfl | ⟨Q, l, rfl⟩
    · simp at hk
    · rw [List.concat_eq_append] at hk hG ⊢
      obtain ⟨_, h2, h3⟩ := good_app.1 hG
      have h4 := ih Q (by simpa using hk) h2
      have h5 := card_or_and n (fun d => met Q d s) (fun d => decide (l[d]? = some (s : Int)))
      have h6 : card n (fun d => met (Q ++ [l]) d s) = card n (fun d => met Q d s || decide (l[d]? = some (s : Int))) := card_congr fun d _ => by rw [met_app, met_one]
      obtain ⟨d, hd⟩ := List.getElem?_of_mem (h3.mem hs)
      have hdn : d < n := by have := (List.getElem?_eq_some_iff.1 hd).1; rw [h3.len] at this; exact this
      have h7 : 1 ≤ card n (fun d => decide (l[d]? = some (s : Int))) := by
        rw [← card_one hdn]
        exact card_mono fun i _ hi => by rw [beq_iff_eq] at hi; subst hi; simp [hd]
      have h8 : card n (fun d => met Q d s && decide (l[d]? = some (s : Int))) = 0 := by
        rw [← card_none n]
        refine card_congr fun d _ => ?_
        cases hl : decide (l[d]? = some (s : Int)) with
        | false => simp
        | true => rw [h3.col d s (by simpa using hl)]; rfl
      rw [h6]
      omega

/-- A plan that is not full has a row that fits. -/
theorem Good.more {n : Nat} {P : List (List Int)} (h : Good n P) (hlt : P.length < n) : fitS n P n [] ≠ [] := by
  have key : ∃ f : Nat → Nat, (∀ d, d < n → (decide (f d < n) && !met P d (f d)) = true) ∧ ∀ i j, i < n → j < n → f i = f j → i = j := by
    refine hall n n (fun d s => decide (s < n) && !met P d s) (fun d s hs => by simp at hs; exact hs.1) fun J => ?_
    have low : (n - P.length) * card n J ≤ sumf n fun d => card n fun s => J d && (decide (s < n) && !met P d s) := by
      rw [← sumf_if]
      refine sumf_le fun d hd => ?_
      cases hJ : J d with
      | false => simp
      | true =>
        have h1 := card_not n fun s => met P d s
        have h2 := met_day n d P
        have h3 : card n (fun s => true && (decide (s < n) && !met P d s)) = card n fun s => !met P d s := card_congr fun s hs => by simp [hs]
        rw [h3]
        simp
        omega
    have up : (sumf n fun s => card n fun d => J d && (decide (s < n) && !met P d s)) ≤ (n - P.length) * card n (un n (fun d s => decide (s < n) && !met P d s) J) := by
      rw [← sumf_if]
      refine sumf_le fun s hs => ?_
      cases hu : un n (fun d s => decide (s < n) && !met P d s) J s with
      | false =>
        have : card n (fun d => J d && (decide (s < n) && !met P d s)) = 0 := by
          rw [← card_none n]
          refine card_congr fun d hd => ?_
          cases hx : J d && (decide (s < n) && !met P d s) with
          | false => rfl
          | true =>
            have : un n (fun d s => decide (s < n) && !met P d s) J s = true := un_iff.2 ⟨d, hd, by simp only [Bool.and_eq_true] at hx ⊢; exact ⟨hx.1, hx.2⟩⟩
            rw [hu] at this; cases this
        rw [this]; simp
      | true =>
        have h1 := card_not n fun d => met P d s
        have h2 := met_street n s hs _ P rfl h
        have h3 : card n (fun d => J d && (decide (s < n) && !met P d s)) ≤ card n fun d => !met P d s := card_mono fun d _ hd => by simp only [Bool.and_eq_true] at hd; exact hd.2.2
        simp
        omega
    rw [dbl] at low
    have := Nat.le_trans low up
    exact Nat.le_of_mul_le_mul_left this (by omega)
  obtain ⟨f, h1, h2⟩ := key
  have hf : Fits n P ((List.range n).map fun d => (f d : Int)) := by
    refine ⟨by simp, fun x hx => ?_, ?_, fun d x hx => ?_⟩
    · obtain ⟨d, hd, rfl⟩ := List.mem_map.1 hx
      have := h1 d (List.mem_range.1 hd)
      simp at this
      omega
    · exact List.pairwise_map.2 (List.Pairwise.imp_of_mem (fun ha hb hne e => hne (h2 _ _ (List.mem_range.1 ha) (List.mem_range.1 hb) (by omega))) List.nodup_range)
    · rw [List.getElem?_map] at hx
      cases hr : (List.range n)[d]? with
      | none => simp [hr] at hx
      | some e =>
        have hdn : d < n := by have := (List.getElem?_eq_some_iff.1 hr).1; simpa using this
        have he : e = d := by have := (List.getElem?_eq_some_iff.1 hr).2; simpa using this.symm
        subst he
        simp [hr] at hx
        subst hx
        have := h1 e hdn
        simp at this
        exact this.2
  exact List.ne_nil_of_mem (fit_iff.2 hf)
end Go.Am
