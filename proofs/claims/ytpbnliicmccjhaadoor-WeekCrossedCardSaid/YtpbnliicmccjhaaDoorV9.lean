/-
  The week's plain law, part 2: a search finds the rows that fit; counts.
-/
import Derived.Test.YtpbnliicmccjhaaDoorV8
namespace Go.Am
set_option linter.unusedVariables false
set_option linter.unusedSimpArgs false
open Go.Proofs
set_option maxRecDepth 100000
set_option maxHeartbeats 4000000

theorem may_bits : ∀ n ≤ 5, ∀ a < 32, ∀ b < 32, bits (((2 ^ n - 1) ^^^ ((2 ^ n - 1) &&& a)) ^^^ (((2 ^ n - 1) ^^^ ((2 ^ n - 1) &&& a)) &&& b)) = (List.range n).filter fun s => !(a / 2 ^ s % 2 == 1 || b / 2 ^ s % 2 == 1) := by decide +kernel
theorem flat_filter {α β : Type} (p : α → Bool) (f : α → List β) : ∀ l : List α, (l.filter p).flatMap f = l.flatMap fun x => if p x then f x else []
  | [] => rfl
  | x :: l => by
    rw [List.filter_cons]
    cases hp : p x <;> simp [hp, flat_filter p f l]
theorem flat_congr {α β : Type} {f g : α → List β} : ∀ {l : List α}, (∀ x ∈ l, f x = g x) → l.flatMap f = l.flatMap g
  | [], _ => rfl
  | x :: l, h => by rw [List.flatMap_cons, List.flatMap_cons, h x (by simp), flat_congr fun y hy => h y (by simp [hy])]
/-- A cart's row. -/
def rowOf (n c : Nat) (T : Tab) : List Int := (List.range n).map fun e => T.at_.getD (c * 5 + e) 0

theorem Shows.may {n : Nat} (hn : n ≤ 5) {T : Tab} {P : List (List Int)} {r : List Int} (h : Shows n T (P ++ [r])) (hr : r.length < 5) : bits (T.may P.length r.length) = (List.range n).filter fun (s : Nat) => !clash P r s := by
  have hlen : P.length < 5 := by have := h.len; simp at this; omega
  unfold Tab.may
  rw [h.n, may_bits n hn _ (getD_lt h.ok.bs _) _ (getD_lt h.ok.os _)]
  refine List.filter_congr fun s hs => ?_
  have hs5 : s < 5 := by have := List.mem_range.1 hs; omega
  have hb := h.bc P.length s hlen hs5
  rw [show (P ++ [r])[P.length]? = some r by simp, Option.getD_some] at hb
  have ho := h.od r.length s hr hs5
  rw [met_app, met_one, List.getElem?_eq_none (Nat.le_refl _)] at ho
  simp only [reduceCtorEq, decide_false, Bool.or_false] at ho
  rw [clash_eq]
  congr 1
  have e1 : (T.bc.getD P.length 0 / 2 ^ s % 2 == 1) = decide ((s : Int) ∈ r) := by rw [Bool.eq_iff_iff]; simpa using hb
  have e2 : (T.od.getD r.length 0 / 2 ^ s % 2 == 1) = met P r.length s := by rw [Bool.eq_iff_iff]; simpa using ho
  rw [e1, e2]

theorem sols_fit {n : Nat} (hn : n ≤ 5) (P : List (List Int)) : ∀ (k fuel : Nat) (r : List Int) (T : Tab), Shows n T (P ++ [r]) → r.length + k = n → k + 2 ≤ fuel →
    (sols (P.length + 1) fuel T P.length r.length).map (rowOf n P.length) = fitS n P k r := by
  intro k
  induction k with
  | zero =>
    intro fuel r T h hr hf
    have hlen : P.length < 5 := by have := h.len; simp at this; omega
    obtain ⟨f, rfl⟩ : ∃ f, fuel = f + 2 := ⟨fuel - 2, by omega⟩
    have hr' : r.length = T.n := by rw [h.n]; omega
    simp only [sols, if_neg (show ¬ P.length = P.length + 1 by omega), hr', if_true, List.map_cons, List.map_nil, fitS]
    congr 1
    refine List.ext_getElem (by simp [rowOf]; omega) fun i h1 h2 => ?_
    have h0 := h.at_ P.length i hlen (by omega)
    rw [show (P ++ [r])[P.length]? = some r by simp, Option.bind_some, List.getElem?_eq_getElem h2, Option.getD_some] at h0
    simp only [rowOf, List.getElem_map, List.getElem_range]
    exact h0
  | succ k ih =>
    intro fuel r T h hr hf
    have hlen : P.length < 5 := by have := h.len; simp at this; omega
    obtain ⟨f, rfl⟩ : ∃ f, fuel = f + 1 := ⟨fuel - 1, by omega⟩
    have h0 := h.at_ P.length r.length hlen (by omega)
    rw [show (P ++ [r])[P.length]? = some r by simp, Option.bind_some, List.getElem?_eq_none (Nat.le_refl _), Option.getD_none] at h0
    simp only [sols, if_neg (show ¬ P.length = P.length + 1 by omega), if_neg (show ¬ r.length = T.n by rw [h.n]; omega), if_neg (show ¬ 0 ≤ T.at_.getD (P.length * 5 + r.length) 0 by rw [h0]; omega)]
    rw [h.may hn (by omega), flat_filter, List.map_flatMap]
    simp only [fitS]
    refine flat_congr fun s hs => ?_
    have hs5 : s < 5 := by have := List.mem_range.1 hs; omega
    cases hc : clash P r s with
    | true => simp
    | false =>
      have := ih f (r ++ [(s : Int)]) _ (h.put hs5 (by omega)) (by simp; omega) (by omega)
      rw [List.length_append, List.length_singleton] at this
      simpa using this

/-! ### Plans -/

/-- A plan, whole or not. -/
def Good (n : Nat) (P : List (List Int)) : Prop := P.length ≤ n ∧ errRows n n [] P = 0

theorem errRows_app (n : Nat) (w : Int) : ∀ (a P b : List (List Int)), errRows n w P (a ++ b) = if errRows n w P a = 0 then errRows n w (P ++ a) b else errRows n w P a
  | [], P, b => by simp [errRows]
  | l :: a, P, b => by
    simp only [List.cons_append, errRows]
    split
    · simp
    · split
      · rw [errRows_app n w a]; simp
      · rfl
theorem fit_row (n : Nat) (P : List (List Int)) : ∀ (k : Nat) (r l : List Int), l ∈ fitS n P k r → ∃ t, l = r ++ t ∧ t.length = k ∧ errRow n P r t = 0
  | 0, r, l, h => by simp only [fitS, List.mem_singleton] at h; exact ⟨[], by simpa using h, rfl, rfl⟩
  | k + 1, r, l, h => by
    simp only [fitS, List.mem_flatMap, List.mem_range] at h
    obtain ⟨s, hs, h⟩ := h
    split at h
    · simp at h
    · rename_i hc
      obtain ⟨t, e, h1, h2⟩ := fit_row n P k _ l h
      refine ⟨(s : Int) :: t, by simp [e], by simp [h1], ?_⟩
      simp only [clash_eq, Bool.or_eq_true, decide_eq_true_eq, not_or] at hc
      simp only [errRow]
      rw [if_neg (by omega), if_neg hc.1, if_neg hc.2]
      exact h2
theorem Good.add {n : Nat} {P : List (List Int)} (h : Good n P) {l : List Int} (hl : l ∈ fitS n P n []) (hlt : P.length < n) : Good n (P ++ [l]) := by
  obtain ⟨t, e, h1, h2⟩ := fit_row n P n [] l hl
  simp only [List.nil_append] at e
  subst e
  refine ⟨by simp; omega, ?_⟩
  rw [errRows_app, if_pos h.2]
  simp only [errRows, List.nil_append]
  rw [if_neg (by omega), if_pos h2]
theorem Good.nil (n : Nat) : Good n [] := ⟨Nat.zero_le _, rfl⟩
theorem Good.rows {n : Nat} : ∀ {P : List (List Int)}, Good n P → ∀ l ∈ P, l.length = n := by
  have key : ∀ (a P : List (List Int)), errRows n n P a = 0 → ∀ l ∈ a, l.length = n := by
    intro a
    induction a with
    | nil => simp
    | cons l a ih =>
      intro P h
      simp only [errRows] at h
      split at h
      · simp at h
      · rename_i hb
        split at h
        · intro l' hl'
          rcases List.mem_cons.1 hl' with rfl | hl'
          · omega
          · exact ih _ h l' hl'
        · rename_i hb; exact absurd h hb
  exact fun {P} h => key _ _ h.2
theorem Good.errS {n : Nat} (h1 : 1 ≤ n) (h5 : n ≤ 5) {P : List (List Int)} (h : Good n P) : errS n P n = 0 := by
  unfold Am.errS
  have := h.1
  rw [if_neg (by omega), if_neg (by omega)]
  exact h.2

/-- How many rows fit a plan: as many as are found. -/
theorem count_fit {n : Nat} (h1 : 1 ≤ n) (h5 : n ≤ 5) {P : List (List Int)} (h : Good n P) : countN n P = if P.length = n then (0, 16) else ((fitS n P n []).length, 0) := by
  have h0 := openS_shows n P n
  have he := h.errS h1 h5
  unfold countN
  simp only [h0.1, he, ne_eq, not_true_eq_false, if_false]
  by_cases hf : P.length = n
  · rw [if_pos (by omega), if_pos hf]
  · rw [if_neg (by omega), if_neg hf]
    have hs := h0.2 he
    have hlt : P.length < 5 := by have := h.1; omega
    have hk := sols_fit h5 P n ((P.length + 1 - P.length) * ((openS n P n).2.n + 1) + (openS n P n).2.n + 1) [] _ (hs.begin hlt) (by simp) (by rw [hs.n]; simp)
    rw [← hk, List.length_map]
    rfl

theorem flat_bound' {α β : Type} (f : α → List β) (b : Nat) (l : List α) (h : ∀ x ∈ l, (f x).length ≤ b) : (l.flatMap f).length ≤ l.length * b := flat_bound f b l h
theorem fitS_bound (n : Nat) (P : List (List Int)) : ∀ (k : Nat) (r : List Int), (fitS n P k r).length ≤ n ^ k
  | 0, r => by simp [fitS]
  | k + 1, r => by
    simp only [fitS]
    have := flat_bound' (fun (s : Nat) => if clash P r s then [] else fitS n P k (r ++ [(s : Int)])) (n ^ k) (List.range n) fun s _ => by
      split
      · simp
      · exact fitS_bound n P k _
    rw [List.length_range] at this
    rw [Nat.pow_succ']
    exact this
theorem fitS_small {n : Nat} (h5 : n ≤ 5) (P : List (List Int)) : (fitS n P n []).length ≤ 3125 :=
  Nat.le_trans (fitS_bound n P n []) (Nat.le_trans (Nat.pow_le_pow_left h5 n) (Nat.pow_le_pow_right (by decide) h5))


end Go.Am
