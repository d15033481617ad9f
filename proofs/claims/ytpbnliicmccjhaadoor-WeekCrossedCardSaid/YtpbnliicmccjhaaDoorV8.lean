/-
  The week's plain law, part 1: what a table shows; what a search finds; errors of rows.
-/
import Derived.Test.YtpbnliicmccjhaaDoorV7
namespace Go.Am
set_option linter.unusedVariables false
set_option linter.unusedSimpArgs false
open Go.Proofs
set_option maxRecDepth 100000
set_option maxHeartbeats 4000000

/-- A street is met by one of the rows on a day. -/
def met (P : List (List Int)) (d : Nat) (x : Int) : Bool := P.any fun r => decide (r[d]? = some x)
theorem clash_eq (P : List (List Int)) (l : List Int) (x : Int) : clash P l x = (decide (x ∈ l) || met P l.length x) := rfl

/-- What a table shows: rows, of which the last may not be whole. -/
structure Shows (n : Nat) (T : Tab) (P : List (List Int)) : Prop where
  ok : T.OK
  n : T.n = n
  at_ : ∀ c d : Nat, c < 5 → d < 5 → T.at_.getD (c * 5 + d) 0 = ((P[c]?).bind fun r : List Int => r[d]?).getD (-1)
  bc : ∀ c x : Nat, c < 5 → x < 5 → (T.bc.getD c 0 / 2 ^ x % 2 = 1 ↔ (x : Int) ∈ ((P[c]?).getD [] : List Int))
  od : ∀ d x : Nat, d < 5 → x < 5 → (T.od.getD d 0 / 2 ^ x % 2 = 1 ↔ met P d x = true)
  len : P.length ≤ 5
  wide : ∀ r ∈ P, r.length ≤ 5
  pos : ∀ r ∈ P, ∀ x ∈ r, 0 ≤ x

theorem or_bit : ∀ a < 32, ∀ x : Nat, x < 5 → ∀ y : Nat, y < 5 → ((a ||| 2 ^ x) / 2 ^ y % 2 = 1 ↔ a / 2 ^ y % 2 = 1 ∨ y = x) := by decide +kernel
theorem getD_set {α : Type} (l : List α) (i j : Nat) (a d : α) (hi : i < l.length) : (l.set i a).getD j d = if i = j then a else l.getD j d := by
  rw [List.getD_eq_getElem?_getD, List.getElem?_set]
  split
  · rename_i h; subst h; simp [hi]
  · rw [List.getD_eq_getElem?_getD]
theorem met_app (P Q : List (List Int)) (d : Nat) (x : Int) : met (P ++ Q) d x = (met P d x || met Q d x) := by simp [met]
theorem met_one (r : List Int) (d : Nat) (x : Int) : met [r] d x = decide (r[d]? = some x) := by simp [met]

theorem Shows.empty {n : Nat} (hn : n ≤ 5) : Shows n (Tab.empty n) [] := by
  refine ⟨Tab.empty_ok hn, rfl, fun c d hc hd => ?_, fun c x hc hx => ?_, fun d x hd hx => ?_, by simp, by simp, by simp⟩
  · show (List.replicate 25 (-1 : Int)).getD (c * 5 + d) 0 = -1
    have : c * 5 + d < 25 := by omega
    rw [List.getD_eq_getElem?_getD, List.getElem?_replicate, if_pos this]; rfl
  · have : (Tab.empty n).bc.getD c 0 = 0 := by
      show (List.replicate 5 0).getD c 0 = 0
      rw [List.getD_eq_getElem?_getD, List.getElem?_replicate, if_pos hc]; rfl
    rw [this]; simp
  · have : (Tab.empty n).od.getD d 0 = 0 := by
      show (List.replicate 5 0).getD d 0 = 0
      rw [List.getD_eq_getElem?_getD, List.getElem?_replicate, if_pos hd]; rfl
    rw [this]; simp [met]

/-- A row begun. -/
theorem Shows.begin {n : Nat} {T : Tab} {P : List (List Int)} (h : Shows n T P) (hl : P.length < 5) : Shows n T (P ++ [[]]) := by
  have hg : ∀ c : Nat, (((P ++ [[]])[c]?).getD [] : List Int) = ((P[c]?).getD [] : List Int) := fun c => by
    rw [List.getElem?_append]
    split
    · rfl
    · rw [List.getElem?_eq_none (by omega : P.length ≤ c)]
      cases hc : ([[]] : List (List Int))[c - P.length]? with
      | none => rfl
      | some r => have := List.mem_of_getElem? hc; simp at this; simp [this]
  have hg2 : ∀ c d : Nat, (((P ++ [[]])[c]?).bind fun r : List Int => r[d]?) = ((P[c]?).bind fun r : List Int => r[d]?) := fun c d => by
    rw [List.getElem?_append]
    split
    · rfl
    · rw [List.getElem?_eq_none (by omega : P.length ≤ c)]
      cases hc : ([[]] : List (List Int))[c - P.length]? with
      | none => rfl
      | some r => have := List.mem_of_getElem? hc; simp at this; simp [this]
  refine ⟨h.ok, h.n, fun c d hc hd => by rw [hg2]; exact h.at_ c d hc hd, fun c x hc hx => by rw [hg]; exact h.bc c x hc hx, fun d x hd hx => ?_, by simp; omega, ?_, ?_⟩
  · rw [met_app, met_one]; simpa using h.od d x hd hx
  · intro r hr; rcases List.mem_append.1 hr with hr | hr
    · exact h.wide r hr
    · simp at hr; simp [hr]
  · intro r hr; rcases List.mem_append.1 hr with hr | hr
    · exact h.pos r hr
    · simp at hr; simp [hr]

/-- A street written down behind the last row's others. -/
theorem Shows.put {n : Nat} {T : Tab} {P : List (List Int)} {r : List Int} (h : Shows n T (P ++ [r])) {x : Nat} (hx : x < 5) (hr : r.length < 5) : Shows n (T.put P.length r.length x) (P ++ [r ++ [(x : Int)]]) := by
  have hlen : P.length < 5 := by have := h.len; simp at this; omega
  have e0 : ∀ q : List Int, (P ++ [q])[P.length]? = some q := fun q => by simp
  have en : ∀ (q : List Int) (c : Nat), c ≠ P.length → (P ++ [q])[c]? = P[c]? := fun q c hc => by
    rw [List.getElem?_append]
    split
    · rfl
    · rw [List.getElem?_eq_none (by omega : P.length ≤ c)]
      exact List.getElem?_eq_none (by simp; omega)
  have l1 : P.length * 5 + r.length < T.at_.length := by rw [h.ok.at_]; omega
  have l2 : P.length < T.bc.length := by rw [h.ok.bc]; omega
  have l3 : r.length < T.od.length := by rw [h.ok.od]; omega
  refine ⟨h.ok.put hx, h.n, fun c d hc hd => ?_, fun c y hc hy => ?_, fun d y hd hy => ?_, by simp; omega, ?_, ?_⟩
  · show (T.at_.set (P.length * 5 + r.length) (x : Int)).getD (c * 5 + d) 0 = _
    rw [getD_set _ _ _ _ _ l1]
    have h0 := h.at_ c d hc hd
    by_cases hcc : c = P.length
    · subst hcc
      rw [e0] at h0 ⊢
      simp only [Option.bind_some] at h0 ⊢
      by_cases hdd : d = r.length
      · subst hdd; simp
      · rw [if_neg (by omega), h0, List.getElem?_append]
        split
        · rfl
        · rw [List.getElem?_eq_none (by omega : r.length ≤ d), List.getElem?_eq_none (by simp; omega)]
    · rw [if_neg (by omega), h0, en _ _ hcc, en _ _ hcc]
  · show (T.bc.set P.length (T.bc.getD P.length 0 ||| 2 ^ x)).getD c 0 / 2 ^ y % 2 = 1 ↔ _
    rw [getD_set _ _ _ _ _ l2]
    by_cases hcc : P.length = c
    · subst hcc
      have h0 := h.bc P.length y hc hy
      rw [if_pos rfl, or_bit _ (getD_lt h.ok.bs _) x hx y hy, h0, e0, e0]
      simp only [Option.getD_some, List.mem_append, List.mem_singleton, Bool.or_eq_true, decide_eq_true_eq, List.getElem?_concat_length, Option.some.injEq, List.getElem?_eq_none (Nat.le_refl r.length), reduceCtorEq, or_false]
      exact or_congr Iff.rfl ⟨fun e => by rw [e], fun e => by omega⟩
    · rw [if_neg hcc, en _ _ (Ne.symm hcc), h.bc c y hc hy, en _ _ (Ne.symm hcc)]
  · show (T.od.set r.length (T.od.getD r.length 0 ||| 2 ^ x)).getD d 0 / 2 ^ y % 2 = 1 ↔ _
    rw [getD_set _ _ _ _ _ l3]
    have h0 := h.od d y hd hy
    rw [met_app, met_one] at h0
    rw [met_app, met_one]
    by_cases hdd : r.length = d
    · subst hdd
      rw [if_pos rfl, or_bit _ (getD_lt h.ok.os _) x hx y hy, h0]
      simp only [Option.getD_some, List.mem_append, List.mem_singleton, Bool.or_eq_true, decide_eq_true_eq, List.getElem?_concat_length, Option.some.injEq, List.getElem?_eq_none (Nat.le_refl r.length), reduceCtorEq, or_false]
      exact or_congr Iff.rfl ⟨fun e => by rw [e], fun e => by omega⟩
    · rw [if_neg hdd, h0]
      have : (r ++ [(x : Int)])[d]? = r[d]? := by
        rw [List.getElem?_append]
        split
        · rfl
        · rw [List.getElem?_eq_none (by omega : r.length ≤ d), List.getElem?_eq_none (by simp; omega)]
      rw [this]
  · intro q hq; rcases List.mem_append.1 hq with hq | hq
    · exact h.wide q (by simp [hq])
    · simp at hq; simp [hq]; omega
  · intro q hq; rcases List.mem_append.1 hq with hq | hq
    · exact h.pos q (by simp [hq])
    · simp at hq; subst hq
      intro y hy; rcases List.mem_append.1 hy with hy | hy
      · exact h.pos r (by simp) y hy
      · simp at hy; omega

/-! ### Errors -/

def errRow (n : Nat) (P : List (List Int)) : List Int → List Int → Nat
  | _, [] => 0
  | r, x :: l => if x < 0 ∨ (n : Int) ≤ x then 2 else if x ∈ r then 6 else if met P r.length x then 13 else errRow n P (r ++ [x]) l
def errRows (n : Nat) (wide : Int) : List (List Int) → List (List Int) → Nat
  | _, [] => 0
  | P, l :: rest => if (l.length : Int) ≠ wide ∨ (n : Int) < wide then 5 else if errRow n P [] l = 0 then errRows n wide (P ++ [l]) rest else errRow n P [] l
def errS (n : Int) (rows : List (List Int)) (wide : Int) : Nat := if n < 1 ∨ 5 < n then 1 else if n < rows.length then 3 else errRows n.toNat wide [] rows

theorem rowS_shows {n : Nat} (hn : n ≤ 5) : ∀ (l r : List Int) (P : List (List Int)) (T : Tab), Shows n T (P ++ [r]) → r.length + l.length ≤ 5 →
    (rowS n P.length r.length l T).1 = errRow n P r l ∧ (errRow n P r l = 0 → Shows n (rowS n P.length r.length l T).2 (P ++ [r ++ l]))
  | [], r, P, T, h, _ => ⟨rfl, fun _ => by simpa [rowS] using h⟩
  | x :: l, r, P, T, h, hl => by
    have hlen : P.length < 5 := by have := h.len; simp at this; omega
    have hl' : r.length + (l.length + 1) ≤ 5 := by simpa using hl
    simp only [rowS, errRow]
    by_cases hx : x < 0 ∨ (n : Int) ≤ x
    · rw [if_pos hx, if_pos hx]; simp
    · rw [if_neg hx, if_neg hx]
      obtain ⟨y, rfl⟩ : ∃ y : Nat, x = y := ⟨x.toNat, by omega⟩
      have hy : y < 5 := by omega
      simp only [Int.toNat_natCast]
      have hb := h.bc P.length y hlen hy
      rw [show (P ++ [r])[P.length]? = some r by simp, Option.getD_some] at hb
      have ho := h.od r.length y (by omega) hy
      rw [met_app, met_one, List.getElem?_eq_none (Nat.le_refl _)] at ho
      simp only [reduceCtorEq, decide_false, Bool.or_false] at ho
      by_cases h1 : (y : Int) ∈ r
      · rw [if_pos (hb.2 h1), if_pos h1]; simp
      · rw [if_neg (fun e => h1 (hb.1 e)), if_neg h1]
        by_cases h2 : met P r.length y = true
        · rw [if_pos (ho.2 h2), if_pos h2]; simp
        · rw [if_neg (fun e => h2 (ho.1 e)), if_neg h2]
          have ih := rowS_shows hn l (r ++ [(y : Int)]) P _ (h.put hy (by omega)) (by simp; omega)
          rw [List.length_append, List.length_singleton] at ih
          simpa [List.append_assoc] using ih
theorem rowsS_shows {n : Nat} (hn : n ≤ 5) (wide : Int) : ∀ (rest P : List (List Int)) (T : Tab), Shows n T P → P.length + rest.length ≤ n →
    (rowsS n wide P.length rest T).1 = errRows n wide P rest ∧ (errRows n wide P rest = 0 → Shows n (rowsS n wide P.length rest T).2 (P ++ rest))
  | [], P, T, h, _ => ⟨rfl, fun _ => by simpa [rowsS] using h⟩
  | l :: rest, P, T, h, hl => by
    have hl' : P.length + (rest.length + 1) ≤ n := by simpa using hl
    simp only [rowsS, errRows]
    by_cases hb : (l.length : Int) ≠ wide ∨ (n : Int) < wide
    · rw [if_pos hb, if_pos hb]; simp
    · rw [if_neg hb, if_neg hb]
      have h1 := rowS_shows hn l [] P T (h.begin (by omega)) (by simp; omega)
      simp only [List.length_nil, List.nil_append] at h1
      rw [h1.1]
      by_cases he : errRow n P [] l = 0
      · rw [if_pos he, if_pos he]
        have ih := rowsS_shows hn wide rest (P ++ [l]) _ (h1.2 he) (by simp; omega)
        rw [List.length_append, List.length_singleton] at ih
        simpa [List.append_assoc] using ih
      · rw [if_neg he, if_neg he]
        exact ⟨h1.1, fun e => absurd e he⟩
theorem openS_shows (n : Int) (rows : List (List Int)) (wide : Int) : (openS n rows wide).1 = errS n rows wide ∧ (errS n rows wide = 0 → Shows n.toNat (openS n rows wide).2 rows) := by
  unfold openS errS
  split
  · simp
  · split
    · simp
    · have h := rowsS_shows (n := n.toNat) (by omega) wide rows [] _ (Shows.empty (by omega)) (by simp; omega)
      simpa using h

end Go.Am
