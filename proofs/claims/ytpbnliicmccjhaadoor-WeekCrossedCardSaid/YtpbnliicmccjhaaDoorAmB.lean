/-
  An abstract machine for the model's code, part 11: what a walk needs: slices that read as lists, heaps that only grow, numbers.
-/
import Derived.Test.YtpbnliicmccjhaaDoorAmA
namespace Go.Am
set_option linter.unusedVariables false
set_option linter.unusedSimpArgs false
variable {E : Env} {σ s t : St}

/-! ### Numbers -/

theorem wrap_i64 {n : Int} (h1 : -9223372036854775808 ≤ n) (h2 : n ≤ 9223372036854775807) : IntKind.i64.wrap n = n := by
  simp only [IntKind.wrap, IntKind.bits, IntKind.signed]; simp; omega
theorem wrap_u64 {n : Int} (h1 : 0 ≤ n) (h2 : n ≤ 18446744073709551615) : IntKind.u64.wrap n = n := by
  simp only [IntKind.wrap, IntKind.bits, IntKind.signed]; simp; omega
theorem wrap_u8 {n : Int} (h1 : 0 ≤ n) (h2 : n ≤ 255) : IntKind.u8.wrap n = n := by
  simp only [IntKind.wrap, IntKind.bits, IntKind.signed]; simp; omega

/-- A result that fits. -/
theorem i64x {n : Int} {K : Int → Prop} (h1 : -9223372036854775808 ≤ n) (h2 : n ≤ 9223372036854775807) (hk : K n) : ∃ r, r = IntKind.i64.wrap n ∧ K r := ⟨n, (wrap_i64 h1 h2).symm, hk⟩
theorem u64x {n : Int} {K : Int → Prop} (h1 : 0 ≤ n) (h2 : n ≤ 18446744073709551615) (hk : K n) : ∃ r, r = IntKind.u64.wrap n ∧ K r := ⟨n, (wrap_u64 h1 h2).symm, hk⟩
theorem u8x {n : Int} {K : Int → Prop} (h1 : 0 ≤ n) (h2 : n ≤ 255) (hk : K n) : ∃ r, r = IntKind.u8.wrap n ∧ K r := ⟨n, (wrap_u8 h1 h2).symm, hk⟩

/-! ### Slices -/

/-- A slice of n elements of e cells each, and its cells, which nobody writes any more. -/
def Sl (σ : St) (e : Nat) (v : Value) (n : Nat) (cs : List Value) : Prop :=
  (v = .slice none 0 0 ∧ n = 0 ∧ cs = []) ∨ ∃ b o c k, v = .slice (some ⟨b, o, some e⟩) n c ∧ n ≤ c / 2 ∧ σ.get b = some k ∧ k.wr = false ∧ σ.lds b o (n * e) = some cs

theorem Sl.nil (σ : St) (e : Nat) : Sl σ e (.slice none 0 0) 0 [] := .inl ⟨rfl, rfl, rfl⟩
theorem Sl.len {e n : Nat} {v : Value} {cs : List Value} (h : Sl σ e v n cs) : vlen v = some n := by
  rcases h with ⟨rfl, rfl, _⟩ | ⟨b, o, c, k, rfl, _⟩ <;> rfl
theorem Sl.length {e n : Nat} {v : Value} {cs : List Value} (h : Sl σ e v n cs) : cs.length = n * e := by
  rcases h with ⟨_, rfl, rfl⟩ | ⟨b, o, c, k, _, _, _, _, h⟩
  · simp
  · exact lds_length h
theorem Sl.one {e n : Nat} {v : Value} {cs : List Value} (h : Sl σ e v n cs) : one v = true := by
  rcases h with ⟨rfl, _⟩ | ⟨b, o, c, k, rfl, _⟩ <;> rfl
theorem Sl.spread {e n : Nat} {v : Value} {cs : List Value} (h : Sl σ e v n cs) : Spread σ e v n cs := by
  rcases h with ⟨rfl, rfl, rfl⟩ | ⟨b, o, c, k, rfl, _, _, _, h⟩
  · exact .inl ⟨rfl, rfl, rfl⟩
  · exact .inr ⟨b, o, c, rfl, h⟩

theorem lds_ld {b o n : Nat} {cs : List Value} (h : σ.lds b o n = some cs) {i : Nat} (hi : i < n) : σ.ld b (o + i) = cs[i]? := by
  unfold St.lds at h
  cases hk : σ.get b with
  | none => simp [hk] at h
  | some k =>
    simp only [hk, Option.bind_some] at h
    split at h
    · cases h
      simp only [St.ld, hk, Option.bind_some]
      rw [List.getElem?_take, if_pos hi, List.getElem?_drop]
    · cases h
theorem lds_part {b o n i m : Nat} {cs : List Value} (h : σ.lds b o n = some cs) (hi : i + m ≤ n) : σ.lds b (o + i) m = some ((cs.drop i).take m) := by
  unfold St.lds at h ⊢
  cases hk : σ.get b with
  | none => simp [hk] at h
  | some k =>
    simp only [hk, Option.bind_some] at h ⊢
    split at h
    · cases h
      rw [if_pos (by omega), List.drop_take, List.drop_drop, List.take_take]
      congr 2
      omega
    · cases h

/-- An element that is there. -/
theorem Sl.at {n i : Nat} {v : Value} {cs : List Value} (h : Sl σ 1 v n cs) (hi : i < n) : ∃ b o c, v = .slice (some ⟨b, o, some 1⟩) n c ∧ ∃ x, cs[i]? = some x ∧ σ.ld b (o + i * 1) = some x := by
  have hl := h.length
  rcases h with ⟨_, rfl, _⟩ | ⟨b, o, c, k, rfl, _, _, _, h⟩
  · omega
  · have hlt : i < cs.length := by omega
    exact ⟨b, o, c, rfl, cs[i], by simp [hlt], by rw [Nat.mul_one, lds_ld h (by omega)]; simp [hlt]⟩

/-- A list of ints. -/
def SlI (σ : St) (v : Value) (xs : List Int) : Prop := Sl σ 1 v xs.length (xs.map (Value.int .i64))
theorem SlI.nil (σ : St) : SlI σ (.slice none 0 0) [] := Sl.nil σ 1
theorem SlI.len {v : Value} {xs : List Int} (h : SlI σ v xs) : vlen v = some xs.length := Sl.len h
theorem SlI.one {v : Value} {xs : List Int} (h : SlI σ v xs) : Am.one v = true := Sl.one h
theorem SlI.at {i : Nat} {v : Value} {xs : List Int} (h : SlI σ v xs) (hi : i < xs.length) : ∃ b o c, v = .slice (some ⟨b, o, some 1⟩) xs.length c ∧ σ.ld b (o + i * 1) = some (.int .i64 xs[i]) := by
  obtain ⟨b, o, c, hv, x, hx, hl⟩ := Sl.at h hi
  refine ⟨b, o, c, hv, ?_⟩
  rw [hl]
  simpa [hi] using hx.symm

/-- Lists of ints. -/
def SlR (σ : St) (v : Value) (xss : List (List Int)) : Prop := ∃ vs : List Value, Sl σ 1 v xss.length vs ∧ ∀ (i : Nat) (u : Value) (xs : List Int), vs[i]? = some u → xss[i]? = some xs → SlI σ u xs
theorem SlR.nil (σ : St) : SlR σ (.slice none 0 0) [] := ⟨[], Sl.nil σ 1, by simp⟩
theorem SlR.len {v : Value} {xss : List (List Int)} (h : SlR σ v xss) : vlen v = some xss.length := let ⟨_, h, _⟩ := h; Sl.len h
theorem SlR.one {v : Value} {xss : List (List Int)} (h : SlR σ v xss) : Am.one v = true := let ⟨_, h, _⟩ := h; Sl.one h
theorem SlR.at {i : Nat} {v : Value} {xss : List (List Int)} (h : SlR σ v xss) (hi : i < xss.length) :
    ∃ b o c u, v = .slice (some ⟨b, o, some 1⟩) xss.length c ∧ σ.ld b (o + i * 1) = some u ∧ SlI σ u xss[i] := by
  obtain ⟨vs, hv, hr⟩ := h
  obtain ⟨b, o, c, h1, u, h2, h3⟩ := Sl.at hv hi
  exact ⟨b, o, c, u, h1, h3, hr i u _ h2 (by simp [hi])⟩

end Go.Am
