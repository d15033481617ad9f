/-
  The week's plain law, part 4: plans by streets.
-/
import Derived.Test.YtpbnliicmccjhaaDoorVD
namespace Go.Am
set_option linter.unusedVariables false
set_option linter.unusedSimpArgs false

theorem inv_at {n : Nat} {Q : List (List Int)} {l : List Int} (h : Fits n Q l) : ∀ d, d ≤ n → ∀ j, j < d → ∀ x, l[j]? = some x → (invP n l d)[x.toNat]? = some (j : Int) := by
  intro d
  induction d with
  | zero => intro _ j hj; omega
  | succ d ih =>
    intro hd j hj x hx
    have hdl : d < l.length := by rw [h.len]; omega
    have hg : l.getD d 0 = l[d] := by rw [List.getD_eq_getElem?_getD, List.getElem?_eq_getElem hdl]; rfl
    have hr := h.rng _ (List.getElem_mem hdl)
    rw [invP_succ, hg]
    by_cases hjd : j = d
    · subst hjd
      rw [List.getElem?_eq_getElem hdl] at hx
      cases hx
      rw [List.getElem?_set_self (by rw [invP_length]; omega)]
    · have hjl : j < l.length := by omega
      have hxr := h.rng _ (List.mem_of_getElem? hx)
      have hne : l[d].toNat ≠ x.toNat := fun e => by
        have e2 : l[d] = x := by omega
        have e3 : l[j] = x := by rw [List.getElem?_eq_getElem hjl] at hx; exact Option.some.inj hx
        exact hjd ((List.getElem_inj h.nd).1 (e3.trans e2.symm))
      rw [List.getElem?_set_ne hne]
      exact ih (by omega) j (by omega) x hx
/-- By streets: where a row has a street, there the day stands. -/
theorem inv_get {n : Nat} {Q : List (List Int)} {l : List Int} (h : Fits n Q l) {d s : Nat} (hs : l[d]? = some (s : Int)) : (invS n l)[s]? = some (d : Int) := by
  have hd : d < n := by have := (List.getElem?_eq_some_iff.1 hs).1; rw [h.len] at this; exact this
  exact inv_at h n (Nat.le_refl n) d hd s hs
theorem inv_get' {n : Nat} {Q : List (List Int)} {l : List Int} (h : Fits n Q l) {s : Nat} (hs : s < n) : ∃ d, d < n ∧ l[d]? = some (s : Int) ∧ (invS n l)[s]? = some (d : Int) := by
  obtain ⟨d, hd⟩ := List.getElem?_of_mem (h.mem hs)
  have hdn : d < n := by have := (List.getElem?_eq_some_iff.1 hd).1; rw [h.len] at this; exact this
  exact ⟨d, hdn, hd, inv_get h hd⟩
theorem inv_iff {n : Nat} {Q : List (List Int)} {l : List Int} (h : Fits n Q l) {d s : Nat} (hs : s < n) : (invS n l)[s]? = some (d : Int) ↔ l[d]? = some (s : Int) := by
  constructor
  · intro e
    obtain ⟨d', _, h1, h2⟩ := inv_get' h hs
    rw [h2] at e
    have e' := Option.some.inj e
    have : d' = d := by omega
    exact this ▸ h1
  · exact inv_get h
theorem inv_len (n : Nat) (l : List Int) : (invS n l).length = n := invP_length n l n

theorem inv_fits {n : Nat} {P : List (List Int)} {l : List Int} (h : Fits n P l) (hP : ∀ r ∈ P, ∃ Q, Fits n Q r) : Fits n (P.map (invS n)) (invS n l) := by
  have hval : ∀ (s : Nat) (x : Int), (invS n l)[s]? = some x → ∃ d : Nat, d < n ∧ x = d ∧ s < n ∧ l[d]? = some (s : Int) := fun s x hx => by
    have hs : s < n := by have := (List.getElem?_eq_some_iff.1 hx).1; rw [inv_len] at this; exact this
    obtain ⟨d, hd, h1, h2⟩ := inv_get' h hs
    rw [h2] at hx
    exact ⟨d, hd, (Option.some.inj hx).symm, hs, h1⟩
  refine ⟨inv_len n l, fun x hx => ?_, ?_, fun s x hx => ?_⟩
  · obtain ⟨s, hs⟩ := List.getElem?_of_mem hx
    obtain ⟨d, hd, rfl, _⟩ := hval s x hs
    omega
  · rw [← nodup_iff]
    intro j x hx hm
    obtain ⟨k, hk⟩ := List.getElem?_of_mem hm
    rw [List.getElem?_take] at hk
    split at hk
    · rename_i hkj
      obtain ⟨d, _, rfl, _, h1⟩ := hval j x hx
      obtain ⟨d', _, e, _, h2⟩ := hval k d hk
      have : d' = d := by omega
      subst this
      rw [h1] at h2
      have := Option.some.inj h2
      omega
    · cases hk
  · obtain ⟨d, hd, rfl, hs, h1⟩ := hval s x hx
    cases hm : met (P.map (invS n)) s d with
    | false => rfl
    | true =>
      unfold met at hm
      rw [List.any_eq_true] at hm
      obtain ⟨r', hr', hrd⟩ := hm
      obtain ⟨r, hr, rfl⟩ := List.mem_map.1 hr'
      obtain ⟨Q, hQ⟩ := hP r hr
      have h2 := (inv_iff hQ hs).1 (by simpa using hrd)
      have h3 := h.col d s h1
      have : met P d s = true := by unfold met; rw [List.any_eq_true]; exact ⟨r, hr, by simp [h2]⟩
      rw [h3] at this; cases this
theorem inv_inv {n : Nat} {Q : List (List Int)} {l : List Int} (h : Fits n Q l) : invS n (invS n l) = l := by
  have h2 : Fits n [] (invS n l) := inv_fits (P := []) ⟨h.len, h.rng, h.nd, fun _ _ _ => rfl⟩ (by simp)
  refine List.ext_getElem? fun d => ?_
  by_cases hd : d < n
  · have hdl : d < l.length := by rw [h.len]; exact hd
    have hr := h.rng _ (List.getElem_mem hdl)
    obtain ⟨s, hs⟩ : ∃ s : Nat, l[d] = s := ⟨l[d].toNat, by omega⟩
    have h3 : l[d]? = some (s : Int) := by rw [List.getElem?_eq_getElem hdl, hs]
    rw [h3]
    exact inv_get h2 (inv_get h h3)
  · rw [List.getElem?_eq_none (by rw [inv_len]; omega), List.getElem?_eq_none (by rw [h.len]; omega)]

theorem good_map {n : Nat} (f : List Int → List Int) (hf : ∀ P l, Fits n P l → (∀ r ∈ P, ∃ Q, Fits n Q r) → Fits n (P.map f) (f l)) : ∀ {P : List (List Int)}, Good n P → Good n (P.map f) := by
  intro P
  generalize hk : P.length = k
  induction k generalizing P with
  | zero => intro _; have := List.eq_nil_of_length_eq_zero hk; subst this; exact Good.nil n
  | succ k ih =>
    intro hG
    rcases List.eq_nil_or_concat P with rfl | ⟨Q, r, rfl⟩
    · simp at hk
    · rw [List.concat_eq_append] at hk hG ⊢
      obtain ⟨h1, h2, h3⟩ := good_app.1 hG
      rw [List.map_append]
      exact good_app.2 ⟨by rw [List.length_map]; exact h1, ih (by simpa using hk) h2, hf Q r h3 (good_mem h2)⟩
theorem Good.inv {n : Nat} {P : List (List Int)} (h : Good n P) : Good n (P.map (invS n)) := good_map _ (fun _ _ h hP => inv_fits h hP) h
theorem map_inv_inv {n : Nat} {P : List (List Int)} (h : Good n P) : (P.map (invS n)).map (invS n) = P := by
  rw [List.map_map]
  refine (List.map_congr_left fun l hl => ?_).trans (List.map_id P)
  obtain ⟨Q, hQ⟩ := good_mem h l hl
  exact inv_inv hQ

/-! ### As many -/

theorem nodup_sub {α : Type} [DecidableEq α] : ∀ {l m : List α}, l.Nodup → (∀ x ∈ l, x ∈ m) → l.length ≤ m.length
  | [], _, _, _ => by simp
  | x :: l, m, hn, hs => by
    obtain ⟨h1, h2⟩ := List.nodup_cons.1 hn
    have hx := hs x (by simp)
    have := nodup_sub (m := m.erase x) h2 fun y hy => (List.mem_erase_of_ne (fun e => by subst e; exact h1 hy)).2 (hs y (by simp [hy]))
    rw [List.length_erase_of_mem hx] at this
    have hpos := List.length_pos_of_mem hx
    rw [List.length_cons]
    omega
theorem fit_pre (n : Nat) (P : List (List Int)) {k : Nat} {r l : List Int} (h : l ∈ fitS n P k r) : ∃ t, l = r ++ t := let ⟨t, e, _⟩ := fit_row n P k r l h; ⟨t, e⟩
theorem fit_nodup (n : Nat) (P : List (List Int)) : ∀ (k : Nat) (r : List Int), (fitS n P k r).Nodup
  | 0, r => by simp [fitS]
  | k + 1, r => by
    simp only [fitS]
    refine List.pairwise_flatMap.2 ⟨fun s _ => ?_, ?_⟩
    · split
      · exact List.nodup_nil
      · exact fit_nodup n P k _
    · refine List.Pairwise.imp (fun {a b} hab x hx y hy e => ?_) List.nodup_range
      split at hx
      · simp at hx
      · split at hy
        · simp at hy
        · obtain ⟨t, h1⟩ := fit_pre n P hx
          obtain ⟨u, h2⟩ := fit_pre n P hy
          rw [h1, h2, List.append_assoc, List.append_assoc] at e
          have := List.append_cancel_left e
          simp at this
          omega
theorem fit_le {n : Nat} {P P' : List (List Int)} (f g : List Int → List Int) (hf : ∀ l, Fits n P l → Fits n P' (f l)) (hg : ∀ l, Fits n P l → g (f l) = l) : (fitS n P n []).length ≤ (fitS n P' n []).length := by
  have h1 : ((fitS n P n []).map f).Nodup := List.pairwise_map.2 (List.Pairwise.imp_of_mem (fun {a b} ha hb hne e => hne (by rw [← hg a (fit_iff.1 ha), ← hg b (fit_iff.1 hb), e])) (fit_nodup n P n []))
  have := nodup_sub h1 fun x hx => by
    obtain ⟨l, hl, rfl⟩ := List.mem_map.1 hx
    exact fit_iff.2 (hf l (fit_iff.1 hl))
  simpa using this
/-- By streets as many rows fit. -/
theorem fit_inv {n : Nat} {P : List (List Int)} (h : Good n P) : (fitS n P n []).length = (fitS n (P.map (invS n)) n []).length := by
  refine Nat.le_antisymm (fit_le (invS n) (invS n) (fun l hl => inv_fits hl (good_mem h)) fun l hl => inv_inv hl) ?_
  have := fit_le (P := P.map (invS n)) (P' := P) (invS n) (invS n) (fun l hl => by have := inv_fits hl (good_mem h.inv); rwa [map_inv_inv h] at this) fun l hl => inv_inv hl
  exact this
theorem count_inv {n : Nat} (h1 : 1 ≤ n) (h5 : n ≤ 5) {P : List (List Int)} (h : Good n P) : countN n (P.map (invS n)) = countN n P := by
  rw [count_fit h1 h5 h, count_fit h1 h5 h.inv, List.length_map, ← fit_inv h]

end Go.Am
