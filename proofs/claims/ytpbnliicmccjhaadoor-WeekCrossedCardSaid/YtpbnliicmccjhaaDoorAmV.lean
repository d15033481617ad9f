/-
  An abstract machine for the model's code: a stack of slices, each with one number more than the one below; they may share memory.
-/
import Derived.Test.YtpbnliicmccjhaaDoorAmR
namespace Go.Am
set_option linter.unusedVariables false
set_option linter.unusedSimpArgs false
variable {E : Env} {s t : St} {L L' : List Res} {F F' : List Fact} {K : Kont}

def Stk (s : St) : List (Value × List Int) → List Nat → Prop
  | [], P => P = []
  | (v, l) :: rest, P => ∃ Q, Stk s rest Q ∧ (∀ b ∈ Q, ∀ k, s.get b = some k → k.cells.length < l.length) ∧
      ((v = .slice none 0 0 ∧ l = [] ∧ P = Q) ∨ ∃ b f, v = .slice (some ⟨b, 0, some 1⟩) l.length (2 * l.length) ∧ s.get b = some ⟨l.map (Value.int .i64), f, true⟩ ∧ P = b :: Q)
theorem Stk.keep : ∀ {vs : List (Value × List Int)} {P : List Nat}, (∀ b ∈ P, t.get b = s.get b) → Stk s vs P → Stk t vs P
  | [], _, _, h => h
  | (v, l) :: rest, P, hb, ⟨Q, h1, h2, h3⟩ => by
    have hQ : ∀ b ∈ Q, t.get b = s.get b := fun b hbq => by
      rcases h3 with ⟨_, _, e⟩ | ⟨c, f, _, _, e⟩
      · exact hb b (e ▸ hbq)
      · exact hb b (by rw [e]; simp [hbq])
    refine ⟨Q, Stk.keep hQ h1, fun b hbq k hk => h2 b hbq k (by rw [← hQ b hbq]; exact hk), ?_⟩
    rcases h3 with h3 | ⟨c, f, e1, e2, e3⟩
    · exact .inl h3
    · exact .inr ⟨c, f, e1, by rw [hb c (by rw [e3]; simp)]; exact e2, e3⟩
def stk (vs : List (Value × List Int)) : Res := ⟨fun s P => Stk s vs P, fun _ hb h => h.keep hb⟩

theorem Stk.nodup : ∀ {vs : List (Value × List Int)} {P : List Nat}, Stk s vs P → P.Nodup
  | [], _, h => by cases h; exact List.nodup_nil
  | (v, l) :: rest, P, ⟨Q, h1, h2, h3⟩ => by
    have ih := Stk.nodup h1
    rcases h3 with ⟨_, _, rfl⟩ | ⟨b, f, _, e2, rfl⟩
    · exact ih
    · exact List.nodup_cons.2 ⟨fun hb => by have := h2 b hb _ e2; simp at this, ih⟩
theorem stk_top {v : Value} {l : List Int} {vs : List (Value × List Int)} (h : Sep s (stk ((v, l) :: vs) :: L) F) : (v = .slice none 0 0 ∧ l = []) ∨ ∃ b f, v = .slice (some ⟨b, 0, some 1⟩) l.length (2 * l.length) ∧ s.get b = some ⟨l.map (Value.int .i64), f, true⟩ := by
  obtain ⟨P, ⟨A, B, ⟨Q, _, _, h3⟩, _⟩, _⟩ := h.sep
  rcases h3 with ⟨e1, e2, _⟩ | ⟨b, f, e1, e2, _⟩
  · exact .inl ⟨e1, e2⟩
  · exact .inr ⟨b, f, e1, e2⟩
theorem Held.stk {v : Value} {l : List Int} {vs : List (Value × List Int)} : Held (Am.stk ((v, l) :: vs) :: L) F repI v l := ⟨fun s h => by
  rcases stk_top h with ⟨h1, h2⟩ | ⟨b, f, h1, h2⟩
  · exact .inl ⟨h1, h2⟩
  · refine .inr ⟨b, 0, _, l.map (Value.int .i64), h1, by omega, ?_, repK_all.2 rfl⟩
    rw [show l.length * repI.size = l.length by simp [repK]]
    exact all_lds h2 (by simp)⟩
theorem stk_one {v : Value} {l : List Int} {vs : List (Value × List Int)} (h : Sep s (stk ((v, l) :: vs) :: L) F) : one v = true := by
  rcases stk_top h with ⟨rfl, _⟩ | ⟨b, f, rfl, _⟩ <;> rfl
/-- A stack begun. -/
theorem Sep.stknil (h : Sep s L F) : Sep s (stk [(.slice none 0 0, [])] :: L) F := by
  obtain ⟨P, h1, h2⟩ := h.sep
  exact ⟨h.wf, ⟨P, ⟨[], P, ⟨[], rfl, by simp, .inl ⟨rfl, rfl, rfl⟩⟩, by intro b hb; simp at hb, h1, rfl⟩, h2⟩, h.fro⟩

theorem pushIn_wf (hw : Wf s) (cs : List Value) {f : Nat} (hf : f < s.n) : Wf (s.pushIn cs f) := fun b k hk => by
  show b < s.n + 1 ∧ k.fam < s.n + 1
  by_cases hb : b = s.n
  · subst hb; rw [pushIn_get_same] at hk; cases hk; exact ⟨Nat.lt_succ_self _, by simp only; omega⟩
  · rw [pushIn_get_ne _ _ _ hb] at hk; have := hw b k hk; omega

/-- One number more than the top. -/
theorem Sep.stkpush {v : Value} {l : List Int} {vs : List (Value × List Int)} (h : Sep s (stk ((v, l) :: vs) :: L) F) (x : Int) (hlen : l.length + 1 ≤ 1073741824)
    (hk : ∀ v' s', Sep s' (stk ((v', l ++ [x]) :: (v, l) :: vs) :: L) F → K v' s') : AppTo s 1 v 1 [.int .i64 x] K := by
  rcases stk_top h with ⟨rfl, rfl⟩ | ⟨b, f, rfl, hb⟩
  · refine .nil rfl (by omega) (by omega) (hk _ _ ?_)
    refine h.upd (h.wf.push _) (Fz.push h.wf _) fun A hA hP => ?_
    have hold : ∀ c ∈ A, c < s.n := fun c hc => let ⟨k, k1, _⟩ := hP c hc; (h.wf c k k1).1
    have hsame : ∀ c ∈ A, (s.push [Value.int .i64 x]).get c = s.get c := fun c hc => get_push_ne _ _ (by have := hold c hc; omega)
    obtain ⟨Q, q1, q2, q3⟩ := hA
    have hQ : A = Q := by
      rcases q3 with ⟨_, _, e⟩ | ⟨c, f, e, _⟩
      · exact e
      · cases e
    subst hQ
    refine ⟨s.n :: A, ?_, ?_, ?_, ?_, fun c hc _ => get_push_ne _ _ (by omega), ?_⟩
    · refine ⟨A, Stk.keep hsame ⟨A, q1, q2, .inl ⟨rfl, rfl, rfl⟩⟩, fun c hc k hk => ?_, .inr ⟨s.n, s.n, rfl, get_push_self _ _, rfl⟩⟩
      have := q2 c hc k (by rw [← hsame c hc]; exact hk)
      simp at this
    · intro c hc
      rcases List.mem_cons.1 hc with rfl | hc
      · refine ⟨_, get_push_self s _, rfl, fun y j hy hyn => ?_⟩
        rw [get_push_ne _ _ (by intro e; exact hyn (by simp [e]))] at hy
        have := (h.wf y j hy).2
        show j.fam ≠ s.n
        omega
      · obtain ⟨k, k1, k2, k3⟩ := hP c hc
        refine ⟨k, by rw [hsame c hc]; exact k1, k2, fun y j hy hyn => ?_⟩
        rw [get_push_ne _ _ (by intro e; exact hyn (by simp [e]))] at hy
        exact k3 y j hy fun hyA => hyn (by simp [hyA])
    · refine List.nodup_cons.2 ⟨fun hc => by have := hold _ hc; omega, ?_⟩
      exact q1.nodup
    · intro c hc
      rcases List.mem_cons.1 hc with rfl | hc
      · exact .inr (Nat.le_refl _)
      · exact .inl hc
    · intro y j hy
      by_cases hyn : y = s.n
      · subst hyn; rw [get_push_self] at hy; cases hy; exact .inr (.inl (Nat.le_refl _))
      · rw [get_push_ne _ _ hyn] at hy
        by_cases hyA : y ∈ A
        · exact .inr (.inr ⟨y, hyA, j, hy, rfl⟩)
        · exact .inl ⟨(h.wf y j hy).1, hyA⟩
  · have hf : f < s.n := (h.wf b _ hb).2
    obtain ⟨P0, ⟨A0, B0, ⟨Q0, p1, p2, p3⟩, pv, pL, pe⟩, pn⟩ := h.sep
    have hA0 : A0 = b :: Q0 := by
      rcases p3 with ⟨e, _⟩ | ⟨c, f', e, _, e3⟩
      · cases e
      · cases e; exact e3
    have htip : ∀ y k', s.get y = some k' → k'.fam = f → k'.cells.length ≤ l.length * 1 := fun y k' hy hfy => by
      by_cases hyA : y ∈ A0
      · rw [hA0] at hyA
        rcases List.mem_cons.1 hyA with rfl | hyQ
        · rw [hb] at hy; cases hy; simp
        · have := p2 y hyQ k' hy; omega
      · obtain ⟨k, k1, _, k3⟩ := pv b (by rw [hA0]; simp)
        rw [hb] at k1; cases k1
        exact absurd hfy (k3 y k' hy hyA)
    refine .fork rfl (by omega) hb rfl htip (by rw [Nat.mul_one]; exact all_lds hb (by simp)) (by simp [one]) hlen ?_
    have hres : ∀ s', s' = s.pushIn (l.map (Value.int .i64) ++ [.int .i64 x]) f → Sep s' (stk ((.slice (some ⟨s.n, 0, some 1⟩) (l.length + 1) (2 * (l.length + 1)), l ++ [x]) :: (.slice (some ⟨b, 0, some 1⟩) l.length (2 * l.length), l) :: vs) :: L) F := by
      rintro _ rfl
      have gz : Fz s (s.pushIn (l.map (Value.int .i64) ++ [.int .i64 x]) f) := fun c k hc _ => by
        rw [pushIn_get_ne _ _ _ (by have := (h.wf c k hc).1; omega)]; exact hc
      refine h.upd (pushIn_wf h.wf _ hf) gz fun A hA hP => ?_
      have hold : ∀ c ∈ A, c < s.n := fun c hc => let ⟨k, k1, _⟩ := hP c hc; (h.wf c k k1).1
      have hsame : ∀ c ∈ A, (s.pushIn (l.map (Value.int .i64) ++ [.int .i64 x]) f).get c = s.get c := fun c hc => pushIn_get_ne _ _ _ (by have := hold c hc; omega)
      have hA' := hA
      obtain ⟨Q, q1, q2, q3⟩ := hA
      have hQ : A = b :: Q := by
        rcases q3 with ⟨e, _⟩ | ⟨c, f', e, _, e3⟩
        · cases e
        · cases e; exact e3
      have hbA : b ∈ A := by rw [hQ]; simp
      refine ⟨s.n :: A, ?_, ?_, ?_, ?_, fun c hc _ => pushIn_get_ne _ _ _ (by omega), ?_⟩
      · refine ⟨A, Stk.keep hsame hA', fun c hc k hkc => ?_, .inr ⟨s.n, f, by simp, by rw [pushIn_get_same]; simp, rfl⟩⟩
        rw [hsame c hc] at hkc
        rw [hQ] at hc
        rcases List.mem_cons.1 hc with rfl | hc
        · rw [hb] at hkc; cases hkc; simp
        · have := q2 c hc k hkc; simp; omega
      · intro c hc
        rcases List.mem_cons.1 hc with rfl | hc
        · refine ⟨_, pushIn_get_same s _ f, rfl, fun y j hy hyn => ?_⟩
          rw [pushIn_get_ne _ _ _ (by intro e; exact hyn (by simp [e]))] at hy
          obtain ⟨k, k1, _, k3⟩ := hP b hbA
          rw [hb] at k1; cases k1
          exact k3 y j hy fun hyA => hyn (by simp [hyA])
        · obtain ⟨k, k1, k2, k3⟩ := hP c hc
          refine ⟨k, by rw [hsame c hc]; exact k1, k2, fun y j hy hyn => ?_⟩
          rw [pushIn_get_ne _ _ _ (by intro e; exact hyn (by simp [e]))] at hy
          exact k3 y j hy fun hyA => hyn (by simp [hyA])
      · exact List.nodup_cons.2 ⟨fun hc => by have := hold _ hc; omega, hA'.nodup⟩
      · intro c hc
        rcases List.mem_cons.1 hc with rfl | hc
        · exact .inr (Nat.le_refl _)
        · exact .inl hc
      · intro y j hy
        by_cases hyn : y = s.n
        · subst hyn; rw [pushIn_get_same] at hy; cases hy; exact .inr (.inr ⟨b, hbA, _, hb, rfl⟩)
        · rw [pushIn_get_ne _ _ _ hyn] at hy
          by_cases hyA : y ∈ A
          · exact .inr (.inr ⟨y, hyA, j, hy, rfl⟩)
          · exact .inl ⟨(h.wf y j hy).1, hyA⟩
    exact hk _ _ (hres _ rfl)

/-- The top is forgotten. -/
theorem Sep.stkpop {v : Value} {l : List Int} {vs : List (Value × List Int)} (h : Sep s (stk ((v, l) :: vs) :: L) F) : ∃ s0, Le s0 s ∧ Sep s0 (stk vs :: L) F := by
  rcases stk_top h with ⟨rfl, rfl⟩ | ⟨b, f, rfl, hb⟩
  · refine ⟨s, Le.refl s, ?_⟩
    obtain ⟨P, ⟨A, B, ⟨Q, h1, h2, h3⟩, hP, hL, e⟩, hn⟩ := h.sep
    have hA : A = Q := by
      rcases h3 with ⟨_, _, e⟩ | ⟨c, f, e, _⟩
      · exact e
      · cases e
    subst hA
    exact ⟨h.wf, ⟨P, ⟨A, B, h1, hP, hL, e⟩, hn⟩, h.fro⟩
  · refine ⟨s.forget (· == b), Sub.le ⟨rfl, fun c k hk => ?_⟩, ?_⟩
    · by_cases hcb : c = b
      · subst hcb; rw [get_forget_self] at hk; cases hk
      · rw [get_forget_ne hcb] at hk; exact hk
    · have gz : Fz s (s.forget (· == b)) := fun c k hc hw => by
        have hne : c ≠ b := fun e => by subst e; rw [hb] at hc; cases hc; cases hw
        rw [get_forget_ne hne]; exact hc
      refine h.upd (h.wf.forget _) gz fun A hA hP => ?_
      have hAn := hA.nodup
      obtain ⟨Q, q1, q2, q3⟩ := hA
      have hQ : A = b :: Q := by
        rcases q3 with ⟨e, _⟩ | ⟨c, f', e, _, e3⟩
        · cases e
        · cases e; exact e3
      rw [hQ] at hAn
      obtain ⟨n1, n2⟩ := List.nodup_cons.1 hAn
      have hsame : ∀ c ∈ Q, (s.forget (· == b)).get c = s.get c := fun c hc => get_forget_ne fun e => n1 (e ▸ hc)
      refine ⟨Q, Stk.keep hsame q1, ?_, n2, fun c hc => .inl (by rw [hQ]; simp [hc]), fun c _ hcA => get_forget_ne fun e => hcA (by rw [hQ, e]; simp), fun y j hy => ?_⟩
      · intro c hc
        obtain ⟨k, k1, k2, k3⟩ := hP c (by rw [hQ]; simp [hc])
        refine ⟨k, by rw [hsame c hc]; exact k1, k2, fun y j hy hyn => ?_⟩
        have hyb : y ≠ b := fun e => by subst e; rw [get_forget_self] at hy; cases hy
        rw [get_forget_ne hyb] at hy
        exact k3 y j hy (by rw [hQ]; simp [hyb, hyn])
      · have hyb : y ≠ b := fun e => by subst e; rw [get_forget_self] at hy; cases hy
        rw [get_forget_ne hyb] at hy
        by_cases hyA : y ∈ A
        · exact .inr (.inr ⟨y, hyA, j, hy, rfl⟩)
        · exact .inl ⟨(h.wf y j hy).1, hyA⟩
/-- What was built is laid upon the stack (a piece at the head, which is forgotten). -/
theorem Sep.appS {b n c sz by_ : Nat} {x : Int} {v : Value} {l : List Int} {vs : List (Value × List Int)} (h : Sep s (pt b [.int .i64 x] :: stk ((v, l) :: vs) :: L) F) (hz : 0 < sz) (hy : by_ ≤ 65536) (he : sz = 1) (hn : n = 1) (hlen : l.length + 1 ≤ 1073741824)
    (hk : ∀ v' s', Sep s' (stk ((v', l ++ [x]) :: (v, l) :: vs) :: L) F → K v' s') : 0 < sz ∧ by_ ≤ 65536 ∧ ∃ nx news, Spread s sz (.slice (some ⟨b, 0, some sz⟩) n c) nx news ∧ AppTo s sz v nx news K := by
  subst he; subst hn
  exact ⟨hz, hy, 1, [.int .i64 x], spread_pt (R := repI) (m := [x]) h (repK_all.2 rfl) rfl, h.drop1.stkpush x hlen hk⟩
end Go.Am
