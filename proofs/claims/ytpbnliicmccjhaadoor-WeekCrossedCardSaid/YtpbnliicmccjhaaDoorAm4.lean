/-
  An abstract machine for the model's code, part 4: each operation but the calls does in the model what it does on the abstract heap.
-/
import Derived.Test.YtpbnliicmccjhaaDoorAm3
namespace Go.Am
set_option linter.unusedVariables false
set_option linter.unusedSimpArgs false
variable {E : Env} {base : World} {φ : Phi} {σ : St} {w : World}

theorem VR.to_bool {φ : Phi} {b : Bool} {v' : Value} (h : VR φ (.bool b) v') : v' = .bool b := by cases h; rfl
theorem VR.to_int {φ : Phi} {k : IntKind} {n : Int} {v' : Value} (h : VR φ (.int k n) v') : v' = .int k n := by cases h; rfl
theorem VR.to_ptr {φ : Phi} {b o : Nat} {v' : Value} (h : VR φ (.pointer (some ⟨b, o, none⟩)) v') : ∃ m, φ b = some m ∧ v' = .pointer (some ⟨m.blk, m.off + o, none⟩) := by
  cases h with
  | ptr hm => exact ⟨_, hm, rfl⟩

theorem awUn_ok (op : UnOp) {x x' : Value} (K : Value → Prop) (hx : VR φ x x') (hk : awUn op x K) : FineP φ E.P (Op.unary op x') K := by
  cases op <;> cases x <;> simp only [awUn] at hk
  case neg.int k n => rw [hx.to_int]; obtain ⟨r, rfl, hk⟩ := hk; exact .mk (fun w => by simp [Op.unary, Op.intArith]) (.int _ _) hk
  case not.bool b => rw [hx.to_bool]; obtain ⟨r, rfl, hk⟩ := hk; exact .mk (fun w => by simp [Op.unary]) (.bool _) hk

theorem awEq_ok (t : TypeId) {x y x' y' : Value} (K : Bool → Prop) (hx : VR φ x x') (hy : VR φ y y') (hk : awEq E t x y K) :
    ∃ r, K r ∧ ∀ w, (Op.equal t x' y').run E.P w = .ok r w := by
  unfold awEq at hk
  simp only [cmp_iff] at hk
  cases ht : E.T t with
  | none => simp [ht] at hk
  | some i =>
    simp only [ht] at hk
    have hu := run_und (E := E) ht
    cases hd : i.desc <;> simp only [hd] at hk <;> try exact hk.elim
    case bool =>
      cases x <;> cases y <;> simp only at hk <;> try exact hk.elim
      rename_i a b
      rw [hx.to_bool, hy.to_bool]
      by_cases hab : a = b
      · exact ⟨true, hk.1 hab, fun w => by unfold Op.equal Op.maxDepth; rw [Op.equalIn, Sem.run_bind, hu]; simp only [Result.andThen_ok, hd]; simp [hab]⟩
      · exact ⟨false, hk.2 hab, fun w => by unfold Op.equal Op.maxDepth; rw [Op.equalIn, Sem.run_bind, hu]; simp only [Result.andThen_ok, hd]; simp [hab]⟩
    case slice e =>
      cases hx <;> cases hy <;> first | exact False.elim hk | exact ⟨_, hk, fun w => by unfold Op.equal Op.maxDepth; rw [Op.equalIn, Sem.run_bind, hu]; simp only [Result.andThen_ok, hd]; simp⟩
    case func ps rs v =>
      cases hx <;> cases hy <;> first | exact False.elim hk | exact ⟨_, hk, fun w => by unfold Op.equal Op.maxDepth; rw [Op.equalIn, Sem.run_bind, hu]; simp only [Result.andThen_ok, hd]; simp⟩

theorem run_bnd {v v' : Value} {n y : Nat} (hv : VR φ v v') (hb : bnd v n) (hy : n ≤ y) (code : BoundsCode) (P : Program) (w : World) : (Instr.sliceBound v' y code).run P w = .ok n w := by
  obtain ⟨k, rfl⟩ := hb
  rw [hv.to_int]
  have h1 : (0 : Int) ≤ (n : Int) ∧ (n : Int) ≤ (y : Int) := ⟨by omega, by omega⟩
  simp only [Instr.sliceBound, asIntOf, Sem.run_bind, Sem.run_pure, Result.andThen_ok, if_pos h1, Int.toNat_natCast]

/-- Optional operands, one by one. -/
def VRo (φ : Phi) : Option Value → Option Value → Prop
  | none, none => True
  | some v, some v' => VR φ v v'
  | _, _ => False

theorem run_low {low low' : Option Value} {l h : Nat} (hv : VRo φ low low') (hl : loOk low l) (hlh : l ≤ h) (code : BoundsCode) (P : Program) (w : World) :
    (match low' with | some v => Instr.sliceBound v h code | none => pure 0 : Sem Nat).run P w = .ok l w := by
  cases low with
  | none => cases low' with
    | none => simp only [loOk] at hl; subst hl; rfl
    | some v => exact hv.elim
  | some v => cases low' with
    | none => exact hv.elim
    | some v' => exact run_bnd hv hl hlh code P w

theorem run_bounds2 {low low' high high' : Option Value} {l h len cap : Nat} (hl : VRo φ low low') (hh : VRo φ high high') (h1 : loOk low l)
    (h2 : hiOk high h len) (h3 : l ≤ h) (h4 : h ≤ cap) (b : Bool) (P : Program) (w : World) :
    (Instr.sliceBounds b len cap low' high' none).run P w = .ok (l, h, cap) w := by
  unfold Instr.sliceBounds
  cases high with
  | none =>
    cases high' with
    | some _ => exact hh.elim
    | none =>
      simp only [hiOk] at h2
      subst h2
      have := run_low hl h1 h3 (if (none : Option Value).isSome then .slice3C else .sliceB) P w
      cases low' with
      | none => simp at this ⊢; omega
      | some v => simp at this ⊢; simp [this]
  | some v =>
    cases high' with
    | none => exact hh.elim
    | some v' =>
      have hb := run_bnd hh h2 h4 (if b then .sliceAcap else .sliceAlen) P w
      have := run_low hl h1 h3 (if (none : Option Value).isSome then .slice3C else .sliceB) P w
      cases low' with
      | none => simp at this ⊢; simp [hb]; omega
      | some v => simp at this ⊢; simp [hb, this]

theorem run_bounds3 {low low' : Option Value} {vh vh' vm vm' : Value} {l h m len cap : Nat} (hl : VRo φ low low') (hh : VR φ vh vh') (hm : VR φ vm vm') (h1 : loOk low l)
    (h2 : bnd vh h) (h5 : bnd vm m) (h3 : l ≤ h) (h4 : h ≤ m) (h6 : m ≤ cap) (b : Bool) (P : Program) (w : World) :
    (Instr.sliceBounds b len cap low' (some vh') (some vm')).run P w = .ok (l, h, m) w := by
  unfold Instr.sliceBounds
  have hb := run_bnd hh h2 h4 .slice3B P w
  have hm' := run_bnd hm h5 h6 (if b then .slice3Acap else .slice3Alen) P w
  have := run_low hl h1 h3 (if (some vm').isSome then .slice3C else .sliceB) P w
  cases low' with
  | none => simp at this ⊢; simp [hb, hm']; omega
  | some v => simp at this ⊢; simp [hb, hm', this]

theorem addr_add_off (a : Addr) (n : Nat) : (a.add n).off = a.off + n ∧ (a.add n).block = a.block ∧ (a.spot = none → (a.add n).spot = none) := by
  unfold Addr.add
  split
  · rename_i h; subst h; exact ⟨rfl, rfl, id⟩
  · exact ⟨rfl, rfl, fun _ => rfl⟩

/-- A slice's part, once the bounds are known. -/
theorem vr_part {b o e c l h m : Nat} {img : Img} {a' : Addr} {c' : Nat} (hφ : φ b = some img) (hlo : c / 2 ≤ c') (hex : c % 2 = 1 → c' = c / 2)
    (hun : c % 2 = 0 → o + c' * e = img.room) (hroom : o + c' * e ≤ img.room) (hb : a'.block = img.blk) (hs : a'.spot = none) (ha : (c' = 0 ∧ o ≠ 0) ∨ a'.off = img.off + o)
    (hl : l ≤ h) (hm : h ≤ m) (cc : Nat)
    (hcc : (cc = 2 * (m - l) + 1 ∧ m ≤ c') ∨ (cc = 2 * (c / 2 - l) + c % 2 ∧ m = c' ∧ h ≤ c / 2)) :
    VR φ (.slice (some ⟨b, o + l * e, some e⟩) (h - l) cc) (.slice (some (if m = l then a' else a'.add (l * e))) (h - l) (m - l)) := by
  have hmc : m ≤ c' := by rcases hcc with ⟨_, h⟩ | ⟨_, h, _⟩ <;> omega
  have hmul : l * e + (m - l) * e = m * e := by rw [← Nat.add_mul]; congr 1; omega
  have hmul' : m * e ≤ c' * e := Nat.mul_le_mul_right e hmc
  refine .slice hφ ?_ ?_ ?_ ?_ ?_ ?_ ?_ ?_
  · rcases hcc with ⟨rfl, _⟩ | ⟨rfl, rfl, _⟩ <;> omega
  · rcases hcc with ⟨rfl, _⟩ | ⟨rfl, rfl, _⟩ <;> omega
  · intro hodd
    rcases hcc with ⟨rfl, _⟩ | ⟨rfl, rfl, _⟩
    · omega
    · have := hex (by omega); omega
  · intro hev
    rcases hcc with ⟨rfl, _⟩ | ⟨rfl, rfl, _⟩
    · omega
    · have := hun (by omega); omega
  · omega
  · split <;> simp [hb, (addr_add_off a' (l * e)).2.1]
  · split
    · exact hs
    · exact (addr_add_off a' (l * e)).2.2 hs
  · by_cases hml : m = l
    · rw [if_pos hml]
      by_cases hl0 : l = 0
      · subst hl0
        rcases ha with ⟨h1, h2⟩ | h1
        · exact .inl ⟨by omega, by simpa using h2⟩
        · exact .inr (by simpa using h1)
      · by_cases hz : l * e = 0
        · rcases ha with ⟨h1, h2⟩ | h1
          · exact .inl ⟨by omega, by omega⟩
          · exact .inr (by rw [hz]; simpa using h1)
        · exact .inl ⟨by omega, by omega⟩
    · rw [if_neg hml]
      rcases ha with ⟨h1, h2⟩ | h1
      · omega
      · exact .inr (by rw [(addr_add_off a' (l * e)).1]; omega)

theorem awSlice_ok {t : TypeId} {i ie : TI} {e0 : TypeId} {x x' : Value} {low high max low' high' max' : Option Value} (K : Value → Prop) (ht : E.T t = some i) (hd : i.desc = .slice e0)
    (he : E.T e0 = some ie) (hx : VR φ x x') (hl : VRo φ low low') (hh : VRo φ high high') (hm : VRo φ max max')
    (hk : awSlice ie.size x low high max K) : FineP φ E.P (Instr.sliceAt t x' low' high' max') K := by
  have hu := run_und (E := E) ht
  rw [hd] at hu
  have hs := run_size (E := E) he
  obtain ⟨hk⟩ := hk
  rcases hk with ⟨rfl, h1, h2, h3, hk⟩ | ⟨b, o, n, c, l, hi, rfl, h1, h2, hk⟩
  · cases hx
    refine .mk (v' := .slice none 0 0) (fun w => ?_) .nils hk
    have hb : ∀ w, (Instr.sliceBounds true 0 0 low' high' max').run E.P w = .ok (0, 0, 0) w := by
      intro w
      cases max with
      | none =>
        cases max' with
        | some _ => exact hm.elim
        | none => exact run_bounds2 hl hh h1 h2 (Nat.le_refl _) (Nat.le_refl _) true E.P w
      | some vm =>
        cases max' with
        | none => exact hm.elim
        | some vm' =>
          cases high with
          | none => simp at h3
          | some vh =>
            cases high' with
            | none => exact hh.elim
            | some vh' => exact run_bounds3 hl hh hm h1 h2 h3.1 (Nat.le_refl _) (Nat.le_refl _) (Nat.le_refl _) true E.P w
    simp [Instr.sliceAt, Instr.slice, hu, hb, hs]
  · cases hx with
    | slice hφ hn hlo hex hun hroom hbk hsp ha =>
      rename_i img a' c'
      cases max with
      | none =>
        cases max' with
        | some _ => exact hm.elim
        | none =>
          obtain ⟨h3, h4, hk⟩ := hk
          have hb := fun w => run_bounds2 hl hh h1 h3 h2 (show hi ≤ c' by omega) true E.P w (len := n)
          refine .mk (v' := .slice (some (if c' = l then a' else a'.add (l * ie.size))) (hi - l) (c' - l)) (fun w => ?_) ?_ hk
          · simp [Instr.sliceAt, Instr.slice, hu, hb, hs]
            split <;> rfl
          · exact vr_part hφ hlo hex hun hroom hbk hsp ha h2 (by omega) _ (.inr ⟨rfl, rfl, h4⟩)
      | some vm =>
        cases max' with
        | none => exact hm.elim
        | some vm' =>
          obtain ⟨m, h5, h3, h4, h6, hk⟩ := hk
          cases high with
          | none => exact h3.elim
          | some vh =>
            cases high' with
            | none => exact hh.elim
            | some vh' =>
              have hb := fun w => run_bounds3 hl hh hm h1 h3 h5 h2 h4 (show m ≤ c' by omega) true E.P w (len := n)
              refine .mk (v' := .slice (some (if m = l then a' else a'.add (l * ie.size))) (hi - l) (m - l)) (fun w => ?_) ?_ hk
              · simp [Instr.sliceAt, Instr.slice, hu, hb, hs]
                split <;> rfl
              · exact vr_part hφ hlo hex hun hroom hbk hsp ha h2 h4 _ (.inl ⟨rfl, by omega⟩)

theorem awSliceArr_ok (h : Rel E.G base φ σ w) {t : TypeId} {i ie : TI} {n e : Nat} {x x' : Value} {low high max low' high' max' : Option Value} (K : Value → Prop) (ht : E.T t = some i) (hd : i.desc = .array n e)
    (he : E.T e = some ie) (hx : VR φ x x') (hl : VRo φ low low') (hh : VRo φ high high') (hm : VRo φ max max')
    (hk : awSliceArr σ n ie.size x low high max K) : FineP φ E.P (Instr.sliceAt t x' low' high' max') K := by
  have hu := fun w => run_und ht w
  rw [hd] at hu
  have hs := fun w => run_size he w
  unfold awSliceArr at hk
  split at hk
  · rename_i b o
    cases max' with
    | some _ => exact hm.elim
    | none =>
      obtain ⟨l, hi, h1, h2, h3, h4, ⟨k, hkk, h5⟩, hk⟩ := hk
      obtain ⟨img, hφ, rfl⟩ := hx.to_ptr
      obtain ⟨img', hφ', cur, e1, fz, c1, c2, c3, c4, c5⟩ := h.blk b k hkk
      rw [hφ] at hφ'; cases hφ'
      have hb := fun w => run_bounds2 hl hh h1 h2 h3 h4 false E.P w
      refine .mk (v' := .slice (some (if n = l then ⟨img.blk, img.off + o, none⟩ else (⟨img.blk, img.off + o, none⟩ : Addr).add (l * ie.size))) (hi - l) (n - l)) (fun w => ?_) ?_ hk
      · simp [Instr.sliceAt, Instr.sureAddr, hu w, hb w, hs w]
      · exact vr_part (c := 2 * n + 1) (c' := n) hφ (by omega) (by omega) (by omega) (by omega) rfl rfl (.inr rfl) h3 h4 _ (.inl ⟨rfl, Nat.le_refl _⟩)
  · exact hk.elim

end Go.Am
