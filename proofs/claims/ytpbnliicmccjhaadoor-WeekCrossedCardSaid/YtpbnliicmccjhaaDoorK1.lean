/-
  From the rules of a walk to the row: the heap at the start, the known variables, what is left behind.
-/
import Derived.Test.YtpbnliicmccjhaaDoorAmR
import Derived.Test.YtpbnliicmccjhaaDoorEnv
import Derived.Test.YtpbnliicmccjhaaDoorRows
import Derived.ProofKit
import Derived.LaidMore
import Derived.OpenShut
import Derived.LaidLaws
import Derived.Handed
import Derived.MakeChecks
import Derived.LaidHandle
namespace Go.Am
set_option linter.unusedVariables false
set_option linter.unusedSimpArgs false
open Go.Proofs Go.ChangeShapes Go.WideShapes Go.ChangeAt Go.RowKit

theorem grown_of_kept {w w' : World} (h : Kept w w') : Grown w w' := by
  refine ⟨⟨h.os, h.output, fun i hi => ?_⟩, h.froz, h.size⟩
  rw [h.block i hi]
  cases hh : w.heap[i]? with
  | none => rfl
  | some o => cases o <;> simp

/-- An array of numbers that is known reads as its numbers. -/
theorem arr_cells {P : Program} {w : World} {H : Type} {enc : TypeId × Value → H} {sp : Nat → Bool} {hd : Bool} {fuel t e n : Nat} {k : IntKind} {cs : List Value} {x : DataW H × List MemPlace} {ns : List Int}
    (ht : P.underlying t = some (.array n e)) (he : P.underlying e = some (.int k)) (hc : P.cellsOf e = 1) (hct : P.cellsOf t = n) (h : DataW.trod enc P w 0 sp hd fuel t cs = some x) (hx : x.1 = .agg (ns.map fun i => .lit (.int k i))) : cs = ns.map (Value.int k) := by
  obtain ⟨xs, m, rfl, rfl, hlen, hn, hel⟩ := DataW.trod_array ht h
  simp only [DataW.agg.injEq] at hx
  have hns : ns.length = n := by have := congrArg List.length hx; simp at this; omega
  refine List.ext_getElem (by simp; omega) fun i h1 h2 => ?_
  have hi : i < n := by omega
  have h0 := hel i hi
  rw [hc, Nat.mul_one] at h0
  have hxi : i < xs.length := by omega
  rw [List.getElem?_eq_getElem hxi] at h0
  obtain ⟨z, e1, e2, _⟩ := DataW.trod_int he h0
  have e3 : cs[i] = .int k z := by
    have := congrArg (fun l => l[0]?) e1
    simp only [List.getElem?_take, List.getElem?_drop, Nat.add_zero, Nat.lt_one_iff, if_true, List.getElem?_cons_zero] at this
    rw [List.getElem?_eq_getElem h1] at this
    simpa using this
  rw [e3]
  have e4 := congrArg (fun l => l[i]?) hx
  simp only [List.getElem?_map, List.getElem?_eq_getElem hxi, Option.map_some] at e4
  rw [List.getElem?_eq_getElem (by omega)] at e4
  simp only [Option.map_some, Option.some.injEq, e2, DataW.lit.injEq, Lit.int.injEq, true_and] at e4
  simp [e4]

set_option maxRecDepth 100000
theorem g0_named : Tryd.prog.globalNamed "math/bits.deBruijn32tab" = some 0 := by kernel_rfl
theorem g1_named : Tryd.prog.globalNamed "math/bits.deBruijn64tab" = some 1 := by kernel_rfl
theorem g0_type : (Tryd.prog.globals[0]?).map (·.type) = some 107 := by kernel_rfl
theorem g1_type : (Tryd.prog.globals[1]?).map (·.type) = some 108 := by kernel_rfl
theorem c5 : Tryd.prog.cellsOf 5 = 1 := by kernel_rfl
theorem c107 : Tryd.prog.cellsOf 107 = 32 := by kernel_rfl
theorem c108 : Tryd.prog.cellsOf 108 = 64 := by kernel_rfl
abbrev lay2 : List (String × DataW Unit) := [("math/bits.deBruijn32tab", YtpbnliicmccjhaaDoor.Rows.laid_math_bits_deBruijn32tab), ("math/bits.deBruijn64tab", YtpbnliicmccjhaaDoor.Rows.laid_math_bits_deBruijn64tab)]

theorem var_heap {P : Program} {W : World} {n : String} {g : Nat} {cs : Array Value} (hg : P.globalNamed n = some g) (h : W.var? P n = some cs) : ∃ e fz, W.heap[g]? = some (.cells cs e fz) := by
  simp only [World.var?, hg, Option.bind_some] at h
  split at h
  · rename_i c e f hh; cases h; exact ⟨e, f, hh⟩
  · cases h
/-- The numbers that a known variable holds. -/
def nums (i : Nat) : List Int := ((Gs[i]?).map fun g => g.2.map fun v => match v with | .int _ n => n | _ => 0).getD []
/-- The known variables hold what they should. -/
theorem laid_heap {W : World} (h : laidMetH Tryd.prog lay2 W) : ∀ g ∈ env.G, ∃ e fz, W.heap[g.1]? = some (.cells g.2.toArray e fz) := by
  rw [MakeChecks.laidMetH_plain _ _ _ (by kernel_rfl)] at h
  obtain ⟨ps, ⟨g0, t0, cs0, f0, p0, q0, hg0, ht0, hv0, hd0, ⟨g1, t1, cs1, f1, p1, q1, hg1, ht1, hv1, hd1, _, _⟩, _⟩, _, _⟩ := h
  obtain rfl := Option.some.inj (g0_named.symm.trans hg0)
  obtain rfl := Option.some.inj (g1_named.symm.trans hg1)
  obtain rfl := Option.some.inj (g0_type.symm.trans ht0)
  obtain rfl := Option.some.inj (g1_type.symm.trans ht1)
  have e0 := arr_cells (ns := nums 0) Tryd.underlying107 Tryd.underlying5 c5 c107 hd0 rfl
  have e1 := arr_cells (ns := nums 1) Tryd.underlying108 Tryd.underlying5 c5 c108 hd1 rfl
  obtain ⟨a0, b0, h0⟩ := var_heap g0_named hv0
  obtain ⟨a1, b1, h1⟩ := var_heap g1_named hv1
  have k0 : cs0 = cs0.toList.toArray := by simp
  have k1 : cs1 = cs1.toList.toArray := by simp
  rw [k0, e0] at h0
  rw [k1, e1] at h1
  intro g hg
  have hg' : g ∈ Gs := hg
  simp only [Gs, List.mem_cons, List.not_mem_nil, or_false] at hg'
  rcases hg' with rfl | rfl
  · exact ⟨a0, b0, h0⟩
  · exact ⟨a1, b1, h1⟩

/-- A law's contract over the known variables alone, told of the model. -/
theorem calls_of_ac {f : FuncId} {args : List Value} {W : World} (hl : laidMetH Tryd.prog lay2 W) (ha : args.all scalar = true) (h : Sep (gst env.G) [] [] → AC env f args (gst env.G) fun r _ => r = .bool true) :
    Calls Tryd.prog f args.toArray W fun e W' => e = .returned (.bool true) ∧ Grown W W' := by
  have hr := rel_begin Gs_sc Gs_nd (laid_heap hl)
  refine ((h (Sep.nil hr.wf)).run W (gphi env.G) W args hr (.scalars ha)).mono fun e W' ⟨v, v', s, ψ, he, hv, hvr, _, hrel⟩ => ?_
  subst hv
  exact ⟨by rw [he, hvr.to_bool], grown_of_kept hrel.kept⟩

/-! ### Arguments without memory -/

theorem mapM_imp {α β : Type} {F G : α → Option β} : ∀ {l : List α} {xs : List β}, l.mapM F = some xs → (∀ a ∈ l, ∀ y, F a = some y → G a = some y) → l.mapM G = some xs
  | [], xs, h, _ => by simpa using h
  | a :: l, xs, h, hg => by
    rw [List.mapM_cons] at h ⊢
    simp only [bind, Option.bind_eq_some_iff, pure, Option.some.injEq] at h ⊢
    obtain ⟨y, h1, ys, h2, h3⟩ := h
    exact ⟨y, hg a (by simp) y h1, ys, mapM_imp h2 fun b hb => hg b (by simp [hb]), h3⟩
theorem mapM_snd {α β γ : Type} {F : α → Option (β × List γ)} : ∀ {l : List α} {xs : List (β × List γ)}, l.mapM F = some xs → (∀ a ∈ l, ∀ y, F a = some y → y.2 = []) → xs.flatMap (·.2) = []
  | [], xs, h, _ => by simp at h; subst h; rfl
  | a :: l, xs, h, hg => by
    rw [List.mapM_cons] at h
    simp only [bind, Option.bind_eq_some_iff, pure, Option.some.injEq] at h
    obtain ⟨y, h1, ys, h2, h3⟩ := h
    subst h3
    rw [List.flatMap_cons, hg a (by simp) y h1, mapM_snd h2 fun b hb => hg b (by simp [hb])]; rfl

/-- A type whose values hold no memory. -/
def flatT (P : Program) : Nat → TypeId → Bool
  | 0, _ => false
  | k + 1, t => match P.underlying t with
    | some .bool | some (.int _) | some .string => true
    | some (.struct fs) => fs.toList.all fun f => flatT P k f.type
    | some (.array _ e) => flatT P k e
    | _ => false
theorem trod_flat {P : Program} {H : Type} {enc : TypeId × Value → H} : ∀ (k t : Nat), flatT P k t = true → ∀ (fuel : Nat) (cs : List Value) (x : DataW H × List MemPlace) (w : World) (b : Nat) (sp : Nat → Bool) (hd : Bool),
    DataW.trod enc P w b sp hd fuel t cs = some x → x.2 = [] ∧ ∀ w' b' sp' hd', DataW.trod enc P w' b' sp' hd' fuel t cs = some x
  | 0, _, h => by simp [flatT] at h
  | k + 1, t, h => by
    intro fuel cs x w b sp hd hx
    cases fuel with
    | zero => simp [DataW.trod] at hx
    | succ n =>
      simp only [flatT] at h
      cases hu : P.underlying t with
      | none => simp [hu] at h
      | some d =>
        cases d <;> simp only [hu, Bool.false_eq_true] at h
        case bool =>
          unfold DataW.trod at hx
          rw [hu] at hx
          refine ⟨?_, fun w' b' sp' hd' => ?_⟩
          · split at hx <;> simp_all
            rw [← hx]
          · unfold DataW.trod; rw [hu]; split at hx <;> simp_all
        case int kk =>
          unfold DataW.trod at hx
          rw [hu] at hx
          refine ⟨?_, fun w' b' sp' hd' => ?_⟩
          · split at hx <;> simp_all
            rw [← hx.2]
          · unfold DataW.trod; rw [hu]; split at hx <;> simp_all
        case string =>
          unfold DataW.trod at hx
          rw [hu] at hx
          refine ⟨?_, fun w' b' sp' hd' => ?_⟩
          · split at hx <;> simp_all
            rw [← hx.2]
          · unfold DataW.trod; rw [hu]; split at hx <;> simp_all
        case struct fs =>
          have ih := fun f (hf : f ∈ fs.toList) => trod_flat (enc := enc) k f.type (List.all_eq_true.1 h f hf)
          unfold DataW.trod at hx
          rw [hu] at hx
          simp only at hx
          by_cases hl : cs.length = P.cellsOf t
          · rw [if_pos hl] at hx
            obtain ⟨xs, h1, h2⟩ := Option.map_eq_some_iff.1 hx
            subst h2
            refine ⟨mapM_snd h1 fun f hf y hy => (ih f hf _ _ _ _ _ _ _ hy).1, fun w' b' sp' hd' => ?_⟩
            unfold DataW.trod
            rw [hu]
            simp only
            rw [if_pos hl, mapM_imp h1 fun f hf y hy => (ih f hf _ _ _ _ _ _ _ hy).2 w' b' sp' hd']
            rfl
          · rw [if_neg hl] at hx; cases hx
        case array n e =>
          have ih := trod_flat (enc := enc) k e h
          unfold DataW.trod at hx
          rw [hu] at hx
          simp only at hx
          by_cases hl : cs.length = P.cellsOf t
          · rw [if_pos hl] at hx
            obtain ⟨xs, h1, h2⟩ := Option.map_eq_some_iff.1 hx
            subst h2
            refine ⟨mapM_snd h1 fun i _ y hy => (ih _ _ _ _ _ _ _ hy).1, fun w' b' sp' hd' => ?_⟩
            unfold DataW.trod
            rw [hu]
            simp only
            rw [if_pos hl, mapM_imp h1 fun i _ y hy => (ih _ _ _ _ _ _ _ hy).2 w' b' sp' hd']
            rfl
          · rw [if_neg hl] at hx; cases hx
theorem trodAll_flat {P : Program} {H : Type} {enc : TypeId × Value → H} : ∀ (ts : List TypeId), ts.all (flatT P 4) = true → ∀ (vs : List Value) (ds : List (DataW H)) (p : List MemPlace) (w : World) (b : Nat) (sp : Nat → Bool) (hd : Bool),
    DataW.TrodAll enc P w b sp hd ts vs ds p → p = [] ∧ ∀ w' b' sp' hd', DataW.TrodAll enc P w' b' sp' hd' ts vs ds []
  | [], _, vs, ds, p, w, b, sp, hd, h => by
    cases vs <;> cases ds <;> simp [DataW.TrodAll] at h ⊢
    exact h
  | t :: ts, ht, vs, ds, p, w, b, sp, hd, h => by
    cases vs <;> cases ds <;> simp only [DataW.TrodAll] at h ⊢ <;> try exact h.elim
    simp only [List.all_cons, Bool.and_eq_true] at ht
    obtain ⟨p1, q1, ⟨fuel, h1⟩, h2, rfl⟩ := h
    obtain ⟨e1, g1⟩ := trod_flat (enc := enc) 4 t ht.1 _ _ _ _ _ _ _ h1
    obtain ⟨e2, g2⟩ := trodAll_flat ts ht.2 _ _ _ _ _ _ _ h2
    simp only at e1
    subst e1; subst e2
    exact ⟨rfl, fun w' b' sp' hd' => ⟨[], [], ⟨fuel, g1 w' b' sp' hd'⟩, g2 w' b' sp' hd', rfl⟩⟩

/-- An array of numbers, read. -/
theorem arr_ints {P : Program} {w : World} {H : Type} {enc : TypeId × Value → H} {b : Nat} {sp : Nat → Bool} {hd : Bool} {fuel t e n : Nat} {k : IntKind} {cs : List Value} {x : DataW H × List MemPlace}
    (ht : P.underlying t = some (.array n e)) (he : P.underlying e = some (.int k)) (hc : P.cellsOf e = 1) (hct : P.cellsOf t = n) (h : DataW.trod enc P w b sp hd fuel t cs = some x) :
    ∃ ns : List Int, cs = ns.map (Value.int k) ∧ ns.length = n ∧ ∀ i ∈ ns, (Lit.int k i).wf = true := by
  obtain ⟨xs, m, rfl, rfl, hlen, hn, hel⟩ := DataW.trod_array ht h
  have key : ∀ i, i < n → ∃ z, cs[i]? = some (.int k z) ∧ (Lit.int k z).wf = true := fun i hi => by
    have h0 := hel i hi
    rw [hc, Nat.mul_one, List.getElem?_eq_getElem (by omega)] at h0
    obtain ⟨z, e1, _, e3⟩ := DataW.trod_int he h0
    refine ⟨z, ?_, e3⟩
    have := congrArg (fun l => l[0]?) e1
    simpa using this
  refine ⟨cs.map fun v => match v with | .int _ z => z | _ => 0, ?_, by rw [List.length_map, hlen, hct], fun i hi => ?_⟩
  · rw [List.map_map]
    refine (List.map_id cs).symm.trans (List.map_congr_left fun v hv => ?_)
    obtain ⟨j, hj⟩ := List.getElem?_of_mem hv
    obtain ⟨z, h1, _⟩ := key j (by have := (List.getElem?_eq_some_iff.1 hj).1; omega)
    rw [hj] at h1; cases h1; rfl
  · obtain ⟨v, hv, rfl⟩ := List.mem_map.1 hi
    obtain ⟨j, hj⟩ := List.getElem?_of_mem hv
    obtain ⟨z, h1, h2⟩ := key j (by have := (List.getElem?_eq_some_iff.1 hj).1; omega)
    rw [hj] at h1; cases h1; exact h2
theorem u8_bound {z : Int} (h : (Lit.int .u8 z).wf = true) : ∃ m : Nat, z = m ∧ m ≤ 255 := by
  simp [Lit.wf, IntKind.min, IntKind.max, IntKind.bits, IntKind.signed] at h
  exact ⟨z.toNat, by omega, by omega⟩
theorem u8s_bound : ∀ {ns : List Int}, (∀ i ∈ ns, (Lit.int .u8 i).wf = true) → ∃ ms : List Nat, ns.map (Value.int .u8) = ms.map (fun (x : Nat) => Value.int .u8 x) ∧ ms.length = ns.length ∧ ∀ x ∈ ms, x ≤ 255
  | [], _ => ⟨[], rfl, rfl, by simp⟩
  | z :: ns, h => by
    obtain ⟨m, rfl, hm⟩ := u8_bound (h z (by simp))
    obtain ⟨ms, h1, h2, h3⟩ := u8s_bound (ns := ns) fun i hi => h i (by simp [hi])
    exact ⟨m :: ms, by simp [h1], by simp [h2], fun x hx => by
      rcases List.mem_cons.1 hx with rfl | hx
      · exact hm
      · exact h3 x hx⟩
/-- As 'calls_of_ac', for arguments without memory. -/
theorem calls_of_ac' {f : FuncId} {args : List Value} {W : World} (hl : laidMetH Tryd.prog lay2 W) (ha : args.all flat = true) (h : Sep (gst env.G) [] [] → AC env f args (gst env.G) fun r _ => r = .bool true) :
    Calls Tryd.prog f args.toArray W fun e W' => e = .returned (.bool true) ∧ Grown W W' := by
  have hr := rel_begin Gs_sc Gs_nd (laid_heap hl)
  have hv : VRs (gphi env.G) args args := ⟨rfl, fun i v v' h1 h2 => by
    rw [h1] at h2; cases h2
    exact VR.flat (List.all_eq_true.1 ha v (List.mem_of_getElem? h1))⟩
  refine ((h (Sep.nil hr.wf)).run W (gphi env.G) W args hr hv).mono fun e W' ⟨v, v', s, ψ, he, hv, hvr, _, hrel⟩ => ?_
  subst hv
  exact ⟨by rw [he, hvr.to_bool], grown_of_kept hrel.kept⟩
end Go.Am
