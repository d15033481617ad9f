/-
  From the rules of a walk to the row: the heap at the start, the known variables, what is left behind.
-/
import Derived.Test.YtpbnliicmccjhaaDoorAmR
import Derived.Test.YtpbnliicmccjhaaDoorEnv
import Derived.Test.YtpbnliicmccjhaaDoorRows
import Derived.ProofKit
import Derived.LaidMore
import Derived.OpenShut
import Derived.LaidLaws
import Derived.Handed
import Derived.MakeChecks
import Derived.LaidHandle
namespace Go.Am
open Go.Proofs Go.ChangeShapes Go.WideShapes Go.ChangeAt Go.RowKit

theorem grown_of_kept {w w' : World} (h : Kept w w') : Grown w w' := by
  refine ⟨⟨h.os, h.output, fun i hi => ?_⟩, h.froz, h.size⟩
  rw [h.block i hi]
  cases hh : w.heap[i]? with
  | none => rfl
  | some o => cases o <;> simp

/-- An array of numbers that is known reads as its numbers. -/
theorem arr_cells {P : Program} {w : World} {H : Type} {enc : TypeId × Value → H} {sp : Nat → Bool} {hd : Bool} {fuel t e n : Nat} {k : IntKind} {cs : List Value} {x : DataW H × List MemPlace} {ns : List Int}
    (ht : P.underlying t = some (.array n e)) (he : P.underlying e = some (.int k)) (hc : P.cellsOf e = 1) (hct : P.cellsOf t = n) (h : DataW.trod enc P w 0 sp hd fuel t cs = some x) (hx : x.1 = .agg (ns.map fun i => .lit (.int k i))) : cs = ns.map (Value.int k) := by
  obtain ⟨xs, m, rfl, rfl, hlen, hn, hel⟩ := DataW.trod_array ht h
  simp only [DataW.agg.injEq] at hx
  have hns : ns.length = n := by have := congrArg List.length hx; simp at this; omega
  refine List.ext_getElem (by simp; omega) fun i h1 h2 => ?_
  have hi : i < n := by omega
  have h0 := hel i hi
  rw [hc, Nat.mul_one] at h0
  have hxi : i < xs.length := by omega
  rw [List.getElem?_eq_getElem hxi] at h0
  obtain ⟨z, e1, e2, _⟩ := DataW.trod_int he h0
  have e3 : cs[i] = .int k z := by
    have := congrArg (fun l => l[0]?) e1
    simp only [List.getElem?_take, List.getElem?_drop, Nat.add_zero, Nat.lt_one_iff, if_true, List.getElem?_cons_zero] at this
    rw [List.getElem?_eq_getElem h1] at this
    simpa using this
  rw [e3]
  have e4 := congrArg (fun l => l[i]?) hx
  simp only [List.getElem?_map, List.getElem?_eq_getElem hxi, Option.map_some] at e4
  rw [List.getElem?_eq_getElem (by omega)] at e4
  simp only [Option.map_some, Option.some.injEq, e2, DataW.lit.injEq, Lit.int.injEq, true_and] at e4
  simp [e4]

set_option maxRecDepth 100000
theorem g0_named : Tryd.prog.globalNamed "math/bits.deBruijn32tab" = some 0 := by kernel_rfl
theorem g1_named : Tryd.prog.globalNamed "math/bits.deBruijn64tab" = some 1 := by kernel_rfl
theorem g0_type : (Tryd.prog.globals[0]?).map (·.type) = some 107 := by kernel_rfl
theorem g1_type : (Tryd.prog.globals[1]?).map (·.type) = some 108 := by kernel_rfl
theorem c5 : Tryd.prog.cellsOf 5 = 1 := by kernel_rfl
theorem c107 : Tryd.prog.cellsOf 107 = 32 := by kernel_rfl
theorem c108 : Tryd.prog.cellsOf 108 = 64 := by kernel_rfl
abbrev lay2 : List (String × DataW Unit) := [("math/bits.deBruijn32tab", YtpbnliicmccjhaaDoor.Rows.laid_math_bits_deBruijn32tab), ("math/bits.deBruijn64tab", YtpbnliicmccjhaaDoor.Rows.laid_math_bits_deBruijn64tab)]

theorem var_heap {P : Program} {W : World} {n : String} {g : Nat} {cs : Array Value} (hg : P.globalNamed n = some g) (h : W.var? P n = some cs) : ∃ e fz, W.heap[g]? = some (.cells cs e fz) := by
  simp only [World.var?, hg, Option.bind_some] at h
  split at h
  · rename_i c e f hh; cases h; exact ⟨e, f, hh⟩
  · cases h
/-- The numbers that a known variable holds. -/
def nums (i : Nat) : List Int := ((Gs[i]?).map fun g => g.2.map fun v => match v with | .int _ n => n | _ => 0).getD []
/-- The known variables hold what they should. -/
theorem laid_heap {W : World} (h : laidMetH Tryd.prog lay2 W) : ∀ g ∈ env.G, ∃ e fz, W.heap[g.1]? = some (.cells g.2.toArray e fz) := by
  rw [MakeChecks.laidMetH_plain _ _ _ (by kernel_rfl)] at h
  obtain ⟨ps, ⟨g0, t0, cs0, f0, p0, q0, hg0, ht0, hv0, hd0, ⟨g1, t1, cs1, f1, p1, q1, hg1, ht1, hv1, hd1, _, _⟩, _⟩, _, _⟩ := h
  obtain rfl := Option.some.inj (g0_named.symm.trans hg0)
  obtain rfl := Option.some.inj (g1_named.symm.trans hg1)
  obtain rfl := Option.some.inj (g0_type.symm.trans ht0)
  obtain rfl := Option.some.inj (g1_type.symm.trans ht1)
  have e0 := arr_cells (ns := nums 0) Tryd.underlying107 Tryd.underlying5 c5 c107 hd0 rfl
  have e1 := arr_cells (ns := nums 1) Tryd.underlying108 Tryd.underlying5 c5 c108 hd1 rfl
  obtain ⟨a0, b0, h0⟩ := var_heap g0_named hv0
  obtain ⟨a1, b1, h1⟩ := var_heap g1_named hv1
  have k0 : cs0 = cs0.toList.toArray := by simp
  have k1 : cs1 = cs1.toList.toArray := by simp
  rw [k0, e0] at h0
  rw [k1, e1] at h1
  intro g hg
  have hg' : g ∈ Gs := hg
  simp only [Gs, List.mem_cons, List.not_mem_nil, or_false] at hg'
  rcases hg' with rfl | rfl
  · exact ⟨a0, b0, h0⟩
  · exact ⟨a1, b1, h1⟩

/-- A law's contract over the known variables alone, told of the model. -/
theorem calls_of_ac {f : FuncId} {args : List Value} {W : World} (hl : laidMetH Tryd.prog lay2 W) (ha : args.all scalar = true) (h : Sep (gst env.G) [] [] → AC env f args (gst env.G) fun r _ => r = .bool true) :
    Calls Tryd.prog f args.toArray W fun e W' => e = .returned (.bool true) ∧ Grown W W' := by
  have hr := rel_begin Gs_sc Gs_nd (laid_heap hl)
  refine ((h (Sep.nil hr.wf)).run W (gphi env.G) W args hr (.scalars ha)).mono fun e W' ⟨v, v', s, ψ, he, hv, hvr, _, hrel⟩ => ?_
  subst hv
  exact ⟨by rw [he, hvr.to_bool], grown_of_kept hrel.kept⟩
end Go.Am
