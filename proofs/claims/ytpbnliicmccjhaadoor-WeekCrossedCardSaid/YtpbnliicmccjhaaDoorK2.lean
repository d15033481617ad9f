/-
  A plan by numbers among the arguments, opened.
-/
import Derived.Test.YtpbnliicmccjhaaDoorK1
import Derived.Test.YtpbnliicmccjhaaDoorVC
import Derived.Deep.Strs
namespace Go.Am
set_option linter.unusedVariables false
set_option linter.unusedSimpArgs false
set_option maxRecDepth 100000
open Go.Proofs Go.ChangeShapes Go.WideShapes Go.ChangeAt Go.RowKit

theorem rota_flat (a b : Nat) (y : List Nat) : [Value.agg (rota a b y).toArray].all flat = true := by
  have : ∀ l : List Nat, (l.map fun (x : Nat) => Value.int .u8 x).all scalar = true := fun l => by induction l <;> simp_all [scalar]
  simp [flat, rota, scalar]
theorem open_rota {W : World} {base : Nat} {v : Value} {H : Type} {enc : TypeId × Value → H} {d : DataW H} {p : List MemPlace} {sp : Nat → Bool} {hd : Bool} {b0 : Nat} (hval : Value.okWide Tryd.prog W .any base 24 v) (h : DataW.Trod enc Tryd.prog W b0 sp hd 24 v d p) :
    ∃ a b y, a ≤ 255 ∧ b ≤ 255 ∧ y.length = 5 ∧ (∀ x ∈ y, x ≤ 255) ∧ v = .agg (rota a b y).toArray := by
  obtain ⟨cs, rfl, hsz⟩ := okWide_struct Tryd.underlying24 hval
  obtain ⟨fuel, hf⟩ := h
  obtain ⟨y0, y1, y2, n, _, hl, h0, h1, h2⟩ := Go.Deep.trod_struct3 Tryd.underlying24 hf
  have c24 : Tryd.prog.cellsOf 24 = 7 := by kernel_rfl
  have c22 : Tryd.prog.cellsOf 22 = 5 := by kernel_rfl
  have hcs : (Value.agg cs).cells.toList = cs.toList := rfl
  rw [hcs] at hl h0 h1 h2
  rw [c24] at hl
  obtain ⟨z0, e0, _, w0⟩ := DataW.trod_int Tryd.underlying5 h0
  obtain ⟨z1, e1, _, w1⟩ := DataW.trod_int Tryd.underlying5 h1
  obtain ⟨ns, e2, hn, w2⟩ := arr_ints Tryd.underlying22 Tryd.underlying5 c5 c22 h2
  obtain ⟨a, rfl, ha⟩ := u8_bound w0
  obtain ⟨b, rfl, hb⟩ := u8_bound w1
  obtain ⟨y, ey, hy, hy2⟩ := u8s_bound w2
  simp only [c5, c22] at e0 e1 e2
  rw [ey] at e2
  have k0 : (cs.toList.drop 0).take 1 = [Value.int .u8 a] := e0
  have k1 : (cs.toList.drop 1).take 1 = [Value.int .u8 b] := e1
  have k2 : (cs.toList.drop 2).take 5 = y.map fun (x : Nat) => Value.int .u8 x := e2
  refine ⟨a, b, y, ha, hb, by omega, hy2, ?_⟩
  have hall : cs.toList = rota a b y := by
    match hcl : cs.toList, hl with
    | [v0, v1, v2, v3, v4, v5, v6], _ =>
      rw [hcl] at k0 k1 k2
      simp at k0 k1 k2
      simp [rota, k0, k1, k2]
  rw [← hall]
end Go.Am
