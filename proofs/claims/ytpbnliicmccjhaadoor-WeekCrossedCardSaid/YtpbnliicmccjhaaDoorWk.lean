/-
  The examples of the chapter hold: the evaluator's word.
-/
import Derived.Test.YtpbnliicmccjhaaDoorAmG
import Derived.Test.YtpbnliicmccjhaaDoorEnv
namespace Go.Am
set_option linter.unusedVariables false
set_option linter.unusedSimpArgs false
open Go.Proofs
set_option maxRecDepth 100000

theorem meth_of {E : Env} {t k : Nat} {name : String} {e : TypeId} (hu : E.P.underlying t = some (.pointer e))
    (hm : ((E.P.info? t).bind fun i => i.methods.find? (·.name == name)).map (fun m => (m.path.toList.isEmpty, m.func)) = some (true, some (k, true))) : Meth E t name k := by
  intro v w
  cases hi : E.P.info? t with
  | none => simp [hi] at hm
  | some i =>
  simp only [hi, Option.bind_some] at hm
  cases hf : i.methods.find? (·.name == name) with
  | none => simp [hf] at hm
  | some m =>
  simp only [hf, Option.map_some, Option.some.injEq, Prod.mk.injEq] at hm
  have hp : m.path.toList = [] := by simpa using hm.1
  have hd : E.P.types.size + Made.depth = (E.P.types.size + (Made.depth - 1)) + 1 := rfl
  rw [hd]
  unfold method
  simp only [Sem.run_bind, typeInfo, run_program, Result.andThen_ok, hi, hf, hp, hm.2, follow, receiverAt, Sem.run_pure, run_underlying hu, Place.get]

theorem m94 : Meth env 61 "breeze/week.carts" 94 := meth_of (e := 63) (by kernel_rfl) (by kernel_rfl)
theorem m95 : Meth env 61 "breeze/week.found" 95 := meth_of (e := 63) (by kernel_rfl) (by kernel_rfl)
theorem m96 : Meth env 82 "breeze/week.carts" 96 := meth_of (e := 84) (by kernel_rfl) (by kernel_rfl)
theorem m97 : Meth env 82 "breeze/week.found" 97 := meth_of (e := 84) (by kernel_rfl) (by kernel_rfl)

def meths : XMeth := [(61, "breeze/week.carts", 94), (61, "breeze/week.found", 95), (82, "breeze/week.carts", 96), (82, "breeze/week.found", 97)]
theorem meths_ok : ∀ p ∈ meths, Meth env p.1 p.2.1 p.2.2 := by
  intro p hp
  simp only [meths, List.mem_cons, List.not_mem_nil, or_false] at hp
  rcases hp with rfl | rfl | rfl | rfl
  · exact m94
  · exact m95
  · exact m96
  · exact m97

theorem works_run : fRun env meths 1000 60 15 [] = some (.bool true) := by kernel_rfl
/-- 'works' is true, over whatever heap, which it leaves. -/
theorem works_ok (σ : St) : AC env 15 [] σ fun v s => v = .bool true ∧ s = σ :=
  AC.closed Gs_sc Gs_nd rfl rfl (fRun_ok meths_ok Gs_nd works_run) σ

end Go.Am
