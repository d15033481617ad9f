/-
  The types and the known variables of this translation, for the abstract machine.
-/
import Derived.Test.YtpbnliicmccjhaaDoorAmA
import Derived.Test.YtpbnliicmccjhaaDoorProg
import Derived.KernelRfl
namespace Go.Am
set_option linter.unusedVariables false
set_option linter.unusedSimpArgs false
open Go.Proofs
set_option maxRecDepth 100000
def lookT : List (Nat × TI) → Nat → Option TI
  | [], _ => none
  | (k, i) :: l, t => bif Nat.beq t k then some i else lookT l t
theorem lookT_ok {P : Program} : ∀ (l : List (Nat × TI)), (∀ p ∈ l, TOK P p.1 p.2) → ∀ t i, lookT l t = some i → TOK P t i
  | [], _, t, i, h => by simp [lookT] at h
  | (k, j) :: l, hl, t, i, h => by
    simp only [lookT] at h
    cases hb : Nat.beq t k with
    | true =>
      rw [hb] at h
      cases h
      rw [Nat.eq_of_beq_eq_true hb]
      exact hl (k, j) (by simp)
    | false =>
      rw [hb] at h
      exact lookT_ok l (fun p hp => hl p (by simp [hp])) t i h
def i1 : TI := ⟨.func #[] #[] false, 1, 8, .nilFunc, [.nilFunc], false⟩
def i2 : TI := ⟨.int .i64, 1, 8, .int .i64 0, [.int .i64 0], false⟩
def i3 : TI := ⟨.int .i64, 1, 8, .int .i64 0, [.int .i64 0], false⟩
def i4 : TI := ⟨.bool, 1, 1, .bool false, [.bool false], false⟩
def i5 : TI := ⟨.int .u8, 1, 1, .int .u8 0, [.int .u8 0], false⟩
def i6 : TI := ⟨.int .u8, 1, 1, .int .u8 0, [.int .u8 0], false⟩
def i7 : TI := ⟨.struct #[⟨"x", 2, 0, false, "", "runtime", 0⟩, ⟨"y", 3, 1, false, "", "runtime", 8⟩, ⟨"signed", 4, 2, false, "", "runtime", 16⟩, ⟨"code", 6, 3, false, "", "runtime", 17⟩], 4, 24, .agg #[.int .i64 0, .int .i64 0, .bool false, .int .u8 0], [.int .i64 0, .int .i64 0, .bool false, .int .u8 0], true⟩
def i8 : TI := ⟨.struct #[⟨"x", 2, 0, false, "", "runtime", 0⟩, ⟨"y", 3, 1, false, "", "runtime", 8⟩, ⟨"signed", 4, 2, false, "", "runtime", 16⟩, ⟨"code", 6, 3, false, "", "runtime", 17⟩], 4, 24, .agg #[.int .i64 0, .int .i64 0, .bool false, .int .u8 0], [.int .i64 0, .int .i64 0, .bool false, .int .u8 0], true⟩
def i9 : TI := ⟨.string, 1, 16, .string ⟨#[]⟩, [.string ⟨#[]⟩], false⟩
def i10 : TI := ⟨.string, 1, 16, .string ⟨#[]⟩, [.string ⟨#[]⟩], false⟩
def i11 : TI := ⟨.string, 1, 16, .string ⟨#[]⟩, [.string ⟨#[]⟩], false⟩
def i12 : TI := ⟨.int .u64, 1, 8, .int .u64 0, [.int .u64 0], false⟩
def i13 : TI := ⟨.struct #[⟨"msg", 9, 0, false, "", "runtime", 0⟩, ⟨"addr", 12, 1, false, "", "runtime", 16⟩], 2, 24, .agg #[.string ⟨#[]⟩, .int .u64 0], [.string ⟨#[]⟩, .int .u64 0], true⟩
def i14 : TI := ⟨.struct #[⟨"msg", 9, 0, false, "", "runtime", 0⟩, ⟨"addr", 12, 1, false, "", "runtime", 16⟩], 2, 24, .agg #[.string ⟨#[]⟩, .int .u64 0], [.string ⟨#[]⟩, .int .u64 0], true⟩
def i15 : TI := ⟨.pointer 111, 1, 8, .pointer none, [.pointer none], false⟩
def i16 : TI := ⟨.pointer 114, 1, 8, .pointer none, [.pointer none], false⟩
def i17 : TI := ⟨.pointer 123, 1, 8, .pointer none, [.pointer none], false⟩
def i18 : TI := ⟨.struct #[⟨"typ", 17, 0, false, "", "internal/runtime/maps", 0⟩], 1, 8, .agg #[.pointer none], [.pointer none], true⟩
def i19 : TI := ⟨.struct #[⟨"typ", 17, 0, false, "", "internal/runtime/maps", 0⟩], 1, 8, .agg #[.pointer none], [.pointer none], true⟩
def i20 : TI := ⟨.interface #[], 1, 16, .nilIface, [.nilIface], false⟩
def i21 : TI := ⟨.int .i32, 1, 4, .int .i32 0, [.int .i32 0], false⟩
def i22 : TI := ⟨.array 5 5, 5, 5, .agg #[.int .u8 0, .int .u8 0, .int .u8 0, .int .u8 0, .int .u8 0], [.int .u8 0, .int .u8 0, .int .u8 0, .int .u8 0, .int .u8 0], true⟩
def i23 : TI := ⟨.struct #[⟨"Streets", 5, 0, false, "", "", 0⟩, ⟨"Carts", 5, 1, false, "", "", 1⟩, ⟨"By", 22, 2, false, "", "", 2⟩], 7, 7, .agg #[.int .u8 0, .int .u8 0, .int .u8 0, .int .u8 0, .int .u8 0, .int .u8 0, .int .u8 0], [.int .u8 0, .int .u8 0, .int .u8 0, .int .u8 0, .int .u8 0, .int .u8 0, .int .u8 0], true⟩
def i24 : TI := ⟨.struct #[⟨"Streets", 5, 0, false, "", "", 0⟩, ⟨"Carts", 5, 1, false, "", "", 1⟩, ⟨"By", 22, 2, false, "", "", 2⟩], 7, 7, .agg #[.int .u8 0, .int .u8 0, .int .u8 0, .int .u8 0, .int .u8 0, .int .u8 0, .int .u8 0], [.int .u8 0, .int .u8 0, .int .u8 0, .int .u8 0, .int .u8 0, .int .u8 0, .int .u8 0], true⟩
def i25 : TI := ⟨.slice 32, 1, 24, .slice none 0 0, [.slice none 0 0], false⟩
def i27 : TI := ⟨.func #[3] #[3, 25] false, 1, 8, .nilFunc, [.nilFunc], false⟩
def i28 : TI := ⟨.int .i64, 1, 8, .int .i64 0, [.int .i64 0], false⟩
def i30 : TI := ⟨.func #[3, 25] #[25, 28] false, 1, 8, .nilFunc, [.nilFunc], false⟩
def i31 : TI := ⟨.func #[3, 25] #[4] false, 1, 8, .nilFunc, [.nilFunc], false⟩
def i32 : TI := ⟨.slice 3, 1, 24, .slice none 0 0, [.slice none 0 0], false⟩
def i33 : TI := ⟨.func #[25, 25] #[4] false, 1, 8, .nilFunc, [.nilFunc], false⟩
def i35 : TI := ⟨.func #[3, 25] #[3, 28] false, 1, 8, .nilFunc, [.nilFunc], false⟩
def i36 : TI := ⟨.func #[] #[4] false, 1, 8, .nilFunc, [.nilFunc], false⟩
def i37 : TI := ⟨.func #[24] #[4] false, 1, 8, .nilFunc, [.nilFunc], false⟩
def i38 : TI := ⟨.func #[3, 25] #[25] false, 1, 8, .nilFunc, [.nilFunc], false⟩
def i39 : TI := ⟨.func #[25] #[25] false, 1, 8, .nilFunc, [.nilFunc], false⟩
def i41 : TI := ⟨.func #[3, 25] #[32, 28] false, 1, 8, .nilFunc, [.nilFunc], false⟩
def i42 : TI := ⟨.func #[32, 32] #[4] false, 1, 8, .nilFunc, [.nilFunc], false⟩
def i43 : TI := ⟨.func #[3] #[25, 28] false, 1, 8, .nilFunc, [.nilFunc], false⟩
def i44 : TI := ⟨.func #[3] #[25] false, 1, 8, .nilFunc, [.nilFunc], false⟩
def i45 : TI := ⟨.func #[32] #[32] true, 1, 8, .nilFunc, [.nilFunc], false⟩
def i46 : TI := ⟨.func #[5, 22, 22] #[4] false, 1, 8, .nilFunc, [.nilFunc], false⟩
def i47 : TI := ⟨.func #[25] #[] false, 1, 8, .nilFunc, [.nilFunc], false⟩
def i48 : TI := ⟨.func #[5] #[4] false, 1, 8, .nilFunc, [.nilFunc], false⟩
def i49 : TI := ⟨.func #[25] #[4] false, 1, 8, .nilFunc, [.nilFunc], false⟩
def i50 : TI := ⟨.func #[3, 25] #[28] false, 1, 8, .nilFunc, [.nilFunc], false⟩
def i51 : TI := ⟨.func #[3, 25, 3] #[28] false, 1, 8, .nilFunc, [.nilFunc], false⟩
def i52 : TI := ⟨.func #[3, 25, 3] #[4] false, 1, 8, .nilFunc, [.nilFunc], false⟩
def i53 : TI := ⟨.func #[24, 22, 22, 5] #[4] false, 1, 8, .nilFunc, [.nilFunc], false⟩
def i54 : TI := ⟨.array 2 5, 2, 2, .agg #[.int .u8 0, .int .u8 0], [.int .u8 0, .int .u8 0], true⟩
def i55 : TI := ⟨.func #[32] #[32] false, 1, 8, .nilFunc, [.nilFunc], false⟩
def i56 : TI := ⟨.func #[32, 3] #[4] false, 1, 8, .nilFunc, [.nilFunc], false⟩
def i57 : TI := ⟨.func #[24, 5, 54] #[4] false, 1, 8, .nilFunc, [.nilFunc], false⟩
def i58 : TI := ⟨.pointer 79, 1, 8, .pointer none, [.pointer none], false⟩
def i60 : TI := ⟨.func #[3, 25, 3] #[58, 28] false, 1, 8, .nilFunc, [.nilFunc], false⟩
def i61 : TI := ⟨.pointer 63, 1, 8, .pointer none, [.pointer none], false⟩
def i62 : TI := ⟨.struct #[⟨"cart", 3, 0, false, "", "breeze/week", 0⟩, ⟨"many", 3, 1, false, "", "breeze/week", 8⟩], 2, 16, .agg #[.int .i64 0, .int .i64 0], [.int .i64 0, .int .i64 0], true⟩
def i63 : TI := ⟨.struct #[⟨"cart", 3, 0, false, "", "breeze/week", 0⟩, ⟨"many", 3, 1, false, "", "breeze/week", 8⟩], 2, 16, .agg #[.int .i64 0, .int .i64 0], [.int .i64 0, .int .i64 0], true⟩
def i64 : TI := ⟨.func #[91] #[] false, 1, 8, .nilFunc, [.nilFunc], false⟩
def i65 : TI := ⟨.func #[91] #[3] false, 1, 8, .nilFunc, [.nilFunc], false⟩
def i66 : TI := ⟨.func #[] #[25] false, 1, 8, .nilFunc, [.nilFunc], false⟩
def i67 : TI := ⟨.func #[32] #[] false, 1, 8, .nilFunc, [.nilFunc], false⟩
def i68 : TI := ⟨.func #[32, 32] #[] false, 1, 8, .nilFunc, [.nilFunc], false⟩
def i69 : TI := ⟨.func #[3, 25, 70] #[28] false, 1, 8, .nilFunc, [.nilFunc], false⟩
def i70 : TI := ⟨.func #[32] #[4] false, 1, 8, .nilFunc, [.nilFunc], false⟩
def i71 : TI := ⟨.func #[3] #[58] false, 1, 8, .nilFunc, [.nilFunc], false⟩
def i72 : TI := ⟨.func #[3, 3, 3] #[] false, 1, 8, .nilFunc, [.nilFunc], false⟩
def i73 : TI := ⟨.func #[75, 3] #[25] false, 1, 8, .nilFunc, [.nilFunc], false⟩
def i74 : TI := ⟨.array 5 3, 5, 40, .agg #[.int .i64 0, .int .i64 0, .int .i64 0, .int .i64 0, .int .i64 0], [.int .i64 0, .int .i64 0, .int .i64 0, .int .i64 0, .int .i64 0], true⟩
def i75 : TI := ⟨.array 5 74, 25, 200, .agg #[.int .i64 0, .int .i64 0, .int .i64 0, .int .i64 0, .int .i64 0, .int .i64 0, .int .i64 0, .int .i64 0, .int .i64 0, .int .i64 0, .int .i64 0, .int .i64 0, .int .i64 0, .int .i64 0, .int .i64 0, .int .i64 0, .int .i64 0, .int .i64 0, .int .i64 0, .int .i64 0, .int .i64 0, .int .i64 0, .int .i64 0, .int .i64 0, .int .i64 0], [.int .i64 0, .int .i64 0, .int .i64 0, .int .i64 0, .int .i64 0, .int .i64 0, .int .i64 0, .int .i64 0, .int .i64 0, .int .i64 0, .int .i64 0, .int .i64 0, .int .i64 0, .int .i64 0, .int .i64 0, .int .i64 0, .int .i64 0, .int .i64 0, .int .i64 0, .int .i64 0, .int .i64 0, .int .i64 0, .int .i64 0, .int .i64 0, .int .i64 0], true⟩
def i76 : TI := ⟨.int .u64, 1, 8, .int .u64 0, [.int .u64 0], false⟩
def i77 : TI := ⟨.array 5 76, 5, 40, .agg #[.int .u64 0, .int .u64 0, .int .u64 0, .int .u64 0, .int .u64 0], [.int .u64 0, .int .u64 0, .int .u64 0, .int .u64 0, .int .u64 0], true⟩
def i78 : TI := ⟨.struct #[⟨"streets", 3, 0, false, "", "breeze/week", 0⟩, ⟨"at", 75, 1, false, "", "breeze/week", 8⟩, ⟨"byCart", 77, 26, false, "", "breeze/week", 208⟩, ⟨"onDay", 77, 31, false, "", "breeze/week", 248⟩], 36, 288, .agg #[.int .i64 0, .int .i64 0, .int .i64 0, .int .i64 0, .int .i64 0, .int .i64 0, .int .i64 0, .int .i64 0, .int .i64 0, .int .i64 0, .int .i64 0, .int .i64 0, .int .i64 0, .int .i64 0, .int .i64 0, .int .i64 0, .int .i64 0, .int .i64 0, .int .i64 0, .int .i64 0, .int .i64 0, .int .i64 0, .int .i64 0, .int .i64 0, .int .i64 0, .int .i64 0, .int .u64 0, .int .u64 0, .int .u64 0, .int .u64 0, .int .u64 0, .int .u64 0, .int .u64 0, .int .u64 0, .int .u64 0, .int .u64 0], [.int .i64 0, .int .i64 0, .int .i64 0, .int .i64 0, .int .i64 0, .int .i64 0, .int .i64 0, .int .i64 0, .int .i64 0, .int .i64 0, .int .i64 0, .int .i64 0, .int .i64 0, .int .i64 0, .int .i64 0, .int .i64 0, .int .i64 0, .int .i64 0, .int .i64 0, .int .i64 0, .int .i64 0, .int .i64 0, .int .i64 0, .int .i64 0, .int .i64 0, .int .i64 0, .int .u64 0, .int .u64 0, .int .u64 0, .int .u64 0, .int .u64 0, .int .u64 0, .int .u64 0, .int .u64 0, .int .u64 0, .int .u64 0], true⟩
def i79 : TI := ⟨.struct #[⟨"streets", 3, 0, false, "", "breeze/week", 0⟩, ⟨"at", 75, 1, false, "", "breeze/week", 8⟩, ⟨"byCart", 77, 26, false, "", "breeze/week", 208⟩, ⟨"onDay", 77, 31, false, "", "breeze/week", 248⟩], 36, 288, .agg #[.int .i64 0, .int .i64 0, .int .i64 0, .int .i64 0, .int .i64 0, .int .i64 0, .int .i64 0, .int .i64 0, .int .i64 0, .int .i64 0, .int .i64 0, .int .i64 0, .int .i64 0, .int .i64 0, .int .i64 0, .int .i64 0, .int .i64 0, .int .i64 0, .int .i64 0, .int .i64 0, .int .i64 0, .int .i64 0, .int .i64 0, .int .i64 0, .int .i64 0, .int .i64 0, .int .u64 0, .int .u64 0, .int .u64 0, .int .u64 0, .int .u64 0, .int .u64 0, .int .u64 0, .int .u64 0, .int .u64 0, .int .u64 0], [.int .i64 0, .int .i64 0, .int .i64 0, .int .i64 0, .int .i64 0, .int .i64 0, .int .i64 0, .int .i64 0, .int .i64 0, .int .i64 0, .int .i64 0, .int .i64 0, .int .i64 0, .int .i64 0, .int .i64 0, .int .i64 0, .int .i64 0, .int .i64 0, .int .i64 0, .int .i64 0, .int .i64 0, .int .i64 0, .int .i64 0, .int .i64 0, .int .i64 0, .int .i64 0, .int .u64 0, .int .u64 0, .int .u64 0, .int .u64 0, .int .u64 0, .int .u64 0, .int .u64 0, .int .u64 0, .int .u64 0, .int .u64 0], true⟩
def i81 : TI := ⟨.func #[3, 25] #[58, 3, 28] false, 1, 8, .nilFunc, [.nilFunc], false⟩
def i82 : TI := ⟨.pointer 84, 1, 8, .pointer none, [.pointer none], false⟩
def i83 : TI := ⟨.struct #[⟨"from", 3, 0, false, "", "breeze/week", 0⟩, ⟨"to", 3, 1, false, "", "breeze/week", 8⟩, ⟨"is", 4, 2, false, "", "breeze/week", 16⟩, ⟨"at", 75, 3, false, "", "breeze/week", 24⟩], 28, 224, .agg #[.int .i64 0, .int .i64 0, .bool false, .int .i64 0, .int .i64 0, .int .i64 0, .int .i64 0, .int .i64 0, .int .i64 0, .int .i64 0, .int .i64 0, .int .i64 0, .int .i64 0, .int .i64 0, .int .i64 0, .int .i64 0, .int .i64 0, .int .i64 0, .int .i64 0, .int .i64 0, .int .i64 0, .int .i64 0, .int .i64 0, .int .i64 0, .int .i64 0, .int .i64 0, .int .i64 0, .int .i64 0], [.int .i64 0, .int .i64 0, .bool false, .int .i64 0, .int .i64 0, .int .i64 0, .int .i64 0, .int .i64 0, .int .i64 0, .int .i64 0, .int .i64 0, .int .i64 0, .int .i64 0, .int .i64 0, .int .i64 0, .int .i64 0, .int .i64 0, .int .i64 0, .int .i64 0, .int .i64 0, .int .i64 0, .int .i64 0, .int .i64 0, .int .i64 0, .int .i64 0, .int .i64 0, .int .i64 0, .int .i64 0], true⟩
def i84 : TI := ⟨.struct #[⟨"from", 3, 0, false, "", "breeze/week", 0⟩, ⟨"to", 3, 1, false, "", "breeze/week", 8⟩, ⟨"is", 4, 2, false, "", "breeze/week", 16⟩, ⟨"at", 75, 3, false, "", "breeze/week", 24⟩], 28, 224, .agg #[.int .i64 0, .int .i64 0, .bool false, .int .i64 0, .int .i64 0, .int .i64 0, .int .i64 0, .int .i64 0, .int .i64 0, .int .i64 0, .int .i64 0, .int .i64 0, .int .i64 0, .int .i64 0, .int .i64 0, .int .i64 0, .int .i64 0, .int .i64 0, .int .i64 0, .int .i64 0, .int .i64 0, .int .i64 0, .int .i64 0, .int .i64 0, .int .i64 0, .int .i64 0, .int .i64 0, .int .i64 0], [.int .i64 0, .int .i64 0, .bool false, .int .i64 0, .int .i64 0, .int .i64 0, .int .i64 0, .int .i64 0, .int .i64 0, .int .i64 0, .int .i64 0, .int .i64 0, .int .i64 0, .int .i64 0, .int .i64 0, .int .i64 0, .int .i64 0, .int .i64 0, .int .i64 0, .int .i64 0, .int .i64 0, .int .i64 0, .int .i64 0, .int .i64 0, .int .i64 0, .int .i64 0, .int .i64 0, .int .i64 0], true⟩
def i86 : TI := ⟨.func #[3, 25, 25] #[25, 4] false, 1, 8, .nilFunc, [.nilFunc], false⟩
def i87 : TI := ⟨.func #[25] #[3] false, 1, 8, .nilFunc, [.nilFunc], false⟩
def i88 : TI := ⟨.func #[3, 3, 3] #[4] false, 1, 8, .nilFunc, [.nilFunc], false⟩
def i89 : TI := ⟨.func #[32, 3] #[3] false, 1, 8, .nilFunc, [.nilFunc], false⟩
def i90 : TI := ⟨.interface #[("breeze/week.carts", 93), ("breeze/week.found", 95)], 1, 16, .nilIface, [.nilIface], false⟩
def i91 : TI := ⟨.interface #[("breeze/week.carts", 93), ("breeze/week.found", 95)], 1, 16, .nilIface, [.nilIface], false⟩
def i93 : TI := ⟨.func #[] #[3, 3] false, 1, 8, .nilFunc, [.nilFunc], false⟩
def i94 : TI := ⟨.func #[3, 3] #[4] false, 1, 8, .nilFunc, [.nilFunc], false⟩
def i95 : TI := ⟨.func #[58] #[4] false, 1, 8, .nilFunc, [.nilFunc], false⟩
def i96 : TI := ⟨.func #[3, 3] #[76] false, 1, 8, .nilFunc, [.nilFunc], false⟩
def i97 : TI := ⟨.func #[76] #[3] false, 1, 8, .nilFunc, [.nilFunc], false⟩
def i98 : TI := ⟨.func #[3, 3] #[] false, 1, 8, .nilFunc, [.nilFunc], false⟩
def i99 : TI := ⟨.func #[76] #[32] false, 1, 8, .nilFunc, [.nilFunc], false⟩
def i100 : TI := ⟨.func #[32, 76, 76] #[4] false, 1, 8, .nilFunc, [.nilFunc], false⟩
def i101 : TI := ⟨.func #[3, 32] #[25] false, 1, 8, .nilFunc, [.nilFunc], false⟩
def i102 : TI := ⟨.func #[25, 3, 3] #[4] false, 1, 8, .nilFunc, [.nilFunc], false⟩
def i103 : TI := ⟨.func #[104] #[3] false, 1, 8, .nilFunc, [.nilFunc], false⟩
def i104 : TI := ⟨.int .u32, 1, 4, .int .u32 0, [.int .u32 0], false⟩
def i105 : TI := ⟨.func #[106] #[3] false, 1, 8, .nilFunc, [.nilFunc], false⟩
def i106 : TI := ⟨.int .u64, 1, 8, .int .u64 0, [.int .u64 0], false⟩
def i107 : TI := ⟨.array 32 5, 32, 32, .agg #[.int .u8 0, .int .u8 0, .int .u8 0, .int .u8 0, .int .u8 0, .int .u8 0, .int .u8 0, .int .u8 0, .int .u8 0, .int .u8 0, .int .u8 0, .int .u8 0, .int .u8 0, .int .u8 0, .int .u8 0, .int .u8 0, .int .u8 0, .int .u8 0, .int .u8 0, .int .u8 0, .int .u8 0, .int .u8 0, .int .u8 0, .int .u8 0, .int .u8 0, .int .u8 0, .int .u8 0, .int .u8 0, .int .u8 0, .int .u8 0, .int .u8 0, .int .u8 0], [.int .u8 0, .int .u8 0, .int .u8 0, .int .u8 0, .int .u8 0, .int .u8 0, .int .u8 0, .int .u8 0, .int .u8 0, .int .u8 0, .int .u8 0, .int .u8 0, .int .u8 0, .int .u8 0, .int .u8 0, .int .u8 0, .int .u8 0, .int .u8 0, .int .u8 0, .int .u8 0, .int .u8 0, .int .u8 0, .int .u8 0, .int .u8 0, .int .u8 0, .int .u8 0, .int .u8 0, .int .u8 0, .int .u8 0, .int .u8 0, .int .u8 0, .int .u8 0], true⟩
def i108 : TI := ⟨.array 64 5, 64, 64, .agg #[.int .u8 0, .int .u8 0, .int .u8 0, .int .u8 0, .int .u8 0, .int .u8 0, .int .u8 0, .int .u8 0, .int .u8 0, .int .u8 0, .int .u8 0, .int .u8 0, .int .u8 0, .int .u8 0, .int .u8 0, .int .u8 0, .int .u8 0, .int .u8 0, .int .u8 0, .int .u8 0, .int .u8 0, .int .u8 0, .int .u8 0, .int .u8 0, .int .u8 0, .int .u8 0, .int .u8 0, .int .u8 0, .int .u8 0, .int .u8 0, .int .u8 0, .int .u8 0, .int .u8 0, .int .u8 0, .int .u8 0, .int .u8 0, .int .u8 0, .int .u8 0, .int .u8 0, .int .u8 0, .int .u8 0, .int .u8 0, .int .u8 0, .int .u8 0, .int .u8 0, .int .u8 0, .int .u8 0, .int .u8 0, .int .u8 0, .int .u8 0, .int .u8 0, .int .u8 0, .int .u8 0, .int .u8 0, .int .u8 0, .int .u8 0, .int .u8 0, .int .u8 0, .int .u8 0, .int .u8 0, .int .u8 0, .int .u8 0, .int .u8 0, .int .u8 0], [.int .u8 0, .int .u8 0, .int .u8 0, .int .u8 0, .int .u8 0, .int .u8 0, .int .u8 0, .int .u8 0, .int .u8 0, .int .u8 0, .int .u8 0, .int .u8 0, .int .u8 0, .int .u8 0, .int .u8 0, .int .u8 0, .int .u8 0, .int .u8 0, .int .u8 0, .int .u8 0, .int .u8 0, .int .u8 0, .int .u8 0, .int .u8 0, .int .u8 0, .int .u8 0, .int .u8 0, .int .u8 0, .int .u8 0, .int .u8 0, .int .u8 0, .int .u8 0, .int .u8 0, .int .u8 0, .int .u8 0, .int .u8 0, .int .u8 0, .int .u8 0, .int .u8 0, .int .u8 0, .int .u8 0, .int .u8 0, .int .u8 0, .int .u8 0, .int .u8 0, .int .u8 0, .int .u8 0, .int .u8 0, .int .u8 0, .int .u8 0, .int .u8 0, .int .u8 0, .int .u8 0, .int .u8 0, .int .u8 0, .int .u8 0, .int .u8 0, .int .u8 0, .int .u8 0, .int .u8 0, .int .u8 0, .int .u8 0, .int .u8 0, .int .u8 0], true⟩
def i109 : TI := ⟨.func #[] #[9] false, 1, 8, .nilFunc, [.nilFunc], false⟩
def i110 : TI := ⟨.struct #[⟨"_interface", 17, 0, false, "", "runtime", 0⟩, ⟨"concrete", 17, 1, false, "", "runtime", 8⟩, ⟨"asserted", 17, 2, false, "", "runtime", 16⟩, ⟨"missingMethod", 9, 3, false, "", "runtime", 24⟩], 4, 40, .agg #[.pointer none, .pointer none, .pointer none, .string ⟨#[]⟩], [.pointer none, .pointer none, .pointer none, .string ⟨#[]⟩], true⟩
def i111 : TI := ⟨.struct #[⟨"_interface", 17, 0, false, "", "runtime", 0⟩, ⟨"concrete", 17, 1, false, "", "runtime", 8⟩, ⟨"asserted", 17, 2, false, "", "runtime", 16⟩, ⟨"missingMethod", 9, 3, false, "", "runtime", 24⟩], 4, 40, .agg #[.pointer none, .pointer none, .pointer none, .string ⟨#[]⟩], [.pointer none, .pointer none, .pointer none, .string ⟨#[]⟩], true⟩
def i112 : TI := ⟨.array 0 16, 0, 0, .agg #[], [], true⟩
def i113 : TI := ⟨.struct #[⟨"_", 112, 0, false, "", "runtime", 0⟩], 0, 0, .agg #[], [], true⟩
def i114 : TI := ⟨.struct #[⟨"_", 112, 0, false, "", "runtime", 0⟩], 0, 0, .agg #[], [], true⟩
def i115 : TI := ⟨.func #[] #[3] false, 1, 8, .nilFunc, [.nilFunc], false⟩
def i116 : TI := ⟨.int .u8, 1, 1, .int .u8 0, [.int .u8 0], false⟩
def i117 : TI := ⟨.int .u8, 1, 1, .int .u8 0, [.int .u8 0], false⟩
def i118 : TI := ⟨.func #[124, 124] #[4] false, 1, 8, .nilFunc, [.nilFunc], false⟩
def i119 : TI := ⟨.pointer 5, 1, 8, .pointer none, [.pointer none], false⟩
def i120 : TI := ⟨.int .i32, 1, 4, .int .i32 0, [.int .i32 0], false⟩
def i121 : TI := ⟨.int .i32, 1, 4, .int .i32 0, [.int .i32 0], false⟩
def i122 : TI := ⟨.struct #[⟨"Size_", 12, 0, false, "", "", 0⟩, ⟨"PtrBytes", 12, 1, false, "", "", 8⟩, ⟨"Hash", 104, 2, false, "", "", 16⟩, ⟨"TFlag", 116, 3, false, "", "", 20⟩, ⟨"Align_", 5, 4, false, "", "", 21⟩, ⟨"FieldAlign_", 5, 5, false, "", "", 22⟩, ⟨"Kind_", 117, 6, false, "", "", 23⟩, ⟨"Equal", 118, 7, false, "", "", 24⟩, ⟨"GCData", 119, 8, false, "", "", 32⟩, ⟨"Str", 120, 9, false, "", "", 40⟩, ⟨"PtrToThis", 121, 10, false, "", "", 44⟩], 11, 48, .agg #[.int .u64 0, .int .u64 0, .int .u32 0, .int .u8 0, .int .u8 0, .int .u8 0, .int .u8 0, .nilFunc, .pointer none, .int .i32 0, .int .i32 0], [.int .u64 0, .int .u64 0, .int .u32 0, .int .u8 0, .int .u8 0, .int .u8 0, .int .u8 0, .nilFunc, .pointer none, .int .i32 0, .int .i32 0], true⟩
def i123 : TI := ⟨.struct #[⟨"Size_", 12, 0, false, "", "", 0⟩, ⟨"PtrBytes", 12, 1, false, "", "", 8⟩, ⟨"Hash", 104, 2, false, "", "", 16⟩, ⟨"TFlag", 116, 3, false, "", "", 20⟩, ⟨"Align_", 5, 4, false, "", "", 21⟩, ⟨"FieldAlign_", 5, 5, false, "", "", 22⟩, ⟨"Kind_", 117, 6, false, "", "", 23⟩, ⟨"Equal", 118, 7, false, "", "", 24⟩, ⟨"GCData", 119, 8, false, "", "", 32⟩, ⟨"Str", 120, 9, false, "", "", 40⟩, ⟨"PtrToThis", 121, 10, false, "", "", 44⟩], 11, 48, .agg #[.int .u64 0, .int .u64 0, .int .u32 0, .int .u8 0, .int .u8 0, .int .u8 0, .int .u8 0, .nilFunc, .pointer none, .int .i32 0, .int .i32 0], [.int .u64 0, .int .u64 0, .int .u32 0, .int .u8 0, .int .u8 0, .int .u8 0, .int .u8 0, .nilFunc, .pointer none, .int .i32 0, .int .i32 0], true⟩
def i124 : TI := ⟨.unsafePointer, 1, 8, .pointer none, [.pointer none], false⟩
theorem ok1 : TOK Tryd.prog 1 i1 := ⟨by kernel_rfl, by kernel_rfl, by kernel_rfl, by kernel_rfl⟩
theorem ok2 : TOK Tryd.prog 2 i2 := ⟨by kernel_rfl, by kernel_rfl, by kernel_rfl, by kernel_rfl⟩
theorem ok3 : TOK Tryd.prog 3 i3 := ⟨by kernel_rfl, by kernel_rfl, by kernel_rfl, by kernel_rfl⟩
theorem ok4 : TOK Tryd.prog 4 i4 := ⟨by kernel_rfl, by kernel_rfl, by kernel_rfl, by kernel_rfl⟩
theorem ok5 : TOK Tryd.prog 5 i5 := ⟨by kernel_rfl, by kernel_rfl, by kernel_rfl, by kernel_rfl⟩
theorem ok6 : TOK Tryd.prog 6 i6 := ⟨by kernel_rfl, by kernel_rfl, by kernel_rfl, by kernel_rfl⟩
theorem ok7 : TOK Tryd.prog 7 i7 := ⟨by kernel_rfl, by kernel_rfl, by kernel_rfl, by kernel_rfl⟩
theorem ok8 : TOK Tryd.prog 8 i8 := ⟨by kernel_rfl, by kernel_rfl, by kernel_rfl, by kernel_rfl⟩
theorem ok9 : TOK Tryd.prog 9 i9 := ⟨by kernel_rfl, by kernel_rfl, by kernel_rfl, by kernel_rfl⟩
theorem ok10 : TOK Tryd.prog 10 i10 := ⟨by kernel_rfl, by kernel_rfl, by kernel_rfl, by kernel_rfl⟩
theorem ok11 : TOK Tryd.prog 11 i11 := ⟨by kernel_rfl, by kernel_rfl, by kernel_rfl, by kernel_rfl⟩
theorem ok12 : TOK Tryd.prog 12 i12 := ⟨by kernel_rfl, by kernel_rfl, by kernel_rfl, by kernel_rfl⟩
theorem ok13 : TOK Tryd.prog 13 i13 := ⟨by kernel_rfl, by kernel_rfl, by kernel_rfl, by kernel_rfl⟩
theorem ok14 : TOK Tryd.prog 14 i14 := ⟨by kernel_rfl, by kernel_rfl, by kernel_rfl, by kernel_rfl⟩
theorem ok15 : TOK Tryd.prog 15 i15 := ⟨by kernel_rfl, by kernel_rfl, by kernel_rfl, by kernel_rfl⟩
theorem ok16 : TOK Tryd.prog 16 i16 := ⟨by kernel_rfl, by kernel_rfl, by kernel_rfl, by kernel_rfl⟩
theorem ok17 : TOK Tryd.prog 17 i17 := ⟨by kernel_rfl, by kernel_rfl, by kernel_rfl, by kernel_rfl⟩
theorem ok18 : TOK Tryd.prog 18 i18 := ⟨by kernel_rfl, by kernel_rfl, by kernel_rfl, by kernel_rfl⟩
theorem ok19 : TOK Tryd.prog 19 i19 := ⟨by kernel_rfl, by kernel_rfl, by kernel_rfl, by kernel_rfl⟩
theorem ok20 : TOK Tryd.prog 20 i20 := ⟨by kernel_rfl, by kernel_rfl, by kernel_rfl, by kernel_rfl⟩
theorem ok21 : TOK Tryd.prog 21 i21 := ⟨by kernel_rfl, by kernel_rfl, by kernel_rfl, by kernel_rfl⟩
theorem ok22 : TOK Tryd.prog 22 i22 := ⟨by kernel_rfl, by kernel_rfl, by kernel_rfl, by kernel_rfl⟩
theorem ok23 : TOK Tryd.prog 23 i23 := ⟨by kernel_rfl, by kernel_rfl, by kernel_rfl, by kernel_rfl⟩
theorem ok24 : TOK Tryd.prog 24 i24 := ⟨by kernel_rfl, by kernel_rfl, by kernel_rfl, by kernel_rfl⟩
theorem ok25 : TOK Tryd.prog 25 i25 := ⟨by kernel_rfl, by kernel_rfl, by kernel_rfl, by kernel_rfl⟩
theorem ok27 : TOK Tryd.prog 27 i27 := ⟨by kernel_rfl, by kernel_rfl, by kernel_rfl, by kernel_rfl⟩
theorem ok28 : TOK Tryd.prog 28 i28 := ⟨by kernel_rfl, by kernel_rfl, by kernel_rfl, by kernel_rfl⟩
theorem ok30 : TOK Tryd.prog 30 i30 := ⟨by kernel_rfl, by kernel_rfl, by kernel_rfl, by kernel_rfl⟩
theorem ok31 : TOK Tryd.prog 31 i31 := ⟨by kernel_rfl, by kernel_rfl, by kernel_rfl, by kernel_rfl⟩
theorem ok32 : TOK Tryd.prog 32 i32 := ⟨by kernel_rfl, by kernel_rfl, by kernel_rfl, by kernel_rfl⟩
theorem ok33 : TOK Tryd.prog 33 i33 := ⟨by kernel_rfl, by kernel_rfl, by kernel_rfl, by kernel_rfl⟩
theorem ok35 : TOK Tryd.prog 35 i35 := ⟨by kernel_rfl, by kernel_rfl, by kernel_rfl, by kernel_rfl⟩
theorem ok36 : TOK Tryd.prog 36 i36 := ⟨by kernel_rfl, by kernel_rfl, by kernel_rfl, by kernel_rfl⟩
theorem ok37 : TOK Tryd.prog 37 i37 := ⟨by kernel_rfl, by kernel_rfl, by kernel_rfl, by kernel_rfl⟩
theorem ok38 : TOK Tryd.prog 38 i38 := ⟨by kernel_rfl, by kernel_rfl, by kernel_rfl, by kernel_rfl⟩
theorem ok39 : TOK Tryd.prog 39 i39 := ⟨by kernel_rfl, by kernel_rfl, by kernel_rfl, by kernel_rfl⟩
theorem ok41 : TOK Tryd.prog 41 i41 := ⟨by kernel_rfl, by kernel_rfl, by kernel_rfl, by kernel_rfl⟩
theorem ok42 : TOK Tryd.prog 42 i42 := ⟨by kernel_rfl, by kernel_rfl, by kernel_rfl, by kernel_rfl⟩
theorem ok43 : TOK Tryd.prog 43 i43 := ⟨by kernel_rfl, by kernel_rfl, by kernel_rfl, by kernel_rfl⟩
theorem ok44 : TOK Tryd.prog 44 i44 := ⟨by kernel_rfl, by kernel_rfl, by kernel_rfl, by kernel_rfl⟩
theorem ok45 : TOK Tryd.prog 45 i45 := ⟨by kernel_rfl, by kernel_rfl, by kernel_rfl, by kernel_rfl⟩
theorem ok46 : TOK Tryd.prog 46 i46 := ⟨by kernel_rfl, by kernel_rfl, by kernel_rfl, by kernel_rfl⟩
theorem ok47 : TOK Tryd.prog 47 i47 := ⟨by kernel_rfl, by kernel_rfl, by kernel_rfl, by kernel_rfl⟩
theorem ok48 : TOK Tryd.prog 48 i48 := ⟨by kernel_rfl, by kernel_rfl, by kernel_rfl, by kernel_rfl⟩
theorem ok49 : TOK Tryd.prog 49 i49 := ⟨by kernel_rfl, by kernel_rfl, by kernel_rfl, by kernel_rfl⟩
theorem ok50 : TOK Tryd.prog 50 i50 := ⟨by kernel_rfl, by kernel_rfl, by kernel_rfl, by kernel_rfl⟩
theorem ok51 : TOK Tryd.prog 51 i51 := ⟨by kernel_rfl, by kernel_rfl, by kernel_rfl, by kernel_rfl⟩
theorem ok52 : TOK Tryd.prog 52 i52 := ⟨by kernel_rfl, by kernel_rfl, by kernel_rfl, by kernel_rfl⟩
theorem ok53 : TOK Tryd.prog 53 i53 := ⟨by kernel_rfl, by kernel_rfl, by kernel_rfl, by kernel_rfl⟩
theorem ok54 : TOK Tryd.prog 54 i54 := ⟨by kernel_rfl, by kernel_rfl, by kernel_rfl, by kernel_rfl⟩
theorem ok55 : TOK Tryd.prog 55 i55 := ⟨by kernel_rfl, by kernel_rfl, by kernel_rfl, by kernel_rfl⟩
theorem ok56 : TOK Tryd.prog 56 i56 := ⟨by kernel_rfl, by kernel_rfl, by kernel_rfl, by kernel_rfl⟩
theorem ok57 : TOK Tryd.prog 57 i57 := ⟨by kernel_rfl, by kernel_rfl, by kernel_rfl, by kernel_rfl⟩
theorem ok58 : TOK Tryd.prog 58 i58 := ⟨by kernel_rfl, by kernel_rfl, by kernel_rfl, by kernel_rfl⟩
theorem ok60 : TOK Tryd.prog 60 i60 := ⟨by kernel_rfl, by kernel_rfl, by kernel_rfl, by kernel_rfl⟩
theorem ok61 : TOK Tryd.prog 61 i61 := ⟨by kernel_rfl, by kernel_rfl, by kernel_rfl, by kernel_rfl⟩
theorem ok62 : TOK Tryd.prog 62 i62 := ⟨by kernel_rfl, by kernel_rfl, by kernel_rfl, by kernel_rfl⟩
theorem ok63 : TOK Tryd.prog 63 i63 := ⟨by kernel_rfl, by kernel_rfl, by kernel_rfl, by kernel_rfl⟩
theorem ok64 : TOK Tryd.prog 64 i64 := ⟨by kernel_rfl, by kernel_rfl, by kernel_rfl, by kernel_rfl⟩
theorem ok65 : TOK Tryd.prog 65 i65 := ⟨by kernel_rfl, by kernel_rfl, by kernel_rfl, by kernel_rfl⟩
theorem ok66 : TOK Tryd.prog 66 i66 := ⟨by kernel_rfl, by kernel_rfl, by kernel_rfl, by kernel_rfl⟩
theorem ok67 : TOK Tryd.prog 67 i67 := ⟨by kernel_rfl, by kernel_rfl, by kernel_rfl, by kernel_rfl⟩
theorem ok68 : TOK Tryd.prog 68 i68 := ⟨by kernel_rfl, by kernel_rfl, by kernel_rfl, by kernel_rfl⟩
theorem ok69 : TOK Tryd.prog 69 i69 := ⟨by kernel_rfl, by kernel_rfl, by kernel_rfl, by kernel_rfl⟩
theorem ok70 : TOK Tryd.prog 70 i70 := ⟨by kernel_rfl, by kernel_rfl, by kernel_rfl, by kernel_rfl⟩
theorem ok71 : TOK Tryd.prog 71 i71 := ⟨by kernel_rfl, by kernel_rfl, by kernel_rfl, by kernel_rfl⟩
theorem ok72 : TOK Tryd.prog 72 i72 := ⟨by kernel_rfl, by kernel_rfl, by kernel_rfl, by kernel_rfl⟩
theorem ok73 : TOK Tryd.prog 73 i73 := ⟨by kernel_rfl, by kernel_rfl, by kernel_rfl, by kernel_rfl⟩
theorem ok74 : TOK Tryd.prog 74 i74 := ⟨by kernel_rfl, by kernel_rfl, by kernel_rfl, by kernel_rfl⟩
theorem ok75 : TOK Tryd.prog 75 i75 := ⟨by kernel_rfl, by kernel_rfl, by kernel_rfl, by kernel_rfl⟩
theorem ok76 : TOK Tryd.prog 76 i76 := ⟨by kernel_rfl, by kernel_rfl, by kernel_rfl, by kernel_rfl⟩
theorem ok77 : TOK Tryd.prog 77 i77 := ⟨by kernel_rfl, by kernel_rfl, by kernel_rfl, by kernel_rfl⟩
theorem ok78 : TOK Tryd.prog 78 i78 := ⟨by kernel_rfl, by kernel_rfl, by kernel_rfl, by kernel_rfl⟩
theorem ok79 : TOK Tryd.prog 79 i79 := ⟨by kernel_rfl, by kernel_rfl, by kernel_rfl, by kernel_rfl⟩
theorem ok81 : TOK Tryd.prog 81 i81 := ⟨by kernel_rfl, by kernel_rfl, by kernel_rfl, by kernel_rfl⟩
theorem ok82 : TOK Tryd.prog 82 i82 := ⟨by kernel_rfl, by kernel_rfl, by kernel_rfl, by kernel_rfl⟩
theorem ok83 : TOK Tryd.prog 83 i83 := ⟨by kernel_rfl, by kernel_rfl, by kernel_rfl, by kernel_rfl⟩
theorem ok84 : TOK Tryd.prog 84 i84 := ⟨by kernel_rfl, by kernel_rfl, by kernel_rfl, by kernel_rfl⟩
theorem ok86 : TOK Tryd.prog 86 i86 := ⟨by kernel_rfl, by kernel_rfl, by kernel_rfl, by kernel_rfl⟩
theorem ok87 : TOK Tryd.prog 87 i87 := ⟨by kernel_rfl, by kernel_rfl, by kernel_rfl, by kernel_rfl⟩
theorem ok88 : TOK Tryd.prog 88 i88 := ⟨by kernel_rfl, by kernel_rfl, by kernel_rfl, by kernel_rfl⟩
theorem ok89 : TOK Tryd.prog 89 i89 := ⟨by kernel_rfl, by kernel_rfl, by kernel_rfl, by kernel_rfl⟩
theorem ok90 : TOK Tryd.prog 90 i90 := ⟨by kernel_rfl, by kernel_rfl, by kernel_rfl, by kernel_rfl⟩
theorem ok91 : TOK Tryd.prog 91 i91 := ⟨by kernel_rfl, by kernel_rfl, by kernel_rfl, by kernel_rfl⟩
theorem ok93 : TOK Tryd.prog 93 i93 := ⟨by kernel_rfl, by kernel_rfl, by kernel_rfl, by kernel_rfl⟩
theorem ok94 : TOK Tryd.prog 94 i94 := ⟨by kernel_rfl, by kernel_rfl, by kernel_rfl, by kernel_rfl⟩
theorem ok95 : TOK Tryd.prog 95 i95 := ⟨by kernel_rfl, by kernel_rfl, by kernel_rfl, by kernel_rfl⟩
theorem ok96 : TOK Tryd.prog 96 i96 := ⟨by kernel_rfl, by kernel_rfl, by kernel_rfl, by kernel_rfl⟩
theorem ok97 : TOK Tryd.prog 97 i97 := ⟨by kernel_rfl, by kernel_rfl, by kernel_rfl, by kernel_rfl⟩
theorem ok98 : TOK Tryd.prog 98 i98 := ⟨by kernel_rfl, by kernel_rfl, by kernel_rfl, by kernel_rfl⟩
theorem ok99 : TOK Tryd.prog 99 i99 := ⟨by kernel_rfl, by kernel_rfl, by kernel_rfl, by kernel_rfl⟩
theorem ok100 : TOK Tryd.prog 100 i100 := ⟨by kernel_rfl, by kernel_rfl, by kernel_rfl, by kernel_rfl⟩
theorem ok101 : TOK Tryd.prog 101 i101 := ⟨by kernel_rfl, by kernel_rfl, by kernel_rfl, by kernel_rfl⟩
theorem ok102 : TOK Tryd.prog 102 i102 := ⟨by kernel_rfl, by kernel_rfl, by kernel_rfl, by kernel_rfl⟩
theorem ok103 : TOK Tryd.prog 103 i103 := ⟨by kernel_rfl, by kernel_rfl, by kernel_rfl, by kernel_rfl⟩
theorem ok104 : TOK Tryd.prog 104 i104 := ⟨by kernel_rfl, by kernel_rfl, by kernel_rfl, by kernel_rfl⟩
theorem ok105 : TOK Tryd.prog 105 i105 := ⟨by kernel_rfl, by kernel_rfl, by kernel_rfl, by kernel_rfl⟩
theorem ok106 : TOK Tryd.prog 106 i106 := ⟨by kernel_rfl, by kernel_rfl, by kernel_rfl, by kernel_rfl⟩
theorem ok107 : TOK Tryd.prog 107 i107 := ⟨by kernel_rfl, by kernel_rfl, by kernel_rfl, by kernel_rfl⟩
theorem ok108 : TOK Tryd.prog 108 i108 := ⟨by kernel_rfl, by kernel_rfl, by kernel_rfl, by kernel_rfl⟩
theorem ok109 : TOK Tryd.prog 109 i109 := ⟨by kernel_rfl, by kernel_rfl, by kernel_rfl, by kernel_rfl⟩
theorem ok110 : TOK Tryd.prog 110 i110 := ⟨by kernel_rfl, by kernel_rfl, by kernel_rfl, by kernel_rfl⟩
theorem ok111 : TOK Tryd.prog 111 i111 := ⟨by kernel_rfl, by kernel_rfl, by kernel_rfl, by kernel_rfl⟩
theorem ok112 : TOK Tryd.prog 112 i112 := ⟨by kernel_rfl, by kernel_rfl, by kernel_rfl, by kernel_rfl⟩
theorem ok113 : TOK Tryd.prog 113 i113 := ⟨by kernel_rfl, by kernel_rfl, by kernel_rfl, by kernel_rfl⟩
theorem ok114 : TOK Tryd.prog 114 i114 := ⟨by kernel_rfl, by kernel_rfl, by kernel_rfl, by kernel_rfl⟩
theorem ok115 : TOK Tryd.prog 115 i115 := ⟨by kernel_rfl, by kernel_rfl, by kernel_rfl, by kernel_rfl⟩
theorem ok116 : TOK Tryd.prog 116 i116 := ⟨by kernel_rfl, by kernel_rfl, by kernel_rfl, by kernel_rfl⟩
theorem ok117 : TOK Tryd.prog 117 i117 := ⟨by kernel_rfl, by kernel_rfl, by kernel_rfl, by kernel_rfl⟩
theorem ok118 : TOK Tryd.prog 118 i118 := ⟨by kernel_rfl, by kernel_rfl, by kernel_rfl, by kernel_rfl⟩
theorem ok119 : TOK Tryd.prog 119 i119 := ⟨by kernel_rfl, by kernel_rfl, by kernel_rfl, by kernel_rfl⟩
theorem ok120 : TOK Tryd.prog 120 i120 := ⟨by kernel_rfl, by kernel_rfl, by kernel_rfl, by kernel_rfl⟩
theorem ok121 : TOK Tryd.prog 121 i121 := ⟨by kernel_rfl, by kernel_rfl, by kernel_rfl, by kernel_rfl⟩
theorem ok122 : TOK Tryd.prog 122 i122 := ⟨by kernel_rfl, by kernel_rfl, by kernel_rfl, by kernel_rfl⟩
theorem ok123 : TOK Tryd.prog 123 i123 := ⟨by kernel_rfl, by kernel_rfl, by kernel_rfl, by kernel_rfl⟩
theorem ok124 : TOK Tryd.prog 124 i124 := ⟨by kernel_rfl, by kernel_rfl, by kernel_rfl, by kernel_rfl⟩
def Ts : List (Nat × TI) := [(1, i1), (2, i2), (3, i3), (4, i4), (5, i5), (6, i6), (7, i7), (8, i8), (9, i9), (10, i10), (11, i11), (12, i12), (13, i13), (14, i14), (15, i15), (16, i16), (17, i17), (18, i18), (19, i19), (20, i20), (21, i21), (22, i22), (23, i23), (24, i24), (25, i25), (27, i27), (28, i28), (30, i30), (31, i31), (32, i32), (33, i33), (35, i35), (36, i36), (37, i37), (38, i38), (39, i39), (41, i41), (42, i42), (43, i43), (44, i44), (45, i45), (46, i46), (47, i47), (48, i48), (49, i49), (50, i50), (51, i51), (52, i52), (53, i53), (54, i54), (55, i55), (56, i56), (57, i57), (58, i58), (60, i60), (61, i61), (62, i62), (63, i63), (64, i64), (65, i65), (66, i66), (67, i67), (68, i68), (69, i69), (70, i70), (71, i71), (72, i72), (73, i73), (74, i74), (75, i75), (76, i76), (77, i77), (78, i78), (79, i79), (81, i81), (82, i82), (83, i83), (84, i84), (86, i86), (87, i87), (88, i88), (89, i89), (90, i90), (91, i91), (93, i93), (94, i94), (95, i95), (96, i96), (97, i97), (98, i98), (99, i99), (100, i100), (101, i101), (102, i102), (103, i103), (104, i104), (105, i105), (106, i106), (107, i107), (108, i108), (109, i109), (110, i110), (111, i111), (112, i112), (113, i113), (114, i114), (115, i115), (116, i116), (117, i117), (118, i118), (119, i119), (120, i120), (121, i121), (122, i122), (123, i123), (124, i124)]
theorem Ts_ok : ∀ p ∈ Ts, TOK Tryd.prog p.1 p.2 := by
  intro p hp
  simp only [Ts, List.mem_cons, List.not_mem_nil, or_false] at hp
  rcases hp with rfl | rfl | rfl | rfl | rfl | rfl | rfl | rfl | rfl | rfl | rfl | rfl | rfl | rfl | rfl | rfl | rfl | rfl | rfl | rfl | rfl | rfl | rfl | rfl | rfl | rfl | rfl | rfl | rfl | rfl | rfl | rfl | rfl | rfl | rfl | rfl | rfl | rfl | rfl | rfl | rfl | rfl | rfl | rfl | rfl | rfl | rfl | rfl | rfl | rfl | rfl | rfl | rfl | rfl | rfl | rfl | rfl | rfl | rfl | rfl | rfl | rfl | rfl | rfl | rfl | rfl | rfl | rfl | rfl | rfl | rfl | rfl | rfl | rfl | rfl | rfl | rfl | rfl | rfl | rfl | rfl | rfl | rfl | rfl | rfl | rfl | rfl | rfl | rfl | rfl | rfl | rfl | rfl | rfl | rfl | rfl | rfl | rfl | rfl | rfl | rfl | rfl | rfl | rfl | rfl | rfl | rfl | rfl | rfl | rfl | rfl | rfl | rfl | rfl | rfl | rfl
  · exact ok1
  · exact ok2
  · exact ok3
  · exact ok4
  · exact ok5
  · exact ok6
  · exact ok7
  · exact ok8
  · exact ok9
  · exact ok10
  · exact ok11
  · exact ok12
  · exact ok13
  · exact ok14
  · exact ok15
  · exact ok16
  · exact ok17
  · exact ok18
  · exact ok19
  · exact ok20
  · exact ok21
  · exact ok22
  · exact ok23
  · exact ok24
  · exact ok25
  · exact ok27
  · exact ok28
  · exact ok30
  · exact ok31
  · exact ok32
  · exact ok33
  · exact ok35
  · exact ok36
  · exact ok37
  · exact ok38
  · exact ok39
  · exact ok41
  · exact ok42
  · exact ok43
  · exact ok44
  · exact ok45
  · exact ok46
  · exact ok47
  · exact ok48
  · exact ok49
  · exact ok50
  · exact ok51
  · exact ok52
  · exact ok53
  · exact ok54
  · exact ok55
  · exact ok56
  · exact ok57
  · exact ok58
  · exact ok60
  · exact ok61
  · exact ok62
  · exact ok63
  · exact ok64
  · exact ok65
  · exact ok66
  · exact ok67
  · exact ok68
  · exact ok69
  · exact ok70
  · exact ok71
  · exact ok72
  · exact ok73
  · exact ok74
  · exact ok75
  · exact ok76
  · exact ok77
  · exact ok78
  · exact ok79
  · exact ok81
  · exact ok82
  · exact ok83
  · exact ok84
  · exact ok86
  · exact ok87
  · exact ok88
  · exact ok89
  · exact ok90
  · exact ok91
  · exact ok93
  · exact ok94
  · exact ok95
  · exact ok96
  · exact ok97
  · exact ok98
  · exact ok99
  · exact ok100
  · exact ok101
  · exact ok102
  · exact ok103
  · exact ok104
  · exact ok105
  · exact ok106
  · exact ok107
  · exact ok108
  · exact ok109
  · exact ok110
  · exact ok111
  · exact ok112
  · exact ok113
  · exact ok114
  · exact ok115
  · exact ok116
  · exact ok117
  · exact ok118
  · exact ok119
  · exact ok120
  · exact ok121
  · exact ok122
  · exact ok123
  · exact ok124
def Gs : Globs := [(0, [.int .u8 0, .int .u8 1, .int .u8 28, .int .u8 2, .int .u8 29, .int .u8 14, .int .u8 24, .int .u8 3, .int .u8 30, .int .u8 22, .int .u8 20, .int .u8 15, .int .u8 25, .int .u8 17, .int .u8 4, .int .u8 8, .int .u8 31, .int .u8 27, .int .u8 13, .int .u8 23, .int .u8 21, .int .u8 19, .int .u8 16, .int .u8 7, .int .u8 26, .int .u8 12, .int .u8 18, .int .u8 6, .int .u8 11, .int .u8 5, .int .u8 10, .int .u8 9]), (1, [.int .u8 0, .int .u8 1, .int .u8 56, .int .u8 2, .int .u8 57, .int .u8 49, .int .u8 28, .int .u8 3, .int .u8 61, .int .u8 58, .int .u8 42, .int .u8 50, .int .u8 38, .int .u8 29, .int .u8 17, .int .u8 4, .int .u8 62, .int .u8 47, .int .u8 59, .int .u8 36, .int .u8 45, .int .u8 43, .int .u8 51, .int .u8 22, .int .u8 53, .int .u8 39, .int .u8 33, .int .u8 30, .int .u8 24, .int .u8 18, .int .u8 12, .int .u8 5, .int .u8 63, .int .u8 55, .int .u8 48, .int .u8 27, .int .u8 60, .int .u8 41, .int .u8 37, .int .u8 16, .int .u8 46, .int .u8 35, .int .u8 44, .int .u8 21, .int .u8 52, .int .u8 32, .int .u8 23, .int .u8 11, .int .u8 54, .int .u8 26, .int .u8 40, .int .u8 15, .int .u8 34, .int .u8 20, .int .u8 31, .int .u8 10, .int .u8 25, .int .u8 14, .int .u8 19, .int .u8 9, .int .u8 13, .int .u8 8, .int .u8 7, .int .u8 6])]
noncomputable def env : Env := ⟨Tryd.prog, lookT Ts, Gs, lookT_ok Ts Ts_ok, by kernel_rfl⟩
theorem Gs_sc : ∀ g ∈ env.G, g.2.all scalar = true := by decide
theorem Gs_nd : (env.G.map (·.1)).Nodup := by decide
end Go.Am
