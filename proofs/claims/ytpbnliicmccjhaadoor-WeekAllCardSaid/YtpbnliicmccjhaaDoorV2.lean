/-
  Walks of the week's functions, part 2: sets as bits; the table and its methods.
-/
import Derived.Test.YtpbnliicmccjhaaDoorV1
import Derived.Test.YtpbnliicmccjhaaDoorWk
namespace Go.Am
open Go.Proofs
set_option maxRecDepth 100000
set_option maxHeartbeats 4000000
/-! ### Sets of at most five streets -/

theorem bit_or : ∀ a < 32, ∀ b < 32, ((a ||| b : Nat) : Int) = IntKind.u64.wrap ((BitVec.ofInt 64 (a : Int) ||| BitVec.ofInt 64 (b : Int)).toNat) := by decide +kernel
theorem bit_and : ∀ a < 32, ∀ b < 32, ((a &&& b : Nat) : Int) = IntKind.u64.wrap ((BitVec.ofInt 64 (a : Int) &&& BitVec.ofInt 64 (b : Int)).toNat) := by decide +kernel
theorem bit_not : ∀ a < 32, ∀ b < 32, ((a ^^^ (a &&& b) : Nat) : Int) = IntKind.u64.wrap ((BitVec.ofInt 64 (a : Int) &&& ~~~BitVec.ofInt 64 (b : Int)).toNat) := by decide +kernel
theorem bit_shl : ∀ s : Nat, s < 6 → ((2 ^ s : Nat) : Int) = IntKind.u64.wrap (1 * 2 ^ (min (s : Int).toNat 64)) := by decide +kernel
theorem bit_shr : ∀ a : Nat, a < 32 → ∀ s : Nat, s < 6 → ((a / 2 ^ s : Nat) : Int) = (a : Int).fdiv (2 ^ (min (s : Int).toNat 64)) := by decide +kernel
theorem bit_pred : ∀ a < 33, 0 < a → ((a - 1 : Nat) : Int) = IntKind.u64.wrap ((a : Int) - 1) := by decide +kernel

/-! ### The table -/

structure Tab where
  n : Nat
  at_ : List Int
  bc : List Nat
  od : List Nat
def Tab.cells (T : Tab) : List Value := .int .i64 T.n :: (T.at_.map (Value.int .i64) ++ T.bc.map (fun (b : Nat) => Value.int .u64 b) ++ T.od.map fun (b : Nat) => Value.int .u64 b)
/-- A table as it may be: of at most five streets; its sets are small. -/
structure Tab.OK (T : Tab) : Prop where
  n : T.n ≤ 5
  at_ : T.at_.length = 25
  bc : T.bc.length = 5
  od : T.od.length = 5
  bs : ∀ b ∈ T.bc, b < 32
  os : ∀ b ∈ T.od, b < 32
theorem Tab.OK.length {T : Tab} (h : T.OK) : T.cells.length = 36 := by simp [Tab.cells, h.at_, h.bc, h.od]
theorem Tab.cell_at {T : Tab} (h : T.OK) {i : Nat} (hi : i < 25) : T.cells[1 + i]? = some (.int .i64 (T.at_.getD i 0)) := by
  have : i < T.at_.length := by rw [h.at_]; exact hi
  simp [Tab.cells, Nat.add_comm 1 i, List.getElem?_append, this, h.at_, hi, List.getD_eq_getElem?_getD]
theorem Tab.cell_bc {T : Tab} (h : T.OK) {i : Nat} (hi : i < 5) : T.cells[26 + i]? = some (.int .u64 (T.bc.getD i 0 : Nat)) := by
  have : i < T.bc.length := by rw [h.bc]; exact hi
  rw [show 26 + i = (25 + i) + 1 by omega]
  simp [Tab.cells, List.getElem?_append, h.at_, h.bc, this, hi, List.getD_eq_getElem?_getD]
theorem Tab.cell_od {T : Tab} (h : T.OK) {i : Nat} (hi : i < 5) : T.cells[31 + i]? = some (.int .u64 (T.od.getD i 0 : Nat)) := by
  have : i < T.od.length := by rw [h.od]; exact hi
  rw [show 31 + i = (30 + i) + 1 by omega]
  have e1 : ¬ 30 + i < 25 := by omega
  have e2 : ¬ 30 + i - 25 < 5 := by omega
  have e3 : 30 + i - 25 - 5 = i := by omega
  simp only [Tab.cells, List.getElem?_cons_succ, List.append_assoc, List.getElem?_append, List.length_map, h.at_, h.bc, e1, e2, e3, if_false, List.getElem?_map, List.getD_eq_getElem?_getD, List.getElem?_eq_getElem this, Option.map_some, Option.getD_some]

def Tab.setAt (T : Tab) (c d : Nat) (s : Int) : Tab := ⟨T.n, T.at_.set (c * 5 + d) s, T.bc, T.od⟩
def Tab.setBc (T : Tab) (c x : Nat) : Tab := ⟨T.n, T.at_, T.bc.set c x, T.od⟩
def Tab.setOd (T : Tab) (d x : Nat) : Tab := ⟨T.n, T.at_, T.bc, T.od.set d x⟩
theorem pow5 : ∀ s : Nat, s < 5 → 2 ^ s < 32 := by decide
theorem or5 : ∀ a < 32, ∀ b < 32, a ||| b < 32 := by decide +kernel
theorem getD_lt {l : List Nat} (h : ∀ b ∈ l, b < 32) (i : Nat) : l.getD i 0 < 32 := by
  rw [List.getD_eq_getElem?_getD]
  cases hi : l[i]? with
  | none => simp
  | some b => exact h b (List.mem_of_getElem? hi)
theorem pow6 : ∀ s : Nat, s ≤ 5 → 2 ^ s < 33 := by decide
theorem pow7 : ∀ s : Nat, s ≤ 5 → 2 ^ s - 1 < 32 := by decide
theorem not5 : ∀ a < 32, ∀ b < 32, a ^^^ (a &&& b) < 32 := by decide +kernel
def Tab.may (T : Tab) (c d : Nat) : Nat :=
  let a := 2 ^ T.n - 1
  let b := a ^^^ (a &&& T.bc.getD c 0)
  b ^^^ (b &&& T.od.getD d 0)

theorem Tab.OK.setAt {T : Tab} (h : T.OK) (c d : Nat) (s : Int) : (T.setAt c d s).OK := ⟨h.n, by simp [Tab.setAt, h.at_], h.bc, h.od, h.bs, h.os⟩
theorem Tab.OK.setBc {T : Tab} (h : T.OK) (c : Nat) {x : Nat} (hx : x < 32) : (T.setBc c x).OK := ⟨h.n, h.at_, by simp [Tab.setBc, h.bc], h.od, fun b hb => by
  rcases List.mem_or_eq_of_mem_set hb with hb | rfl
  · exact h.bs b hb
  · exact hx, h.os⟩
theorem Tab.OK.setOd {T : Tab} (h : T.OK) (d : Nat) {x : Nat} (hx : x < 32) : (T.setOd d x).OK := ⟨h.n, h.at_, h.bc, by simp [Tab.setOd, h.od], h.bs, fun b hb => by
  rcases List.mem_or_eq_of_mem_set hb with hb | rfl
  · exact h.os b hb
  · exact hx⟩
theorem Tab.set_at {T : Tab} (h : T.OK) {c d : Nat} (hc : c < 5) (hd : d < 5) (s : Int) : T.cells.set (0 + 1 + c * 5 + d * 1) (.int .i64 s) = (T.setAt c d s).cells := by
  rw [show 0 + 1 + c * 5 + d * 1 = (c * 5 + d) + 1 by omega]
  simp only [Tab.cells, Tab.setAt, List.set_cons_succ, List.append_assoc]
  rw [List.set_append_left _ _ (by simp [h.at_]; omega), List.map_set]
theorem Tab.set_bc {T : Tab} (h : T.OK) {c : Nat} (hc : c < 5) (x : Nat) : T.cells.set (0 + 26 + c * 1) (.int .u64 (x : Nat)) = (T.setBc c x).cells := by
  rw [show 0 + 26 + c * 1 = (25 + c) + 1 by omega]
  simp only [Tab.cells, Tab.setBc, List.set_cons_succ, List.append_assoc]
  rw [List.set_append_right _ _ (by simp [h.at_]), List.set_append_left _ _ (by simp [h.at_, h.bc]; omega)]
  simp only [List.length_map, h.at_, show 25 + c - 25 = c by omega, List.map_set]
theorem Tab.set_od {T : Tab} (h : T.OK) {d : Nat} (hd : d < 5) (x : Nat) : T.cells.set (0 + 31 + d * 1) (.int .u64 (x : Nat)) = (T.setOd d x).cells := by
  rw [show 0 + 31 + d * 1 = (30 + d) + 1 by omega]
  simp only [Tab.cells, Tab.setOd, List.set_cons_succ, List.append_assoc]
  rw [List.set_append_right _ _ (by simp [h.at_]; omega), List.set_append_right _ _ (by simp [h.at_, h.bc]; omega)]
  simp only [List.length_map, h.at_, h.bc, show 30 + d - 25 - 5 = d by omega, List.map_set]
theorem Tab.get_n (T : Tab) : T.cells[0 + 0]? = some (.int .i64 T.n) := rfl
theorem Tab.get_at {T : Tab} (h : T.OK) {c d : Nat} (hc : c < 5) (hd : d < 5) : T.cells[0 + 1 + c * 5 + d * 1]? = some (.int .i64 (T.at_.getD (c * 5 + d) 0)) := by
  rw [show 0 + 1 + c * 5 + d * 1 = 1 + (c * 5 + d) by omega]; exact Tab.cell_at h (by omega)
theorem Tab.get_bc {T : Tab} (h : T.OK) {c : Nat} (hc : c < 5) : T.cells[0 + 26 + c * 1]? = some (.int .u64 (T.bc.getD c 0 : Nat)) := by
  rw [show 0 + 26 + c * 1 = 26 + c by omega]; exact Tab.cell_bc h hc
theorem Tab.get_od {T : Tab} (h : T.OK) {c : Nat} (hc : c < 5) : T.cells[0 + 31 + c * 1]? = some (.int .u64 (T.od.getD c 0 : Nat)) := by
  rw [show 0 + 31 + c * 1 = 31 + c by omega]; exact Tab.cell_od h hc

def Tab.put (T : Tab) (c d s : Nat) : Tab := ((T.setAt c d s).setBc c (T.bc.getD c 0 ||| 2 ^ s)).setOd d (T.od.getD d 0 ||| 2 ^ s)
def Tab.take (T : Tab) (c d s : Nat) : Tab := ((T.setAt c d (-1)).setBc c (T.bc.getD c 0 ^^^ (T.bc.getD c 0 &&& 2 ^ s))).setOd d (T.od.getD d 0 ^^^ (T.od.getD d 0 &&& 2 ^ s))

variable {s : St} {L : List Res} {F : List Fact}
theorem fn55 : env.P.funcs[55]? = some Tryd.f55 := by kernel_rfl
theorem put_ac {T : Tab} (hT : T.OK) {bt c d x : Nat} (h : Sep s (pt bt T.cells :: L) F) (hc : c < 5) (hd : d < 5) (hs : x < 5) :
    AC env 55 [ptr bt, .int .i64 c, .int .i64 d, .int .i64 x] s fun r s => r = .tuple #[] ∧ Sep s (pt bt (T.put c d x).cells :: L) F := by
  refine ac_of_aw (N := 40) fn55 rfl (by kernel_rfl) rfl (by simp) (by kernel_rfl) ?_
  (repeat ((conv => whnf); first | refine And.intro rfl (i64x (by omega) (by omega) ?_) | refine i64x (by omega) (by omega) ?_ | refine Got.mk' (by assumption) ?_ | refine h.loadM (by (repeat constructor)) (by first | rfl | assumption) ?_ | refine h.load1 rfl fun h => ?_ | refine h.loadm (by (repeat (first | assumption | constructor))) rfl ?_ | refine LenOf.mk' ?_ | refine h.len (by (repeat (first | assumption | constructor))) ?_ | refine h.lenM (by (repeat constructor)) ?_ | refine h.lenX (by (repeat (first | assumption | constructor))) ?_ | refine h.indexKv (by (repeat (first | assumption | constructor))) _ rfl (by omega) (by assumption) fun _ _ h => ?_ | refine h.indexK (by (repeat (first | assumption | constructor))) _ rfl (by omega) fun _ _ h => ?_ | refine If.tt rfl ?_ | refine If.ff rfl ?_ | refine Gd.yes rfl ?_ | refine Gd.no rfl ?_ | refine Gd.tup rfl ?_ | refine And.intro rfl (Cmp.yes (by omega) (by omega) ?_) | refine And.intro rfl (Cmp.no (by omega) (by omega) ?_) | refine And.intro rfl (Cmp.neN (by omega) ?_) | refine And.intro rfl (Cmp.lt ?_) | refine And.intro rfl (Cmp.le ?_) | refine And.intro rfl (Cmp.eq ?_) | refine And.intro rfl (Cmp.ne ?_) | refine exr ?_ | refine exb rfl ?_ | refine exp rfl ?_ | refine exv rfl ?_ | refine exi rfl (by omega) (by omega) ?_ | refine Elem.mk' rfl rfl (by omega) (by omega) ?_ | refine And.intro (by decide : _ ≠ 0) ?_ | refine And.intro (rfl : true = true) ?_ | refine tk rfl (by (repeat constructor)) ?_ | refine And.intro (List.all_eq_true.1 (by kernel_rfl)) (exlay rfl ?_) | refine And.intro (by (first | rfl | assumption | exact h.acconeM (by (repeat constructor)) | exact h.frone (by (repeat (first | assumption | constructor)))) : one _ = true) ?_ | refine And.intro (by (repeat (first | exact rd_nil _ | refine rd_cons (by (first | exact h.ldM (by (repeat constructor)) (by first | rfl | assumption) | assumption)) ?_)) : Reads.in _ _) ?_))
  (conv => whnf)
  have hT1 := hT.setAt c d x
  refine And.intro rfl (h.storeC 0 _ rfl rfl (by rw [hT.length]; show 0 + 1 + c * 5 + d * 1 < 36; omega) (Tab.set_at hT hc hd x) fun s h => ?_)
  have e1 := Tab.get_bc hT1 hc
  (conv => whnf)
  refine ⟨.tail 12, by kernel_rfl, ?_⟩
  (repeat ((conv => whnf); first | refine And.intro rfl (i64x (by omega) (by omega) ?_) | refine i64x (by omega) (by omega) ?_ | refine Got.mk' (by assumption) ?_ | refine h.loadM (by (repeat constructor)) (by first | rfl | assumption) ?_ | refine h.load1 rfl fun h => ?_ | refine h.loadm (by (repeat (first | assumption | constructor))) rfl ?_ | refine LenOf.mk' ?_ | refine h.len (by (repeat (first | assumption | constructor))) ?_ | refine h.lenM (by (repeat constructor)) ?_ | refine h.lenX (by (repeat (first | assumption | constructor))) ?_ | refine h.indexKv (by (repeat (first | assumption | constructor))) _ rfl (by omega) (by assumption) fun _ _ h => ?_ | refine h.indexK (by (repeat (first | assumption | constructor))) _ rfl (by omega) fun _ _ h => ?_ | refine If.tt rfl ?_ | refine If.ff rfl ?_ | refine Gd.yes rfl ?_ | refine Gd.no rfl ?_ | refine Gd.tup rfl ?_ | refine And.intro rfl (Cmp.yes (by omega) (by omega) ?_) | refine And.intro rfl (Cmp.no (by omega) (by omega) ?_) | refine And.intro rfl (Cmp.neN (by omega) ?_) | refine And.intro rfl (Cmp.lt ?_) | refine And.intro rfl (Cmp.le ?_) | refine And.intro rfl (Cmp.eq ?_) | refine And.intro rfl (Cmp.ne ?_) | refine exr ?_ | refine exb rfl ?_ | refine exp rfl ?_ | refine exv rfl ?_ | refine exi rfl (by omega) (by omega) ?_ | refine Elem.mk' rfl rfl (by omega) (by omega) ?_ | refine And.intro (by decide : _ ≠ 0) ?_ | refine And.intro (rfl : true = true) ?_ | refine tk rfl (by (repeat constructor)) ?_ | refine And.intro (List.all_eq_true.1 (by kernel_rfl)) (exlay rfl ?_) | refine And.intro (by (first | rfl | assumption | exact h.acconeM (by (repeat constructor)) | exact h.frone (by (repeat (first | assumption | constructor)))) : one _ = true) ?_ | refine And.intro (by (repeat (first | exact rd_nil _ | refine rd_cons (by (first | exact h.ldM (by (repeat constructor)) (by first | rfl | assumption) | assumption)) ?_)) : Reads.in _ _) ?_))
  (conv => whnf)
  refine And.intro (by omega) (exw (bit_shl x (by omega)) ?_)
  (repeat ((conv => whnf); first | refine And.intro rfl (i64x (by omega) (by omega) ?_) | refine i64x (by omega) (by omega) ?_ | refine Got.mk' (by assumption) ?_ | refine h.loadM (by (repeat constructor)) (by first | rfl | assumption) ?_ | refine h.load1 rfl fun h => ?_ | refine h.loadm (by (repeat (first | assumption | constructor))) rfl ?_ | refine LenOf.mk' ?_ | refine h.len (by (repeat (first | assumption | constructor))) ?_ | refine h.lenM (by (repeat constructor)) ?_ | refine h.lenX (by (repeat (first | assumption | constructor))) ?_ | refine h.indexKv (by (repeat (first | assumption | constructor))) _ rfl (by omega) (by assumption) fun _ _ h => ?_ | refine h.indexK (by (repeat (first | assumption | constructor))) _ rfl (by omega) fun _ _ h => ?_ | refine If.tt rfl ?_ | refine If.ff rfl ?_ | refine Gd.yes rfl ?_ | refine Gd.no rfl ?_ | refine Gd.tup rfl ?_ | refine And.intro rfl (Cmp.yes (by omega) (by omega) ?_) | refine And.intro rfl (Cmp.no (by omega) (by omega) ?_) | refine And.intro rfl (Cmp.neN (by omega) ?_) | refine And.intro rfl (Cmp.lt ?_) | refine And.intro rfl (Cmp.le ?_) | refine And.intro rfl (Cmp.eq ?_) | refine And.intro rfl (Cmp.ne ?_) | refine exr ?_ | refine exb rfl ?_ | refine exp rfl ?_ | refine exv rfl ?_ | refine exi rfl (by omega) (by omega) ?_ | refine Elem.mk' rfl rfl (by omega) (by omega) ?_ | refine And.intro (by decide : _ ≠ 0) ?_ | refine And.intro (rfl : true = true) ?_ | refine tk rfl (by (repeat constructor)) ?_ | refine And.intro (List.all_eq_true.1 (by kernel_rfl)) (exlay rfl ?_) | refine And.intro (by (first | rfl | assumption | exact h.acconeM (by (repeat constructor)) | exact h.frone (by (repeat (first | assumption | constructor)))) : one _ = true) ?_ | refine And.intro (by (repeat (first | exact rd_nil _ | refine rd_cons (by (first | exact h.ldM (by (repeat constructor)) (by first | rfl | assumption) | assumption)) ?_)) : Reads.in _ _) ?_))
  (conv => whnf)
  refine And.intro rfl (exw (bit_or _ (getD_lt hT.bs c) _ (pow5 x hs)) ?_)
  (repeat ((conv => whnf); first | refine And.intro rfl (i64x (by omega) (by omega) ?_) | refine i64x (by omega) (by omega) ?_ | refine Got.mk' (by assumption) ?_ | refine h.loadM (by (repeat constructor)) (by first | rfl | assumption) ?_ | refine h.load1 rfl fun h => ?_ | refine h.loadm (by (repeat (first | assumption | constructor))) rfl ?_ | refine LenOf.mk' ?_ | refine h.len (by (repeat (first | assumption | constructor))) ?_ | refine h.lenM (by (repeat constructor)) ?_ | refine h.lenX (by (repeat (first | assumption | constructor))) ?_ | refine h.indexKv (by (repeat (first | assumption | constructor))) _ rfl (by omega) (by assumption) fun _ _ h => ?_ | refine h.indexK (by (repeat (first | assumption | constructor))) _ rfl (by omega) fun _ _ h => ?_ | refine If.tt rfl ?_ | refine If.ff rfl ?_ | refine Gd.yes rfl ?_ | refine Gd.no rfl ?_ | refine Gd.tup rfl ?_ | refine And.intro rfl (Cmp.yes (by omega) (by omega) ?_) | refine And.intro rfl (Cmp.no (by omega) (by omega) ?_) | refine And.intro rfl (Cmp.neN (by omega) ?_) | refine And.intro rfl (Cmp.lt ?_) | refine And.intro rfl (Cmp.le ?_) | refine And.intro rfl (Cmp.eq ?_) | refine And.intro rfl (Cmp.ne ?_) | refine exr ?_ | refine exb rfl ?_ | refine exp rfl ?_ | refine exv rfl ?_ | refine exi rfl (by omega) (by omega) ?_ | refine Elem.mk' rfl rfl (by omega) (by omega) ?_ | refine And.intro (by decide : _ ≠ 0) ?_ | refine And.intro (rfl : true = true) ?_ | refine tk rfl (by (repeat constructor)) ?_ | refine And.intro (List.all_eq_true.1 (by kernel_rfl)) (exlay rfl ?_) | refine And.intro (by (first | rfl | assumption | exact h.acconeM (by (repeat constructor)) | exact h.frone (by (repeat (first | assumption | constructor)))) : one _ = true) ?_ | refine And.intro (by (repeat (first | exact rd_nil _ | refine rd_cons (by (first | exact h.ldM (by (repeat constructor)) (by first | rfl | assumption) | assumption)) ?_)) : Reads.in _ _) ?_))
  (conv => whnf)
  have hT2 := hT1.setBc c (or5 _ (getD_lt hT.bs c) _ (pow5 x hs))
  refine And.intro rfl (h.storeC 0 _ rfl rfl (by rw [hT1.length]; show 0 + 26 + c * 1 < 36; omega) (Tab.set_bc hT1 hc _) fun s h => ?_)
  have e2 := Tab.get_od hT2 hd
  (conv => whnf)
  refine ⟨.tail 12, by kernel_rfl, ?_⟩
  (repeat ((conv => whnf); first | refine And.intro rfl (i64x (by omega) (by omega) ?_) | refine i64x (by omega) (by omega) ?_ | refine Got.mk' (by assumption) ?_ | refine h.loadM (by (repeat constructor)) (by first | rfl | assumption) ?_ | refine h.load1 rfl fun h => ?_ | refine h.loadm (by (repeat (first | assumption | constructor))) rfl ?_ | refine LenOf.mk' ?_ | refine h.len (by (repeat (first | assumption | constructor))) ?_ | refine h.lenM (by (repeat constructor)) ?_ | refine h.lenX (by (repeat (first | assumption | constructor))) ?_ | refine h.indexKv (by (repeat (first | assumption | constructor))) _ rfl (by omega) (by assumption) fun _ _ h => ?_ | refine h.indexK (by (repeat (first | assumption | constructor))) _ rfl (by omega) fun _ _ h => ?_ | refine If.tt rfl ?_ | refine If.ff rfl ?_ | refine Gd.yes rfl ?_ | refine Gd.no rfl ?_ | refine Gd.tup rfl ?_ | refine And.intro rfl (Cmp.yes (by omega) (by omega) ?_) | refine And.intro rfl (Cmp.no (by omega) (by omega) ?_) | refine And.intro rfl (Cmp.neN (by omega) ?_) | refine And.intro rfl (Cmp.lt ?_) | refine And.intro rfl (Cmp.le ?_) | refine And.intro rfl (Cmp.eq ?_) | refine And.intro rfl (Cmp.ne ?_) | refine exr ?_ | refine exb rfl ?_ | refine exp rfl ?_ | refine exv rfl ?_ | refine exi rfl (by omega) (by omega) ?_ | refine Elem.mk' rfl rfl (by omega) (by omega) ?_ | refine And.intro (by decide : _ ≠ 0) ?_ | refine And.intro (rfl : true = true) ?_ | refine tk rfl (by (repeat constructor)) ?_ | refine And.intro (List.all_eq_true.1 (by kernel_rfl)) (exlay rfl ?_) | refine And.intro (by (first | rfl | assumption | exact h.acconeM (by (repeat constructor)) | exact h.frone (by (repeat (first | assumption | constructor)))) : one _ = true) ?_ | refine And.intro (by (repeat (first | exact rd_nil _ | refine rd_cons (by (first | exact h.ldM (by (repeat constructor)) (by first | rfl | assumption) | assumption)) ?_)) : Reads.in _ _) ?_))
  (conv => whnf)
  refine And.intro (by omega) (exw (bit_shl x (by omega)) ?_)
  (repeat ((conv => whnf); first | refine And.intro rfl (i64x (by omega) (by omega) ?_) | refine i64x (by omega) (by omega) ?_ | refine Got.mk' (by assumption) ?_ | refine h.loadM (by (repeat constructor)) (by first | rfl | assumption) ?_ | refine h.load1 rfl fun h => ?_ | refine h.loadm (by (repeat (first | assumption | constructor))) rfl ?_ | refine LenOf.mk' ?_ | refine h.len (by (repeat (first | assumption | constructor))) ?_ | refine h.lenM (by (repeat constructor)) ?_ | refine h.lenX (by (repeat (first | assumption | constructor))) ?_ | refine h.indexKv (by (repeat (first | assumption | constructor))) _ rfl (by omega) (by assumption) fun _ _ h => ?_ | refine h.indexK (by (repeat (first | assumption | constructor))) _ rfl (by omega) fun _ _ h => ?_ | refine If.tt rfl ?_ | refine If.ff rfl ?_ | refine Gd.yes rfl ?_ | refine Gd.no rfl ?_ | refine Gd.tup rfl ?_ | refine And.intro rfl (Cmp.yes (by omega) (by omega) ?_) | refine And.intro rfl (Cmp.no (by omega) (by omega) ?_) | refine And.intro rfl (Cmp.neN (by omega) ?_) | refine And.intro rfl (Cmp.lt ?_) | refine And.intro rfl (Cmp.le ?_) | refine And.intro rfl (Cmp.eq ?_) | refine And.intro rfl (Cmp.ne ?_) | refine exr ?_ | refine exb rfl ?_ | refine exp rfl ?_ | refine exv rfl ?_ | refine exi rfl (by omega) (by omega) ?_ | refine Elem.mk' rfl rfl (by omega) (by omega) ?_ | refine And.intro (by decide : _ ≠ 0) ?_ | refine And.intro (rfl : true = true) ?_ | refine tk rfl (by (repeat constructor)) ?_ | refine And.intro (List.all_eq_true.1 (by kernel_rfl)) (exlay rfl ?_) | refine And.intro (by (first | rfl | assumption | exact h.acconeM (by (repeat constructor)) | exact h.frone (by (repeat (first | assumption | constructor)))) : one _ = true) ?_ | refine And.intro (by (repeat (first | exact rd_nil _ | refine rd_cons (by (first | exact h.ldM (by (repeat constructor)) (by first | rfl | assumption) | assumption)) ?_)) : Reads.in _ _) ?_))
  (conv => whnf)
  refine And.intro rfl (exw (bit_or _ (getD_lt hT.os d) _ (pow5 x hs)) ?_)
  (repeat ((conv => whnf); first | refine And.intro rfl (i64x (by omega) (by omega) ?_) | refine i64x (by omega) (by omega) ?_ | refine Got.mk' (by assumption) ?_ | refine h.loadM (by (repeat constructor)) (by first | rfl | assumption) ?_ | refine h.load1 rfl fun h => ?_ | refine h.loadm (by (repeat (first | assumption | constructor))) rfl ?_ | refine LenOf.mk' ?_ | refine h.len (by (repeat (first | assumption | constructor))) ?_ | refine h.lenM (by (repeat constructor)) ?_ | refine h.lenX (by (repeat (first | assumption | constructor))) ?_ | refine h.indexKv (by (repeat (first | assumption | constructor))) _ rfl (by omega) (by assumption) fun _ _ h => ?_ | refine h.indexK (by (repeat (first | assumption | constructor))) _ rfl (by omega) fun _ _ h => ?_ | refine If.tt rfl ?_ | refine If.ff rfl ?_ | refine Gd.yes rfl ?_ | refine Gd.no rfl ?_ | refine Gd.tup rfl ?_ | refine And.intro rfl (Cmp.yes (by omega) (by omega) ?_) | refine And.intro rfl (Cmp.no (by omega) (by omega) ?_) | refine And.intro rfl (Cmp.neN (by omega) ?_) | refine And.intro rfl (Cmp.lt ?_) | refine And.intro rfl (Cmp.le ?_) | refine And.intro rfl (Cmp.eq ?_) | refine And.intro rfl (Cmp.ne ?_) | refine exr ?_ | refine exb rfl ?_ | refine exp rfl ?_ | refine exv rfl ?_ | refine exi rfl (by omega) (by omega) ?_ | refine Elem.mk' rfl rfl (by omega) (by omega) ?_ | refine And.intro (by decide : _ ≠ 0) ?_ | refine And.intro (rfl : true = true) ?_ | refine tk rfl (by (repeat constructor)) ?_ | refine And.intro (List.all_eq_true.1 (by kernel_rfl)) (exlay rfl ?_) | refine And.intro (by (first | rfl | assumption | exact h.acconeM (by (repeat constructor)) | exact h.frone (by (repeat (first | assumption | constructor)))) : one _ = true) ?_ | refine And.intro (by (repeat (first | exact rd_nil _ | refine rd_cons (by (first | exact h.ldM (by (repeat constructor)) (by first | rfl | assumption) | assumption)) ?_)) : Reads.in _ _) ?_))
  (conv => whnf)
  refine And.intro rfl (h.storeC 0 _ rfl rfl (by rw [hT2.length]; show 0 + 31 + d * 1 < 36; omega) (Tab.set_od hT2 hd _) fun s h => ?_)
  (repeat ((conv => whnf); first | refine And.intro rfl (i64x (by omega) (by omega) ?_) | refine i64x (by omega) (by omega) ?_ | refine Got.mk' (by assumption) ?_ | refine h.loadM (by (repeat constructor)) (by first | rfl | assumption) ?_ | refine h.load1 rfl fun h => ?_ | refine h.loadm (by (repeat (first | assumption | constructor))) rfl ?_ | refine LenOf.mk' ?_ | refine h.len (by (repeat (first | assumption | constructor))) ?_ | refine h.lenM (by (repeat constructor)) ?_ | refine h.lenX (by (repeat (first | assumption | constructor))) ?_ | refine h.indexKv (by (repeat (first | assumption | constructor))) _ rfl (by omega) (by assumption) fun _ _ h => ?_ | refine h.indexK (by (repeat (first | assumption | constructor))) _ rfl (by omega) fun _ _ h => ?_ | refine If.tt rfl ?_ | refine If.ff rfl ?_ | refine Gd.yes rfl ?_ | refine Gd.no rfl ?_ | refine Gd.tup rfl ?_ | refine And.intro rfl (Cmp.yes (by omega) (by omega) ?_) | refine And.intro rfl (Cmp.no (by omega) (by omega) ?_) | refine And.intro rfl (Cmp.neN (by omega) ?_) | refine And.intro rfl (Cmp.lt ?_) | refine And.intro rfl (Cmp.le ?_) | refine And.intro rfl (Cmp.eq ?_) | refine And.intro rfl (Cmp.ne ?_) | refine exr ?_ | refine exb rfl ?_ | refine exp rfl ?_ | refine exv rfl ?_ | refine exi rfl (by omega) (by omega) ?_ | refine Elem.mk' rfl rfl (by omega) (by omega) ?_ | refine And.intro (by decide : _ ≠ 0) ?_ | refine And.intro (rfl : true = true) ?_ | refine tk rfl (by (repeat constructor)) ?_ | refine And.intro (List.all_eq_true.1 (by kernel_rfl)) (exlay rfl ?_) | refine And.intro (by (first | rfl | assumption | exact h.acconeM (by (repeat constructor)) | exact h.frone (by (repeat (first | assumption | constructor)))) : one _ = true) ?_ | refine And.intro (by (repeat (first | exact rd_nil _ | refine rd_cons (by (first | exact h.ldM (by (repeat constructor)) (by first | rfl | assumption) | assumption)) ?_)) : Reads.in _ _) ?_))
  (conv => whnf)
  exact ⟨rfl, h⟩
end Go.Am
