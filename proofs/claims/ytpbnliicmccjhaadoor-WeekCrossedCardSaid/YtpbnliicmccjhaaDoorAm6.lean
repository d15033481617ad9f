/-
  An abstract machine for the model's code, part 6: aggregates, new slices, and every operation but the calls.
-/
import Derived.Test.YtpbnliicmccjhaaDoorAm5
namespace Go.Am
set_option linter.unusedVariables false
set_option linter.unusedSimpArgs false
variable {E : Env} {base : World} {φ : Phi} {σ : St} {w : World}

theorem mapM_places {E : Env} (w : World) (fs : List Field) (h : ∀ f ∈ fs, (E.T f.type).isSome = true) :
    (fs.mapM fun f => do pure (f.offset, ← sizeOf f.type) : Sem (List (Nat × Nat))).run E.P w = .ok (fs.map fun f => (f.offset, ((E.T f.type).map (·.size)).getD 0)) w := by
  induction fs with
  | nil => simp
  | cons f fs ih =>
    obtain ⟨fi, hfi⟩ := Option.isSome_iff_exists.1 (h f (by simp))
    have hs := run_size hfi w
    rw [List.mapM_cons]
    simp only [Sem.run_bind, Sem.run_pure, Result.andThen_ok, hs, ih fun g hg => h g (by simp [hg]), List.map_cons, hfi, Option.map_some, Option.getD_some]

theorem awBuild_ok (h : Rel E.G base φ σ w) {t : TypeId} {parts parts' : List (Nat × Value)} (K : Kont) (hn : parts.map (·.1) = parts'.map (·.1)) (hv : VRs φ (parts.map (·.2)) (parts'.map (·.2)))
    (hk : awBuild E t parts fun v => K v σ) : Fine E.G base φ E.P (Instr.build t parts'.toArray) w K := by
  unfold awBuild at hk
  cases ht : E.T t with
  | none => simp [ht] at hk
  | some i =>
    simp only [ht] at hk
    have hu := run_und ht w
    obtain ⟨z, hz, hzc⟩ := run_zero ht w
    have hzc' : z.cells = i.zero.toArray := by rw [← hzc]
    have hsc := VRs.scalars (φ := φ) (E.ok t i ht).sc
    cases hd : i.desc <;> simp only [hd] at hk <;> try exact hk.elim
    case struct fs =>
      rw [hd] at hu
      obtain ⟨hall, cs, hl, hk⟩ := hk
      have hm := mapM_places w fs.toList hall
      have hplace : fieldPlaceOf E fs = fun i => (fs.toList.map fun f => (f.offset, ((E.T f.type).map (·.size)).getD 0)).toArray[i]? := by
        funext j
        simp only [fieldPlaceOf, List.getElem?_toArray, List.getElem?_map, Array.getElem?_toList]
        cases hj : fs[j]? with
        | none => rfl
        | some f =>
          obtain ⟨fi, hfi⟩ := Option.isSome_iff_exists.1 (hall f (by have := Array.mem_of_getElem? hj; simpa using this))
          simp [hfi]
      rw [hplace] at hl
      obtain ⟨out', h1, h2⟩ := lay_fill parts parts' _ _ cs hn hv hsc hl
      refine .pure h (v' := .agg out') ?_ (VR.agg_iff.2 (by simpa using h2)) hk
      have hm' : (fs.mapM fun f => do pure (f.offset, ← sizeOf f.type) : Sem (Array (Nat × Nat))).run E.P w = .ok (fs.toList.map fun f => (f.offset, ((E.T f.type).map (·.size)).getD 0)).toArray w := by
        rw [Array.mapM_eq_mapM_toList]
        simp only [Sem.run_map, hm, Result.andThen_ok]
      simp only [Instr.build, Sem.run_bind, hz, hu, Result.andThen_ok, hzc', hm', h1, Sem.run_pure]
    case array n e =>
      rw [hd] at hu
      cases he : E.T e with
      | none => simp [he] at hk
      | some ie =>
        simp only [he] at hk
        obtain ⟨cs, hl, hk⟩ := hk
        have hs := run_size he w
        obtain ⟨out', h1, h2⟩ := lay_fill parts parts' _ _ cs hn hv hsc hl
        refine .pure h (v' := .agg out') ?_ (VR.agg_iff.2 (by simpa using h2)) hk
        simp [Instr.build, hz, hu, hs, hzc', h1]

theorem zeros_eq (z : Array Value) (n : Nat) (hz : 0 < z.size) : ((Array.range (n * z.size)).map (fun i => z[i % z.size]!)).toList = zeros z.toList n := by
  apply List.ext_getElem
  · simp [zeros]
  · intro j h1 h2
    have hj : j < n * z.size := by simpa using h1
    have hdiv : j / z.size < n := (Nat.div_lt_iff_lt_mul hz).2 hj
    have hmod := Nat.mod_lt j hz
    have hgen : ∀ (n j : Nat), j < n * z.size → (List.replicate n z.toList).flatten[j]? = some z[j % z.size]! := by
      intro n
      induction n with
      | zero => intro j hj; simp at hj
      | succ n ih =>
        intro j hj
        simp only [List.replicate_succ, List.flatten_cons]
        by_cases hlt : j < z.size
        · rw [List.getElem?_append_left (by simpa using hlt), Nat.mod_eq_of_lt hlt]
          simp [hlt]
        · rw [List.getElem?_append_right (by simpa using hlt)]
          have hsub : j - z.toList.length < n * z.size := by
            simp only [Array.length_toList]
            have : (n + 1) * z.size = n * z.size + z.size := Nat.succ_mul n z.size
            omega
          rw [ih _ hsub]
          simp only [Array.length_toList]
          rw [Nat.mod_eq_sub_mod (by omega : j ≥ z.size)]
    have := hgen n j hj
    rw [show (zeros z.toList n)[j] = z[j % z.size]! by
      have h3 : (zeros z.toList n)[j]? = some z[j % z.size]! := this
      rw [List.getElem?_eq_getElem h2] at h3
      exact Option.some.inj h3]
    simp

theorem zeros_scalar {z : List Value} (h : z.all scalar = true) (n : Nat) : (zeros z n).all scalar = true := by
  unfold zeros
  induction n with
  | zero => rfl
  | succ n ih => simp only [List.replicate_succ, List.flatten_cons, List.all_append, h, ih, Bool.and_self]
theorem zeros_length (z : List Value) (n : Nat) : (zeros z n).length = n * z.length := by simp [zeros]
theorem zeros_one (v : Value) (n : Nat) : zeros [v] n = List.replicate n v := by
  induction n with
  | zero => rfl
  | succ n ih => simp only [zeros, List.replicate_succ, List.flatten_cons] at ih ⊢; rw [ih]; rfl

theorem ptr_fresh {φ : Phi} {n : Nat} {m : Img} (c k : Nat) (e : Nat) (hm : m.off = 0) (hroom : c * e ≤ m.room) (hk : k ≤ c) :
    VR (φ.set n m) (.slice (some ⟨n, 0, some e⟩) k (2 * c + 1)) (.slice (some ⟨m.blk, 0, none⟩) k c) := by
  have := VR.slice (φ := φ.set n m) (b := n) (o := 0) (e := e) (n := k) (c := 2 * c + 1) (m := m) (a' := ⟨m.blk, 0, none⟩) (c' := c) (Phi.set_same φ n m)
    (by omega) (by omega) (by omega) (by omega) (by omega) rfl rfl (.inr (by simp [hm]))
  exact this

theorem awBuildSlice_ok (h : Rel E.G base φ σ w) {t : TypeId} {len : Nat} {parts parts' : List (Nat × Value)} (K : Kont) (hn : parts.map (·.1) = parts'.map (·.1))
    (hv : VRs φ (parts.map (·.2)) (parts'.map (·.2))) (hk : awBuildSlice E σ t len parts K) : Fine E.G base φ E.P (Instr.buildSlice t len parts'.toArray) w K := by
  unfold awBuildSlice at hk
  simp only [newS_iff] at hk
  have hfr : φ σ.n = none := h.fresh σ.n (Nat.le_refl _)
  cases ht : E.T t with
  | none => simp [ht] at hk
  | some i =>
    simp only [ht] at hk
    have hu := run_und ht w
    cases hd : i.desc <;> simp only [hd] at hk <;> try exact hk.elim
    case slice e =>
      rw [hd] at hu
      cases he : E.T e with
      | none => simp [he] at hk
      | some ie =>
        simp only [he] at hk
        obtain ⟨hpos, hbig, cs, hl, hk⟩ := hk
        have hs := run_size he w
        obtain ⟨z, hz, hzc⟩ := run_zero he w
        have hzs : z.cells.size = ie.size := by rw [← (E.ok e ie he).len, ← hzc]; simp
        have hsc := VRs.scalars (φ := φ) (zeros_scalar (E.ok e ie he).sc len)
        obtain ⟨out', h1, h2⟩ := lay_fill parts parts' _ _ cs hn hv hsc hl
        have hlay : ∀ (parts : List (Nat × Value)) (c out : List Value), lay (fun _ => ie.agg) (fun j => some (j * ie.size, ie.size)) c parts = some out → out.length = c.length := by
          intro parts
          induction parts with
          | nil => intro c out hl; simp only [lay] at hl; cases hl; rfl
          | cons p parts ih =>
            intro c out hl
            obtain ⟨j, v⟩ := p
            simp only [lay] at hl
            split at hl
            · split at hl
              · split at hl
                · rename_i hc
                  rw [ih _ _ hl]; simp; omega
                · cases hl
              · cases hl
            · split at hl
              · rw [ih _ _ hl]; simp
              · cases hl
        have hlen := hlay parts _ cs hl
        rw [zeros_length, (E.ok e ie he).len] at hlen
        have hlen' : out'.size = len * ie.size := by have := h2.1; simp at this; omega
        have hnew := h.new (cs := cs) (cs' := out'.toList) h2 (rest := []) e
        refine ⟨.slice (some ⟨w.heap.size, 0, none⟩) len len, _, _, _, _, ?_, Phi.le_set hfr _, hk, ptr_fresh len len ie.size rfl (by simp [hlen']) (Nat.le_refl _), hnew⟩
        have hzz := zeros_eq z.cells len (by omega)
        rw [hzs, hzc] at hzz
        by_cases h0 : len * ie.size = 0
        · have hlen0 : len = 0 := by
            rcases Nat.mul_eq_zero.1 h0 with h | h
            · exact h
            · omega
          subst hlen0
          have hz0 : zeros ie.zero 0 = [] := rfl
          rw [hz0] at h1
          have harr : Array.map (fun x => (#[] : Array Value)[x % (#[] : Array Value).size]!) (Array.range (0 * ie.size)) = #[] := by simp
          have hc1 : ¬ (0 * ie.size > 2 ^ 24) := by omega
          have hc2 : 0 * ie.size = 0 := by omega
          simp only [Instr.buildSlice, Sem.run_bind, hu, Result.andThen_ok, hs, if_neg hc1, if_pos hc2, Sem.run_pure, harr]
          rw [h1]
          simp [newRow]
        · have harr : Array.map (fun x => z.cells[x % z.cells.size]!) (Array.range (len * ie.size)) = (zeros ie.zero len).toArray := by
            apply Array.toList_inj.1
            rw [← hzz, hzs]
          have hb : ¬ (len * ie.size > 2 ^ 24) := by omega
          simp only [Instr.buildSlice, Sem.run_bind, hu, Result.andThen_ok, hs, if_neg hb, if_neg h0, hz, Sem.run_pure, harr]
          rw [h1]
          simp [newRow]

theorem awMakeSlice_ok (h : Rel E.G base φ σ w) {t : TypeId} {l l' c c' : Value} (K : Kont) (hl : VR φ l l') (hc : VR φ c c') (hk : awMakeSlice E σ t l c K) :
    Fine E.G base φ E.P (Instr.makeSlice t l' c') w K := by
  unfold awMakeSlice at hk
  simp only [newS_iff] at hk
  have hfr : φ σ.n = none := h.fresh σ.n (Nat.le_refl _)
  cases ht : E.T t with
  | none => simp [ht] at hk
  | some i =>
    simp only [ht] at hk
    have hu := run_und ht w
    cases hd : i.desc <;> simp only [hd] at hk <;> try exact hk.elim
    case slice e =>
      rw [hd] at hu
      cases he : E.T e with
      | none => simp [he] at hk
      | some ie =>
        simp only [he] at hk
        obtain ⟨hpos, hby, k, k', n, m, rfl, rfl, hnm, hm, hk⟩ := hk
        rw [hl.to_int, hc.to_int]
        have hs := run_size he w
        obtain ⟨inf, z0, hinf, his, hib, hiz, hizc, _, _⟩ := (E.ok e ie he).info
        obtain ⟨z, hz, hzc⟩ := run_zero he w
        have hzs : z.cells.size = ie.size := by rw [← (E.ok e ie he).len, ← hzc]; simp
        have hsc := VRs.scalars (φ := φ) (zeros_scalar (E.ok e ie he).sc m)
        have hnew := h.new hsc (rest := []) e
        have hzl : (zeros ie.zero m).length = m * ie.size := by rw [zeros_length, (E.ok e ie he).len]
        refine ⟨.slice (some ⟨w.heap.size, 0, none⟩) n m, _, _, _, _, ?_, Phi.le_set hfr _, hk, ptr_fresh m n ie.size rfl (by simp [hzl]) hnm, hnew⟩
        have hw1 : IntKind.i64.wrap (n : Int) = n := by
          simp only [IntKind.wrap, IntKind.bits, IntKind.signed]; simp; omega
        have hw2 : IntKind.i64.wrap (m : Int) = m := by
          simp only [IntKind.wrap, IntKind.bits, IntKind.signed]; simp; omega
        have hbig : ¬ ((inf.bytes : Int) * (m : Int) > 2 ^ 48) := by
          have : inf.bytes * m ≤ 65536 * 1073741824 := Nat.mul_le_mul (hib ▸ hby) hm
          have h2 : ((inf.bytes * m : Nat) : Int) ≤ (65536 * 1073741824 : Nat) := Int.ofNat_le.2 this
          simp only [Int.natCast_mul] at h2
          omega
        have hzz := zeros_eq z.cells m (by omega)
        rw [hzs, hzc] at hzz
        have harr : Array.map (fun x => z.cells[x % z.cells.size]!) (Array.range (m * ie.size)) = (zeros ie.zero m).toArray := by
          apply Array.toList_inj.1
          rw [← hzz, hzs]
        have hinfo : (typeInfo e).run E.P w = .ok inf w := by simp [typeInfo, hinf]
        have hneg : ¬ ((m : Int) < 0) := by omega
        have hneg' : ¬ ((n : Int) < 0) := by omega
        have hle : ¬ ((n : Int) > (m : Int)) := by omega
        have hcond : ((decide ((m : Int) < 0) || decide ((inf.bytes : Int) * (m : Int) > 2 ^ 48)) || decide ((n : Int) < 0) || decide ((n : Int) > (m : Int))) = false := by
          simp only [Bool.or_eq_false_iff, decide_eq_false_iff_not]
          exact ⟨⟨⟨hneg, hbig⟩, hneg'⟩, hle⟩
        by_cases h0 : m * ie.size = 0
        · have hm0 : m = 0 := by
            rcases Nat.mul_eq_zero.1 h0 with h | h
            · exact h
            · omega
          subst hm0
          simp only [Instr.makeSlice, Sem.run_bind, hu, Result.andThen_ok, asInt, asIntOf, Sem.run_pure, hinfo, hw1, hw2]
          simp only [Bool.or_eq_true, decide_eq_true_eq] at hcond ⊢
          rw [if_neg (by simp only [Bool.or_eq_false_iff, decide_eq_false_iff_not] at hcond; omega)]
          have hz0 : zeros ie.zero 0 = [] := rfl
          have harr : Array.map (fun x => (#[] : Array Value)[x % (#[] : Array Value).size]!) (Array.range (0 * ie.size)) = #[] := by simp
          have hc2 : Int.toNat ((0 : Nat) : Int) * ie.size = 0 := by simp
          simp only [run_askRoom, Sem.run_bind, Result.andThen_ok, hs, if_pos hc2, Sem.run_pure, hz0, newRow]
          have hr0 : Array.range 0 = #[] := rfl
          simp [hr0]
        · simp only [Instr.makeSlice, Sem.run_bind, hu, Result.andThen_ok, asInt, asIntOf, Sem.run_pure, hinfo, hw1, hw2]
          rw [if_neg (by simp only [Bool.or_eq_true, decide_eq_true_eq]; omega)]
          simp only [run_askRoom, Sem.run_bind, Result.andThen_ok, hs, Int.toNat_natCast, if_neg h0, hz, Sem.run_pure, harr, newRow]
          simp

theorem awConvert_ok {s d : TypeId} {x x' : Value} (K : Value → Prop) (hx : VR φ x x') (hk : awConvert E s d x K) : FineP φ E.P (convert s d x') K := by
  unfold awConvert at hk
  split at hk
  · rename_i si di k n hs hd
    have h1 := run_und (E := E) hs
    have h2 := run_und (E := E) hd
    cases hdd : di.desc <;> simp only [hdd] at hk <;> try exact hk.elim
    rename_i kd
    obtain ⟨r, rfl, hk⟩ := hk
    rw [hx.to_int]
    rw [hdd] at h2
    refine .mk (v' := .int kd (kd.wrap n)) (fun w => ?_) (.int _ _) hk
    cases hsd : si.desc <;> simp [convert, h1, h2, Conv.intToInt]
  · exact hk.elim

theorem awMakeInterface_ok {t : TypeId} {x x' : Value} (K : Value → Prop) (hx : VR φ x x') (hk : awMakeInterface E t x K) :
    FineP φ E.P (Instr.makeInterface t x') K := by
  unfold awMakeInterface at hk
  cases ht : E.T t with
  | none => simp [ht] at hk
  | some i =>
    simp only [ht] at hk
    have hu := run_und (E := E) ht
    cases hd : i.desc <;> simp only [hd] at hk <;> first
      | exact hk.elim
      | (rw [hd] at hu; exact .mk (v' := .iface t x') (fun w => by simp [Instr.makeInterface, hu]) (.iface hx) hk)

theorem awTypeAssert_ok {xt a : TypeId} {x x' : Value} {ok : Bool} (K : Value → Prop) (hx : VR φ x x') (hk : awTypeAssert E x a ok K) :
    FineP φ E.P (Instr.typeAssert x' xt a ok) K := by
  unfold awTypeAssert at hk
  cases ht : E.T a with
  | none => simp [ht] at hk
  | some i =>
    simp only [ht] at hk
    have hu := run_und (E := E) ht
    have hz := run_zv (E := E) ht
    have hfl := VR.flat (φ := φ) (E.ok a i ht).fl
    have h2 : ∀ {p p' q : Value}, VR φ p p' → VR φ q q → VR φ (.tuple #[p, q]) (.tuple #[p', q]) := fun hp hq => VR.tuple_iff.2 (.cons hp (.cons hq (.nil φ)))
    have key : (∀ ms, i.desc ≠ .interface ms) → awTA i.zv x a ok (K) → FineP φ E.P (Instr.typeAssert x' xt a ok) K := by
      clear hk
      intro hni hk
      cases hx <;> try exact False.elim hk
      case nili =>
        obtain ⟨rfl, hk⟩ := hk
        refine .mk (v' := .tuple #[i.zv, .bool false]) (fun w => ?_) (h2 hfl (.bool _)) hk
        simp only [Instr.typeAssert, Sem.run_bind, hu, Result.andThen_ok]
        cases hd : i.desc <;> first | exact absurd hd (hni _) | simp [hz]
      case iface =>
        rename_i t v v' hv
        simp only [awTA] at hk
        by_cases hta : t = a
        · subst hta
          rw [if_pos rfl] at hk
          cases ok with
          | false =>
            refine .mk (v' := v') (fun w => ?_) hv hk
            simp only [Instr.typeAssert, Sem.run_bind, hu, Result.andThen_ok]
            cases hd : i.desc <;> first | exact absurd hd (hni _) | simp
          | true =>
            refine .mk (v' := .tuple #[v', .bool true]) (fun w => ?_) (h2 hv (.bool _)) hk
            simp only [Instr.typeAssert, Sem.run_bind, hu, Result.andThen_ok]
            cases hd : i.desc <;> first | exact absurd hd (hni _) | simp
        · rw [if_neg hta] at hk
          obtain ⟨rfl, hk⟩ := hk
          refine .mk (v' := .tuple #[i.zv, .bool false]) (fun w => ?_) (h2 hfl (.bool _)) hk
          simp only [Instr.typeAssert, Sem.run_bind, hu, Result.andThen_ok]
          cases hd : i.desc <;> first | exact absurd hd (hni _) | simp [hz, hta]
    cases hd : i.desc <;> simp only [hd] at hk <;> first
      | exact hk.elim
      | exact key (fun ms he => by rw [hd] at he; cases he) hk

end Go.Am
