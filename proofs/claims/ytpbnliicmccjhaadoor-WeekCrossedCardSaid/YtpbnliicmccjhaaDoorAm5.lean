/-
  An abstract machine for the model's code, part 5: addresses, loads, stores, new memory.
-/
import Derived.Test.YtpbnliicmccjhaaDoorAm4
namespace Go.Am
set_option linter.unusedVariables false
set_option linter.unusedSimpArgs false
variable {E : Env} {base : World} {φ : Phi} {σ : St} {w : World}

theorem add_addr (b o n : Nat) : (⟨b, o, none⟩ : Addr).add n = ⟨b, o + n, none⟩ := by
  unfold Addr.add; split <;> simp_all

theorem awIndexAddr_ok {t : TypeId} {x x' i i' : Value} (K : Value → Prop) (hx : VR φ x x') (hi : VR φ i i') (hk : awIndexAddr E t x i K) :
    FineP φ E.P (Instr.indexAt t x' i') K := by
  unfold awIndexAddr at hk
  simp only [elem_iff] at hk
  cases ht : E.T t with
  | none => simp [ht] at hk
  | some ti =>
    have hu := run_und (E := E) ht
    simp only [ht] at hk
    cases hd : ti.desc <;> simp only [hd] at hk <;> try exact hk.elim
    case slice e =>
      cases he : E.T e with
      | none => simp [he] at hk
      | some ie =>
        simp only [he] at hk
        obtain ⟨b, o, n, c, k, j, rfl, rfl, h0, h1, hk⟩ := hk
        have hs := run_size (E := E) he
        rw [hi.to_int]
        rw [hd] at hu
        cases hx with
        | slice hφ hn hlo hex hun hroom hbk hsp ha =>
          rename_i img a' c'
          have hc' : ¬ (c' = 0 ∧ o ≠ 0) := by omega
          have ha' := ha.resolve_left hc'
          have haddr : a'.add (j.toNat * ie.size) = ⟨img.blk, img.off + (o + j.toNat * ie.size), none⟩ := by
            obtain ⟨p, q, r⟩ := a'
            simp at hbk hsp ha'
            subst hbk; subst hsp; subst ha'
            rw [add_addr, Nat.add_assoc]
          refine .mk (v' := .pointer (some (a'.add (j.toNat * ie.size)))) (fun w => ?_) (by rw [haddr]; exact .ptr hφ) hk
          simp [Instr.indexAt, asIntOf, hu, hs, h0, h1]
    case array n e =>
      split at hk
      · rename_i ie b o he
        obtain ⟨k, j, rfl, h0, h1, hk⟩ := hk
        have hs := run_size (E := E) he
        rw [hi.to_int]
        rw [hd] at hu
        obtain ⟨img, hφ, rfl⟩ := hx.to_ptr
        refine .mk (v' := .pointer (some ⟨img.blk, img.off + (o + j.toNat * ie.size), none⟩)) (fun w => ?_) (.ptr hφ) hk
        simp [Instr.indexAt, asIntOf, Instr.sureAddr, hu, hs, h0, h1, add_addr, Nat.add_assoc]
      · exact hk.elim

theorem awFieldAddr_ok {t : TypeId} {x x' : Value} {f : Nat} (K : Value → Prop) (hx : VR φ x x') (hk : awFieldAddr E t x f K) :
    FineP φ E.P (Instr.fieldAt t x' f) K := by
  unfold awFieldAddr at hk
  split at hk
  · rename_i ti b o ht
    have hu := run_und (E := E) ht
    cases hd : ti.desc <;> simp only [hd] at hk <;> try exact hk.elim
    case struct fs =>
      rw [hd] at hu
      cases hf : fs[f]? with
      | none => simp [hf] at hk
      | some fd =>
        simp only [hf] at hk
        cases he : E.T fd.type with
        | none => simp [he] at hk
        | some fi =>
          simp only [he] at hk
          obtain ⟨hne, hk⟩ := hk
          have hs := run_size (E := E) he
          obtain ⟨img, hφ, rfl⟩ := hx.to_ptr
          refine .mk (v' := .pointer (some ⟨img.blk, img.off + (o + fd.offset), none⟩)) (fun w => ?_) (.ptr hφ) hk
          simp [Instr.fieldAt, Instr.sureAddr, hu, hf, fieldPlace, hs, hne, add_addr, Nat.add_assoc]
  · exact hk.elim

theorem awPart_ok {t : TypeId} {cs cs' : Array Value} {off : Nat} (K : Value → Prop) (hx : VRs φ cs.toList cs'.toList) (hk : awPart E t cs off K) :
    FineP φ E.P (part t cs' off) K := by
  unfold awPart at hk
  cases ht : E.T t with
  | none => simp [ht] at hk
  | some i =>
    simp only [ht] at hk
    have ha := run_agg (E := E) ht
    have hs := run_size (E := E) ht
    by_cases hag : i.agg = true
    · rw [if_pos hag] at hk
      rw [hag] at ha
      refine .mk (v' := .agg (cs'.extract off (off + i.size))) (fun w => ?_) (VR.agg_iff.2 ?_) hk
      · simp [part, ha, hs]
      · simp only [Array.toList_extract, List.extract_eq_take_drop]
        exact (hx.drop _).take _
    · rw [if_neg hag] at hk
      have hag' : i.agg = false := by simpa using hag
      rw [hag'] at ha
      obtain ⟨v, hv, hk⟩ := hk
      obtain ⟨v', h1, h2⟩ := hx.get (i := off) (v := v) (by simpa using hv)
      have h1' : cs'[off]? = some v' := by simpa using h1
      refine .mk (v' := v') (fun w => ?_) h2 hk
      simp [part, ha, h1']

theorem awField_ok {t : TypeId} {x x' : Value} {f : Nat} (K : Value → Prop) (hx : VR φ x x') (hk : awField E t x f K) :
    FineP φ E.P (Instr.field t x' f) K := by
  unfold awField at hk
  split at hk
  · rename_i ti cs ht
    have hu := run_und (E := E) ht
    cases hd : ti.desc <;> simp only [hd] at hk <;> try exact hk.elim
    case struct fs =>
      rw [hd] at hu
      cases hf : fs[f]? with
      | none => simp [hf] at hk
      | some fd =>
        simp only [hf] at hk
        obtain ⟨cs', rfl, hv⟩ := hx.of_agg
        obtain ⟨v', v, hr, rest⟩ := awPart_ok K hv hk
        exact ⟨v', v, fun w => by simp [Instr.field, hu, hf, asAgg, hr], rest⟩
  · exact hk.elim

theorem awIndex_ok {t : TypeId} {x x' i i' : Value} (K : Value → Prop) (hx : VR φ x x') (hi : VR φ i i') (hk : awIndex E t x i K) :
    FineP φ E.P (Instr.index t x' i') K := by
  unfold awIndex at hk
  split at hk
  · rename_i ti cs k j ht
    have hu := run_und (E := E) ht
    cases hd : ti.desc <;> simp only [hd] at hk <;> try exact hk.elim
    case array n e =>
      rw [hd] at hu
      cases he : E.T e with
      | none => simp [he] at hk
      | some ie =>
        simp only [he] at hk
        obtain ⟨h0, h1, hk⟩ := hk
        have hs := run_size (E := E) he
        obtain ⟨cs', rfl, hv⟩ := hx.of_agg
        rw [hi.to_int]
        obtain ⟨v', v, hr, rest⟩ := awPart_ok K hv hk
        exact ⟨v', v, fun w => by simp [Instr.index, asIntOf, hu, h0, h1, hs, hr], rest⟩
  · exact hk.elim

/-- Cells that are read. -/
theorem Rel.lds (h : Rel E.G base φ σ w) {b o n : Nat} {vs : List Value} (hv : σ.lds b o n = some vs) :
    ∃ m vs', φ b = some m ∧ VRs φ vs vs' ∧ vs'.length = n ∧ ∀ (j : Nat) (u : Value), vs'[j]? = some u → w.cell? ⟨m.blk, m.off + o + j, none⟩ = some u := by
  unfold St.lds at hv
  cases hk : σ.get b with
  | none => simp [hk] at hv
  | some k =>
    simp only [hk, Option.bind_some] at hv
    split at hv
    · rename_i hle
      cases hv
      obtain ⟨m, hm, cur, e, fz, h1, h2, h3, _, h5⟩ := h.blk b k hk
      have hlen : ((k.cells.drop o).take n).length = n := by simp; omega
      have hlen' : (((cur.toList.drop (m.off + o)).take n)).length = n := by simp; omega
      refine ⟨m, (cur.toList.drop (m.off + o)).take n, hm, ⟨by rw [hlen, hlen'], fun i v v' a b => ?_⟩, hlen', fun j u hj => ?_⟩
      · rw [List.getElem?_take] at a b
        split at a
        · rename_i hi
          rw [if_pos hi] at b
          rw [List.getElem?_drop] at a b
          obtain ⟨u, p1, p2⟩ := h5 (o + i) v a
          rw [show m.off + o + i = m.off + (o + i) by omega] at b
          have : cur[m.off + (o + i)]? = some v' := by simpa using b
          rw [this] at p1; cases p1; exact p2
        · cases a
      · rw [List.getElem?_take] at hj
        split at hj
        · rw [List.getElem?_drop] at hj
          simp [World.cell?, h1]
          simpa using hj
        · cases hj
    · cases hv

theorem awLoad_run (h : Rel E.G base φ σ w) {t : TypeId} {a a' : Value} (K : Value → Prop) (ha : VR φ a a') (hk : awLoad E σ t a K) :
    ∃ v' v, (Instr.loadAt t a').run E.P w = .ok v' w ∧ VR φ v v' ∧ K v := by
  unfold awLoad at hk
  simp only [got_iff, gotA_iff] at hk
  split at hk
  · rename_i i b o ht
    have hag := run_agg ht w
    have hs := run_size ht w
    by_cases hagg : i.agg = true
    · rw [if_pos hagg] at hk
      rw [hagg] at hag
      obtain ⟨vs, hvs, hk⟩ := hk
      obtain ⟨m, vs', hφ, hv, hl, hc⟩ := h.lds hvs
      obtain ⟨m', hφ', rfl⟩ := ha.to_ptr
      rw [hφ] at hφ'; cases hφ'
      have hr := run_loadCells_list (P := E.P) w ⟨m.blk, m.off + o, none⟩ vs' (fun j v hj => by rw [add_addr]; exact hc j v hj)
      rw [hl] at hr
      refine ⟨.agg vs'.toArray, _, ?_, VR.agg_iff.2 (by simpa using hv), hk⟩
      simp [Instr.loadAt, Instr.sureAddr, loadVar, hag, hs, hr]
    · rw [if_neg hagg] at hk
      have hagg' : i.agg = false := by simpa using hagg
      rw [hagg'] at hag
      obtain ⟨v, hv, hk⟩ := hk
      obtain ⟨m, v', hφ, hc, hvr⟩ := h.ld hv
      obtain ⟨m', hφ', rfl⟩ := ha.to_ptr
      rw [hφ] at hφ'; cases hφ'
      refine ⟨v', _, ?_, hvr, hk⟩
      simp [Instr.loadAt, Instr.sureAddr, loadVar, hag, hc]
  · exact hk.elim

theorem awLoad_ok (h : Rel E.G base φ σ w) {t : TypeId} {a a' : Value} (K : Kont) (ha : VR φ a a') (hk : awLoad E σ t a fun v => K v σ) :
    Fine E.G base φ E.P (Instr.loadAt t a') w K :=
  let ⟨_, _, hr, hv, hk⟩ := awLoad_run h _ ha hk
  .pure h hr hv hk

theorem all_one {φ : Phi} {cs cs' : List Value} (h : VRs φ cs cs') (h1 : cs.all one = true) : ∀ v ∈ cs', v.oneCell' = true := by
  intro v hv
  obtain ⟨i, hi⟩ := List.getElem?_of_mem hv
  obtain ⟨u, hu, hr⟩ := h.get' hi
  exact hr.one (List.all_eq_true.1 h1 u (List.mem_of_getElem? hu))

theorem run_store_cells (h : Rel E.G base φ σ w) {b : Nat} {k : Blk} {m : Img} (hk : σ.get b = some k) (hm : φ b = some m) (hw : k.wr = true) (hs : σ.sole b)
    {cs cs' : List Value} (hv : VRs φ cs cs') (h1 : cs.all one = true) (o : Nat) (ho : o + cs.length ≤ k.cells.length) :
    ∃ w', (storeCells ⟨m.blk, m.off + o, none⟩ cs').run E.P w = .ok () w' ∧ Rel E.G base φ (σ.st b (k.cells.take o ++ cs ++ k.cells.drop (o + cs.length))) w' := by
  obtain ⟨m0, hm0, cur, e, fz, c1, c2, c3, c4, c5⟩ := h.blk b k hk
  rw [hm] at hm0; cases hm0
  obtain ⟨_, hfz⟩ := c4 hw
  subst hfz
  have hlen := hv.1
  have hr := run_storeCells_at E.P m.blk (m.off + o) e cs' 0 cur w c1 (by omega) (all_one hv h1)
  simp only [Nat.add_zero] at hr
  exact ⟨_, hr, h.store hk hm hw hs hv o ho c1⟩

theorem awStore_ok (h : Rel E.G base φ σ w) {t : TypeId} {a a' x x' : Value} (K : St → Prop) (ha : VR φ a a') (hx : VR φ x x') (hk : awStore E σ t a x K) :
    ∃ w' σ', (Instr.storeAt t a' x').run E.P w = .ok () w' ∧ K σ' ∧ Rel E.G base φ σ' w' := by
  unfold awStore at hk
  simp only [stored_iff, storedA_iff] at hk
  split at hk
  · rename_i i b o ht
    have hs := run_size ht w
    obtain ⟨m, hφ, rfl⟩ := ha.to_ptr
    by_cases hagg : i.agg = true
    · rw [if_pos hagg] at hk
      obtain ⟨cs, k, rfl, hsz, h1, hget, hwr, hso, ho, hk⟩ := hk
      obtain ⟨cs', rfl, hv⟩ := hx.of_agg
      have hl : cs.toList.length = i.size := by simpa using hsz
      obtain ⟨w', hr, hrel⟩ := run_store_cells h hget hφ hwr hso hv h1 o (by omega)
      rw [hl] at hrel
      refine ⟨w', _, ?_, hk, hrel⟩
      have hsz' : cs'.size = i.size := by have := hv.1; simp at this; omega
      simp [Instr.storeAt, Instr.sureAddr, storeVar, hs, Value.cells, hsz', hr]
    · rw [if_neg hagg] at hk
      obtain ⟨hsz, h1, k, hget, hwr, hso, ho, hk⟩ := hk
      obtain ⟨w', hr, hrel⟩ := run_store_cells h hget hφ hwr hso (VRs.cons hx (.nil φ)) (by simp [h1]) o (by simp; omega)
      have hset : k.cells.take o ++ [x] ++ k.cells.drop (o + [x].length) = k.cells.set o x := by
        rw [List.set_eq_take_append_cons_drop, if_pos ho]; simp
      rw [hset] at hrel
      refine ⟨w', _, ?_, hk, hrel⟩
      simp [Instr.storeAt, Instr.sureAddr, storeVar, hs, hx.cells_one h1, hsz, hr]
  · exact hk.elim

theorem run_newVar (t : TypeId) (v : Value) (P : Program) (w : World) : (newVar t v).run P w = .ok ⟨w.heap.size, 0, none⟩ (w.alloc (.cells v.cells t)) := by
  simp [newVar, newRow]

theorem awBox_ok (h : Rel E.G base φ σ w) {t : TypeId} {x x' : Value} (K : Kont) (hx : VR φ x x') (hk : awBox E σ t x K) : Fine E.G base φ E.P (Instr.box t x') w K := by
  unfold awBox at hk
  simp only [new_iff] at hk
  have hfr : φ σ.n = none := h.fresh σ.n (Nat.le_refl _)
  cases ht : E.T t with
  | none => simp [ht] at hk
  | some i =>
    simp only [ht] at hk
    by_cases hagg : i.agg = true
    · rw [if_pos hagg] at hk
      split at hk
      · rename_i cs
        obtain ⟨cs', rfl, hv⟩ := hx.of_agg
        have hn := h.new hv (rest := []) t
        refine ⟨.pointer (some ⟨w.heap.size, 0, none⟩), _, _, _, _, ?_, Phi.le_set hfr _, hk, ?_, hn⟩
        · simp [Instr.box, run_newVar, Value.cells]
        · have := VR.ptr (o := 0) (Phi.set_same φ σ.n ⟨w.heap.size, 0, (cs'.toList ++ []).length⟩)
          simpa using this
      · exact hk.elim
    · rw [if_neg hagg] at hk
      obtain ⟨h1, hk⟩ := hk
      have hn := h.new (VRs.cons hx (.nil φ)) (rest := []) t
      refine ⟨.pointer (some ⟨w.heap.size, 0, none⟩), _, _, _, _, ?_, Phi.le_set hfr _, hk, ?_, hn⟩
      · simp [Instr.box, run_newVar, hx.cells_one h1]
      · have := VR.ptr (o := 0) (Phi.set_same φ σ.n ⟨w.heap.size, 0, ([x'] ++ []).length⟩)
        simpa using this

theorem awAlloc_ok (h : Rel E.G base φ σ w) {t : TypeId} (K : Kont) (hk : awAlloc E σ t K) : Fine E.G base φ E.P (Instr.alloc t true (.tuple #[])) w K := by
  unfold awAlloc at hk
  have hfr : φ σ.n = none := h.fresh σ.n (Nat.le_refl _)
  cases ht : E.T t with
  | none => simp [ht] at hk
  | some i =>
    simp only [ht] at hk
    obtain ⟨z, hz, hzc⟩ := run_zero ht w
    have hn := h.new (VRs.scalars (φ := φ) (E.ok t i ht).sc) (rest := []) t
    have hzc' : z.cells = i.zero.toArray := by rw [← hzc]
    refine ⟨.pointer (some ⟨w.heap.size, 0, none⟩), _, _, _, _, ?_, Phi.le_set hfr _, hk.out, ?_, hn⟩
    · simp [Instr.alloc, hz, run_newVar, hzc']
    · have := VR.ptr (o := 0) (Phi.set_same φ σ.n ⟨w.heap.size, 0, (i.zero ++ []).length⟩)
      simpa using this

/-- Cells laid one by one are cells laid in one go. -/
theorem foldl_set (off : Nat) : ∀ (l : List Value) (j : Nat) (cs : Array Value), off + j + l.length ≤ cs.size →
    ((l.zipIdx j).foldl (fun cs (p : Value × Nat) => cs.setIfInBounds (off + p.2) p.1) cs).toList = cs.toList.take (off + j) ++ l ++ cs.toList.drop (off + j + l.length)
  | [], j, cs, _ => by simp
  | v :: l, j, cs, hl => by
    simp only [List.length_cons] at hl
    have ih := foldl_set off l (j + 1) (cs.setIfInBounds (off + j) v) (by simp; omega)
    simp only [List.zipIdx_cons, List.foldl_cons, List.length_cons]
    rw [ih]
    simp only [Array.toList_setIfInBounds]
    have hlt : off + j < cs.toList.length := by simp; omega
    rw [List.set_eq_take_append_cons_drop, if_pos hlt]
    have hlen : (cs.toList.take (off + j)).length = off + j := by simp; omega
    rw [List.take_append, List.drop_append, hlen, show off + (j + 1) - (off + j) = 1 by omega, show off + (j + 1) + l.length - (off + j) = l.length + 1 by omega]
    simp only [List.take_succ_cons, List.take_zero, List.drop_succ_cons]
    rw [List.take_of_length_le (by omega : (cs.toList.take (off + j)).length ≤ off + (j + 1)), List.drop_eq_nil_of_le (by omega : (cs.toList.take (off + j)).length ≤ off + (j + 1) + l.length),
      List.drop_drop]
    simp only [List.append_assoc, List.nil_append, List.cons_append]
    rw [show off + j + 1 + l.length = off + j + (l.length + 1) by omega]

theorem lay_fill {agg : Nat → Bool} {place : Nat → Option (Nat × Nat)} : ∀ (parts parts' : List (Nat × Value)) (cs cs' : List Value) (out : List Value),
    (parts.map (·.1) = parts'.map (·.1)) → VRs φ (parts.map (·.2)) (parts'.map (·.2)) → VRs φ cs cs' → lay agg place cs parts = some out →
    ∃ out', Instr.fill place cs'.toArray parts' = some out' ∧ VRs φ out out'.toList
  | [], parts', cs, cs', out, hn, _, hc, hl => by
    cases parts' with
    | nil => simp only [lay] at hl; cases hl; exact ⟨_, rfl, by simpa using hc⟩
    | cons _ _ => simp at hn
  | (i, v) :: parts, parts', cs, cs', out, hn, hv, hc, hl => by
    cases parts' with
    | nil => simp at hn
    | cons p' parts' =>
      obtain ⟨i', v'⟩ := p'
      simp only [List.map_cons, List.cons.injEq] at hn
      obtain ⟨rfl, hn⟩ := hn
      have hv1 : VR φ v v' := (VRs.of_cons hv).1
      have hv2 := (VRs.of_cons hv).2
      simp only [lay] at hl
      cases hp : place i with
      | none => simp [hp] at hl
      | some os =>
        obtain ⟨off, size⟩ := os
        simp only [hp] at hl
        have hlen := hc.1
        by_cases hagg : agg i = true
        · rw [if_pos hagg] at hl
          split at hl
          · rename_i xs
            split at hl
            · rename_i hsz
              obtain ⟨xs', rfl, hxs⟩ := hv1.of_agg
              have hxl := hxs.1
              simp only [Array.length_toList] at hxl
              have hsp : VRs φ (cs.take off ++ xs.toList ++ cs.drop (off + size)) (cs'.take off ++ xs'.toList ++ cs'.drop (off + size)) := ((hc.take off).append hxs).append (hc.drop _)
              obtain ⟨out', h1, h2⟩ := lay_fill parts parts' _ _ out hn hv2 hsp hl
              refine ⟨out', ?_, h2⟩
              have hcell : (Value.agg xs').cells = xs' := rfl
              have hfold := foldl_set off xs'.toList 0 cs'.toArray (by simp; omega)
              simp only [Nat.add_zero] at hfold
              simp only [Instr.fill, hp, hcell]
              rw [← Array.foldl_toList, Array.toList_zipIdx]
              have : (xs'.toList.zipIdx.foldl (fun cs (p : Value × Nat) => cs.setIfInBounds (off + p.2) p.1) cs'.toArray) = (cs'.take off ++ xs'.toList ++ cs'.drop (off + size)).toArray := by
                apply Array.toList_inj.1
                rw [hfold]
                simp [← hxl, hsz.1]
              rw [this]
              simpa using ⟨⟨by omega, by omega⟩, by simpa using h1⟩
            · cases hl
          · cases hl
        · rw [if_neg hagg] at hl
          split at hl
          · rename_i hcond
            obtain ⟨h1c, hsz, hof⟩ := hcond
            obtain ⟨out', h1, h2⟩ := lay_fill parts parts' _ _ out hn hv2 (hc.set off hv1) hl
            refine ⟨out', ?_, h2⟩
            have hcells := hv1.cells_one h1c
            simp only [Instr.fill, hp, hcells]
            simpa using ⟨⟨hsz.symm, by omega⟩, h1⟩
          · cases hl

end Go.Am
