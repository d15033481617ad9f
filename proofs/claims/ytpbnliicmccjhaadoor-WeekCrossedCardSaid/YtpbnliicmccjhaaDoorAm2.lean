/-
  An abstract machine for the model's code, part 2: new blocks, stores and appends keep the abstract heap and the model's own together.
-/
import Derived.Test.YtpbnliicmccjhaaDoorAm1
namespace Go.Am
set_option linter.unusedVariables false
set_option linter.unusedSimpArgs false
variable {G : Globs} {base : World} {φ : Phi} {σ : St} {w : World}

def Phi.set (φ : Phi) (b : Nat) (m : Img) : Phi := fun x => if x = b then some m else φ x
theorem Phi.le_set {φ : Phi} {b : Nat} (h : φ b = none) (m : Img) : φ.le (φ.set b m) := fun x k hx => by
  unfold Phi.set; split
  · rename_i e; subst e; rw [h] at hx; cases hx
  · exact hx
theorem Phi.set_same (φ : Phi) (b : Nat) (m : Img) : φ.set b m b = some m := by simp [Phi.set]
theorem Phi.set_ne (φ : Phi) {b x : Nat} (m : Img) (h : x ≠ b) : φ.set b m x = φ x := by simp [Phi.set, h]

theorem push_get_same (σ : St) (cs : List Value) : (σ.push cs).get σ.n = some ⟨cs, σ.n, true⟩ := by simp [St.push]
theorem push_get_ne (σ : St) (cs : List Value) {b : Nat} (h : b ≠ σ.n) : (σ.push cs).get b = σ.get b := by
  have : (b == σ.n) = false := by simpa using h
  simp [St.push, this]
theorem pushIn_get_same (σ : St) (cs : List Value) (f : Nat) : (σ.pushIn cs f).get σ.n = some ⟨cs, f, true⟩ := by simp [St.pushIn]
theorem pushIn_get_ne (σ : St) (cs : List Value) (f : Nat) {b : Nat} (h : b ≠ σ.n) : (σ.pushIn cs f).get b = σ.get b := by
  have : (b == σ.n) = false := by simpa using h
  simp [St.pushIn, this]

/-- A new block, of a family that may be an elder one's (nothing lies together: the block is new in the model's heap). -/
theorem Rel.newIn (h : Rel G base φ σ w) {cs cs' rest : List Value} (hv : VRs φ cs cs') (e : TypeId) (f : Nat) (hf : f ≤ σ.n) :
    Rel G base (φ.set σ.n ⟨w.heap.size, 0, (cs' ++ rest).length⟩) (σ.pushIn cs f) (w.alloc (.cells (cs' ++ rest).toArray e)) := by
  have hfr : φ σ.n = none := h.fresh σ.n (Nat.le_refl _)
  have hle := Phi.le_set hfr ⟨w.heap.size, 0, (cs' ++ rest).length⟩
  have hold : ∀ {b m}, φ b = some m → b ≠ σ.n := fun hb e => by subst e; rw [hfr] at hb; cases hb
  have himg : ∀ {b m}, (φ.set σ.n ⟨w.heap.size, 0, (cs' ++ rest).length⟩) b = some m → b ≠ σ.n → φ b = some m := fun hb hne => by
    rw [Phi.set_ne φ _ hne] at hb; exact hb
  refine ⟨h.kept.alloc _ _, ?_, ?_, ?_, ?_, ?_, ?_⟩
  · intro b k hk
    by_cases hb : b = σ.n
    · subst hb; rw [pushIn_get_same] at hk; cases hk; exact ⟨Nat.lt_succ_self _, Nat.lt_succ_of_le hf⟩
    · rw [pushIn_get_ne _ _ _ hb] at hk
      have := h.wf b k hk
      exact ⟨Nat.lt_succ_of_lt this.1, Nat.lt_succ_of_lt this.2⟩
  · intro b hb
    have hb' : σ.n + 1 ≤ b := hb
    rw [Phi.set_ne _ _ (by omega)]
    exact h.fresh b (by omega)
  · intro b m hm
    rw [World.size_alloc]
    by_cases hb : b = σ.n
    · subst hb; rw [Phi.set_same] at hm; cases hm; exact Nat.lt_succ_self _
    · exact Nat.lt_succ_of_lt (h.inh b m (himg hm hb))
  · intro b k hk
    by_cases hb : b = σ.n
    · subst hb
      rw [pushIn_get_same] at hk
      cases hk
      refine ⟨_, Phi.set_same _ _ _, (cs' ++ rest).toArray, e, (0, 0), heap_alloc_new w _, by simp, by simp [hv.1], fun _ => ⟨h.kept.size, rfl⟩, fun i v hi => ?_⟩
      obtain ⟨v', h1, h2⟩ := hv.get hi
      exact ⟨v', by simp [List.getElem?_append_left (List.getElem?_eq_some_iff.1 h1).1, h1], h2.mono hle⟩
    · rw [pushIn_get_ne _ _ _ hb] at hk
      obtain ⟨m, hm, hl⟩ := h.blk b k hk
      exact ⟨m, hle b m hm, (hl.kept (heap_alloc_old w _ (h.inh b m hm))).mono hle⟩
  · intro b1 b2 k1 k2 m1 m2 g1 g2 i1 i2 hne
    by_cases h1 : b1 = σ.n
    · subst h1
      rw [Phi.set_same] at i1
      cases i1
      have := h.inh b2 m2 (himg i2 (Ne.symm hne))
      exact .inl (by simp; omega)
    · by_cases h2 : b2 = σ.n
      · subst h2
        rw [Phi.set_same] at i2
        cases i2
        have := h.inh b1 m1 (himg i1 hne)
        exact .inl (by simp; omega)
      · rw [pushIn_get_ne _ _ _ h1] at g1
        rw [pushIn_get_ne _ _ _ h2] at g2
        exact h.sep b1 b2 k1 k2 m1 m2 g1 g2 (himg i1 h1) (himg i2 h2) hne
  · intro g hg
    exact ⟨hle _ _ (h.glob g hg).1, (h.glob g hg).2⟩

theorem Rel.new (h : Rel G base φ σ w) {cs cs' rest : List Value} (hv : VRs φ cs cs') (e : TypeId) :
    Rel G base (φ.set σ.n ⟨w.heap.size, 0, (cs' ++ rest).length⟩) (σ.push cs) (w.alloc (.cells (cs' ++ rest).toArray e)) :=
  h.newIn hv e σ.n (Nat.le_refl _)

/-- A block's new version, in the same place of the model's heap, behind a write beyond what the family's blocks know. -/
theorem Rel.tip (h : Rel G base φ σ w) {b : Nat} {k : Blk} {m : Img} (hk : σ.get b = some k) (hm : φ b = some m) (hw : k.wr = true)
    {cs cs' : List Value} (hv : VRs φ cs cs') (olds : List Value) (holds : σ.lds b 0 olds.length = some olds) (hroom : olds.length + cs.length ≤ m.room)
    (htip : ∀ x k', σ.get x = some k' → k'.fam = k.fam → k'.cells.length ≤ olds.length) {cur : Array Value} {e : TypeId} (hcur : w.heap[m.blk]? = some (.cells cur e (0, 0))) :
    Rel G base (φ.set σ.n m) (σ.pushIn (olds ++ cs) k.fam) (w.setRow m.blk (cur.toList.take (m.off + olds.length) ++ cs' ++ cur.toList.drop (m.off + olds.length + cs'.length)).toArray) := by
  have hfr : φ σ.n = none := h.fresh σ.n (Nat.le_refl _)
  have hle := Phi.le_set hfr m
  have himg : ∀ {b m'}, (φ.set σ.n m) b = some m' → b ≠ σ.n → φ b = some m' := fun hb hne => by
    rw [Phi.set_ne φ _ hne] at hb; exact hb
  obtain ⟨m0, hm0, cur0, e0, fz0, c1, c2, c3, c4, c5⟩ := h.blk b k hk
  rw [hm] at hm0; cases hm0
  rw [hcur] at c1; cases c1
  have hbase := (c4 hw).1
  have hsz : m.off + olds.length + cs'.length ≤ cur.size := by rw [← hv.1]; omega
  -- the new row, cell by cell
  have hrow : ∀ i, i < m.off + olds.length → (cur.toList.take (m.off + olds.length) ++ cs' ++ cur.toList.drop (m.off + olds.length + cs'.length)).toArray[i]? = cur[i]? := fun i hi => by
    simp only [List.getElem?_toArray]
    rw [List.append_assoc, List.getElem?_append_left (by simp; omega), List.getElem?_take, if_pos hi]
    simp
  have hrow2 : ∀ i, i < cs'.length → (cur.toList.take (m.off + olds.length) ++ cs' ++ cur.toList.drop (m.off + olds.length + cs'.length)).toArray[m.off + olds.length + i]? = cs'[i]? := fun i hi => by
    have hlen : (cur.toList.take (m.off + olds.length)).length = m.off + olds.length := by simp; omega
    simp only [List.getElem?_toArray]
    rw [List.append_assoc, List.getElem?_append_right (by omega), List.getElem?_append_left (by omega), hlen]
    congr 1; omega
  have hheap : ∀ x, x ≠ m.blk → (w.setRow m.blk (cur.toList.take (m.off + olds.length) ++ cs' ++ cur.toList.drop (m.off + olds.length + cs'.length)).toArray).heap[x]? = w.heap[x]? := fun x hx => setRow_other w _ x _ hx
  have hnew := setRow_heap w m.blk cur (cur.toList.take (m.off + olds.length) ++ cs' ++ cur.toList.drop (m.off + olds.length + cs'.length)).toArray e (0, 0) hcur
  have hsize : (cur.toList.take (m.off + olds.length) ++ cs' ++ cur.toList.drop (m.off + olds.length + cs'.length)).toArray.size = cur.size := by simp; omega
  refine ⟨h.kept.setRow _ _ hbase, ?_, ?_, ?_, ?_, ?_, ?_⟩
  · intro x k' hx
    by_cases hb : x = σ.n
    · subst hb; rw [pushIn_get_same] at hx; cases hx; exact ⟨Nat.lt_succ_self _, Nat.lt_succ_of_lt (h.wf b k hk).2⟩
    · rw [pushIn_get_ne _ _ _ hb] at hx
      have := h.wf x k' hx
      exact ⟨Nat.lt_succ_of_lt this.1, Nat.lt_succ_of_lt this.2⟩
  · intro x hb
    have hb' : σ.n + 1 ≤ x := hb
    rw [Phi.set_ne _ _ (by omega)]
    exact h.fresh x (by omega)
  · intro x m' hx
    rw [size_setRow]
    by_cases hb : x = σ.n
    · subst hb; rw [Phi.set_same] at hx; cases hx; exact h.inh b m hm
    · exact h.inh x m' (himg hx hb)
  · intro x k' hx
    by_cases hb : x = σ.n
    · subst hb
      rw [pushIn_get_same] at hx
      cases hx
      refine ⟨m, Phi.set_same _ _ _, _, e, (0, 0), hnew, by rw [hsize]; omega, by simpa using hroom, fun _ => ⟨hbase, rfl⟩, fun i v hi => ?_⟩
      simp only at hi
      by_cases hio : i < olds.length
      · rw [List.getElem?_append_left hio] at hi
        simp only [St.lds, hk, Option.bind_some] at holds
        split at holds
        · rename_i hlt
          have hi' : k.cells[i]? = some v := by
            have he := Option.some.inj holds
            rw [← he, List.getElem?_take, if_pos hio] at hi
            simpa using hi
          obtain ⟨v', h1, h2⟩ := c5 i v hi'
          exact ⟨v', by rw [hrow _ (by omega)]; exact h1, h2.mono hle⟩
        · cases holds
      · rw [List.getElem?_append_right (by omega)] at hi
        obtain ⟨v', h1, h2⟩ := hv.get hi
        have hlt := (List.getElem?_eq_some_iff.1 h1).1
        refine ⟨v', ?_, h2.mono hle⟩
        have := hrow2 (i - olds.length) hlt
        rw [show m.off + olds.length + (i - olds.length) = m.off + i by omega] at this
        rw [this]; exact h1
    · rw [pushIn_get_ne _ _ _ hb] at hx
      obtain ⟨m', hm', hl⟩ := h.blk x k' hx
      refine ⟨m', hle x m' hm', ?_⟩
      by_cases hxb : m'.blk = m.blk
      · -- it shares the place: nothing that it knows is written
        have hkey : k'.fam = k.fam ∧ m'.off = m.off := by
          by_cases hxb' : x = b
          · subst hxb'; rw [hk] at hx; cases hx; rw [hm] at hm'; cases hm'; exact ⟨rfl, rfl⟩
          · rcases h.sep x b k' k m' m hx hk hm' hm hxb' with hh | hh
            · exact absurd hxb hh
            · exact hh
        have hshort := htip x k' hx hkey.1
        obtain ⟨cur1, e1, fz1, d1, d2, d3, d4, d5⟩ := hl
        rw [hxb, hcur] at d1; cases d1
        refine ⟨_, e, (0, 0), by rw [hxb]; exact hnew, by rw [hsize]; exact d2, d3, d4, fun i v hi => ?_⟩
        have hil := (List.getElem?_eq_some_iff.1 hi).1
        obtain ⟨v', p1, p2⟩ := d5 i v hi
        exact ⟨v', by rw [hkey.2] at p1 ⊢; rw [hrow _ (by omega)]; exact p1, p2.mono hle⟩
      · exact (hl.kept (hheap _ hxb)).mono hle
  · intro b1 b2 k1 k2 m1 m2 g1 g2 i1 i2 hne
    by_cases h1 : b1 = σ.n
    · subst h1
      rw [Phi.set_same] at i1
      cases i1
      rw [pushIn_get_same] at g1
      cases g1
      rw [pushIn_get_ne _ _ _ (Ne.symm hne)] at g2
      have i2' := himg i2 (Ne.symm hne)
      by_cases hb2 : b2 = b
      · subst hb2; rw [hk] at g2; cases g2; rw [hm] at i2'; cases i2'; exact .inr ⟨rfl, rfl⟩
      · rcases h.sep b b2 k k2 m m2 hk g2 hm i2' (Ne.symm hb2) with hh | hh
        · exact .inl hh
        · exact .inr hh
    · by_cases h2 : b2 = σ.n
      · subst h2
        rw [Phi.set_same] at i2
        cases i2
        rw [pushIn_get_same] at g2
        cases g2
        rw [pushIn_get_ne _ _ _ h1] at g1
        have i1' := himg i1 hne
        by_cases hb1 : b1 = b
        · subst hb1; rw [hk] at g1; cases g1; rw [hm] at i1'; cases i1'; exact .inr ⟨rfl, rfl⟩
        · rcases h.sep b1 b k1 k m1 m g1 hk i1' hm hb1 with hh | hh
          · exact .inl hh
          · exact .inr hh
      · rw [pushIn_get_ne _ _ _ h1] at g1
        rw [pushIn_get_ne _ _ _ h2] at g2
        exact h.sep b1 b2 k1 k2 m1 m2 g1 g2 (himg i1 h1) (himg i2 h2) hne
  · intro g hg
    exact ⟨hle _ _ (h.glob g hg).1, (h.glob g hg).2⟩

theorem st_get_same {σ : St} {b : Nat} {k : Blk} (h : σ.get b = some k) (cs : List Value) : (σ.st b cs).get b = some { k with cells := cs } := by simp [St.st, h]
theorem st_get_ne (σ : St) {b x : Nat} (cs : List Value) (h : x ≠ b) : (σ.st b cs).get x = σ.get x := by
  have : (x == b) = false := by simpa using h
  simp [St.st, this]

/-- A store into a block that shares its memory with no other. -/
theorem Rel.store (h : Rel G base φ σ w) {b : Nat} {k : Blk} {m : Img} (hk : σ.get b = some k) (hm : φ b = some m) (hw : k.wr = true) (hs : σ.sole b)
    {cs cs' : List Value} (hv : VRs φ cs cs') (o : Nat) (ho : o + cs.length ≤ k.cells.length) {cur : Array Value} {e : TypeId} (hcur : w.heap[m.blk]? = some (.cells cur e (0, 0))) :
    Rel G base φ (σ.st b (k.cells.take o ++ cs ++ k.cells.drop (o + cs.length))) (w.setRow m.blk (cur.toList.take (m.off + o) ++ cs' ++ cur.toList.drop (m.off + o + cs'.length)).toArray) := by
  obtain ⟨m0, hm0, cur0, e0, fz0, c1, c2, c3, c4, c5⟩ := h.blk b k hk
  rw [hm] at hm0; cases hm0
  rw [hcur] at c1; cases c1
  have hbase := (c4 hw).1
  have hl' := hv.1
  have hsz : m.off + o + cs'.length ≤ cur.size := by omega
  have hsize : (cur.toList.take (m.off + o) ++ cs' ++ cur.toList.drop (m.off + o + cs'.length)).toArray.size = cur.size := by simp; omega
  have hnew := setRow_heap w m.blk cur (cur.toList.take (m.off + o) ++ cs' ++ cur.toList.drop (m.off + o + cs'.length)).toArray e (0, 0) hcur
  have hgetk : ∀ x k', (σ.st b (k.cells.take o ++ cs ++ k.cells.drop (o + cs.length))).get x = some k' → x ≠ b → σ.get x = some k' := fun x k' hx hne => by
    rw [st_get_ne _ _ hne] at hx; exact hx
  have hfam : ∀ x k', (σ.st b (k.cells.take o ++ cs ++ k.cells.drop (o + cs.length))).get x = some k' → ∃ k0, σ.get x = some k0 ∧ k0.fam = k'.fam ∧ k0.wr = k'.wr := fun x k' hx => by
    by_cases hxb : x = b
    · subst hxb; rw [st_get_same hk] at hx; cases hx; exact ⟨k, hk, rfl, rfl⟩
    · exact ⟨k', hgetk x k' hx hxb, rfl, rfl⟩
  refine ⟨h.kept.setRow _ _ hbase, ?_, h.fresh, ?_, ?_, ?_, h.glob⟩
  · intro x k' hx
    obtain ⟨k0, h0, hf, _⟩ := hfam x k' hx
    have := h.wf x k0 h0
    exact ⟨this.1, hf ▸ this.2⟩
  · intro x m' hx
    rw [size_setRow]; exact h.inh x m' hx
  · intro x k' hx
    by_cases hxb : x = b
    · subst hxb
      rw [st_get_same hk] at hx
      cases hx
      refine ⟨m, hm, _, e, (0, 0), hnew, by rw [hsize]; exact c2, by simp; omega, fun _ => ⟨hbase, rfl⟩, fun i v hi => ?_⟩
      simp only at hi
      simp only [List.getElem?_toArray]
      have hlen : (k.cells.take o).length = o := by simp; omega
      have hlen' : (cur.toList.take (m.off + o)).length = m.off + o := by simp; omega
      by_cases h1 : i < o
      · rw [List.append_assoc, List.getElem?_append_left (by omega), List.getElem?_take, if_pos h1] at hi
        obtain ⟨v', p1, p2⟩ := c5 i v hi
        exact ⟨v', by rw [List.append_assoc, List.getElem?_append_left (by omega), List.getElem?_take, if_pos (by omega)]; simpa using p1, p2⟩
      · by_cases h2 : i < o + cs.length
        · rw [List.append_assoc, List.getElem?_append_right (by omega), List.getElem?_append_left (by omega), hlen] at hi
          obtain ⟨v', p1, p2⟩ := hv.get hi
          refine ⟨v', ?_, p2⟩
          rw [List.append_assoc, List.getElem?_append_right (by omega), List.getElem?_append_left (by omega), hlen', show m.off + i - (m.off + o) = i - o by omega]
          exact p1
        · rw [List.getElem?_append_right (by simp; omega), List.getElem?_drop] at hi
          have hlen2 : (k.cells.take o ++ cs).length = o + cs.length := by simp; omega
          rw [hlen2, show o + cs.length + (i - (o + cs.length)) = i by omega] at hi
          obtain ⟨v', p1, p2⟩ := c5 i v hi
          refine ⟨v', ?_, p2⟩
          have hlen3 : (cur.toList.take (m.off + o) ++ cs').length = m.off + o + cs'.length := by simp; omega
          rw [List.getElem?_append_right (by omega), List.getElem?_drop, hlen3, show m.off + o + cs'.length + (m.off + i - (m.off + o + cs'.length)) = m.off + i by omega]
          simpa using p1
    · have hx' := hgetk x k' hx hxb
      obtain ⟨m', hm', hl⟩ := h.blk x k' hx'
      refine ⟨m', hm', hl.kept (setRow_other w _ _ _ ?_)⟩
      rcases h.sep x b k' k m' m hx' hk hm' hm hxb with hh | hh
      · exact hh
      · exact absurd hh.1 (hs k x k' hk hx' hxb)
  · intro b1 b2 k1 k2 m1 m2 g1 g2 i1 i2 hne
    obtain ⟨q1, r1, s1, _⟩ := hfam b1 k1 g1
    obtain ⟨q2, r2, s2, _⟩ := hfam b2 k2 g2
    rw [← s1, ← s2]
    exact h.sep b1 b2 q1 q2 m1 m2 r1 r2 i1 i2 hne

end Go.Am
