/-
  An abstract machine for the model's code: the rules of a walk, over what is known of the heap.
-/
import Derived.Test.YtpbnliicmccjhaaDoorAmS
namespace Go.Am
set_option linter.unusedVariables false
set_option linter.unusedSimpArgs false
variable {E : Env} {s t : St} {α β : Type} {L L' : List Res} {F F' : List Fact} {R : Rep α} {v x : Value} {l m : List α} {K : Kont}

def ptr (b : Nat) : Value := .pointer (some ⟨b, 0, none⟩)

def emp : Res := ⟨fun _ P => P = [], fun _ _ h => h⟩
theorem Sep.emp (h : Sep s L F) : Sep s (emp :: L) F := by
  obtain ⟨P, h1, h2⟩ := h.sep
  exact ⟨h.wf, ⟨P, ⟨[], P, rfl, by intro b hb; simp at hb, h1, rfl⟩, h2⟩, h.fro⟩
theorem Fz.push (hw : Wf s) (cs : List Value) : Fz s (s.push cs) := fun b k hk _ => by
  have := (hw b k hk).1
  rw [get_push_ne _ _ (by omega)]; exact hk
theorem Fz.st {b : Nat} {k : Blk} (hk : s.get b = some k) (hw : k.wr = true) (cs : List Value) : Fz s (s.st b cs) := fun c j hj hwj => by
  have hne : c ≠ b := fun e => by subst e; rw [hk] at hj; cases hj; rw [hw] at hwj; cases hwj
  rw [get_st_ne hne]; exact hj

/-- A new block that stands for something. -/
theorem Sep.pushR (h : Sep s L F) (cs : List Value) {r : Res} (hr : r.holds (s.push cs) [s.n]) : Sep (s.push cs) (r :: L) F := by
  refine h.emp.upd (h.wf.push cs) (Fz.push h.wf cs) fun A hA _ => ?_
  cases hA
  refine ⟨[s.n], hr, ?_, by simp, by simp, fun b hb _ => get_push_ne _ _ (by omega), fun y j hy => ?_⟩
  · intro b hb
    have hb' : b = s.n := by simpa using hb
    subst hb'
    refine ⟨_, get_push_self s cs, rfl, fun y j hy hyn => ?_⟩
    rw [get_push_ne _ _ (by simpa using hyn)] at hy
    have h1 := (h.wf y j hy).2
    show j.fam ≠ s.n
    omega
  · by_cases hyn : y = s.n
    · subst hyn; rw [get_push_self] at hy; cases hy; exact .inr (.inl (Nat.le_refl _))
    · rw [get_push_ne _ _ hyn] at hy; exact .inl ⟨(h.wf y j hy).1, by simp⟩
theorem Sep.push (h : Sep s L F) (cs : List Value) : Sep (s.push cs) (pt s.n cs :: L) F := h.pushR cs ⟨rfl, s.n, get_push_self s cs⟩

theorem Sep.new (h : Sep s L F) {cs : List Value} (hk : ∀ b s', Sep s' (pt b cs :: L) F → K (ptr b) s') : New s cs K := ⟨hk _ _ (h.push cs)⟩

/-- A piece of one block changes. -/
theorem Sep.stR {i b : Nat} {r r' : Res} {cs : List Value} (h : Sep s L F) (hi : L[i]? = some r) (hr : ∀ A, r.holds s A → A = [b]) (hr' : ∀ k, s.get b = some k → r'.holds (s.st b cs) [b]) : Sep (s.st b cs) (L.set i r') F := by
  have h0 := h.at hi
  obtain ⟨P, ⟨A, B, h1, h2, h3, rfl⟩, h4⟩ := h0.sep
  have hA := hr A h1
  subst hA
  obtain ⟨k, k1, k2, k3⟩ := h2 b (by simp)
  refine Sep.put i hi (h0.upd (h.wf.st b cs) (Fz.st k1 k2 cs) fun A hA hP => ?_)
  have hA' := hr A hA
  subst hA'
  refine ⟨[b], hr' k k1, ?_, by simp, by simp, fun c _ hc => get_st_ne (by simpa using hc) _, fun y j hy => ?_⟩
  · intro c hc
    have hc' : c = b := by simpa using hc
    subst hc'
    refine ⟨_, get_st_self k1 cs, k2, fun y j hy hyn => ?_⟩
    rw [get_st_ne (by simpa using hyn)] at hy
    exact k3 y j hy hyn
  · by_cases hyb : y = b
    · subst hyb; rw [get_st_self k1] at hy; cases hy; exact .inr (.inr ⟨y, by simp, k, k1, rfl⟩)
    · rw [get_st_ne hyb] at hy; exact .inl ⟨(h.wf y j hy).1, by simpa using hyb⟩
theorem Sep.st {i b : Nat} {cs : List Value} (h : Sep s L F) (hi : L[i]? = some (pt b cs)) (cs' : List Value) : Sep (s.st b cs') (L.set i (pt b cs')) F :=
  h.stR hi (fun A hA => hA.1) fun k hk => ⟨rfl, k.fam, by
    obtain ⟨P, ⟨A, B, ⟨_, f, h1⟩, h2, h3, _⟩, h4⟩ := (h.at hi).sep
    rw [hk] at h1; cases h1; exact get_st_self hk cs'⟩

theorem Sep.get {i b : Nat} {cs : List Value} (h : Sep s L F) (hi : L[i]? = some (pt b cs)) : ∃ f, s.get b = some ⟨cs, f, true⟩ ∧ s.sole b := by
  obtain ⟨P, ⟨A, B, ⟨e, f, h1⟩, h2, h3, _⟩, h4⟩ := (h.at hi).sep
  subst e
  refine ⟨f, h1, fun k y j hk hj hne hf => ?_⟩
  obtain ⟨k', k1, k2, k3⟩ := h2 b (by simp)
  rw [hk] at k1; cases k1
  exact k3 y j hj (by simpa using hne) hf
theorem Sep.ld (h : Sep s L F) (i : Nat) {b o : Nat} {cs : List Value} (hi : L[i]? = some (pt b cs)) (hv : cs[o]? = some v) : s.ld b o = some v := by
  obtain ⟨f, h1, _⟩ := h.get hi
  simp [St.ld, h1, hv]
theorem Sep.ldM (h : Sep s L F) {b o : Nat} {cs : List Value} (hm : pt b cs ∈ L) (hv : cs[o]? = some v) : s.ld b o = some v := by
  obtain ⟨i, hi⟩ := List.getElem?_of_mem hm
  exact h.ld i hi hv
theorem Sep.loadM (h : Sep s L F) {b o : Nat} {cs : List Value} {K : Value → Prop} (hm : pt b cs ∈ L) (hv : cs[o]? = some v) (hk : K v) : Got s b o K := ⟨v, h.ldM hm hv, hk⟩
theorem Sep.load (h : Sep s L F) (i : Nat) {b o : Nat} {cs : List Value} {K : Value → Prop} (hi : L[i]? = some (pt b cs)) (hv : cs[o]? = some v) (hk : K v) : Got s b o K := ⟨v, h.ld i hi hv, hk⟩
theorem Sep.ldm (h : Sep s L F) {b o d : Nat} {vs : List Value} (hf : mem b o vs ∈ F) (hv : vs[d]? = some v) : s.ld b (o + d) = some v := by
  obtain ⟨k, h1, h2, h3⟩ := h.fro _ hf
  rw [lds_ld h3 (List.getElem?_eq_some_iff.1 hv).1, hv]
theorem Sep.loadm (h : Sep s L F) {b o : Nat} {vs : List Value} {K : Value → Prop} (hf : mem b o vs ∈ F) (hv : vs[0]? = some v) (hk : K v) : Got s b o K := ⟨v, h.ldm (d := 0) hf hv, hk⟩
theorem Sep.loadmd (h : Sep s L F) {b o d : Nat} {vs : List Value} {K : Value → Prop} (hf : mem b o vs ∈ F) (hv : vs[d]? = some v) (hk : K v) : Got s b (o + d) K := ⟨v, h.ldm hf hv, hk⟩
/-- A load from the last cells that were found, which are forgotten. -/
theorem Sep.load1 {b o : Nat} {vs : List Value} (h : Sep s L (mem b o vs :: F)) {K : Value → Prop} (hv : vs[0]? = some v) (hk : Sep s L F → K v) : Got s b o K :=
  ⟨v, h.ldm (d := 0) (List.mem_cons_self) hv, hk (h.facts fun f hf => h.fro f (List.mem_cons_of_mem _ hf))⟩
theorem Got.mk' {b o : Nat} {K : Value → Prop} (h : s.ld b o = some v) (hk : K v) : Got s b o K := ⟨v, h, hk⟩
theorem Sep.store (h : Sep s L F) (i : Nat) {b o : Nat} {cs : List Value} {K : St → Prop} (hi : L[i]? = some (pt b cs)) (hx : one x = true) (ho : o < cs.length) (hk : ∀ s', Sep s' (L.set i (pt b (cs.set o x))) F → K s') : Stored s b o x K := by
  obtain ⟨f, h1, h2⟩ := h.get hi
  exact ⟨hx, _, h1, rfl, h2, ho, hk _ (h.st hi _)⟩
/-- As 'store'; what is then there is told. -/
theorem Sep.storeC (h : Sep s L F) (i : Nat) {b o : Nat} {cs : List Value} {K : St → Prop} (cs' : List Value) (hi : L[i]? = some (pt b cs)) (hx : one x = true) (ho : o < cs.length) (hc : cs.set o x = cs') (hk : ∀ s', Sep s' (L.set i (pt b cs')) F → K s') : Stored s b o x K :=
  h.store i hi hx ho fun s' h' => hk s' (hc ▸ h')
theorem Sep.storeA (h : Sep s L F) (i : Nat) {b o sz : Nat} {cs : List Value} {vs : Array Value} {K : St → Prop} (hi : L[i]? = some (pt b cs)) (hz : vs.size = sz) (hx : vs.toList.all one = true) (ho : o + sz ≤ cs.length)
    (hk : ∀ s', Sep s' (L.set i (pt b (cs.take o ++ vs.toList ++ cs.drop (o + sz)))) F → K s') : StoredA s b o sz (.agg vs) K := by
  obtain ⟨f, h1, h2⟩ := h.get hi
  exact ⟨vs, _, rfl, hz, hx, h1, rfl, h2, ho, hk _ (h.st hi _)⟩
theorem Sep.loadA (h : Sep s L F) (i : Nat) {b o n : Nat} {cs : List Value} {K : List Value → Prop} (hi : L[i]? = some (pt b cs)) (ho : o + n ≤ cs.length) (hk : K ((cs.drop o).take n)) : GotA s b o n K := by
  obtain ⟨f, h1, _⟩ := h.get hi
  exact ⟨_, by simp only [St.lds, h1, Option.bind_some]; rw [if_pos ho], hk⟩

theorem Sep.loadAC (h : Sep s L F) (i : Nat) {b o n : Nat} {cs : List Value} {K : List Value → Prop} (vs : List Value) (hi : L[i]? = some (pt b cs)) (ho : o + n ≤ cs.length) (hv : (cs.drop o).take n = vs) (hk : K vs) : GotA s b o n K :=
  h.loadA i hi ho (hv ▸ hk)
theorem Sep.storeAC (h : Sep s L F) (i : Nat) {b o sz : Nat} {cs : List Value} {vs : Array Value} {K : St → Prop} (cs' : List Value) (hi : L[i]? = some (pt b cs)) (hz : vs.size = sz) (hx : vs.toList.all one = true) (ho : o + sz ≤ cs.length)
    (hc : cs.take o ++ vs.toList ++ cs.drop (o + sz) = cs') (hk : ∀ s', Sep s' (L.set i (pt b cs')) F → K s') : StoredA s b o sz (.agg vs) K :=
  h.storeA i hi hz hx ho fun s' h' => hk s' (hc ▸ h')
theorem ones_int (k : IntKind) (l : List Int) : (l.map (Value.int k)).all one = true := by induction l <;> simp_all [one]

/-! ### Forks -/

theorem If.tt {A B : Prop} (hv : v = .bool true) (h : A) : If v A B := ⟨true, hv, h⟩
theorem If.ff {A B : Prop} (hv : v = .bool false) (h : B) : If v A B := ⟨false, hv, h⟩
theorem If.dec {A B p : Prop} [Decidable p] (hv : v = .bool (decide p)) (h : p → A) (g : ¬p → B) : If v A B := by
  by_cases hp : p
  · exact ⟨true, by simp [hv, hp], h hp⟩
  · exact ⟨false, by simp [hv, hp], g hp⟩
theorem If.b {A B : Prop} (b : Bool) (hv : v = .bool b) (h : b = true → A) (g : b = false → B) : If v A B := by
  cases b
  · exact ⟨false, hv, g rfl⟩
  · exact ⟨true, hv, h rfl⟩
theorem Gd.yes {w : Bool} {A B : Prop} (hv : v = .bool w) (h : A) : Gd v w A B := by subst hv; cases w <;> exact ⟨h⟩
theorem Gd.no {w : Bool} {A B : Prop} (hv : v = .bool (!w)) (h : B) : Gd v w A B := by subst hv; cases w <;> exact ⟨h⟩
theorem Gd.tup {w : Bool} {A B : Prop} {vs : Array Value} (hv : v = .tuple vs) (h : B) : Gd v w A B := by subst hv; exact ⟨h⟩
theorem Gd.b {w : Bool} {A B : Prop} (b : Bool) (hv : v = .bool b) (h : b = w → A) (g : b = !w → B) : Gd v w A B := by
  by_cases hb : b = w
  · exact Gd.yes (hb ▸ hv) (h hb)
  · have : b = !w := by cases b <;> cases w <;> simp at hb ⊢
    exact Gd.no (this ▸ hv) (g this)
theorem Gd.dec {w : Bool} {A B p : Prop} [Decidable p] (hv : v = .bool (decide p)) (h : (if w then p else ¬p) → A) (g : (if w then ¬p else p) → B) : Gd v w A B := by
  by_cases hp : p <;> cases w
  · exact Gd.no (by simp [hv, hp]) (g (by simpa using hp))
  · exact Gd.yes (by simp [hv, hp]) (h (by simpa using hp))
  · exact Gd.yes (by simp [hv, hp]) (h (by simpa using hp))
  · exact Gd.no (by simp [hv, hp]) (g (by simpa using hp))
theorem Cmp.yes {p q : Prop} {K : Bool → Prop} (h : p) (g : ¬q) (hk : K true) : Cmp p q K := ⟨fun _ => hk, fun hq => absurd hq g⟩
theorem Cmp.no {p q : Prop} {K : Bool → Prop} (h : q) (g : ¬p) (hk : K false) : Cmp p q K := ⟨fun hp => absurd hp g, fun _ => hk⟩
theorem Cmp.dec {p q : Prop} [Decidable p] {K : Bool → Prop} (g : q → ¬p) (hk : K (decide p)) : Cmp p q K := ⟨fun hp => by simpa [hp] using hk, fun hq => by simpa [g hq] using hk⟩
theorem Cmp.lt {a b : Int} {K : Bool → Prop} (hk : K (decide (a < b))) : Cmp (a < b) (b ≤ a) K := .dec (by omega) hk
theorem Cmp.le {a b : Int} {K : Bool → Prop} (hk : K (decide (a ≤ b))) : Cmp (a ≤ b) (b < a) K := .dec (by omega) hk
theorem Cmp.eq {α : Type} [DecidableEq α] {a b : α} {K : Bool → Prop} (hk : K (decide (a = b))) : Cmp (a = b) (a ≠ b) K := .dec (fun h => h) hk
theorem Cmp.neN {a b : Int} {K : Bool → Prop} (h : a = b) (hk : K false) : Cmp (a ≠ b) (a = b) K := .no h (fun g => g h) hk
theorem Cmp.ne {α : Type} [DecidableEq α] {a b : α} {K : Bool → Prop} (hk : K (decide (a ≠ b))) : Cmp (a ≠ b) (a = b) K := .dec (fun h g => g h) hk

/-! ### Slices that nobody writes any more -/

theorem slof.at {j : Nat} (h : slof R s v l) (hj : j < l.length) : ∃ b o c vs, v = .slice (some ⟨b, o, some R.size⟩) l.length c ∧ R.rep s vs l[j] ∧ (mem b (o + j * R.size) vs).holds s := by
  obtain ⟨cs, h1, h2⟩ := h
  have hl := R.all_len h2
  have hjs : j * R.size + R.size ≤ l.length * R.size := by have := Nat.mul_le_mul_right R.size hj; rw [Nat.succ_mul] at this; exact this
  rcases h1 with ⟨_, h0, _⟩ | ⟨b, o, c, k, rfl, h3, h4, h5, h6⟩
  · omega
  · have hr := R.all_get hj h2
    refine ⟨b, o, c, _, rfl, hr, k, h4, h5, ?_⟩
    rw [R.len hr]
    exact lds_part h6 hjs
theorem all_i1 (s : St) (k : IntKind) (n : Int) : (repK k).all s [n] [.int k n] := repK_all.2 rfl
theorem Sep.sl (h : Sep s L F) (hf : frz R v l ∈ F) : slof R s v l := h.fro _ hf
theorem Sep.frone (h : Sep s L F) (hf : frz R v l ∈ F) : one v = true := slof.one (h.sl hf)
theorem Sep.all1 {Q : Rep α} (h : Sep s L F) (hf : frz Q v l ∈ F) : (repS Q).all s [l] [v] := Rep.all_one _ ⟨v, rfl, h.sl hf⟩
theorem Sep.len (h : Sep s L F) (hf : frz R v l ∈ F) {K : Value → Prop} (hk : K (.int .i64 l.length)) : LenOf v K := ⟨_, slof.vlen (h.fro _ hf), hk⟩
theorem Sep.lenX (h : Sep s L F) (hf : frzX R v l ∈ F) {K : Value → Prop} (hk : K (.int .i64 l.length)) : LenOf v K := ⟨_, slof.vlen (h.fro _ hf).1, hk⟩
theorem LenOf.mk' {b : Addr} {n c : Nat} {K : Value → Prop} (hk : K (.int .i64 n)) : LenOf (.slice (some b) n c) K := ⟨n, rfl, hk⟩
theorem Sep.index (h : Sep s L F) (hf : frz R v l ∈ F) {k : IntKind} {i : Int} (j : Nat) (hi : i = j) (hj : j < l.length) {K : Value → Prop} (hk : ∀ b o vs, Sep s L (mem b o vs :: has R vs l[j] :: F) → K (.pointer (some ⟨b, o, none⟩))) :
    Elem R.size v (.int k i) K := by
  obtain ⟨b, o, c, vs, rfl, h1, h2⟩ := slof.at (h.fro _ hf) hj
  subst hi
  exact ⟨b, o, _, c, k, j, rfl, rfl, by omega, by omega, hk _ _ vs ((h.add (f := has R vs l[j]) h1).add h2)⟩
theorem Sep.indexK {kd : IntKind} {l : List Int} (h : Sep s L F) (hf : frz (repK kd) v l ∈ F) {k : IntKind} {i : Int} (j : Nat) (hi : i = j) (hj : j < l.length) {K : Value → Prop} (hk : ∀ b o, Sep s L (mem b o [.int kd l[j]] :: F) → K (.pointer (some ⟨b, o, none⟩))) :
    Elem 1 v (.int k i) K :=
  h.index hf j hi hj fun b o vs h' => by
    have h1 := h'.fro (has (repK kd) vs l[j]) (by simp)
    have h1' : vs = [.int kd l[j]] := h1
    subst h1'
    exact hk b o (h'.facts fun f hf => h'.fro f (by rcases List.mem_cons.1 hf with rfl | hf <;> simp [*]))
theorem Sep.indexKv {kd : IntKind} {l : List Int} (h : Sep s L F) (hf : frz (repK kd) v l ∈ F) {k : IntKind} {i : Int} (j : Nat) (hi : i = j) (hj : j < l.length) {z : Int} (hz : l[j] = z) {K : Value → Prop} (hk : ∀ b o, Sep s L (mem b o [.int kd z] :: F) → K (.pointer (some ⟨b, o, none⟩))) :
    Elem 1 v (.int k i) K := h.indexK hf j hi hj fun b o h' => hk b o (hz ▸ h')
theorem Sep.indexS {Q : Rep α} {l : List (List α)} (h : Sep s L F) (hf : frz (repS Q) v l ∈ F) {k : IntKind} {i : Int} (j : Nat) (hi : i = j) (hj : j < l.length) {K : Value → Prop} (hk : ∀ b o u, Sep s L (mem b o [u] :: frz Q u l[j] :: F) → K (.pointer (some ⟨b, o, none⟩))) :
    Elem 1 v (.int k i) K :=
  h.index hf j hi hj fun b o vs h' => by
    obtain ⟨u, rfl, h1⟩ := h'.fro (has (repS Q) vs l[j]) (by simp)
    refine hk b o u (h'.facts fun f hf => ?_)
    simp only [List.mem_cons] at hf
    rcases hf with rfl | rfl | hf
    · exact h'.fro _ (by simp)
    · exact h1
    · exact h'.fro f (by simp [hf])

theorem slof.part {lo hi : Nat} (h : slof R s v l) (h1 : lo ≤ hi) (h2 : hi ≤ l.length) : (v = .slice none 0 0 ∧ l = []) ∨
    ∃ b o c, v = .slice (some ⟨b, o, some R.size⟩) l.length c ∧ l.length ≤ c / 2 ∧ ∀ c', hi - lo ≤ c' / 2 → slof R s (.slice (some ⟨b, o + lo * R.size, some R.size⟩) (hi - lo) c') ((l.take hi).drop lo) := by
  obtain ⟨cs, h3, h4⟩ := h
  rcases h3 with ⟨rfl, h0, rfl⟩ | ⟨b, o, c, k, rfl, h5, h6, h7, h8⟩
  · exact .inl ⟨rfl, List.eq_nil_of_length_eq_zero h0⟩
  · refine .inr ⟨b, o, c, rfl, h5, fun c' hc => ⟨(cs.take (hi * R.size)).drop (lo * R.size), ?_, R.all_drop lo (R.all_take hi h4)⟩⟩
    have hlen : ((l.take hi).drop lo).length = hi - lo := by simp; omega
    rw [hlen]
    refine .inr ⟨b, o + lo * R.size, c', k, rfl, hc, h6, h7, ?_⟩
    have hm1 : lo * R.size ≤ hi * R.size := Nat.mul_le_mul_right _ h1
    have hm2 : hi * R.size ≤ l.length * R.size := Nat.mul_le_mul_right _ h2
    have := lds_part h8 (i := lo * R.size) (m := (hi - lo) * R.size) (by rw [Nat.sub_mul]; omega)
    rw [this, List.drop_take, Nat.sub_mul]
/-- A part of a slice. -/
theorem Sep.slice (h : Sep s L F) (hf : frz R v l ∈ F) {low high : Option Value} (lo hi : Nat) (h1 : loOk low lo) (h2 : hiOk high hi l.length) (h3 : lo ≤ hi) (h4 : hi ≤ l.length) {K : Value → Prop}
    (hk : ∀ v', Sep s L (frz R v' ((l.take hi).drop lo) :: F) → K v') : awSlice R.size v low high none K := by
  have hs := h.fro _ hf
  rcases slof.part hs h3 h4 with ⟨rfl, rfl⟩ | ⟨b, o, c, rfl, h5, h6⟩
  · have e1 : hi = 0 := by simpa using h4
    have e2 : lo = 0 := by omega
    subst e1; subst e2
    exact ⟨.inl ⟨rfl, h1, h2, trivial, hk _ (h.add (f := frz R _ _) (slof.nil R s))⟩⟩
  · exact ⟨.inr ⟨b, o, l.length, c, lo, hi, rfl, h1, h3, h2, by omega, hk _ (h.add (f := frz R _ _) (h6 _ (by omega)))⟩⟩
/-- A part of a slice, without room. -/
theorem Sep.slice3 (h : Sep s L F) (hf : frz R v l ∈ F) {low : Option Value} {vh vm : Value} (lo hi : Nat) (h1 : loOk low lo) (h2 : bnd vh hi) (h2' : bnd vm hi) (h3 : lo ≤ hi) (h4 : hi ≤ l.length) {K : Value → Prop}
    (hk : ∀ v', Sep s L (frzX R v' ((l.take hi).drop lo) :: F) → K v') : awSlice R.size v low (some vh) (some vm) K := by
  have hs := h.fro _ hf
  rcases slof.part hs h3 h4 with ⟨rfl, rfl⟩ | ⟨b, o, c, rfl, h5, h6⟩
  · have e1 : hi = 0 := by simpa using h4
    have e2 : lo = 0 := by omega
    subst e1; subst e2
    exact ⟨.inl ⟨rfl, h1, h2, ⟨h2', rfl⟩, hk _ (h.add (f := frzX R _ _) ⟨slof.nil R s, .inl rfl⟩)⟩⟩
  · refine ⟨.inr ⟨b, o, l.length, c, lo, hi, rfl, h1, h3, hi, h2', h2, Nat.le_refl _, by omega, hk _ (h.add (f := frzX R _ _) ⟨h6 _ (by omega), .inr ⟨b, o + lo * R.size, ?_⟩⟩)⟩⟩
    simp; omega
theorem Sep.sliceX (h : Sep s L F) (hf : frz R v l ∈ F) {k k' : IntKind} {K : Value → Prop} (hk : ∀ v', Sep s L (frzX R v' l :: F) → K v') : awSlice R.size v none (some (.int k l.length)) (some (.int k' l.length)) K :=
  h.slice3 hf 0 l.length (by rfl) ⟨_, rfl⟩ ⟨_, rfl⟩ (Nat.zero_le _) (Nat.le_refl _) fun v' h' => hk v' (by simpa using h')

/-! ### Slices that grow -/

theorem Sep.accnil (R : Rep α) (h : Sep s L F) : Sep s (acc R (.slice none 0 0) [] :: L) F := by
  obtain ⟨P, h1, h2⟩ := h.sep
  exact ⟨h.wf, ⟨P, ⟨[], P, .inl ⟨rfl, rfl, rfl⟩, by intro b hb; simp at hb, h1, rfl⟩, h2⟩, h.fro⟩
theorem Sep.accpush (h : Sep s L F) {cs : List Value} (hc : R.all (s.push cs) l cs) : Sep (s.push cs) (acc R (.slice (some ⟨s.n, 0, some R.size⟩) l.length (2 * l.length)) l :: L) F :=
  h.pushR cs (.inr ⟨s.n, cs, s.n, rfl, rfl, get_push_self s cs, hc⟩)
theorem all_lds {cs : List Value} {b f n : Nat} {w : Bool} (h : s.get b = some ⟨cs, f, w⟩) (hn : n = cs.length) : s.lds b 0 n = some cs := by
  subst hn
  simp only [St.lds, h, Option.bind_some]
  rw [if_pos (by simp), List.drop_zero, List.take_of_length_le (Nat.le_refl _)]

/-- Something is appended to a slice without room. -/
theorem Sep.appendX (h : Sep s L F) (hf : frzX R v l ∈ F) {news : List Value} (hm : R.all s m news) (hne : m ≠ []) (hlen : l.length + m.length ≤ 1073741824)
    (hk : ∀ v' s', Sep s' (acc R v' (l ++ m) :: L) F → K v' s') : AppTo s R.size v m.length news K := by
  have h1 := h.fro _ hf
  have hpos : 0 < m.length := List.length_pos_iff.2 hne
  obtain ⟨⟨cs, h2, h3⟩, h4⟩ := h1
  have hall : R.all (s.push (cs ++ news)) (l ++ m) (cs ++ news) := R.all_keep (Fz.push h.wf _) (R.all_app hm h3)
  have hres := h.accpush hall
  rw [List.length_append] at hres
  rcases h2 with ⟨rfl, h0, rfl⟩ | ⟨b, o, c, k, rfl, h5, h6, h7, h8⟩
  · have e : l = [] := List.eq_nil_of_length_eq_zero h0
    subst e
    refine .nil rfl hpos (by simpa using hlen) (hk _ _ ?_)
    simpa using hres
  · rcases h4 with h4 | ⟨b', o', h4⟩
    · cases h4
    · cases h4
      exact .fresh rfl (by omega) (by omega) h8 hlen (hk _ _ hres)
theorem Sep.getacc {i : Nat} (h : Sep s L F) (hi : L[i]? = some (acc R v l)) : (v = .slice none 0 0 ∧ l = []) ∨ ∃ b cs f, v = .slice (some ⟨b, 0, some R.size⟩) l.length (2 * l.length) ∧ s.get b = some ⟨cs, f, true⟩ ∧ s.sole b ∧ R.all s l cs := by
  obtain ⟨P, ⟨A, B, h1, h2, h3, _⟩, h4⟩ := (h.at hi).sep
  rcases h1 with ⟨e1, e2, _⟩ | ⟨b, cs, f, e1, e2, e3, e4⟩
  · exact .inl ⟨e1, e2⟩
  · subst e2
    refine .inr ⟨b, cs, f, e1, e3, fun k y j hk hj hne hf => ?_, e4⟩
    obtain ⟨k', k1, k2, k3⟩ := h2 b (by simp)
    rw [hk] at k1; cases k1
    exact k3 y j hj (by simpa using hne) hf
theorem Sep.accone {i : Nat} (h : Sep s L F) (hi : L[i]? = some (acc R v l)) : one v = true := by
  rcases h.getacc hi with ⟨rfl, _⟩ | ⟨b, cs, f, rfl, _⟩ <;> rfl
theorem Sep.lenA (h : Sep s L F) (i : Nat) (hi : L[i]? = some (acc R v l)) {K : Value → Prop} (hk : K (.int .i64 l.length)) : LenOf v K := by
  rcases h.getacc hi with ⟨rfl, rfl⟩ | ⟨b, cs, f, rfl, _⟩
  · exact ⟨0, rfl, hk⟩
  · exact ⟨_, rfl, hk⟩

theorem Sep.lenM (h : Sep s L F) (hm : acc R v l ∈ L) {K : Value → Prop} (hk : K (.int .i64 l.length)) : LenOf v K := by
  obtain ⟨i, hi⟩ := List.getElem?_of_mem hm
  exact h.lenA i hi hk
theorem Sep.acconeM (h : Sep s L F) (hm : acc R v l ∈ L) : one v = true := by
  obtain ⟨i, hi⟩ := List.getElem?_of_mem hm
  exact h.accone hi

theorem get_forget_ne {b c : Nat} (h : c ≠ b) : (s.forget (· == b)).get c = s.get c := by
  have : (c == b) = false := by simpa using h
  simp [St.forget, this]
theorem get_forget_self (s : St) (b : Nat) : (s.forget (· == b)).get b = none := by simp [St.forget]

/-- Something is appended to a slice of one's own. -/
theorem Sep.appendA (h : Sep s L F) (i : Nat) (hi : L[i]? = some (acc R v l)) {news : List Value} (hm : R.all s m news) (hne : m ≠ []) (hlen : l.length + m.length ≤ 1073741824)
    (hk : ∀ v' s', Sep s' (L.set i (acc R v' (l ++ m))) F → K v' s') : AppTo s R.size v m.length news K := by
  have hpos : 0 < m.length := List.length_pos_iff.2 hne
  rcases h.getacc hi with ⟨rfl, rfl⟩ | ⟨b, cs, f, rfl, h1, h2, h3⟩
  · have hres := (h.drop hi).accpush (l := m) (R := R) (cs := news) (R.all_keep (Fz.push h.wf _) hm)
    exact .nil rfl hpos (by simpa using hlen) (hk _ _ (Sep.put i hi hres))
  · have hcl := R.all_len h3
    have hbn : b < s.n := (h.wf b _ h1).1
    refine .own rfl (by omega) h1 rfl h2 (all_lds h1 hcl.symm) (R.all_ones hm) hlen (hk _ _ (Sep.put i hi ?_))
    have gz : Fz s ((s.forget (· == b)).push (cs ++ news)) := fun c k hc hw => by
      have hne : c ≠ b := fun e => by subst e; rw [h1] at hc; cases hc; cases hw
      rw [get_push_ne _ _ (by show c ≠ s.n; have := (h.wf c k hc).1; omega), get_forget_ne hne]; exact hc
    refine (h.at hi).upd ((h.wf.forget _).push _) gz fun A hA hP => ?_
    rcases hA with ⟨e, _⟩ | ⟨b', cs', f', e1, e2, e3, e4⟩
    · cases e
    · cases e1
      rw [h1] at e3; cases e3
      subst e2
      refine ⟨[s.n], .inr ⟨s.n, cs ++ news, s.n, by rw [List.length_append], rfl, get_push_self _ _, R.all_keep gz (R.all_app hm h3)⟩, ?_, by simp, by simp, fun c hc hcb => ?_, fun y j hy => ?_⟩
      · intro c hc
        have hc' : c = s.n := by simpa using hc
        subst hc'
        refine ⟨_, get_push_self (s.forget (· == b)) _, rfl, fun y j hy hyn => ?_⟩
        have hyn' : y ≠ s.n := by simpa using hyn
        rw [get_push_ne (s.forget (· == b)) _ hyn'] at hy
        have := ((h.wf.forget (· == b)) y j hy).2
        show j.fam ≠ s.n
        have e : (s.forget (· == b)).n = s.n := rfl
        omega
      · rw [get_push_ne (s.forget (· == b)) _ (by show c ≠ s.n; omega), get_forget_ne (by simpa using hcb)]
      · by_cases hyn : y = s.n
        · have := get_push_self (s.forget (· == b)) (cs ++ news)
          rw [hyn, show s.n = (s.forget (· == b)).n from rfl, this] at hy; cases hy; exact .inr (.inl (Nat.le_refl _))
        · rw [get_push_ne (s.forget (· == b)) _ hyn] at hy
          by_cases hyb : y = b
          · subst hyb; rw [get_forget_self] at hy; cases hy
          · rw [get_forget_ne hyb] at hy; exact .inl ⟨(h.wf y j hy).1, by simpa using hyb⟩

/-- What is appended lies in a new block of one's own, at the head, which is forgotten. -/
theorem spread_pt {b n c : Nat} {cs : List Value} (h : Sep s (pt b cs :: L) F) (hm : R.all s m cs) (hn : n = m.length) : Spread s R.size (.slice (some ⟨b, 0, some R.size⟩) n c) n cs := by
  subst hn
  obtain ⟨f, h1, _⟩ := h.get (i := 0) rfl
  exact .inr ⟨b, 0, c, rfl, all_lds h1 (R.all_len hm).symm⟩
theorem Sep.appX {b n c sz by_ : Nat} {cs : List Value} (h : Sep s (pt b cs :: L) F) (hf : frzX R v l ∈ F) (hm : R.all s m cs) (hn : n = m.length) (hz : 0 < sz) (hy : by_ ≤ 65536) (he : R.size = sz) (hne : m ≠ []) (hlen : l.length + m.length ≤ 1073741824)
    (hk : ∀ v' s', Sep s' (acc R v' (l ++ m) :: L) F → K v' s') : 0 < sz ∧ by_ ≤ 65536 ∧ ∃ nx news, Spread s sz (.slice (some ⟨b, 0, some sz⟩) n c) nx news ∧ AppTo s sz v nx news K := by
  subst he; subst hn
  exact ⟨hz, hy, _, cs, spread_pt h hm rfl, h.drop1.appendX hf hm hne hlen hk⟩
theorem Sep.appA {b n c sz by_ : Nat} {cs : List Value} (h : Sep s (pt b cs :: L) F) (i : Nat) (hi : L[i]? = some (acc R v l)) (hm : R.all s m cs) (hn : n = m.length) (hz : 0 < sz) (hy : by_ ≤ 65536) (he : R.size = sz) (hne : m ≠ []) (hlen : l.length + m.length ≤ 1073741824)
    (hk : ∀ v' s', Sep s' (L.set i (acc R v' (l ++ m))) F → K v' s') : 0 < sz ∧ by_ ≤ 65536 ∧ ∃ nx news, Spread s sz (.slice (some ⟨b, 0, some sz⟩) n c) nx news ∧ AppTo s sz v nx news K := by
  subst he; subst hn
  exact ⟨hz, hy, _, cs, spread_pt h hm rfl, h.drop1.appendA i hi hm hne hlen hk⟩

/-- A block is not written any more. -/
theorem Sep.freezeB {i b : Nat} {r : Res} {f : Fact} (h : Sep s L F) (hi : L[i]? = some r) (hr : ∀ A, r.holds s A → A = [b]) (hf : f.holds (s.freeze (· == b))) : Le (s.freeze (· == b)) s ∧ Sep (s.freeze (· == b)) (L.eraseIdx i) (f :: F) := by
  refine ⟨freeze_le s _, ?_⟩
  have h0 := h.at hi
  have hget : ∀ c, c ≠ b → (s.freeze (· == b)).get c = s.get c := fun c hc => by
    have : (c == b) = false := by simpa using hc
    rw [freeze_get, this]; rfl
  have gz : Fz s (s.freeze (· == b)) := fun c k hc hw => by
    by_cases hcb : c = b
    · subst hcb
      rw [freeze_get]; simp only [beq_self_eq_true, if_true, hc, Option.map_some]
      obtain ⟨cs, fm, wr⟩ := k; simp at hw; subst hw; rfl
    · rw [hget c hcb]; exact hc
  have h1 : Sep (s.freeze (· == b)) (Am.emp :: L.eraseIdx i) F := by
    refine h0.upd (h.wf.freeze _) gz fun A hA hP => ?_
    have hA' := hr A hA
    subst hA'
    refine ⟨[], rfl, by intro b hb; simp at hb, by simp, by simp, fun c _ hc => hget c (by simpa using hc), fun y j hy => ?_⟩
    by_cases hyb : y = b
    · subst hyb
      obtain ⟨k, k1, k2, k3, _⟩ := (freeze_le s (· == y)).2 y j hy
      exact .inr (.inr ⟨y, by simp, k, k1, k3⟩)
    · rw [hget y hyb] at hy; exact .inl ⟨(h.wf y j hy).1, by simpa using hyb⟩
  exact h1.drop1.add hf
theorem slof_freeze {b c n : Nat} {k : Blk} {cs rest : List Value} (hw : Wf s) (hk : s.get b = some k) (hc : k.cells = cs ++ rest) (h : R.all s l cs) (hn : n = l.length) (hcap : l.length ≤ c / 2) : slof R (s.freeze (· == b)) (.slice (some ⟨b, 0, some R.size⟩) n c) l := by
  subst hn
  have gz : Fz s (s.freeze (· == b)) := fun c k hc hw => by
    rw [freeze_get, hc]
    split
    · obtain ⟨cs, fm, wr⟩ := k; simp at hw; subst hw; rfl
    · rfl
  have hg : (s.freeze (· == b)).get b = some { k with wr := false } := by rw [freeze_get, hk]; simp
  refine ⟨cs, .inr ⟨b, 0, c, _, rfl, hcap, hg, rfl, ?_⟩, R.all_keep gz h⟩
  simp only [St.lds, hg, Option.bind_some, hc, ← R.all_len h]
  rw [if_pos (by simp), List.drop_zero, List.take_append_of_le_length (Nat.le_refl _), List.take_of_length_le (Nat.le_refl _)]
/-- A slice of one's own is not written any more. -/
theorem Sep.freeze (h : Sep s L F) (i : Nat) (hi : L[i]? = some (acc R v l)) : ∃ s0, Le s0 s ∧ Sep s0 (L.eraseIdx i) (frz R v l :: F) := by
  rcases h.getacc hi with ⟨rfl, rfl⟩ | ⟨b, cs, f, rfl, h1, h2, h3⟩
  · exact ⟨s, Le.refl s, (h.drop hi).add (f := frz R _ _) (slof.nil R s)⟩
  · refine ⟨_, h.freezeB (b := b) hi (fun A hA => ?_) (f := frz R _ l) (slof_freeze (rest := []) h.wf h1 (by simp) h3 rfl (by omega))⟩
    rcases hA with ⟨e, _⟩ | ⟨b', cs', f', e1, e2, _⟩
    · cases e
    · cases e1; exact e2
theorem Sep.freezeP (R : Rep α) (l : List α) (h : Sep s L F) (i : Nat) {b n c : Nat} {cs : List Value} (rest : List Value) (hi : L[i]? = some (pt b (cs ++ rest))) (hc : R.all s l cs) (hn : n = l.length) (hcap : l.length ≤ c / 2) :
    ∃ s0, Le s0 s ∧ Sep s0 (L.eraseIdx i) (frz R (.slice (some ⟨b, 0, some R.size⟩) n c) l :: F) := by
  obtain ⟨f, h1, _⟩ := h.get hi
  exact ⟨_, h.freezeB (b := b) hi (fun A hA => hA.1) (f := frz R _ l) (slof_freeze h.wf h1 rfl hc hn hcap)⟩
theorem Sep.frzcall (h : Sep s L F) (i : Nat) (hi : L[i]? = some (acc R v l)) {f : FuncId} {args : List Value} {Q : Kont} (hk : ∀ s', Sep s' (L.eraseIdx i) (frz R v l :: F) → AC E f args s' Q) : AC E f args s Q := by
  obtain ⟨s0, h1, h2⟩ := h.freeze i hi
  exact AC.le h1 (hk s0 h2)

/-! ### New slices -/

theorem Sep.newS (h : Sep s L F) {e n c : Nat} {cs : List Value} (hk : ∀ b s', Sep s' (pt b cs :: L) F → K (.slice (some ⟨b, 0, some e⟩) n c) s') : NewS s e n c cs K := ⟨hk _ _ (h.push _)⟩

theorem exw {α : Type} {a r0 : α} {K : α → Prop} (h : a = r0) (hk : K a) : ∃ r, r = r0 ∧ K r := ⟨a, h, hk⟩
theorem exlay {o : Option (List Value)} {cs : List Value} {K : List Value → Prop} (h : o = some cs) (hk : K cs) : ∃ cs, o = some cs ∧ K cs := ⟨cs, h, hk⟩
theorem exr {α : Type} {a : α} {K : α → Prop} (hk : K a) : ∃ r, r = a ∧ K r := ⟨a, rfl, hk⟩
theorem exb {b : Bool} {K : Bool → Prop} (hv : v = .bool b) (hk : K b) : ∃ t, v = .bool t ∧ K t := ⟨b, hv, hk⟩
theorem exp {a : Addr} {K : Addr → Prop} (hv : v = .pointer (some a)) (hk : K a) : ∃ a, v = .pointer (some a) ∧ K a := ⟨a, hv, hk⟩
theorem exv {vs : Array Value} {i : Nat} {K : Value → Prop} (hv : vs[i]? = some v) (hk : K v) : ∃ v, vs[i]? = some v ∧ K v := ⟨v, hv, hk⟩
theorem exi {k : IntKind} {i n : Int} {K : IntKind → Int → Prop} (hv : v = .int k i) (h0 : 0 ≤ i) (h1 : i < n) (hk : K k i) : ∃ k i, v = .int k i ∧ 0 ≤ i ∧ i < n ∧ K k i := ⟨k, i, hv, h0, h1, hk⟩
theorem Elem.mk' {b o n c e : Nat} {k : IntKind} {i : Int} {x : Value} {K : Value → Prop} (hx : v = .slice (some ⟨b, o, some e⟩) n c) (hi : x = .int k i) (h0 : 0 ≤ i) (h1 : i < n) (hk : K (.pointer (some ⟨b, o + i.toNat * e, none⟩))) : Elem e v x K :=
  ⟨b, o, n, c, k, i, hx, hi, h0, h1, hk⟩

/-! ### The pieces in another order; some of them forgotten -/

def ordL (L : List Res) : List Nat → List Res
  | [] => L
  | i :: is => atHead (ordL L is) (i + (is.filter (Nat.blt i)).length)
theorem Sep.ord (h : Sep s L F) : ∀ is : List Nat, Sep s (ordL L is) F
  | [] => h
  | i :: is => (h.ord is).front _
def dropL (L : List Res) : List Nat → List Res
  | [] => L
  | i :: is => (dropL L is).eraseIdx i
theorem Sep.drops (h : Sep s L F) : ∀ is : List Nat, Sep s (dropL L is) F
  | [] => h
  | i :: is => by
    have h' := h.drops is
    show Sep s ((dropL L is).eraseIdx i) F
    cases hi : (dropL L is)[i]? with
    | none => rw [List.eraseIdx_of_length_le (List.getElem?_eq_none_iff.1 hi)]; exact h'
    | some r => exact h'.drop hi
theorem Sep.less (h : Sep s L F) (g : ∀ f ∈ F', f ∈ F) : Sep s L F' := h.facts fun f hf => h.fro f (g f hf)

/-! ### Slices that can be read, whoever holds them -/

/-- A slice reads as a list now. -/
def rds (R : Rep α) (s : St) (v : Value) (l : List α) : Prop :=
  (v = .slice none 0 0 ∧ l = []) ∨ ∃ b o c cs, v = .slice (some ⟨b, o, some R.size⟩) l.length c ∧ l.length ≤ c / 2 ∧ s.lds b o (l.length * R.size) = some cs ∧ R.all s l cs
theorem slof.rds (h : slof R s v l) : Am.rds R s v l := by
  obtain ⟨cs, h1, h2⟩ := h
  rcases h1 with ⟨h3, h4, _⟩ | ⟨b, o, c, k, h3, h4, _, _, h5⟩
  · exact .inl ⟨h3, List.eq_nil_of_length_eq_zero h4⟩
  · exact .inr ⟨b, o, c, cs, h3, h4, h5, h2⟩
/-- As long as these pieces and facts stand, a slice reads as a list. -/
structure Held (L : List Res) (F : List Fact) (R : Rep α) (v : Value) (l : List α) : Prop where
  get : ∀ s, Sep s L F → rds R s v l
theorem Held.frz (hf : Am.frz R v l ∈ F) : Held L F R v l := ⟨fun _ h => (h.sl hf).rds⟩
theorem Held.acc (hm : Am.acc R v l ∈ L) : Held L F R v l := ⟨fun s h => by
  obtain ⟨i, hi⟩ := List.getElem?_of_mem hm
  rcases h.getacc hi with ⟨h1, h2⟩ | ⟨b, cs, f, h1, h2, _, h3⟩
  · exact .inl ⟨h1, h2⟩
  · exact .inr ⟨b, 0, _, cs, h1, by omega, all_lds h2 (R.all_len h3).symm, h3⟩⟩
theorem Held.ptI {k : IntKind} {l : List Int} {rest : List Value} {b n c : Nat} (hm : Am.pt b (l.map (Value.int k) ++ rest) ∈ L) (hn : n = l.length) (hc : n ≤ c / 2) : Held L F (repK k) (.slice (some ⟨b, 0, some 1⟩) n c) l := ⟨fun s h => by
  obtain ⟨i, hi⟩ := List.getElem?_of_mem hm
  obtain ⟨f, h1, _⟩ := h.get hi
  subst hn
  refine .inr ⟨b, 0, c, l.map (Value.int k), rfl, hc, ?_, repK_all.2 rfl⟩
  simp only [St.lds, h1, Option.bind_some]
  rw [if_pos (by simp [repK]), List.drop_zero, show l.length * (repK k).size = (l.map (Value.int k)).length by simp [repK], List.take_append_of_le_length (Nat.le_refl _), List.take_of_length_le (Nat.le_refl _)]⟩
theorem Held.nil : Held L F R (.slice none 0 0) [] := ⟨fun _ _ => .inl ⟨rfl, rfl⟩⟩
theorem Held.res {r : Res} (h : Held L F R v l) : Held (r :: L) F R v l := ⟨fun s hs => h.get s hs.drop1⟩
theorem Held.fact {f : Fact} (h : Held L F R v l) : Held L (f :: F) R v l := ⟨fun s hs => h.get s (hs.less fun _ hf => List.mem_cons_of_mem _ hf)⟩
theorem Sep.lenH (h : Sep s L F) (hh : Held L F R v l) {K : Value → Prop} (hk : K (.int .i64 l.length)) : LenOf v K := by
  rcases hh.get s h with ⟨rfl, rfl⟩ | ⟨b, o, c, cs, rfl, _⟩
  · exact ⟨0, rfl, hk⟩
  · exact ⟨_, rfl, hk⟩
theorem Held.one (hh : Held L F R v l) (h : Sep s L F) : Am.one v = true := by
  rcases hh.get s h with ⟨rfl, _⟩ | ⟨b, o, c, cs, rfl, _⟩ <;> rfl
theorem rds.at {j : Nat} (h : rds R s v l) (hj : j < l.length) : ∃ b o c vs, v = .slice (some ⟨b, o, some R.size⟩) l.length c ∧ R.rep s vs l[j] ∧ s.lds b (o + j * R.size) R.size = some vs := by
  rcases h with ⟨_, rfl⟩ | ⟨b, o, c, cs, rfl, _, h1, h2⟩
  · simp at hj
  · have hjs : j * R.size + R.size ≤ l.length * R.size := by have := Nat.mul_le_mul_right R.size hj; rw [Nat.succ_mul] at this; exact this
    exact ⟨b, o, c, _, rfl, R.all_get hj h2, lds_part h1 hjs⟩
theorem lds_one {b o : Nat} (h : s.lds b o 1 = some [v]) : s.ld b o = some v := by have := lds_ld h (i := 0) (by decide); simpa using this
theorem Sep.indexHK {kd : IntKind} {l : List Int} (h : Sep s L F) (hh : Held L F (repK kd) v l) {k : IntKind} {i : Int} (j : Nat) (hi : i = j) (hj : j < l.length) {z : Int} (hz : l[j] = z) {K : Value → Prop}
    (hk : ∀ b o, s.ld b o = some (.int kd z) → K (.pointer (some ⟨b, o, none⟩))) : Elem 1 v (.int k i) K := by
  obtain ⟨b, o, c, vs, rfl, h1, h2⟩ := (hh.get s h).at hj
  have h1' : vs = [.int kd l[j]] := h1
  subst hi; subst h1'; subst hz
  exact ⟨b, o, _, c, k, j, rfl, rfl, by omega, by omega, hk _ _ (lds_one h2)⟩
theorem Sep.indexHS {Q : Rep α} {l : List (List α)} (h : Sep s L F) (hh : Held L F (repS Q) v l) {k : IntKind} {i : Int} (j : Nat) (hi : i = j) (hj : j < l.length) {K : Value → Prop}
    (hk : ∀ b o u, Sep s L (frz Q u l[j] :: F) → s.ld b o = some u → K (.pointer (some ⟨b, o, none⟩))) : Elem 1 v (.int k i) K := by
  obtain ⟨b, o, c, vs, rfl, ⟨u, h1, h3⟩, h2⟩ := (hh.get s h).at hj
  subst hi; subst h1
  exact ⟨b, o, _, c, k, j, rfl, rfl, by omega, by omega, hk _ _ u (h.add (f := frz Q u l[j]) h3) (lds_one h2)⟩

/-! ### Regions whose order is open -/

theorem rd_nil (s : St) : Reads.in [] s := by intro x hx; simp at hx
theorem rd_cons {b o : Nat} {R : Reads} (h : s.ld b o = some v) (g : R.in s) : Reads.in ((b, o, v) :: R) s := fun x hx => by
  rcases List.mem_cons.1 hx with rfl | hx
  · exact h
  · exact g x hx
theorem dt_nil : ∀ x ∈ ([] : Reads), Det x.2.2 := by simp
theorem dt_cons {b o : Nat} {R : Reads} (h : Det v) (g : ∀ x ∈ R, Det x.2.2) : ∀ x ∈ ((b, o, v) :: R : Reads), Det x.2.2 := fun x hx => by
  rcases List.mem_cons.1 hx with rfl | hx
  · exact h
  · exact g x hx
theorem det_cl {k : Nat} {caps : Array Value} (h : ∀ v ∈ caps.toList, Det v) : Det (.func (.func k) #[] caps) := det_cap h
theorem det_ptr (b : Nat) : Det (ptr b) := .ptr b 0
theorem dl_nil : ∀ v ∈ ([] : List Value), Det v := by simp
theorem dl_cons {l : List Value} (h : Det v) (g : ∀ v ∈ l, Det v) : ∀ x ∈ v :: l, Det x := fun x hx => by
  rcases List.mem_cons.1 hx with rfl | hx
  · exact h
  · exact g x hx
theorem tk {a : Bool} {b o : Nat} {R : Reads} {K : Value → Prop} (ha : a = false) (h : (b, o, v) ∈ R) (hk : K v) : a = false ∧ ∃ v, (b, o, v) ∈ R ∧ K v := ⟨ha, v, h, hk⟩


end Go.Am
