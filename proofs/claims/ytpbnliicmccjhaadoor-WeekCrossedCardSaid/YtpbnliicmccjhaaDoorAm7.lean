/-
  An abstract machine for the model's code, part 7: the built-in functions; every operation that is no call of a Go function.
-/
import Derived.Test.YtpbnliicmccjhaaDoorAm6
namespace Go.Am
set_option linter.unusedVariables false
set_option linter.unusedSimpArgs false
variable {E : Env} {G : Globs} {base : World} {φ : Phi} {σ : St} {w : World}

def awLen (E : Env) (ts : Array TypeId) (x : Value) (K : Value → Prop) : Prop :=
  match ts[0]? with
  | none => False
  | some t => match E.T t with
    | none => False
    | some i => match i.desc with
      | .slice _ => LenOf x K
      | .array n _ => K (.int .i64 (n : Nat))
      | _ => False

/-- 'min', 'max'. -/
def awFold (f : Int → Int → Int) (K : Value → Prop) : Value → List Value → Prop
  | .int k x, [] => K (.int k x)
  | .int k x, .int _ y :: rest => ∃ r, r = f x y ∧ awFold f K (.int k r) rest
  | _, _ => False
def fmin (x y : Int) : Int := if y < x then y else x
def fmax (x y : Int) : Int := if y > x then y else x

/-- The cells of a slice that is appended. -/
def Spread (σ : St) (es : Nat) (x : Value) (nx : Nat) (news : List Value) : Prop :=
  (x = .slice none 0 0 ∧ nx = 0 ∧ news = []) ∨ ∃ b o c, x = .slice (some ⟨b, o, some es⟩) nx c ∧ σ.lds b o (nx * es) = some news

inductive AppTo (σ : St) (es : Nat) (s : Value) (nx : Nat) (news : List Value) (K : Kont) : Prop
  | nil0 (hs : s = .slice none 0 0) (h0 : nx = 0) (hk : K s σ)
  | nil (hs : s = .slice none 0 0) (h0 : 0 < nx) (hm : nx ≤ 1073741824) (hk : K (.slice (some ⟨σ.n, 0, some es⟩) nx (2 * nx)) (σ.push news))
  | same {b o n c : Nat} (hs : s = .slice (some ⟨b, o, some es⟩) n c) (h0 : nx = 0) (hk : K s σ)
  | fresh {b o n c : Nat} {olds : List Value} (hs : s = .slice (some ⟨b, o, some es⟩) n c) (hc : c % 2 = 1) (hg : c / 2 < n + nx) (ho : σ.lds b o (n * es) = some olds)
      (hm : n + nx ≤ 1073741824) (hk : K (.slice (some ⟨σ.n, 0, some es⟩) (n + nx) (2 * (n + nx))) (σ.push (olds ++ news)))
  | room {b o n c : Nat} {k : Blk} (hs : s = .slice (some ⟨b, o, some es⟩) n c) (hc : n + nx ≤ c / 2) (hg : σ.get b = some k) (hw : k.wr = true) (hso : σ.sole b)
      (h1 : news.all one = true) (hl : o + (n + nx) * es ≤ k.cells.length)
      (hk : K (.slice (some ⟨b, o, some es⟩) (n + nx) c) (σ.st b (k.cells.take (o + n * es) ++ news ++ k.cells.drop (o + n * es + news.length))))
  | own {b n c : Nat} {k : Blk} {olds : List Value} (hs : s = .slice (some ⟨b, 0, some es⟩) n c) (hc : c % 2 = 0) (hg : σ.get b = some k) (hw : k.wr = true) (hso : σ.sole b)
      (ho : σ.lds b 0 (n * es) = some olds) (h1 : news.all one = true) (hm : n + nx ≤ 1073741824)
      (hk : K (.slice (some ⟨σ.n, 0, some es⟩) (n + nx) (2 * (n + nx))) ((σ.forget (· == b)).push (olds ++ news)))
  | fork {b n c : Nat} {k : Blk} {olds : List Value} (hs : s = .slice (some ⟨b, 0, some es⟩) n c) (hc : c % 2 = 0) (hg : σ.get b = some k) (hw : k.wr = true)
      (ht : ∀ x k', σ.get x = some k' → k'.fam = k.fam → k'.cells.length ≤ n * es)
      (ho : σ.lds b 0 (n * es) = some olds) (h1 : news.all one = true) (hm : n + nx ≤ 1073741824)
      (hk : K (.slice (some ⟨σ.n, 0, some es⟩) (n + nx) (2 * (n + nx))) (σ.pushIn (olds ++ news) k.fam))

def awAppend (E : Env) (σ : St) (ts : Array TypeId) (s x : Value) (K : Kont) : Prop :=
  match ts.toList with
  | [t, t2] => match E.T t, E.T t2 with
    | some i, some i2 => match i.desc, i2.desc with
      | .slice e, .slice _ => match E.T e with
        | none => False
        | some ie => 0 < ie.size ∧ ie.bytes ≤ 65536 ∧ ∃ nx news, Spread σ ie.size x nx news ∧ AppTo σ ie.size s nx news K
      | _, _ => False
    | _, _ => False
  | _ => False

/-- 'copy' between slices. -/
def awCopy (E : Env) (σ : St) (ts : Array TypeId) (d s : Value) (K : Kont) : Prop :=
  match ts[0]? with
  | none => False
  | some t => match E.T t with
    | none => False
    | some i => match i.desc with
      | .slice e => match E.T e with
        | none => False
        | some ie => ∃ b o n c nx news k, d = .slice (some ⟨b, o, some ie.size⟩) n c ∧ nx ≤ n ∧ vlen s = some nx ∧ Spread σ ie.size s nx news ∧ σ.get b = some k ∧ k.wr = true ∧ σ.sole b ∧
            news.all one = true ∧ o + news.length ≤ k.cells.length ∧ K (.int .i64 (nx : Nat)) (σ.st b (k.cells.take o ++ news ++ k.cells.drop (o + news.length)))
      | _ => False

/-- 'clear' of a slice. -/
def awClear (E : Env) (σ : St) (ts : Array TypeId) (x : Value) (K : Kont) : Prop :=
  match ts[0]? with
  | none => False
  | some t => match E.T t with
    | none => False
    | some i => match i.desc with
      | .slice e => match E.T e with
        | none => False
        | some ie => (vlen x = some 0 ∧ K (.tuple #[]) σ) ∨ ∃ b o n c k, x = .slice (some ⟨b, o, some ie.size⟩) n c ∧ 0 < n ∧ σ.get b = some k ∧ k.wr = true ∧ σ.sole b ∧
            ie.zero.all one = true ∧ o + n * ie.size ≤ k.cells.length ∧ K (.tuple #[]) (σ.st b (k.cells.take o ++ zeros ie.zero n ++ k.cells.drop (o + n * ie.size)))
      | _ => False

def awBuiltin (E : Env) (σ : St) (b : Builtin) (ts : Array TypeId) (args : List Value) (K : Kont) : Prop :=
  match b, args with
  | .len, [x] => awLen E ts x fun v => K v σ
  | .min, x :: rest => awFold fmin (fun v => K v σ) x rest
  | .max, x :: rest => awFold fmax (fun v => K v σ) x rest
  | .append, [s, x] => awAppend E σ ts s x K
  | .copy, [d, s] => awCopy E σ ts d s K
  | .clear, [x] => awClear E σ ts x K
  | _, _ => False

theorem awLen_ok {ts : Array TypeId} {ty : TypeId} {x x' : Value} (K : Value → Prop) (hx : VR φ x x') (hk : awLen E ts x K) :
    FineP φ E.P (Builtin.len_ ts ty #[x']) K := by
  unfold awLen at hk
  simp only [lenOf_iff] at hk
  cases h0 : ts[0]? with
  | none => simp [h0] at hk
  | some t =>
    simp only [h0] at hk
    cases ht : E.T t with
    | none => simp [ht] at hk
    | some i =>
      simp only [ht] at hk
      have hu := run_und (E := E) ht
      cases hd : i.desc <;> simp only [hd] at hk <;> try exact hk.elim
      case slice e =>
        rw [hd] at hu
        obtain ⟨n, hn, hk⟩ := hk
        refine .mk (v' := .int .i64 n) (fun w => ?_) (.int _ _) hk
        cases hx <;> simp [vlen] at hn
        case junk => cases hn
        case nils => subst hn; simp [Builtin.len_, h0, hu, goInt]
        case slice => subst hn; simp [Builtin.len_, h0, hu, goInt]
      case array n e =>
        rw [hd] at hu
        exact .mk (v' := .int .i64 n) (fun w => by simp [Builtin.len_, h0, hu, goInt]) (.int _ _) hk

theorem awFold_ok {f : Int → Int → Int} {g : Value → Value → Sem Value} (hg : ∀ k k' x y, (g (.int k x) (.int k' y)) = pure (.int k (f x y))) (K : Value → Prop) :
    ∀ (rest rest' : List Value) (x x' : Value), VR φ x x' → VRs φ rest rest' → awFold f (K) x rest → FineP φ E.P (rest'.foldlM g x') K
  | [], rest', x, x', hx, hr, hk => by
    cases rest' with
    | cons _ _ => have := hr.1; simp at this
    | nil =>
      cases x <;> simp only [awFold] at hk
      exact .mk (v' := x') (fun w => by simp) hx hk
  | y :: rest, rest', x, x', hx, hr, hk => by
    cases rest' with
    | nil => have := hr.1; simp at this
    | cons y' rest' =>
      cases x <;> cases y <;> simp only [awFold] at hk
      obtain ⟨r, rfl, hk⟩ := hk
      rw [hx.to_int, (hr.of_cons.1).to_int]
      have ih := awFold_ok hg K rest rest' _ _ (VR.int _ _) hr.of_cons.2 hk
      obtain ⟨v', v, hrun, hrest⟩ := ih
      exact ⟨v', v, fun w => by simp [List.foldlM_cons, hg, hrun], hrest⟩

theorem St.ext {a b : St} (h : a.n = b.n) (g : ∀ x, a.get x = b.get x) : a = b := by
  cases a; cases b; simp at h g; subst h; congr 1; exact funext g

/-- Of a block only the first cells are kept in mind. -/
theorem Rel.cut (h : Rel G base φ σ w) {b : Nat} {k : Blk} (hk : σ.get b = some k) (n : Nat) : Rel G base φ (σ.st b (k.cells.take n)) w := by
  have hfam : ∀ x k', (σ.st b (k.cells.take n)).get x = some k' → ∃ k0, σ.get x = some k0 ∧ k0.fam = k'.fam ∧ k0.wr = k'.wr ∧ k'.cells.length ≤ k0.cells.length ∧ (∀ (i : Nat) (v : Value), k'.cells[i]? = some v → k0.cells[i]? = some v) := fun x k' hx => by
    by_cases hxb : x = b
    · subst hxb
      rw [st_get_same hk] at hx
      cases hx
      refine ⟨k, hk, rfl, rfl, by simp; omega, fun i v hi => ?_⟩
      simp only [List.getElem?_take] at hi
      split at hi
      · exact hi
      · cases hi
    · rw [st_get_ne _ _ hxb] at hx; exact ⟨k', hx, rfl, rfl, Nat.le_refl _, fun i v hi => hi⟩
  refine ⟨h.kept, ?_, h.fresh, h.inh, ?_, ?_, h.glob⟩
  · intro x k' hx
    obtain ⟨k0, h0, hf, _⟩ := hfam x k' hx
    exact ⟨(h.wf x k0 h0).1, hf ▸ (h.wf x k0 h0).2⟩
  · intro x k' hx
    obtain ⟨k0, h0, _, hw, hl, hc⟩ := hfam x k' hx
    obtain ⟨m, hm, cur, e, fz, c1, c2, c3, c4, c5⟩ := h.blk x k0 h0
    exact ⟨m, hm, cur, e, fz, c1, c2, by omega, by rw [← hw]; exact c4, fun i v hi => c5 i v (hc i v hi)⟩
  · intro b1 b2 k1 k2 m1 m2 g1 g2 i1 i2 hne
    obtain ⟨q1, r1, s1, _⟩ := hfam b1 k1 g1
    obtain ⟨q2, r2, s2, _⟩ := hfam b2 k2 g2
    rw [← s1, ← s2]
    exact h.sep b1 b2 q1 q2 m1 m2 r1 r2 i1 i2 hne

theorem lds_length {σ : St} {b o n : Nat} {vs : List Value} (h : σ.lds b o n = some vs) : vs.length = n := by
  unfold St.lds at h
  cases hk : σ.get b with
  | none => simp [hk] at h
  | some k =>
    simp only [hk, Option.bind_some] at h
    split at h
    · cases h; simp; omega
    · cases h

theorem run_spread (h : Rel E.G base φ σ w) {es nx : Nat} {x x' : Value} {news : List Value} (hx : VR φ x x') (hs : Spread σ es x nx news) :
    ∃ a' c' news', x' = .slice a' nx c' ∧ VRs φ news news' ∧ news'.length = nx * es ∧ (Builtin.firstCells es nx x').run E.P w = .ok news'.toArray w := by
  rcases hs with ⟨rfl, rfl, rfl⟩ | ⟨b, o, c, rfl, hl⟩
  · cases hx
    exact ⟨none, 0, [], rfl, .nil φ, by simp, by simp [Builtin.firstCells]⟩
  · obtain ⟨m, vs', hφ, hv, hlen, hc⟩ := h.lds hl
    cases hx with
    | slice hφ' hn hlo hex hun hroom hb hsp ha =>
      rename_i m' a' c'
      rw [hφ] at hφ'; cases hφ'
      refine ⟨some a', c', vs', rfl, hv, hlen, ?_⟩
      refine run_firstCells_some (P := E.P) w es nx a' nx c' vs' hlen fun j v hj => ?_
      have hj' := (List.getElem?_eq_some_iff.1 hj).1
      have hc0 : c' ≠ 0 := by
        intro h0; subst h0
        have : nx = 0 := by omega
        subst this; rw [hlen] at hj'; simp at hj'
      have ha' : a'.off = m.off + o := by omega
      have haddr : a'.add j = ⟨m.blk, m.off + o + j, none⟩ := by
        obtain ⟨p, q, r⟩ := a'
        simp at hb hsp ha'
        subst hb; subst hsp; subst ha'
        rw [add_addr]
      rw [haddr]; exact hc j v hj

theorem vr_grown {φ : Phi} {n : Nat} {w : World} (len need cap es : Nat) (hcap : need ≤ cap) (hlen : len = cap * es) :
    VR (φ.set n ⟨w.heap.size, 0, len⟩) (.slice (some ⟨n, 0, some es⟩) need (2 * need)) (.slice (some ⟨w.heap.size, 0, none⟩) need cap) := by
  have := VR.slice (φ := φ.set n ⟨w.heap.size, 0, len⟩) (b := n) (o := 0) (e := es) (n := need) (c := 2 * need) (m := ⟨w.heap.size, 0, len⟩) (a' := ⟨w.heap.size, 0, none⟩) (c' := cap) (Phi.set_same φ n _)
    (by omega) (by omega) (by omega) (by simp [hlen]) (by simp [hlen]) rfl rfl (.inr (by simp))
  exact this

theorem zeroCells_length (z : Array Value) (n : Nat) : (Builtin.zeroCells z n).toList.length = n * z.size := by simp [Builtin.zeroCells]

/-- An append that grows. -/
theorem run_grow (h : Rel E.G base φ σ w) {t t2 ty e e2 : TypeId} {i i2 ie : TI} (ht : E.T t = some i) (ht2 : E.T t2 = some i2) (hd : i.desc = .slice e) (hd2 : i2.desc = .slice e2) (he : E.T e = some ie)
    (hby : ie.bytes ≤ 65536) {n c' nx cx : Nat} {a' ax : Option Addr} {news news' olds olds' : List Value} (hnx : news'.length = nx * ie.size) (hol : olds'.length = n * ie.size)
    (hv : VRs φ news news') (hov : VRs φ olds olds') (hf : ∀ w2 : World, w2.heap = w.heap → (Builtin.firstCells ie.size nx (.slice ax nx cx)).run E.P w2 = .ok news'.toArray w2)
    (hof : ∀ w2 : World, w2.heap = w.heap → (Builtin.firstCells ie.size n (.slice a' n c')).run E.P w2 = .ok olds'.toArray w2) (hg : c' < n + nx) (hm : n + nx ≤ 1073741824) (K : Kont)
    (f : Nat) (hfm : f ≤ σ.n)
    (hk' : K (.slice (some ⟨σ.n, 0, some ie.size⟩) (n + nx) (2 * (n + nx))) (σ.pushIn (olds ++ news) f)) :
    Fine E.G base φ E.P (Builtin.append_ #[t, t2] ty #[.slice a' n c', .slice ax nx cx]) w K := by
  have hfr : φ σ.n = none := h.fresh σ.n (Nat.le_refl _)
  have hu := run_und ht w
  have hu2 := run_und ht2 w
  rw [hd] at hu
  rw [hd2] at hu2
  have hs := run_size he w
  obtain ⟨inf, z0, hinf, his, hib, hiz, hizc, hzv, _, _⟩ := (E.ok e ie he).info
  have hz : ∀ w, (zeroValue e).run E.P w = .ok ie.zv w := run_zv he
  have hzl : ie.zv.cells.size = ie.size := by rw [← (E.ok e ie he).len, ← hizc, hzv]; simp
  have hcap := grownCap_ge w (n + nx) c' e
  have hle : (n + nx) * ie.bytes ≤ 140737488355328 := by
    have : (n + nx) * ie.bytes ≤ 1073741824 * 65536 := Nat.mul_le_mul hm hby
    omega
  have hfit := growslice_fits hg hle
  have hrel := (h.drew (w.drawn + 1)).newIn (hov.append hv) (rest := (Builtin.zeroCells ie.zv.cells (grownCap w (n + nx) c' e - (n + nx))).toList) e f hfm
  refine ⟨.slice (some ⟨w.heap.size, 0, none⟩) (n + nx) (grownCap w (n + nx) c' e), _, _, _, _, ?_, Phi.le_set hfr _, hk', ?_, hrel⟩
  · have h1 : ¬ (n + nx ≤ c') := by omega
    have h2 : ¬ ((9223372036854775807 : Int) < (n : Int) + (nx : Int)) := by omega
    have h3 : ¬ (281474976710656 < Builtin.nextslicecap (n + nx) c' * inf.bytes) := by rw [hib]; omega
    have hof' := hof { w with drawn := w.drawn + 1 } rfl
    have hf' := hf { w with drawn := w.drawn + 1 } rfl
    simp only [World.drew_eq] at hof' hf'
    simp [Builtin.append_, hu, hu2, hs, Builtin.lenOf, h1, h2, typeInfo, hinf, h3, Question.forced, hz, newRow, hof', hf', grownCap]
    congr 2
    apply Array.ext'
    simp
  · refine vr_grown _ _ _ _ hcap ?_
    simp only [List.length_append, zeroCells_length, hnx, hol, hzl]
    rw [← Nat.add_mul, ← Nat.add_mul]
    congr 1; omega

/-- As 'run_spread', in every world of that heap. -/
theorem run_spread' (h : Rel E.G base φ σ w) {es nx : Nat} {x x' : Value} {news : List Value} (hx : VR φ x x') (hs : Spread σ es x nx news) :
    ∃ a' c' news', x' = .slice a' nx c' ∧ VRs φ news news' ∧ news'.length = nx * es ∧ ∀ w2 : World, w2.heap = w.heap → (Builtin.firstCells es nx x').run E.P w2 = .ok news'.toArray w2 := by
  rcases hs with ⟨rfl, rfl, rfl⟩ | ⟨b, o, c, rfl, hl⟩
  · cases hx
    exact ⟨none, 0, [], rfl, .nil φ, by simp, fun _ _ => by simp [Builtin.firstCells]⟩
  · obtain ⟨m, vs', hφ, hv, hlen, hc⟩ := h.lds hl
    cases hx with
    | slice hφ' hn hlo hex hun hroom hb hsp ha =>
      rename_i m' a' c'
      rw [hφ] at hφ'; cases hφ'
      refine ⟨some a', c', vs', rfl, hv, hlen, fun w2 hw2 => ?_⟩
      refine run_firstCells_some (P := E.P) w2 es nx a' nx c' vs' hlen fun j v hj => ?_
      have hj' := (List.getElem?_eq_some_iff.1 hj).1
      have hc0 : c' ≠ 0 := by
        intro h0; subst h0
        have : nx = 0 := by omega
        subst this; rw [hlen] at hj'; simp at hj'
      have ha' : a'.off = m.off + o := by omega
      have haddr : a'.add j = ⟨m.blk, m.off + o + j, none⟩ := by
        obtain ⟨p, q, r⟩ := a'
        simp at hb hsp ha'
        subst hb; subst hsp; subst ha'
        rw [add_addr]
      rw [haddr]
      have := hc j v hj
      simpa [World.cell?, hw2] using this

theorem fine_of_push {P : Program} {s : Sem Value} {K : Kont} (h : Fine G base φ P s w K) : Fine G base φ P s w K := h

/-- Room for what is appended: a store. -/
theorem run_room (h : Rel E.G base φ σ w) {t t2 ty e e2 : TypeId} {i i2 ie : TI} (ht : E.T t = some i) (ht2 : E.T t2 = some i2) (hd : i.desc = .slice e) (hd2 : i2.desc = .slice e2) (he : E.T e = some ie)
    {n c' nx cx : Nat} {a' : Addr} {ax : Option Addr} {news' : List Value} (hf : (Builtin.firstCells ie.size nx (.slice ax nx cx)).run E.P w = .ok news'.toArray w) (hg : n + nx ≤ c') {w' : World}
    (hst : (storeCells (a'.add (n * ie.size)) news').run E.P w = .ok () w') :
    (Builtin.append_ #[t, t2] ty #[.slice (some a') n c', .slice ax nx cx]).run E.P w = .ok (.slice (some a') (n + nx) c') w' := by
  have hu := run_und ht w
  have hu2 := run_und ht2 w
  rw [hd] at hu
  rw [hd2] at hu2
  have hs := run_size he w
  simp [Builtin.append_, hu, hu2, hs, Builtin.lenOf, hg, hf, hst]

/-- A new block that shares its memory with no other known one is a family of its own. -/
theorem Rel.refam {cs : List Value} {fam : Nat} (h : Rel G base φ (σ.pushIn cs fam) w) (hs : ∀ x k', σ.get x = some k' → k'.fam ≠ fam) : Rel G base φ (σ.push cs) w := by
  have key : ∀ x k, (σ.push cs).get x = some k → (x = σ.n ∧ k = ⟨cs, σ.n, true⟩ ∧ (σ.pushIn cs fam).get x = some ⟨cs, fam, true⟩) ∨ (x ≠ σ.n ∧ σ.get x = some k ∧ (σ.pushIn cs fam).get x = some k) := by
    intro x k hx
    simp only [St.push, St.pushIn] at hx ⊢
    by_cases hxn : x = σ.n
    · subst hxn; simp at hx; exact .inl ⟨rfl, hx.symm, by simp⟩
    · have : (x == σ.n) = false := by simpa using hxn
      rw [this] at hx ⊢
      exact .inr ⟨hxn, hx, hx⟩
  refine ⟨h.kept, fun x k hx => ?_, h.fresh, h.inh, fun x k hx => ?_, fun b1 b2 k1 k2 m1 m2 h1 h2 p1 p2 hne => ?_, h.glob⟩
  · rcases key x k hx with ⟨rfl, rfl, _⟩ | ⟨_, _, h'⟩
    · exact ⟨Nat.lt_succ_self _, Nat.lt_succ_self _⟩
    · exact h.wf x k h'
  · rcases key x k hx with ⟨rfl, rfl, h'⟩ | ⟨_, _, h'⟩
    · obtain ⟨m, hm, cur, e, fz, rest⟩ := h.blk _ _ h'
      exact ⟨m, hm, cur, e, fz, rest⟩
    · exact h.blk _ _ h'
  · rcases key b1 k1 h1 with ⟨rfl, rfl, g1⟩ | ⟨n1, o1, g1⟩ <;> rcases key b2 k2 h2 with ⟨rfl, rfl, g2⟩ | ⟨n2, o2, g2⟩
    · exact absurd rfl hne
    · rcases h.sep _ _ _ _ _ _ g1 g2 p1 p2 hne with h' | ⟨h', _⟩
      · exact .inl h'
      · exact absurd h'.symm (hs _ _ o2)
    · rcases h.sep _ _ _ _ _ _ g1 g2 p1 p2 hne with h' | ⟨h', _⟩
      · exact .inl h'
      · exact absurd h' (hs _ _ o1)
    · exact h.sep _ _ _ _ _ _ g1 g2 p1 p2 hne

/-- An append to a slice whose capacity is not known: in its place, or elsewhere. -/
theorem run_tip (h : Rel E.G base φ σ w) {t t2 ty e e2 : TypeId} {i i2 ie : TI} (ht : E.T t = some i) (ht2 : E.T t2 = some i2) (hd : i.desc = .slice e) (hd2 : i2.desc = .slice e2) (he : E.T e = some ie)
    (hby : ie.bytes ≤ 65536) {b n c nx cx : Nat} {k : Blk} {olds news news' : List Value} {s' : Value} {ax : Option Addr} (hs : VR φ (.slice (some ⟨b, 0, some ie.size⟩) n c) s') (hc : c % 2 = 0)
    (hg : σ.get b = some k) (hw : k.wr = true) (htip : ∀ x k', σ.get x = some k' → k'.fam = k.fam → k'.cells.length ≤ n * ie.size) (ho : σ.lds b 0 (n * ie.size) = some olds) (h1 : news.all one = true)
    (hm : n + nx ≤ 1073741824) (hlen : news'.length = nx * ie.size) (hv : VRs φ news news') (hf : ∀ w2 : World, w2.heap = w.heap → (Builtin.firstCells ie.size nx (.slice ax nx cx)).run E.P w2 = .ok news'.toArray w2) :
    Fine E.G base φ E.P (Builtin.append_ #[t, t2] ty #[s', .slice ax nx cx]) w fun v s => v = .slice (some ⟨σ.n, 0, some ie.size⟩) (n + nx) (2 * (n + nx)) ∧ s = σ.pushIn (olds ++ news) k.fam := by
  have hsp2 : Spread σ ie.size (.slice (some ⟨b, 0, some ie.size⟩) n c) n olds := .inr ⟨b, 0, c, rfl, ho⟩
  have hol0 := lds_length ho
  have hfr : φ σ.n = none := h.fresh σ.n (Nat.le_refl _)
  obtain ⟨a'', c', olds', rfl, hov, hol, hof⟩ := run_spread' h hs hsp2
  by_cases hroomy : n + nx ≤ c'
  · cases hs with
    | slice hφ hn hlo hex hun hroom hb hspt ha =>
      rename_i m a'
      obtain ⟨m0, hm0, cur, ee, fz, c1, c2, c3, c4, c5⟩ := h.blk b k hg
      rw [hφ] at hm0; cases hm0
      obtain ⟨hbase, hfz⟩ := c4 hw
      subst hfz
      have hroom2 := hun hc
      have ha' : a'.off = m.off := by omega
      have hmul : (n + nx) * ie.size ≤ c' * ie.size := Nat.mul_le_mul_right _ hroomy
      have hmul2 : (n + nx) * ie.size = n * ie.size + nx * ie.size := Nat.add_mul _ _ _
      have hnl := hv.1
      have haddr : a'.add (n * ie.size) = ⟨m.blk, m.off + n * ie.size, none⟩ := by
        obtain ⟨p, q, r⟩ := a'
        simp at hb hspt ha'
        subst hb; subst hspt; subst ha'
        rw [add_addr]
      have hrst := run_storeCells_at E.P m.blk (m.off + n * ie.size) ee news' 0 cur w c1 (by omega) (all_one hv h1)
      simp only [Nat.add_zero] at hrst
      rw [← haddr] at hrst
      have hrel := h.tip hg hφ hw hv olds (by rw [hol0]; exact ho) (by omega) (by rw [hol0]; exact htip) c1
      rw [hol0] at hrel
      refine ⟨.slice (some a') (n + nx) c', _, _, _, _, run_room h ht ht2 hd hd2 he (hf w rfl) hroomy hrst, Phi.le_set hfr m, ⟨rfl, rfl⟩, ?_, hrel⟩
      exact .slice (Phi.set_same φ σ.n m) (by omega) (by omega) (by omega) (by omega) (by omega) hb hspt (.inr (by simpa using ha'))
  · exact run_grow h ht ht2 hd hd2 he hby hlen hol hv hov hf hof (by omega) hm _ k.fam (Nat.le_of_lt (h.wf b k hg).2) ⟨rfl, rfl⟩

theorem awAppend_ok (h : Rel E.G base φ σ w) {ts : Array TypeId} {ty : TypeId} {s s' x x' : Value} (K : Kont) (hs : VR φ s s') (hx : VR φ x x') (hk : awAppend E σ ts s x K) :
    Fine E.G base φ E.P (Builtin.append_ ts ty #[s', x']) w K := by
  obtain ⟨tl⟩ := ts
  unfold awAppend at hk
  simp only at hk
  match tl with
  | [] => exact hk.elim
  | [_] => exact hk.elim
  | _ :: _ :: _ :: _ => exact hk.elim
  | [t, t2] =>
  simp only at hk
  cases ht : E.T t with
  | none => simp [ht] at hk
  | some i =>
  cases ht2 : E.T t2 with
  | none => simp [ht, ht2] at hk
  | some i2 =>
  simp only [ht, ht2] at hk
  cases hd : i.desc <;> simp only [hd] at hk <;> try exact hk.elim
  rename_i e
  cases hd2 : i2.desc <;> simp only [hd2] at hk <;> try exact hk.elim
  rename_i e2
  cases he : E.T e with
  | none => simp [he] at hk
  | some ie =>
  simp only [he] at hk
  obtain ⟨hpos, hby, nx, news, hsp, hap⟩ := hk
  obtain ⟨ax, cx, news', rfl, hv, hlen, hf⟩ := run_spread' h hx hsp
  have hfr : φ σ.n = none := h.fresh σ.n (Nat.le_refl _)
  have hu := run_und ht w
  have hu2 := run_und ht2 w
  rw [hd] at hu
  rw [hd2] at hu2
  have hsz := run_size he w
  cases hap with
  | nil0 hs0 h0 hk =>
    subst hs0; subst h0
    cases hs
    have : news' = [] := List.eq_nil_of_length_eq_zero (by simpa using hlen)
    subst this
    refine .pure h (v' := .slice none 0 0) ?_ .nils hk
    have := hf w rfl
    simp [Builtin.append_, hu, hu2, hsz, Builtin.lenOf, this]
  | nil hs0 h0 hm hk =>
    subst hs0
    cases hs
    have := run_grow h ht ht2 hd hd2 he hby (n := 0) (c' := 0) (a' := none) (olds := []) (olds' := []) hlen (by simp) hv (.nil φ) hf (fun w2 _ => by simp [Builtin.firstCells])
      (by omega) (by omega) (ty := ty) K σ.n (Nat.le_refl _) (by simpa [St.pushIn, St.push] using hk)
    exact this
  | same hs0 h0 hk =>
    subst hs0; subst h0
    have hn0 : news' = [] := List.eq_nil_of_length_eq_zero (by simpa using hlen)
    subst hn0
    cases hs with
    | slice hφ hn hlo hex hun hroom hb hspt ha =>
      rename_i m a' c'
      refine .pure h (v' := .slice (some a') _ c') ?_ (.slice hφ hn hlo hex hun hroom hb hspt ha) hk
      have := run_room h ht ht2 hd hd2 he (ty := ty) (a' := a') (c' := c') (nx := 0) (cx := cx) (ax := ax) (hf w rfl) (Nat.le_trans hn hlo) (w' := w) (by simp [storeCells])
      simpa using this
  | fresh hs0 hc hg ho hm hk =>
    subst hs0
    rename_i b o n c olds
    have hsp2 : Spread σ ie.size (.slice (some ⟨b, o, some ie.size⟩) n c) n olds := .inr ⟨b, o, c, rfl, ho⟩
    obtain ⟨a', c', olds', rfl, hov, hol, hof⟩ := run_spread' h hs hsp2
    have hcc : c' = c / 2 := by
      cases hs with
      | slice hφ hn hlo hex hun hroom hb hspt ha => exact hex hc
    exact run_grow h ht ht2 hd hd2 he hby hlen hol hv hov hf hof (by omega) hm K σ.n (Nat.le_refl _) (by simpa [St.pushIn, St.push] using hk)
  | room hs0 hc hg hw hso h1 hl hk =>
    subst hs0
    rename_i b o n c k
    cases hs with
    | slice hφ hn hlo hex hun hroom hb hspt ha =>
      rename_i m a' c'
      by_cases hn0 : n + nx = 0
      · -- nothing is there, and nothing comes
        have hnx : nx = 0 := by omega
        subst hnx
        have hnn : news' = [] := List.eq_nil_of_length_eq_zero (by simpa using hlen)
        subst hnn
        have hnn2 : news = [] := List.eq_nil_of_length_eq_zero (by have := hv.1; simpa using this)
        subst hnn2
        have hsame : σ.st b (k.cells.take (o + n * ie.size) ++ [] ++ k.cells.drop (o + n * ie.size + ([] : List Value).length)) = σ := by
          apply St.ext
          · rfl
          · intro x
            by_cases hxb : x = b
            · subst hxb; rw [st_get_same hg, hg]; simp
            · rw [st_get_ne _ _ hxb]
        rw [hsame] at hk
        refine .pure h (v' := .slice (some a') n c') ?_ (.slice hφ hn hlo hex hun hroom hb hspt ha) hk
        have := run_room h ht ht2 hd hd2 he (ty := ty) (a' := a') (c' := c') (nx := 0) (cx := cx) (ax := ax) (hf w rfl) (Nat.le_trans hn hlo) (w' := w) (by simp [storeCells])
        simpa using this
      · have ha' : a'.off = m.off + o := by omega
        have haddr : a'.add (n * ie.size) = ⟨m.blk, m.off + (o + n * ie.size), none⟩ := by
          obtain ⟨p, q, r⟩ := a'
          simp at hb hspt ha'
          subst hb; subst hspt; subst ha'
          rw [add_addr, Nat.add_assoc]
        have hlen2 : news.length = nx * ie.size := by rw [hv.1, hlen]
        have hmul : (n + nx) * ie.size = n * ie.size + nx * ie.size := Nat.add_mul _ _ _
        obtain ⟨w', hr, hrel⟩ := run_store_cells h hg hφ hw hso hv h1 (o + n * ie.size) (by omega)
        rw [← haddr] at hr
        refine ⟨.slice (some a') (n + nx) c', w', φ, _, _, run_room h ht ht2 hd hd2 he (hf w rfl) (by omega) hr, φ.le_refl, hk, .slice hφ (by omega) hlo hex hun hroom hb hspt ha, hrel⟩
  | own hs0 hc hg hw hso ho h1 hm hk =>
    subst hs0
    rename_i b n c k olds
    have hsp2 : Spread σ ie.size (.slice (some ⟨b, 0, some ie.size⟩) n c) n olds := .inr ⟨b, 0, c, rfl, ho⟩
    have hol0 := lds_length ho
    have hkt : k.cells.take (n * ie.size) = olds := by
      simp only [St.lds, hg, Option.bind_some] at ho
      split at ho
      · cases ho; simp
      · cases ho
    have hstate : ((σ.st b olds).pushIn (olds ++ news) k.fam).forget (· == b) = (σ.forget (· == b)).pushIn (olds ++ news) k.fam := by
      have hbn : b ≠ σ.n := Nat.ne_of_lt (h.wf b k hg).1
      apply St.ext
      · rfl
      · intro x
        by_cases hx1 : x = σ.n
        · subst hx1
          have : (σ.n == b) = false := by simpa using Ne.symm hbn
          simp [St.forget, St.pushIn, St.st, this]
        · have h1 : (x == σ.n) = false := by simpa using hx1
          by_cases hx2 : x = b
          · subst hx2; simp [St.forget, St.pushIn, St.st, h1]
          · have h2 : (x == b) = false := by simpa using hx2
            simp [St.forget, St.pushIn, St.st, h1, h2]
    have hrel1 : Rel E.G base φ (σ.st b olds) w := by have := h.cut hg (n * ie.size); rwa [hkt] at this
    have hg1 : (σ.st b olds).get b = some { k with cells := olds } := st_get_same hg olds
    have ho1 : (σ.st b olds).lds b 0 (n * ie.size) = some olds := by simp [St.lds, hg1, ← hol0]
    have htip1 : ∀ x k', (σ.st b olds).get x = some k' → k'.fam = ({ k with cells := olds } : Blk).fam → k'.cells.length ≤ n * ie.size := fun x k' hx hfm => by
      by_cases hxb : x = b
      · subst hxb; rw [hg1] at hx; cases hx; exact Nat.le_of_eq hol0
      · rw [st_get_ne _ _ hxb] at hx; exact absurd hfm (hso k x k' hg hx hxb)
    obtain ⟨v', w', φ', v, σ', hrun, hle, ⟨rfl, rfl⟩, hvr, hr⟩ := run_tip hrel1 ht ht2 hd hd2 he (ty := ty) hby hs hc hg1 hw htip1 ho1 h1 hm hlen hv hf
    refine ⟨v', w', φ', _, _, hrun, hle, hk, hvr, ?_⟩
    have := hr.forget (· == b)
    rw [hstate] at this
    exact this.refam fun x k' hx hf => by
      simp only [St.forget] at hx
      by_cases hxb : x = b
      · subst hxb; simp at hx
      · have : (x == b) = false := by simpa using hxb
        rw [this] at hx
        exact hso k x k' hg hx hxb hf
  | fork hs0 hc hg hw htip ho h1 hm hk =>
    subst hs0
    obtain ⟨v', w', φ', v, σ', hrun, hle, ⟨rfl, rfl⟩, hvr, hr⟩ := run_tip h ht ht2 hd hd2 he (ty := ty) hby hs hc hg hw htip ho h1 hm hlen hv hf
    exact ⟨v', w', φ', _, _, hrun, hle, hk, hvr, hr⟩

end Go.Am
