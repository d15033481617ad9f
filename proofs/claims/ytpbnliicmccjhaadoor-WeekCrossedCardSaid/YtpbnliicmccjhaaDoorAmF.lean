/-
  An abstract machine for the model's code, part 15: the evaluator: operations that write, code, calls.
-/
import Derived.Test.YtpbnliicmccjhaaDoorAmT
namespace Go.Am
set_option linter.unusedVariables false
set_option linter.unusedSimpArgs false
variable {E : Env} {base : World} {φ : Phi} {w : World}
noncomputable section

/-- What a closed run comes to. -/
abbrev R := Option Value
abbrev FK := Value → FH → R
abbrev FCall := FuncId → List Value → FH → FK → R

/-! ### Numbers are computed before they are handed on -/

def fN (m : Nat) (k : Nat → R) : R := Nat.rec (k 0) (fun p _ => k (Nat.succ p)) m
theorem fN_eq (m : Nat) (k : Nat → R) : fN m k = k m := by cases m <;> rfl
def fI (n : Int) (k : Int → R) : R :=
  match n with
  | .ofNat m => fN m fun m => k (.ofNat m)
  | .negSucc m => fN m fun m => k (.negSucc m)
theorem fI_eq (n : Int) (k : Int → R) : fI n k = k n := by
  cases n with
  | ofNat m => simp only [fI, fN_eq]
  | negSucc m => simp only [fI, fN_eq]
def fB (b : Bool) (k : Bool → R) : R := Bool.rec (k false) (k true) b
theorem fB_eq (b : Bool) (k : Bool → R) : fB b k = k b := by cases b <;> rfl
def fV (v : Value) (k : Value → R) : R :=
  match v with
  | .int kd n => fI n fun n => k (.int kd n)
  | .bool b => fB b fun b => k (.bool b)
  | .pointer (some ⟨b, o, s⟩) => fN b fun b => fN o fun o => k (.pointer (some ⟨b, o, s⟩))
  | .slice (some ⟨b, o, s⟩) n c => fN b fun b => fN o fun o => fN n fun n => fN c fun c => k (.slice (some ⟨b, o, s⟩) n c)
  | v => k v
theorem fV_eq (v : Value) (k : Value → R) : fV v k = k v := by
  unfold fV
  split <;> simp only [fN_eq, fI_eq, fB_eq]

/-! ### Operations -/

/-- What an operation comes to, and the heap it leaves. -/
def FStep (E : Env) (fr : Fr) (x : FH) (op : Op) (v : Value) (x' : FH) : Prop :=
  HOK x' ∧ ∃ σ1 σ' : St, Sub σ1 x.st ∧ Sub x'.st σ' ∧ ∀ K : Kont, K v σ' → awOp E fr σ1 op K

def FCallOK (E : Env) (call : FCall) : Prop :=
  ∀ f args x k r, HOK x → call f args x k = some r → ∃ v x', HOK x' ∧ k v x' = some r ∧ ∀ K : Kont, K v x'.st → AC E f args x.st K

def fPush (x : FH) (cs : List Value) (k : Nat → FH → R) : R := fN x.n fun n => fN (Nat.add n 1) fun m => k n ⟨m, x.t.set m (some ⟨cs, n, true⟩), x.m⟩
theorem fPush_eq (x : FH) (cs : List Value) (k : Nat → FH → R) : fPush x cs k = k x.n (x.push cs) := by simp only [fPush, fN_eq]; rfl

def fBox (E : Env) (t : TypeId) : Value → FH → FK → R :=
  match E.T t with
  | none => fun _ _ _ => none
  | some i => cond i.agg
      (fun y x k => match y with
        | .agg cs => fPush x cs.toList fun n x => k (.pointer (some ⟨n, 0, none⟩)) x
        | _ => none)
      (fun y x k => cond (one y) (fPush x [y] fun n x => k (.pointer (some ⟨n, 0, none⟩)) x) none)
theorem fBox_ok {t : TypeId} {y : Value} {x : FH} (hx : HOK x) {k : FK} {r : Value} (h : fBox E t y x k = some r) :
    ∃ v x', k v x' = some r ∧ HOK x' ∧ ∃ σ', Sub x'.st σ' ∧ ∀ K : Kont, K v σ' → awBox E x.st t y K := by
  unfold fBox at h
  unfold awBox
  simp only [new_iff]
  cases ht : E.T t with
  | none => simp [ht] at h
  | some i =>
    simp only [ht] at h ⊢
    cases ha : i.agg with
    | true =>
      rw [ha] at h
      simp only [cond_true] at h
      split at h <;> try (cases h; done)
      rename_i cs
      rw [fPush_eq] at h
      exact ⟨_, _, h, (hx.push _).1, _, (hx.push _).2, fun K hk => hk⟩
    | false =>
      rw [ha] at h
      simp only [cond_false] at h
      cases h1 : one y with
      | false => rw [h1] at h; cases h
      | true =>
        rw [h1] at h
        simp only [cond_true, fPush_eq] at h
        exact ⟨_, _, h, (hx.push _).1, _, (hx.push _).2, fun K hk => ⟨rfl, hk⟩⟩

def fBuildSlice (E : Env) (t : TypeId) (len : Nat) : List (Nat × Value) → FH → FK → R :=
  match E.T t with
  | none => fun _ _ _ => none
  | some i => match i.desc with
    | .slice e => match E.T e with
      | none => fun _ _ _ => none
      | some ie => cond (Nat.blt 0 ie.size && Nat.ble (len * ie.size) 16777216)
          (fun parts x k => match lay (fun _ => ie.agg) (fun j => some (j * ie.size, ie.size)) (zeros ie.zero len) parts with
            | some cs => fPush x cs fun n x => k (.slice (some ⟨n, 0, some ie.size⟩) len (2 * len + 1)) x
            | none => none) fun _ _ _ => none
    | _ => fun _ _ _ => none
theorem fBuildSlice_ok {t : TypeId} {len : Nat} {parts : List (Nat × Value)} {x : FH} (hx : HOK x) {k : FK} {r : Value} (h : fBuildSlice E t len parts x k = some r) :
    ∃ v x', k v x' = some r ∧ HOK x' ∧ ∃ σ', Sub x'.st σ' ∧ ∀ K : Kont, K v σ' → awBuildSlice E x.st t len parts K := by
  unfold fBuildSlice at h
  unfold awBuildSlice
  simp only [newS_iff]
  cases ht : E.T t with
  | none => simp [ht] at h
  | some i =>
    simp only [ht] at h ⊢
    cases hd : i.desc <;> simp only [hd] at h ⊢ <;> try (cases h; done)
    rename_i e
    cases he : E.T e with
    | none => simp [he] at h
    | some ie =>
      simp only [he] at h ⊢
      cases hc : (Nat.blt 0 ie.size && Nat.ble (len * ie.size) 16777216) with
      | false => rw [hc] at h; cases h
      | true =>
      rw [hc] at h
      simp only [cond_true] at h
      simp only [Bool.and_eq_true] at hc
      cases hl : lay (fun _ => ie.agg) (fun j => some (j * ie.size, ie.size)) (zeros ie.zero len) parts with
      | none => simp [hl] at h
      | some cs =>
        simp only [hl, fPush_eq] at h
        exact ⟨_, _, h, (hx.push _).1, _, (hx.push _).2, fun K hk => ⟨by simpa using hc.1, Nat.le_of_ble_eq_true hc.2, cs, rfl, hk⟩⟩

def fMakeSlice (E : Env) (t : TypeId) : Value → Value → FH → FK → R :=
  match E.T t with
  | none => fun _ _ _ _ => none
  | some i => match i.desc with
    | .slice e => match E.T e with
      | none => fun _ _ _ _ => none
      | some ie => cond (Nat.blt 0 ie.size && Nat.ble ie.bytes 65536)
          (fun l c x k => match xbnd l, xbnd c with
            | some n, some m => cond (Nat.ble n m && Nat.ble m 1073741824) (fPush x (zeros ie.zero m) fun b x => k (.slice (some ⟨b, 0, some ie.size⟩) n (2 * m + 1)) x) none
            | _, _ => none) fun _ _ _ _ => none
    | _ => fun _ _ _ _ => none
theorem fMakeSlice_ok {t : TypeId} {l c : Value} {x : FH} (hx : HOK x) {k : FK} {r : Value} (h : fMakeSlice E t l c x k = some r) :
    ∃ v x', k v x' = some r ∧ HOK x' ∧ ∃ σ', Sub x'.st σ' ∧ ∀ K : Kont, K v σ' → awMakeSlice E x.st t l c K := by
  unfold fMakeSlice at h
  unfold awMakeSlice
  simp only [newS_iff]
  cases ht : E.T t with
  | none => simp [ht] at h
  | some i =>
    simp only [ht] at h ⊢
    cases hd : i.desc <;> simp only [hd] at h ⊢ <;> try (cases h; done)
    rename_i e
    cases he : E.T e with
    | none => simp [he] at h
    | some ie =>
      simp only [he] at h ⊢
      cases hc : (Nat.blt 0 ie.size && Nat.ble ie.bytes 65536) with
      | false => rw [hc] at h; cases h
      | true =>
      rw [hc] at h
      simp only [cond_true] at h
      simp only [Bool.and_eq_true] at hc
      split at h <;> try (cases h; done)
      rename_i n m hl hcc
      cases hq : (Nat.ble n m && Nat.ble m 1073741824) with
      | false => rw [hq] at h; cases h
      | true =>
      rw [hq] at h
      simp only [cond_true, fPush_eq] at h
      simp only [Bool.and_eq_true] at hq
      obtain ⟨k1, rfl⟩ := xbnd_ok hl
      obtain ⟨k2, rfl⟩ := xbnd_ok hcc
      exact ⟨_, _, h, (hx.push _).1, _, (hx.push _).2, fun K hk => ⟨by simpa using hc.1, Nat.le_of_ble_eq_true hc.2, k1, k2, n, m, rfl, rfl, Nat.le_of_ble_eq_true hq.1, Nat.le_of_ble_eq_true hq.2, hk⟩⟩

def fStore (E : Env) (t : TypeId) : Value → Value → FH → (FH → R) → R :=
  match E.T t with
  | none => fun _ _ _ _ => none
  | some i => cond i.agg
      (fun a y x k => match a with
        | .pointer (some ⟨b, o, none⟩) => match x.t.get (Nat.add b 1) with
          | none => none
          | some j => match y with
            | .agg cs => cond (j.wr && Nat.beq cs.size i.size && cs.toList.all one && Nat.ble (Nat.add o i.size) j.cells.length)
                (k ((x.sole j.fam b).set b j (j.cells.take o ++ cs.toList ++ j.cells.drop (Nat.add o i.size)))) none
            | _ => none
        | _ => none)
      (cond (Nat.beq i.size 1) (fun a y x k => match a with
        | .pointer (some ⟨b, o, none⟩) => match x.t.get (Nat.add b 1) with
          | none => none
          | some j => cond (j.wr && one y && Nat.blt o j.cells.length) (k ((x.sole j.fam b).set b j (j.cells.set o y))) none
        | _ => none) fun _ _ _ _ => none)
theorem fStore_ok {t : TypeId} {a y : Value} {x : FH} (hx : HOK x) {k : FH → R} {r : Value} (h : fStore E t a y x k = some r) :
    ∃ x', k x' = some r ∧ HOK x' ∧ ∃ σ1 σ', Sub σ1 x.st ∧ Sub x'.st σ' ∧ ∀ K : St → Prop, K σ' → awStore E σ1 t a y K := by
  unfold fStore at h
  unfold awStore
  simp only [stored_iff, storedA_iff]
  cases ht : E.T t with
  | none => simp [ht] at h
  | some i =>
    simp only [ht] at h ⊢
    cases ha : i.agg with
    | true =>
      rw [ha] at h
      simp only [cond_true] at h
      split at h <;> try (cases h; done)
      rename_i b o
      cases hj : x.t.get (Nat.add b 1) with
      | none => simp [hj] at h
      | some j =>
      simp only [hj] at h
      split at h <;> try (cases h; done)
      rename_i cs
      cases hc : (j.wr && Nat.beq cs.size i.size && cs.toList.all one && Nat.ble (Nat.add o i.size) j.cells.length) with
      | false => rw [hc] at h; cases h
      | true =>
      rw [hc] at h
      simp only [cond_true] at h
      simp only [Bool.and_eq_true] at hc
      obtain ⟨h1, h2, h3, h4⟩ := FH.sole_ok hx (b := b) (k := j) hj
      have h5 := h1.set h3 (j.cells.take o ++ cs.toList ++ j.cells.drop (Nat.add o i.size))
      exact ⟨_, h, h5.1, (x.sole j.fam b).st, _, h2, h5.2, fun K hk => by simp only [ha, if_true]; exact ⟨cs, j, rfl, nbeq hc.1.1.2, hc.1.2, h3, hc.1.1.1, h4, Nat.le_of_ble_eq_true hc.2, hk⟩⟩
    | false =>
      rw [ha] at h
      simp only [cond_false] at h
      cases h1s : Nat.beq i.size 1 with
      | false => rw [h1s] at h; cases h
      | true =>
      rw [h1s] at h
      simp only [cond_true] at h
      split at h <;> try (cases h; done)
      rename_i b o
      cases hj : x.t.get (Nat.add b 1) with
      | none => simp [hj] at h
      | some j =>
      simp only [hj] at h
      cases hc : (j.wr && one y && Nat.blt o j.cells.length) with
      | false => rw [hc] at h; cases h
      | true =>
      rw [hc] at h
      simp only [cond_true] at h
      simp only [Bool.and_eq_true] at hc
      obtain ⟨h1, h2, h3, h4⟩ := FH.sole_ok hx (b := b) (k := j) hj
      have h5 := h1.set h3 (j.cells.set o y)
      exact ⟨_, h, h5.1, (x.sole j.fam b).st, _, h2, h5.2, fun K hk => by simp only [ha, Bool.false_eq_true, if_false]; exact ⟨nbeq h1s, hc.1.2, j, h3, hc.1.1, h4, by simpa using hc.2, hk⟩⟩

/-- What is forgotten ahead of an append, and the append. -/
def fAppTo (es : Nat) (s y : Value) (x : FH) (k : FK) : R :=
  match vlen y with
  | none => none
  | some nx => match s with
    | .slice none 0 0 => match xSpread x.st es y with
      | some (nx', news) => cond (Nat.beq nx' nx) (cond (Nat.beq nx 0) (k s x) (cond (Nat.ble nx 1073741824) (fPush x news fun b x => k (.slice (some ⟨b, 0, some es⟩) nx (2 * nx)) x) none)) none
      | none => none
    | .slice (some ⟨b, o, some e⟩) n c => cond (Nat.beq e es)
        (cond (Nat.beq nx 0) (match xSpread x.st es y with
          | some (nx', _) => cond (Nat.beq nx' nx) (k s x) none
          | none => none)
        (cond (Nat.ble (n + nx) (c / 2))
          (match x.t.get (Nat.add b 1) with
            | none => none
            | some j => match xSpread (x.sole j.fam b).st es y with
              | some (nx', news) => cond (Nat.beq nx' nx && j.wr && news.all one && Nat.ble (o + (n + nx) * es) j.cells.length)
                  (k (.slice (some ⟨b, o, some es⟩) (n + nx) c) ((x.sole j.fam b).set b j (j.cells.take (o + n * es) ++ news ++ j.cells.drop (o + n * es + news.length)))) none
              | none => none)
          (cond (Nat.ble (n + nx) 1073741824)
            (cond (Nat.beq (c % 2) 1)
              (match x.st.lds b o (n * es), xSpread x.st es y with
                | some olds, some (nx', news) => cond (Nat.beq nx' nx) (fPush x (olds ++ news) fun b x => k (.slice (some ⟨b, 0, some es⟩) (n + nx) (2 * (n + nx))) x) none
                | _, _ => none)
              (match x.t.get (Nat.add b 1) with
                | none => none
                | some j => cond (Nat.beq o 0 && j.wr && Nat.ble j.cells.length (n * es))
                    (match xSpread (x.drop j.fam b (n * es)).st es y, (x.drop j.fam b (n * es)).st.lds b 0 (n * es) with
                      | some (nx', news), some olds => cond (Nat.beq nx' nx && news.all one && (((x.drop j.fam b (n * es)).pushIn (olds ++ news) j.fam).m.get (Nat.add j.fam 1)).isSome)
                          (fN x.n fun b' => k (.slice (some ⟨b', 0, some es⟩) (n + nx) (2 * (n + nx))) ((x.drop j.fam b (n * es)).pushIn (olds ++ news) j.fam)) none
                      | _, _ => none) none)) none))) none
    | _ => none

theorem sub_n {σ0 σ : St} (h : Sub σ0 σ) : σ0.n = σ.n := h.1

theorem fAppTo_ok {es : Nat} {s y : Value} {x : FH} (hx : HOK x) {k : FK} {r : Value} (h : fAppTo es s y x k = some r) :
    ∃ v x', k v x' = some r ∧ HOK x' ∧ ∃ σ1 σ' nx news, Sub σ1 x.st ∧ Sub x'.st σ' ∧ Spread σ1 es y nx news ∧ ∀ K : Kont, K v σ' → AppTo σ1 es s nx news K := by
  unfold fAppTo at h
  split at h <;> try (cases h; done)
  rename_i nx hnx
  split at h
  · -- the empty slice
    cases hs : xSpread x.st es y with
    | none => simp [hs] at h
    | some p =>
    obtain ⟨nx', news⟩ := p
    simp only [hs] at h
    cases hb : Nat.beq nx' nx with
    | false => rw [hb] at h; cases h
    | true =>
    rw [hb] at h
    simp only [cond_true] at h
    have := nbeq hb
    subst this
    have hsp := xSpread_ok hs
    cases h0 : Nat.beq nx' 0 with
    | true =>
      rw [h0] at h
      exact ⟨_, _, h, hx, x.st, x.st, nx', news, Sub.refl _, Sub.refl _, hsp, fun K hk => .nil0 rfl (nbeq h0) hk⟩
    | false =>
      rw [h0] at h
      simp only [cond_false] at h
      cases hm : Nat.ble nx' 1073741824 with
      | false => rw [hm] at h; cases h
      | true =>
      rw [hm] at h
      simp only [cond_true, fPush_eq] at h
      have hpos : 0 < nx' := by rw [beq_eq] at h0; have := of_decide_eq_false h0; omega
      exact ⟨_, _, h, (hx.push _).1, x.st, _, nx', news, Sub.refl _, (hx.push _).2, hsp, fun K hk => .nil rfl hpos (Nat.le_of_ble_eq_true hm) hk⟩
  · rename_i b o e n c
    cases he : Nat.beq e es with
    | false => rw [he] at h; cases h
    | true =>
    rw [he] at h
    simp only [cond_true] at h
    have := nbeq he
    subst this
    cases h0 : Nat.beq nx 0 with
    | true =>
      rw [h0] at h
      simp only [cond_true] at h
      cases hs : xSpread x.st e y with
      | none => simp [hs] at h
      | some p =>
      obtain ⟨nx', news⟩ := p
      simp only [hs] at h
      cases hb : Nat.beq nx' nx with
      | false => rw [hb] at h; cases h
      | true =>
      rw [hb] at h
      have hn := nbeq hb
      exact ⟨_, _, h, hx, x.st, x.st, nx', news, Sub.refl _, Sub.refl _, xSpread_ok hs, fun K hk => .same rfl (hn.trans (nbeq h0)) hk⟩
    | false =>
    rw [h0] at h
    simp only [cond_false] at h
    have hpos : 0 < nx := by rw [beq_eq] at h0; have := of_decide_eq_false h0; omega
    cases hr : Nat.ble (n + nx) (c / 2) with
    | true =>
      rw [hr] at h
      simp only [cond_true] at h
      cases hj : x.t.get (Nat.add b 1) with
      | none => simp [hj] at h
      | some j =>
      simp only [hj] at h
      cases hs : xSpread (x.sole j.fam b).st e y with
      | none => simp [hs] at h
      | some p =>
      obtain ⟨nx', news⟩ := p
      simp only [hs] at h
      cases hc : (Nat.beq nx' nx && j.wr && news.all one && Nat.ble (o + (n + nx) * e) j.cells.length) with
      | false => rw [hc] at h; cases h
      | true =>
      rw [hc] at h
      simp only [cond_true] at h
      simp only [Bool.and_eq_true] at hc
      have := nbeq hc.1.1.1
      subst this
      obtain ⟨h1, h2, h3, h4⟩ := FH.sole_ok hx (b := b) (k := j) hj
      have h5 := h1.set h3 (j.cells.take (o + n * e) ++ news ++ j.cells.drop (o + n * e + news.length))
      exact ⟨_, _, h, h5.1, (x.sole j.fam b).st, _, nx', news, h2, h5.2, xSpread_ok hs, fun K hk => .room rfl (Nat.le_of_ble_eq_true hr) h3 hc.1.1.2 h4 hc.1.2 (Nat.le_of_ble_eq_true hc.2) hk⟩
    | false =>
    rw [hr] at h
    simp only [cond_false] at h
    have hgt : c / 2 < n + nx := by
      rcases Nat.lt_or_ge (c / 2) (n + nx) with hl | hl
      · exact hl
      · rw [show Nat.ble (n + nx) (c / 2) = true by simpa using hl] at hr; cases hr
    cases hm : Nat.ble (n + nx) 1073741824 with
    | false => rw [hm] at h; cases h
    | true =>
    rw [hm] at h
    simp only [cond_true] at h
    cases hodd : Nat.beq (c % 2) 1 with
    | true =>
      rw [hodd] at h
      simp only [cond_true] at h
      split at h <;> try (cases h; done)
      rename_i olds nx' news ho hs
      cases hb : Nat.beq nx' nx with
      | false => rw [hb] at h; cases h
      | true =>
      rw [hb] at h
      have := nbeq hb
      subst this
      simp only [cond_true, fPush_eq] at h
      exact ⟨_, _, h, (hx.push _).1, x.st, _, nx', news, Sub.refl _, (hx.push _).2, xSpread_ok hs, fun K hk => .fresh rfl (nbeq hodd) hgt ho (Nat.le_of_ble_eq_true hm) hk⟩
    | false =>
      rw [hodd] at h
      simp only [cond_false] at h
      have heven : c % 2 = 0 := by rw [beq_eq] at hodd; have := of_decide_eq_false hodd; omega
      cases hj : x.t.get (Nat.add b 1) with
      | none => simp [hj] at h
      | some j =>
      simp only [hj] at h
      cases hc : (Nat.beq o 0 && j.wr && Nat.ble j.cells.length (n * e)) with
      | false => rw [hc] at h; cases h
      | true =>
      rw [hc] at h
      simp only [cond_true] at h
      simp only [Bool.and_eq_true] at hc
      split at h <;> try (cases h; done)
      rename_i nx' news olds hs ho
      cases hq : (Nat.beq nx' nx && news.all one && (((x.drop j.fam b (n * e)).pushIn (olds ++ news) j.fam).m.get (Nat.add j.fam 1)).isSome) with
      | false => rw [hq] at h; cases h
      | true =>
      rw [hq] at h
      simp only [cond_true, fN_eq] at h
      simp only [Bool.and_eq_true] at hq
      have := nbeq hq.1.1
      subst this
      have := nbeq hc.1.1
      subst this
      obtain ⟨h1, h2, h3, h4⟩ := FH.drop_ok hx (b := b) (k := j) hj (len := n * e) (Nat.le_of_ble_eq_true hc.2)
      have hfam := (h1 b j h3).2.1
      have h5 := h1.pushIn (olds ++ news) hfam hq.2
      have hn : (x.drop j.fam b (n * e)).st.n = x.n := h2.1
      refine ⟨_, _, h, h5.1, (x.drop j.fam b (n * e)).st, _, nx', news, h2, h5.2, xSpread_ok hs, fun K hk => .fork rfl heven h3 hc.1.2 h4 ho hq.1.2 (Nat.le_of_ble_eq_true hm) ?_⟩
      rw [hn]
      exact hk
  · cases h

def fAppend (E : Env) (ts : Array TypeId) : Value → Value → FH → FK → R :=
  match ts.toList with
  | [t, t2] => match E.T t, E.T t2 with
    | some i, some i2 => match i.desc, i2.desc with
      | .slice e, .slice _ => match E.T e with
        | none => fun _ _ _ _ => none
        | some ie => cond (Nat.blt 0 ie.size && Nat.ble ie.bytes 65536) (fAppTo ie.size) fun _ _ _ _ => none
      | _, _ => fun _ _ _ _ => none
    | _, _ => fun _ _ _ _ => none
  | _ => fun _ _ _ _ => none
theorem fAppend_ok {ts : Array TypeId} {s y : Value} {x : FH} (hx : HOK x) {k : FK} {r : Value} (h : fAppend E ts s y x k = some r) :
    ∃ v x', k v x' = some r ∧ HOK x' ∧ ∃ σ1 σ', Sub σ1 x.st ∧ Sub x'.st σ' ∧ ∀ K : Kont, K v σ' → awAppend E σ1 ts s y K := by
  unfold fAppend at h
  rcases hts : ts.toList with _ | ⟨t, _ | ⟨t2, _ | ⟨_, _⟩⟩⟩ <;> simp only [hts] at h <;> try (cases h; done)
  cases hi : E.T t with
  | none => simp [hi] at h
  | some i =>
  cases hi2 : E.T t2 with
  | none => simp [hi, hi2] at h
  | some i2 =>
  simp only [hi, hi2] at h
  cases hd : i.desc <;> simp only [hd] at h <;> try (cases h; done)
  rename_i e
  cases hd2 : i2.desc <;> simp only [hd2] at h <;> try (cases h; done)
  rename_i e2
  cases he : E.T e with
  | none => simp [he] at h
  | some ie =>
  simp only [he] at h
  cases hc : (Nat.blt 0 ie.size && Nat.ble ie.bytes 65536) with
  | false => rw [hc] at h; cases h
  | true =>
  rw [hc] at h
  simp only [cond_true] at h
  simp only [Bool.and_eq_true] at hc
  obtain ⟨v, x', h1, h2, σ1, σ', nx, news, h3, h4, h5, h6⟩ := fAppTo_ok hx h
  refine ⟨v, x', h1, h2, σ1, σ', h3, h4, fun K hk => ?_⟩
  unfold awAppend
  simp only [hts, hi, hi2, hd, hd2, he]
  exact ⟨by simpa using hc.1, Nat.le_of_ble_eq_true hc.2, nx, news, h5, h6 K hk⟩

/-- 'copy' between slices. -/
def fCopy (E : Env) (ts : Array TypeId) : Value → Value → FH → FK → R :=
  match ts[0]? with
  | none => fun _ _ _ _ => none
  | some t => match E.T t with
    | none => fun _ _ _ _ => none
    | some i => match i.desc with
      | .slice e => match E.T e with
        | none => fun _ _ _ _ => none
        | some ie => fun d s x k => match d with
          | .slice (some ⟨b, o, some es⟩) n _ => match x.t.get (Nat.add b 1) with
            | none => none
            | some j => match xSpread (x.sole j.fam b).st ie.size s with
              | none => none
              | some (nx, news) => cond (Nat.beq es ie.size && Nat.ble nx n && j.wr && news.all one && Nat.ble (o + news.length) j.cells.length)
                  (fN nx fun nx => k (.int .i64 (.ofNat nx)) ((x.sole j.fam b).set b j (j.cells.take o ++ news ++ j.cells.drop (o + news.length)))) none
          | _ => none
      | _ => fun _ _ _ _ => none
theorem fCopy_ok {ts : Array TypeId} {d s : Value} {x : FH} (hx : HOK x) {k : FK} {r : Value} (h : fCopy E ts d s x k = some r) :
    ∃ v x', k v x' = some r ∧ HOK x' ∧ ∃ σ1 σ', Sub σ1 x.st ∧ Sub x'.st σ' ∧ ∀ K : Kont, K v σ' → awCopy E σ1 ts d s K := by
  unfold fCopy at h
  cases h0 : ts[0]? with
  | none => simp [h0] at h
  | some t =>
  simp only [h0] at h
  cases ht : E.T t with
  | none => simp [ht] at h
  | some i =>
  simp only [ht] at h
  cases hd : i.desc <;> simp only [hd] at h <;> try (cases h; done)
  rename_i e
  cases he : E.T e with
  | none => simp [he] at h
  | some ie =>
  simp only [he] at h
  split at h <;> try (cases h; done)
  rename_i b o es n c
  cases hj : x.t.get (Nat.add b 1) with
  | none => simp [hj] at h
  | some j =>
  simp only [hj] at h
  cases hs : xSpread (x.sole j.fam b).st ie.size s with
  | none => simp [hs] at h
  | some p =>
  obtain ⟨nx, news⟩ := p
  simp only [hs] at h
  cases hc : (Nat.beq es ie.size && Nat.ble nx n && j.wr && news.all one && Nat.ble (o + news.length) j.cells.length) with
  | false => rw [hc] at h; cases h
  | true =>
  rw [hc] at h
  simp only [cond_true, fN_eq] at h
  simp only [Bool.and_eq_true] at hc
  obtain ⟨h1, h2, h3, h4⟩ := FH.sole_ok hx (b := b) (k := j) hj
  have h5 := h1.set h3 (j.cells.take o ++ news ++ j.cells.drop (o + news.length))
  refine ⟨_, _, h, h5.1, (x.sole j.fam b).st, _, h2, h5.2, fun K hk => ?_⟩
  unfold awCopy
  simp only [h0, ht, hd, he]
  have hsp := xSpread_ok hs
  exact ⟨b, o, n, c, nx, news, j, by rw [nbeq hc.1.1.1.1], Nat.le_of_ble_eq_true hc.1.1.1.2, spread_vlen hsp, hsp, h3, hc.1.1.2, h4, hc.1.2, Nat.le_of_ble_eq_true hc.2, hk⟩

end
end Go.Am
