import Derived.Test.YtibnnhdpaccpfaaDefs
namespace Go.Proofs.Ytibnnhdpaccpfaa

def Inst.dot (x : Inst) : Dot := (x.rep, x.n)
def dotsOf (x : Inst) (r k : Nat) : List Dot := (List.range k).filterMap fun (j : Nat) => if ((r : Int), (j : Int) + 1) = x.dot then none else some ((r : Int), (j : Int) + 1)
def Inst.depNat (x : Inst) (r : Nat) : Nat := (x.deps.get r).toNat
/-- all dots of replicas below r, and r's first k, that x hangs on -/
def depsTo (x : Inst) (r k : Nat) : List Dot := (List.range r).flatMap (fun r' => dotsOf x r' (x.depNat r')) ++ dotsOf x r k
def Inst.depDots (x : Inst) : List Dot := depsTo x 7 0

theorem dotsOf_succ (x : Inst) (r k : Nat) : dotsOf x r (k + 1) = dotsOf x r k ++ (if ((r : Int), (k : Int) + 1) = x.dot then [] else [((r : Int), (k : Int) + 1)]) := by
  unfold dotsOf
  rw [List.range_succ, List.filterMap_append]
  congr 1
  by_cases h : ((r : Int), (k : Int) + 1) = x.dot <;> simp [h]
theorem depsTo_succ (x : Inst) (r k : Nat) : depsTo x r (k + 1) = depsTo x r k ++ (if ((r : Int), (k : Int) + 1) = x.dot then [] else [((r : Int), (k : Int) + 1)]) := by
  unfold depsTo
  rw [dotsOf_succ, List.append_assoc]
theorem depsTo_next (x : Inst) (r : Nat) : depsTo x (r + 1) 0 = depsTo x r (x.depNat r) := by
  unfold depsTo
  rw [List.range_succ, List.flatMap_append]
  simp [dotsOf]
theorem depsTo_zero (x : Inst) : depsTo x 0 0 = [] := rfl
theorem depsTo_mono (x : Inst) (r k m : Nat) : depsTo x r k <+: depsTo x r (k + m) := by
  induction m with
  | zero => exact List.prefix_rfl
  | succ m ih => rw [← Nat.add_assoc, depsTo_succ]; exact ih.trans (List.prefix_append _ _)
theorem depsTo_up (x : Inst) (r m : Nat) : depsTo x r 0 <+: depsTo x (r + m) 0 := by
  induction m with
  | zero => exact List.prefix_rfl
  | succ m ih =>
    rw [← Nat.add_assoc, depsTo_next]
    refine ih.trans ?_
    have := depsTo_mono x (r + m) 0 (x.depNat (r + m))
    rwa [Nat.zero_add] at this
theorem depsTo_prefix (x : Inst) (r k : Nat) (hr : r < 7) (hk : k ≤ x.depNat r) : depsTo x r k <+: x.depDots := by
  obtain ⟨m, hm⟩ : ∃ m, x.depNat r = k + m := ⟨x.depNat r - k, by omega⟩
  obtain ⟨s, hs⟩ : ∃ s, 7 = (r + 1) + s := ⟨7 - (r + 1), by omega⟩
  have h1 := depsTo_mono x r k m
  rw [← hm, ← depsTo_next] at h1
  have h2 := depsTo_up x (r + 1) s
  rw [← hs] at h2
  exact h1.trans h2

def V7.depTo (k : Nat) (a : V7) : Bool := (List.range k).all fun i => decide (0 ≤ a.get i ∧ a.get i ≤ 1000)
theorem V7.depTo_succ (k : Nat) (a : V7) : V7.depTo (k + 1) a = (V7.depTo k a && decide (0 ≤ a.get k ∧ a.get k ≤ 1000)) := by
  simp [V7.depTo, List.range_succ]
theorem V7.depTo_false {k : Nat} {a : V7} (hk : k < 7) (h : a.get k < 0 ∨ 1000 < a.get k) : V7.depTo 7 a = false := by
  unfold V7.depTo
  rw [List.all_eq_false]
  exact ⟨k, by simpa using hk, by simp; omega⟩
def Inst.ok (x : Inst) : Bool := dotOk x.dot && decide (0 ≤ x.seq ∧ x.seq ≤ 1099511627776) && V7.depTo 7 x.deps
def freshAt (l : List Inst) (k : Nat) (x : Inst) : Bool := (l.take k).all fun y => y.dot != x.dot
def goodTo (l : List Inst) : Nat → Bool
  | 0 => true
  | k + 1 => goodTo l k && match l[k]? with | some x => x.ok && freshAt l k x | none => true
def goodL (l : List Inst) : Bool := goodTo l l.length && decide (l.length ≤ 1000)
theorem goodTo_mono (l : List Inst) (k m : Nat) (h : goodTo l k = false) : goodTo l (k + m) = false := by
  induction m with
  | zero => exact h
  | succ m ih => rw [← Nat.add_assoc]; simp [goodTo, ih]
theorem goodL_false {l : List Inst} {k : Nat} (hk : k < l.length) (h : l[k].ok = false ∨ freshAt l k l[k] = false) : goodL l = false := by
  have h1 : goodTo l (k + 1) = false := by
    simp only [goodTo, List.getElem?_eq_getElem hk]
    rcases h with h | h <;> simp [h]
  obtain ⟨m, hm⟩ : ∃ m, l.length = (k + 1) + m := ⟨l.length - (k + 1), by omega⟩
  unfold goodL
  rw [hm, goodTo_mono _ _ _ h1]
  rfl
theorem goodTo_step {l : List Inst} {k : Nat} (hk : k < l.length) (h0 : goodTo l k = true) (h1 : l[k].ok = true) (h2 : freshAt l k l[k] = true) : goodTo l (k + 1) = true := by
  simp [goodTo, h0, List.getElem?_eq_getElem hk, h1, h2]

/-- ahead: by Seq, Rep, N -/
def Inst.lt (x y : Inst) : Bool := decide (x.seq < y.seq ∨ (x.seq = y.seq ∧ (x.rep < y.rep ∨ (x.rep = y.rep ∧ x.n < y.n))))
theorem Inst.lt_trans {x y z : Inst} (h1 : x.lt y = true) (h2 : y.lt z = true) : x.lt z = true := by
  simp only [Inst.lt, decide_eq_true_eq] at *; omega
theorem Inst.lt_irrefl (x : Inst) : x.lt x = false := by simp [Inst.lt]
theorem Inst.lt_asymm {x y : Inst} (h1 : x.lt y = true) : y.lt x = false := by
  cases h : y.lt x with
  | false => rfl
  | true => have := Inst.lt_trans h1 h; rw [Inst.lt_irrefl] at this; cases this
theorem Inst.lt_total {x y : Inst} (h : x.dot ≠ y.dot) : x.lt y = true ∨ y.lt x = true := by
  simp only [Inst.lt, decide_eq_true_eq]
  have : ¬ (x.rep = y.rep ∧ x.n = y.n) := fun ⟨h1, h2⟩ => h (by simp [Inst.dot, h1, h2])
  omega
/-- s is l, in order -/
def IsSorted (l s : List Inst) : Prop := s.Perm l ∧ s.Pairwise (fun x y => x.lt y = true)
theorem sorted_unique : ∀ {s t : List Inst}, s.Perm t → s.Pairwise (fun x y => x.lt y = true) → t.Pairwise (fun x y => x.lt y = true) → s = t
  | [], t, hp, _, _ => by have := hp.length_eq; cases t with | nil => rfl | cons _ _ => simp at this
  | x :: s, t, hp, hs, ht => by
    cases t with
    | nil => have := hp.length_eq; simp at this
    | cons y t =>
      have hx : x ∈ y :: t := hp.subset List.mem_cons_self
      have hy : y ∈ x :: s := hp.symm.subset List.mem_cons_self
      have hs' := List.pairwise_cons.1 hs
      have ht' := List.pairwise_cons.1 ht
      have hxy : x = y := by
        rcases List.mem_cons.1 hx with h | h
        · exact h
        · rcases List.mem_cons.1 hy with h' | h'
          · exact h'.symm
          · have h1 := ht'.1 x h
            have h2 := hs'.1 y h'
            rw [Inst.lt_asymm h1] at h2; cases h2
      subst hxy
      rw [sorted_unique (List.Perm.cons_inv hp) hs'.2 ht'.2]
theorem IsSorted.unique {l s t : List Inst} (h : IsSorted l s) (k : IsSorted l t) : s = t := sorted_unique (h.1.trans k.1.symm) h.2 k.2
def NodupDots (l : List Inst) : Prop := l.Pairwise fun x y => x.dot ≠ y.dot
theorem NodupDots.perm {l s : List Inst} (h : NodupDots l) (hp : s.Perm l) : NodupDots s :=
  hp.symm.pairwise h (fun h => Ne.symm h)
theorem goodTo_take {l : List Inst} {k : Nat} (hk : k ≤ l.length) (h : goodTo l k = true) : (∀ x ∈ l.take k, x.ok = true) ∧ NodupDots (l.take k) := by
  induction k with
  | zero => exact ⟨by simp, by simp [NodupDots]⟩
  | succ k ih =>
    have hlt : k < l.length := by omega
    simp only [goodTo, List.getElem?_eq_getElem hlt, Bool.and_eq_true] at h
    obtain ⟨h1, h2⟩ := ih (by omega) h.1
    rw [List.take_succ_eq_append_getElem hlt]
    refine ⟨?_, ?_⟩
    · intro x hx
      rcases List.mem_append.1 hx with hx | hx
      · exact h1 x hx
      · rw [List.mem_singleton.1 hx]; exact h.2.1
    · unfold NodupDots
      rw [List.pairwise_append]
      refine ⟨h2, by simp, ?_⟩
      intro a ha b hb
      rw [List.mem_singleton.1 hb]
      have := h.2.2
      simp only [freshAt, List.all_eq_true, bne_iff_ne] at this
      exact this a ha
theorem goodL_spec {l : List Inst} (h : goodL l = true) : (∀ x ∈ l, x.ok = true) ∧ NodupDots l ∧ l.length ≤ 1000 := by
  simp only [goodL, Bool.and_eq_true, decide_eq_true_eq] at h
  have := goodTo_take (Nat.le_refl _) h.1
  rw [List.take_length] at this
  exact ⟨this.1, this.2, h.2⟩

/-- where each dot is, of the first k -/
def placeOf (s : List Inst) (k : Nat) : List (Dot × Value) := (List.range k).filterMap fun (i : Nat) => s[i]?.map fun x => (x.dot, Value.int .i64 (i : Int))
theorem placeOf_succ {s : List Inst} {k : Nat} (h : k < s.length) : placeOf s (k + 1) = placeOf s k ++ [(s[k].dot, Value.int .i64 (k : Int))] := by
  unfold placeOf
  rw [List.range_succ, List.filterMap_append]
  simp [List.getElem?_eq_getElem h]
theorem mem_placeOf {s : List Inst} {k : Nat} {p : Dot × Value} (h : p ∈ placeOf s k) : ∃ (i : Nat) (hi : i < s.length), i < k ∧ p = (s[i].dot, Value.int .i64 (i : Int)) := by
  unfold placeOf at h
  obtain ⟨i, hi, he⟩ := List.mem_filterMap.1 h
  have hk := List.mem_range.1 hi
  cases hs : s[i]? with
  | none => rw [hs] at he; simp at he
  | some x =>
    rw [hs] at he
    obtain ⟨hl, hx⟩ := List.getElem?_eq_some_iff.1 hs
    exact ⟨i, hl, hk, by rw [hx]; simpa using he.symm⟩

/-- the place of a dot -/
def posOf (s : List Inst) (d : Dot) : Option Nat := s.findIdx? fun x => x.dot == d
theorem posOf_some {s : List Inst} {d : Dot} {k : Nat} (h : posOf s d = some k) : ∃ hk : k < s.length, s[k].dot = d := by
  obtain ⟨hk, h1, _⟩ := List.findIdx?_eq_some_iff_getElem.1 h
  exact ⟨hk, by simpa using h1⟩
theorem posOf_none {s : List Inst} {d : Dot} (h : posOf s d = none) : ∀ x ∈ s, x.dot ≠ d := by
  intro x hx
  have := List.findIdx?_eq_none_iff.1 h x hx
  simpa using this
theorem nodup_idx {s : List Inst} (h : NodupDots s) {i j : Nat} (hi : i < s.length) (hj : j < s.length) (he : s[i].dot = s[j].dot) : i = j := by
  rcases Nat.lt_trichotomy i j with h1 | h1 | h1
  · exact absurd he (List.pairwise_iff_getElem.1 h i j hi hj h1)
  · exact h1
  · exact absurd he.symm (List.pairwise_iff_getElem.1 h j i hj hi h1)
theorem posOf_get {s : List Inst} (h : NodupDots s) {k : Nat} (hk : k < s.length) : posOf s s[k].dot = some k := by
  cases hp : posOf s s[k].dot with
  | none => exact absurd rfl (posOf_none hp s[k] (List.getElem_mem hk))
  | some j => obtain ⟨hj, he⟩ := posOf_some hp; rw [nodup_idx h hj hk he]
/-- on whom each hangs -/
def onOf (s : List Inst) : List (List Nat) := s.map fun x => x.depDots.filterMap (posOf s)
theorem mem_placeOf_all {s : List Inst} {k : Nat} (hk : k < s.length) : (s[k].dot, Value.int .i64 (k : Int)) ∈ placeOf s s.length := by
  unfold placeOf
  exact List.mem_filterMap.2 ⟨k, List.mem_range.2 hk, by simp [List.getElem?_eq_getElem hk]⟩
end Go.Proofs.Ytibnnhdpaccpfaa
