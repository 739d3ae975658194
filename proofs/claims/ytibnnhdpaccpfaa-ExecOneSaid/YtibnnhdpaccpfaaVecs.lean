import Derived.Test.YtibnnhdpaccpfaaOneLaw
import Derived.Test.YtibnnhdpaccpfaaOpen
namespace Go.Proofs.Ytibnnhdpaccpfaa
open Go.RowKit

theorem range_below {w w' : World} {b o : Nat} {cs : List Value} (h : w.rangeAt b o cs) (hb : Below w.heap.size w w') (hl : b < w.heap.size) : w'.rangeAt b o cs := fun j u hj => (hb.cell hl).trans (h j u hj)
/-- rows that came in -/
def InstsIn (w : World) (v : Value) (l : List Inst) : Prop := ∃ p c, v = .slice p l.length c ∧ l.length ≤ c ∧ c ≤ maxLen ∧ (0 < l.length → ∃ b o, p = some ⟨b, o, none⟩ ∧ b < w.heap.size ∧ ∀ (k : Nat) (i : Inst), l[k]? = some i → w.rangeAt b (o + k * 10) (instCells i))
def VecsIn (w : World) (v : Value) (l : List V7) : Prop := ∃ p c, v = .slice p l.length c ∧ l.length ≤ c ∧ c ≤ maxLen ∧ (0 < l.length → ∃ b o, p = some ⟨b, o, none⟩ ∧ b < w.heap.size ∧ ∀ (k : Nat) (x : V7), l[k]? = some x → w.rangeAt b (o + k * 7) x.cells)
theorem instsCells_idx (l : List Inst) : ∀ (j : Nat) (u : Value), (instsCells l)[j]? = some u → ∃ (k : Nat) (i : Inst), l[k]? = some i ∧ ∃ q, j = k * 10 + q ∧ (instCells i)[q]? = some u := by
  induction l with
  | nil => intro j u h; simp [instsCells] at h
  | cons i l ih =>
    intro j u h
    have he : instsCells (i :: l) = instCells i ++ instsCells l := by simp [instsCells]
    rw [he] at h
    by_cases hj : j < 10
    · rw [List.getElem?_append_left (by rw [instCells_len]; exact hj)] at h
      exact ⟨0, i, rfl, j, by omega, h⟩
    · rw [List.getElem?_append_right (by rw [instCells_len]; omega), instCells_len] at h
      obtain ⟨k, i', h1, q, h2, h3⟩ := ih (j - 10) u h
      exact ⟨k + 1, i', by simpa using h1, q, by omega, h3⟩
theorem InstsIn.cellsAt {w : World} {b o : Nat} {l : List Inst} (h : ∀ (k : Nat) (i : Inst), l[k]? = some i → w.rangeAt b (o + k * 10) (instCells i)) : CellsAt w b o (instsCells l) := by
  intro j u hj
  obtain ⟨k, i, h1, q, rfl, h3⟩ := instsCells_idx l j u hj
  have := h k i h1 q u h3
  rw [← this]
  congr 2
  omega

/-! ### of any two, one hangs on the other -/
def pairOk (x y : Inst) : Prop := y.n ≤ x.deps.get y.rep.toNat ∨ x.n ≤ y.deps.get x.rep.toNat
def pairsTo (l : List Inst) (i j : Nat) : Prop := (∀ b a x y, b < i → a < b → l[b]? = some x → l[a]? = some y → pairOk x y) ∧ ∀ a x y, a < j → l[i]? = some x → l[a]? = some y → pairOk x y
theorem pairsTo.row {l : List Inst} {i : Nat} (h : pairsTo l i i) : pairsTo l (i + 1) 0 := ⟨fun b a x y hb ha hx hy => by
  by_cases hbi : b < i
  · exact h.1 b a x y hbi ha hx hy
  · obtain rfl : b = i := by omega
    exact h.2 a x y ha hx hy, fun a x y ha => absurd ha (Nat.not_lt_zero _)⟩
theorem pairsTo.next {l : List Inst} {i j : Nat} (h : pairsTo l i j) {x y : Inst} (hx : l[i]? = some x) (hy : l[j]? = some y) (hp : pairOk x y) : pairsTo l i (j + 1) := ⟨h.1, fun a x' y' ha hx' hy' => by
  by_cases haj : a < j
  · exact h.2 a x' y' haj hx' hy'
  · obtain rfl : a = j := by omega
    rw [hx] at hx'
    rw [hy] at hy'
    obtain rfl := Option.some.inj hx'
    obtain rfl := Option.some.inj hy'
    exact hp⟩
theorem ok_dot {x : Inst} (h : x.ok = true) : 0 ≤ x.rep ∧ x.rep < 7 ∧ 1 ≤ x.n ∧ x.n ≤ 1000 := by
  unfold Inst.ok dotOk at h
  simp only [Bool.and_eq_true, decide_eq_true_eq] at h
  exact h.1.1
theorem nodupDots_ne {l : List Inst} (h : NodupDots l) {a b : Nat} {x y : Inst} (hab : a < b) (hx : l[a]? = some x) (hy : l[b]? = some y) : x.dot ≠ y.dot := by
  obtain ⟨ha, rfl⟩ := List.getElem?_eq_some_iff.1 hx
  obtain ⟨hb, rfl⟩ := List.getElem?_eq_some_iff.1 hy
  exact List.pairwise_iff_getElem.1 h a b ha hb hab
theorem tourney_of {l : List Inst} (hg : goodL l = true) {j : Nat} (h : pairsTo l l.length j) : Tourney l := by
  obtain ⟨hok, hnd, _⟩ := goodL_spec hg
  have key : ∀ (a b : Nat) (x y : Inst), a < b → l[a]? = some x → l[b]? = some y → y.dot ∈ x.depDots ∨ x.dot ∈ y.depDots := fun a b x y hab hx hy => by
    have hne := nodupDots_ne hnd hab hx hy
    have hxo := ok_dot (hok x (List.mem_of_getElem? hx))
    have hyo := ok_dot (hok y (List.mem_of_getElem? hy))
    have hbl := (List.getElem?_eq_some_iff.1 hy).1
    rcases h.1 b a y x hbl hab hy hx with hp | hp
    · exact .inr (mem_depDots.2 ⟨hne, hxo.1, hxo.2.1, hxo.2.2.1, hp⟩)
    · exact .inl (mem_depDots.2 ⟨hne.symm, hyo.1, hyo.2.1, hyo.2.2.1, hp⟩)
  intro x hx y hy hne
  obtain ⟨a, ha⟩ := List.getElem?_of_mem hx
  obtain ⟨b, hb⟩ := List.getElem?_of_mem hy
  rcases Nat.lt_trichotomy a b with hab | hab | hab
  · exact key a b x y hab ha hb
  · subst hab
    rw [ha] at hb
    exact absurd (Option.some.inj hb) hne
  · exact (key b a y x hab hb ha).symm

/-! ### two execs, side by side -/
def TwoAt (w0 w : World) (xb yb : Nat) (l : List Inst) (x y : XS) : Prop :=
  ∃ F G, XAt w0.heap.size w xb F x ∧ XAt w0.heap.size w yb G y ∧ (∀ k, F k → ¬ G k) ∧ OneInv l x ∧ OneInv l y ∧ Below w0.heap.size w0 w
theorem TwoAt.swap {w0 w : World} {xb yb : Nat} {l : List Inst} {x y : XS} (h : TwoAt w0 w xb yb l x y) : TwoAt w0 w yb xb l y x := by
  obtain ⟨F, G, h1, h2, h3, h4, h5, h6⟩ := h
  exact ⟨G, F, h2, h1, fun k hg hf => h3 k hf hg, h5, h4, h6⟩
theorem TwoAt.below {w0 w w' : World} {xb yb : Nat} {l : List Inst} {x y : XS} (h : TwoAt w0 w xb yb l x y) (hb : Below w.heap.size w w') : TwoAt w0 w' xb yb l x y := by
  obtain ⟨F, G, h1, h2, h3, h4, h5, h6⟩ := h
  exact ⟨F, G, h1.below hb, h2.below hb, h3, h4, h5, h6.trans (hb.mono h6.size)⟩
def Two (w0 w : World) (xb yb : Nat) (l : List Inst) : Prop := ∃ x y, TwoAt w0 w xb yb l x y
theorem Two.swap {w0 w : World} {xb yb : Nat} {l : List Inst} (h : Two w0 w xb yb l) : Two w0 w yb xb l := by
  obtain ⟨x, y, h⟩ := h
  exact ⟨y, x, h.swap⟩
theorem Two.below {w0 w w' : World} {xb yb : Nat} {l : List Inst} (h : Two w0 w xb yb l) (hb : Below w.heap.size w w') : Two w0 w' xb yb l := by
  obtain ⟨x, y, h⟩ := h
  exact ⟨x, y, h.below hb⟩
theorem Two.old {w0 w : World} {xb yb : Nat} {l : List Inst} (h : Two w0 w xb yb l) : Below w0.heap.size w0 w := by
  obtain ⟨x, y, F, G, _, _, _, _, _, h6⟩ := h
  exact h6
theorem two_commit (w0 w : World) (xb yb : Nat) (l : List Inst) (h : Two w0 w xb yb l) (i : Inst) (hi : i ∈ l) (v : V7) :
    Calls Try.prog 8 #[.pointer (some ⟨xb, 0, none⟩), .agg #[.int .i64 i.rep, .int .i64 i.n, .int .i64 i.seq, .int .i64 i.deps.a0, .int .i64 i.deps.a1, .int .i64 i.deps.a2, .int .i64 i.deps.a3, .int .i64 i.deps.a4, .int .i64 i.deps.a5, .int .i64 i.deps.a6], .agg #[.int .i64 v.a0, .int .i64 v.a1, .int .i64 v.a2, .int .i64 v.a3, .int .i64 v.a4, .int .i64 v.a5, .int .i64 v.a6], .slice none 0 0] w fun e w' => (∃ c, e = .returned (.int .i64 c)) ∧ Two w0 w' xb yb l := by
  obtain ⟨x, y, F, G, h1, h2, h3, h4, h5, h6⟩ := h
  refine (xcommit_any w0.heap.size w xb F x h1 h4.ok i v _ [] (.inl (.inl ⟨rfl, rfl, rfl⟩))).mono ?_
  rintro e w' ⟨b, F', rfl, hx', hF', hm, _⟩
  exact ⟨⟨_, rfl⟩, _, y, F', G, hx', h2.frame hm (fun k hk hf => h3 k hf hk), fun k hk hg => (hF' k hk).elim (fun hf => h3 k hf hg) (fun hn => by have := (h2.low k hg).2; omega), h4.commit hi v b [], h5, below_step h6 h1 hm⟩
theorem two_have (w0 w : World) (xb yb : Nat) (l : List Inst) (h : Two w0 w xb yb l) (hnd : NodupDots l) (ht : Tourney l) (v : V7) :
    Calls Try.prog 9 #[.pointer (some ⟨xb, 0, none⟩), .agg #[.int .i64 v.a0, .int .i64 v.a1, .int .i64 v.a2, .int .i64 v.a3, .int .i64 v.a4, .int .i64 v.a5, .int .i64 v.a6]] w fun e w' => (∃ c, e = .returned c) ∧ Two w0 w' xb yb l := by
  obtain ⟨x, y, F, G, h1, h2, h3, h4, h5, h6⟩ := h
  refine (xhave_any w0.heap.size w xb F x h1 h4.ok v).mono ?_
  rintro e w' ⟨D, nv, F', rfl, hD, _, hx', hF', hm⟩
  exact ⟨⟨_, rfl⟩, _, y, F', G, hx', h2.frame hm (fun k hk hf => h3 k hf hk), fun k hk hg => (hF' k hk).elim (fun hf => h3 k hf hg) (fun hn => by have := (h2.low k hg).2; omega), h4.run hnd ht v hD, h5, below_step h6 h1 hm⟩
theorem Sl0.take {w : World} {v : Value} {D : List Dot} (h : Sl0 w v D.length (dotCells D)) : ∃ p c, v = .slice p D.length c ∧ D.length ≤ c ∧ ∀ n, n ≤ D.length → SlAt w (.slice p n c) (D.take n).length (dotCells (D.take n)) := by
  rcases h with ⟨rfl, h0, _⟩ | ⟨b, cap, rfl, hn, hc, hl⟩
  · refine ⟨none, 0, by rw [h0], by omega, fun n hn => .inl ?_⟩
    have hD : D = [] := List.length_eq_zero_iff.1 h0
    subst hD
    obtain rfl : n = 0 := by simpa using hn
    exact ⟨rfl, rfl, rfl⟩
  · refine ⟨_, cap, rfl, hn, fun n hle => .inr ⟨b, 0, cap, ?_, ?_, fun j u hj => hc j u ?_, fun _ => hl⟩⟩
    · rw [List.length_take, Nat.min_eq_left hle]
    · rw [List.length_take]; omega
    · have h2 : dotCells D = dotCells (D.take n) ++ dotCells (D.drop n) := by
        unfold dotCells
        rw [← List.flatMap_append, List.take_append_drop]
      rw [h2, List.getElem?_append_left (List.getElem?_eq_some_iff.1 hj).1]
      exact hj
end Go.Proofs.Ytibnnhdpaccpfaa
