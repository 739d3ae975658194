/-
  THE PLAIN LAW OF 'tie' AND 'line': what waits, and who comes next.
-/
import Derived.Test.YtibnnhdpaccpfaaTiePure
namespace Go.Proofs.Ytibnnhdpaccpfaa

/-- group g hangs on group k, as a test -/
def hb (on A : List (List Nat)) (g k : Nat) : Bool := (k != g) && (A[g]?.getD []).any fun v => (on[v]?.getD []).any fun u => (A[k]?.getD []).contains u
theorem hb_iff {on A : List (List Nat)} {g k : Nat} : hb on A g k = true ↔ Hangs on A g k := by
  unfold hb Hangs Edge
  simp only [Bool.and_eq_true, bne_iff_ne, List.any_eq_true, List.contains_eq_mem, decide_eq_true_eq]
theorem hb_self (on A : List (List Nat)) (g : Nat) : hb on A g g = false := by simp [hb]

/-- on how many others g hangs that are not told -/
def waitsFor (on A : List (List Nat)) (told : List Nat) (g : Nat) : Nat := (List.range A.length).countP fun k => hb on A g k && !told.contains k

structure Tie1 (on A : List (List Nat)) (g : Nat) (W : List Nat) (B : List (List Nat)) : Prop where
  wl : W.length = A.length
  bl : B.length = A.length
  w : ∀ j, j < A.length → W[j]?.getD 0 = if j < g then waitsFor on A [] j else 0
  b : ∀ k, k < A.length → B[k]?.getD [] = (List.range g).filter fun j => hb on A j k
/-- what was found, up to place p of group g, and up to place q of what that one hangs on -/
def Found (on A : List (List Nat)) (g p q k : Nat) : Prop :=
  (∃ v ∈ (A[g]?.getD []).take p, ∃ u, Edge on v u ∧ u ∈ A[k]?.getD []) ∨ (∃ v, (A[g]?.getD [])[p]? = some v ∧ ∃ u ∈ (on[v]?.getD []).take q, u ∈ A[k]?.getD [])
structure Tie2 (on A : List (List Nat)) (g p q : Nat) (W : List Nat) (B : List (List Nat)) (H : List Bool) : Prop where
  wl : W.length = A.length
  bl : B.length = A.length
  hl : H.length = A.length
  w : ∀ j, j < A.length → j ≠ g → W[j]?.getD 0 = if j < g then waitsFor on A [] j else 0
  wg : W[g]?.getD 0 + 1 = H.count true
  b : ∀ k, k < A.length → B[k]?.getD [] = ((List.range g).filter fun j => hb on A j k) ++ (if H[k]? = some true ∧ k ≠ g then [g] else [])
  h : ∀ k, k < A.length → (H[k]? = some true ↔ k = g ∨ Found on A g p q k)

theorem Tie1.start (on A : List (List Nat)) : Tie1 on A 0 (List.replicate A.length 0) (List.replicate A.length []) where
  wl := by simp
  bl := by simp
  w j hj := by simp [hj]
  b k hk := by simp [hk]
theorem Tie1.in2 {on A : List (List Nat)} {g : Nat} {W : List Nat} {B : List (List Nat)} (h : Tie1 on A g W B) (hg : g < A.length) : Tie2 on A g 0 0 W B ((List.replicate A.length false).set g true) where
  wl := h.wl
  bl := h.bl
  hl := by simp
  w j hj _ := h.w j hj
  wg := by
    rw [h.w g hg, if_neg (by omega), count_set_true (by simpa using hg) (by simp)]
    simp [List.count_replicate]
  b k hk := by
    rw [h.b k hk]
    by_cases he : g = k
    · subst he; simp
    · rw [List.getElem?_set_ne he]; simp [hk]
  h k hk := by
    by_cases he : g = k
    · subst he; simp [hg]
    · rw [List.getElem?_set_ne he]
      simp only [List.getElem?_replicate, hk, if_true, Option.some.injEq, Bool.false_eq_true, false_iff, not_or]
      refine ⟨Ne.symm he, ?_⟩
      rintro (⟨v, hv, _⟩ | ⟨v, _, u, hu, _⟩)
      · simp at hv
      · simp at hu

theorem Found.next {on A : List (List Nat)} (hS : Sorted on A) {g p q k v u : Nat} {a : List Nat} (hv : (A[g]?.getD [])[p]? = some v) (hu : (on[v]?.getD [])[q]? = some u) (hk : A[k]? = some a) (hua : u ∈ a) (k' : Nat) :
    Found on A g p (q + 1) k' ↔ Found on A g p q k' ∨ k' = k := by
  obtain ⟨hq, hqe⟩ := List.getElem?_eq_some_iff.1 hu
  unfold Found
  constructor
  · rintro (h | ⟨v', hv', u', hu', hm⟩)
    · exact .inl (.inl h)
    · rw [hv] at hv'
      simp only [Option.some.injEq] at hv'
      subst hv'
      rw [List.take_succ_eq_append_getElem hq, List.mem_append, List.mem_singleton, hqe] at hu'
      rcases hu' with hu' | hu'
      · exact .inl (.inr ⟨v, hv, u', hu', hm⟩)
      · right
        rw [hu'] at hm
        cases hb : A[k']? with
        | none => rw [hb] at hm; simp at hm
        | some b =>
          rw [hb] at hm
          exact (hS.one hk hb hua hm).symm
  · rintro ((h | ⟨v', hv', u', hu', hm⟩) | h)
    · exact .inl h
    · refine .inr ⟨v', hv', u', ?_, hm⟩
      rw [hv] at hv'
      simp only [Option.some.injEq] at hv'
      subst hv'
      rw [List.take_succ_eq_append_getElem hq, List.mem_append]
      exact .inl hu'
    · refine .inr ⟨v, hv, u, ?_, by rw [h, hk]; exact hua⟩
      rw [List.take_succ_eq_append_getElem hq, List.mem_append, List.mem_singleton, hqe]
      exact .inr rfl

/-- to a group that was found already -/
theorem Tie2.old {on A : List (List Nat)} (hS : Sorted on A) {g p q k v u : Nat} {a : List Nat} {W : List Nat} {B : List (List Nat)} {H : List Bool} (h : Tie2 on A g p q W B H) (hv : (A[g]?.getD [])[p]? = some v) (hu : (on[v]?.getD [])[q]? = some u)
    (hk : A[k]? = some a) (hua : u ∈ a) (hH : H[k]? = some true) : Tie2 on A g p (q + 1) W B H :=
  ⟨h.wl, h.bl, h.hl, h.w, h.wg, h.b, fun k' hk' => by
    rw [h.h k' hk', Found.next hS hv hu hk hua]
    constructor
    · rintro (h1 | h1)
      · exact .inl h1
      · exact .inr (.inl h1)
    · rintro (h1 | h1 | h1)
      · exact .inl h1
      · exact .inr h1
      · have hkl : k < A.length := (List.getElem?_eq_some_iff.1 hk).1
        rw [h1]
        exact (h.h k hkl).1 hH⟩
/-- to a new one -/
theorem Tie2.new {on A : List (List Nat)} (hS : Sorted on A) {g p q k v u : Nat} {a : List Nat} {W : List Nat} {B : List (List Nat)} {H : List Bool} (h : Tie2 on A g p q W B H) (_hg : g < A.length) (hv : (A[g]?.getD [])[p]? = some v) (hu : (on[v]?.getD [])[q]? = some u)
    (hk : A[k]? = some a) (hua : u ∈ a) (hH : H[k]? = some false) (hkB : k < B.length) (hgW : g < W.length) : Tie2 on A g p (q + 1) (W.set g (W[g] + 1)) (B.set k (B[k] ++ [g])) (H.set k true) := by
  have hkl : k < A.length := (List.getElem?_eq_some_iff.1 hk).1
  have hkg : k ≠ g := fun he => by
    have := (h.h k hkl).2 (.inl he)
    rw [hH] at this; cases this
  obtain ⟨hkH, hkf⟩ := List.getElem?_eq_some_iff.1 hH
  refine ⟨by rw [List.length_set]; exact h.wl, by rw [List.length_set]; exact h.bl, by rw [List.length_set]; exact h.hl, fun j hj hne => ?_, ?_, fun k' hk' => ?_, fun k' hk' => ?_⟩
  · rw [List.getElem?_set_ne (Ne.symm hne)]; exact h.w j hj hne
  · rw [List.getElem?_set_self hgW, Option.getD_some, count_set_true hkH hkf, ← h.wg, List.getElem?_eq_getElem hgW]
    rfl
  · by_cases he : k = k'
    · subst he
      rw [List.getElem?_set_self hkB, List.getElem?_set_self hkH, Option.getD_some]
      have hb := h.b k hk'
      rw [hH, List.getElem?_eq_getElem hkB] at hb
      simp only [Option.getD_some] at hb
      rw [hb]
      simp [hkg]
    · rw [List.getElem?_set_ne he, List.getElem?_set_ne he]; exact h.b k' hk'
  · rw [Found.next hS hv hu hk hua]
    by_cases he : k = k'
    · subst he
      simp [hkH]
    · rw [List.getElem?_set_ne he, h.h k' hk']
      constructor
      · rintro (h1 | h1)
        · exact .inl h1
        · exact .inr (.inl h1)
      · rintro (h1 | h1 | h1)
        · exact .inl h1
        · exact .inr h1
        · exact absurd h1.symm he

theorem Found.past {on A : List (List Nat)} {g p q v : Nat} (hv : (A[g]?.getD [])[p]? = some v) (hq : (on[v]?.getD []).length ≤ q) (k : Nat) : Found on A g (p + 1) 0 k ↔ Found on A g p q k := by
  obtain ⟨hp, hpe⟩ := List.getElem?_eq_some_iff.1 hv
  unfold Found
  rw [List.take_succ_eq_append_getElem hp, hpe]
  constructor
  · rintro (⟨v', hv', u, hu, hm⟩ | ⟨v', _, u, hu, _⟩)
    · rcases List.mem_append.1 hv' with h | h
      · exact .inl ⟨v', h, u, hu, hm⟩
      · rw [List.mem_singleton.1 h] at hu
        exact .inr ⟨v, hv, u, by rw [List.take_of_length_le hq]; exact hu, hm⟩
    · simp at hu
  · rintro (⟨v', hv', u, hu, hm⟩ | ⟨v', hv', u, hu, hm⟩)
    · exact .inl ⟨v', List.mem_append.2 (.inl hv'), u, hu, hm⟩
    · rw [hv] at hv'
      simp only [Option.some.injEq] at hv'
      subst hv'
      exact .inl ⟨v, List.mem_append.2 (.inr (List.mem_singleton.2 rfl)), u, List.mem_of_mem_take hu, hm⟩
/-- one of the group is done -/
theorem Tie2.past {on A : List (List Nat)} {g p q v : Nat} {W : List Nat} {B : List (List Nat)} {H : List Bool} (h : Tie2 on A g p q W B H) (hv : (A[g]?.getD [])[p]? = some v) (hq : (on[v]?.getD []).length ≤ q) : Tie2 on A g (p + 1) 0 W B H :=
  ⟨h.wl, h.bl, h.hl, h.w, h.wg, h.b, fun k hk => by rw [h.h k hk, Found.past hv hq]⟩
theorem found_all {on A : List (List Nat)} {g p k : Nat} (hp : (A[g]?.getD []).length ≤ p) : Found on A g p 0 k ↔ ∃ v ∈ A[g]?.getD [], ∃ u, Edge on v u ∧ u ∈ A[k]?.getD [] := by
  unfold Found
  rw [List.take_of_length_le hp]
  simp
theorem count_range (H : List Bool) : H.count true = (List.range H.length).countP (fun k => H[k]? == some true) := by
  have h : H = (List.range H.length).map (fun k => H[k]?.getD false) := by
    apply List.ext_getElem?
    intro i
    rw [List.getElem?_map]
    by_cases hi : i < H.length
    · simp [hi]
    · rw [List.getElem?_eq_none (by omega), List.getElem?_eq_none (by simpa using hi)]; rfl
  have h1 : H.count true = ((List.range H.length).map (fun k => H[k]?.getD false)).count true := congrArg _ h
  rw [h1, List.count, List.countP_map]
  refine List.countP_congr fun k hk => ?_
  have := List.mem_range.1 hk
  simp [this]
theorem countP_more (n g : Nat) (p : Nat → Bool) (hg : g < n) (hp : p g = false) : (List.range n).countP (fun k => k == g || p k) = (List.range n).countP p + 1 := by
  induction n with
  | zero => omega
  | succ n ih =>
    rw [List.range_succ, List.countP_append, List.countP_append]
    by_cases h : g = n
    · subst h
      have : (List.range g).countP (fun k => k == g || p k) = (List.range g).countP p := List.countP_congr fun k hk => by
        have h1 := List.mem_range.1 hk
        have h2 : (k == g) = false := by simp; omega
        simp [h2]
      rw [this]; simp [hp]
    · rw [ih (by omega)]
      have : (n == g) = false := by simp; omega
      simp only [List.countP_singleton, this, Bool.false_or]
      omega
/-- the group is done -/
theorem Tie2.out {on A : List (List Nat)} {g p : Nat} {W : List Nat} {B : List (List Nat)} {H : List Bool} (h : Tie2 on A g p 0 W B H) (hg : g < A.length) (hp : (A[g]?.getD []).length ≤ p) : Tie1 on A (g + 1) W B := by
  have hH : ∀ k, k < A.length → (H[k]? = some true ↔ k = g ∨ hb on A g k = true) := fun k hk => by
    rw [h.h k hk, found_all hp, hb_iff]
    constructor
    · rintro (h | h)
      · exact .inl h
      · by_cases he : k = g
        · exact .inl he
        · exact .inr ⟨he, h⟩
    · rintro (h | h)
      · exact .inl h
      · exact .inr h.2
  refine ⟨h.wl, h.bl, fun j hj => ?_, fun k hk => ?_⟩
  · by_cases he : j = g
    · subst he
      rw [if_pos (by omega)]
      have h1 := h.wg
      rw [count_range, h.hl] at h1
      have h2 : (List.range A.length).countP (fun k => H[k]? == some true) = (List.range A.length).countP (fun k => k == j || hb on A j k) := List.countP_congr fun k hk => by
        have := hH k (List.mem_range.1 hk)
        simpa using this
      rw [h2, countP_more _ _ _ hg (hb_self on A j)] at h1
      unfold waitsFor
      have h3 : (List.range A.length).countP (fun k => hb on A j k && !([] : List Nat).contains k) = (List.range A.length).countP (hb on A j) := List.countP_congr fun k _ => by simp
      rw [h3]
      omega
    · rw [h.w j hj he]
      by_cases hlt : j < g
      · rw [if_pos hlt, if_pos (by omega)]
      · rw [if_neg hlt, if_neg (by omega)]
  · rw [h.b k hk, List.range_succ, List.filter_append]
    congr 1
    by_cases he : k = g
    · subst he; simp [hb_self]
    · by_cases hh : hb on A g k = true
      · rw [if_pos ⟨(hH k hk).2 (.inr hh), he⟩]; simp [hh]
      · have : H[k]? ≠ some true := fun hc => ((hH k hk).1 hc).elim he hh
        rw [if_neg (fun hc => this hc.1)]
        simp at hh
        simp [hh]
end Go.Proofs.Ytibnnhdpaccpfaa
