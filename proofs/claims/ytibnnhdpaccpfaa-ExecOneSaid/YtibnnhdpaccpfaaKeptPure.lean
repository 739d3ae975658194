import Derived.Test.YtibnnhdpaccpfaaGrid
namespace Go.Proofs.Ytibnnhdpaccpfaa

/-- what a dot's instance is there for: in the list, or told of by P -/
def thereIn (s : List Inst) (P : Dot → Bool) (d : Dot) : Bool := (posOf s d).isSome || P d
def lacks0 (s : List Inst) (P : Dot → Bool) (i : Nat) : Prop := ∃ h : i < s.length, s[i].depDots.all (thereIn s P) = false
def onAt (s : List Inst) (i : Nat) : List Nat := (onOf s)[i]?.getD []
theorem onAt_get (s : List Inst) (i : Nat) (h : i < s.length) : onAt s i = posns s s[i].depDots := by
  unfold onAt
  rw [List.getElem?_eq_getElem (by rw [onOf_len]; exact h)]
  simp only [Option.getD_some]
  exact onOf_get s i _ h
theorem onAt_lt (s : List Inst) (i k : Nat) (h : k ∈ onAt s i) : k < s.length := by
  unfold onAt at h
  cases hg : (onOf s)[i]? with
  | none => rw [hg] at h; simp at h
  | some r =>
    rw [hg] at h
    simp only [Option.getD_some] at h
    obtain ⟨hi, he⟩ := List.getElem?_eq_some_iff.1 hg
    rw [onOf_get s i hi (by rw [onOf_len] at hi; exact hi)] at he
    subst he
    obtain ⟨d, _, hd⟩ := List.mem_filterMap.1 h
    exact (posOf_some hd).1
theorem onAt_len (s : List Inst) (hsm : ∀ x ∈ s, x.small) (i : Nat) : (onAt s i).length ≤ 7000 := by
  by_cases h : i < s.length
  · rw [onAt_get s i h]
    exact Nat.le_trans (List.length_filterMap_le _ _) (depDots_len _ (hsm _ (List.getElem_mem h)))
  · unfold onAt
    rw [List.getElem?_eq_none (by rw [onOf_len]; omega)]
    simp

structure Kept1 (s : List Inst) (P : Dot → Bool) (i : Nat) (R : List (List Nat)) (T : List Nat) (L : List Bool) : Prop where
  rlen : R.length = s.length
  llen : L.length = s.length
  mem : ∀ k j, k < s.length → (j ∈ R[k]?.getD [] ↔ j < i ∧ k ∈ onAt s j)
  rl : ∀ r ∈ R, r.length ≤ 7000 * i
  lk : ∀ j, L[j]? = some true ↔ (j < i ∧ lacks0 s P j)
  tm : ∀ j, j ∈ T ↔ L[j]? = some true
  tl : T.length = L.count true
structure Kept2 (s : List Inst) (i q : Nat) (R : List (List Nat)) : Prop where
  rlen : R.length = s.length
  mem : ∀ k j, k < s.length → (j ∈ R[k]?.getD [] ↔ (j < i ∧ k ∈ onAt s j) ∨ (j = i ∧ k ∈ (onAt s i).take q))
  rl : ∀ r ∈ R, r.length ≤ 7000 * i + q

theorem Kept1.start (s : List Inst) (P : Dot → Bool) : Kept1 s P 0 (List.replicate s.length []) [] (List.replicate s.length false) where
  rlen := by simp
  llen := by simp
  mem k j hk := by simp [hk]
  rl r hr := by rw [List.eq_of_mem_replicate hr]; simp
  lk j := by simp [List.getElem?_replicate]
  tm j := by simp [List.getElem?_replicate]
  tl := by simp [List.count_replicate]
theorem Kept1.in2 {s : List Inst} {P : Dot → Bool} {i : Nat} {R : List (List Nat)} {T : List Nat} {L : List Bool} (h : Kept1 s P i R T L) : Kept2 s i 0 R where
  rlen := h.rlen
  mem k j hk := by rw [h.mem k j hk]; simp
  rl r hr := h.rl r hr
theorem Kept2.next {s : List Inst} {i q : Nat} {R : List (List Nat)} (h : Kept2 s i q R) (hq : q < (onAt s i).length) (hk : (onAt s i)[q] < R.length) :
    Kept2 s i (q + 1) (R.set (onAt s i)[q] (R[(onAt s i)[q]] ++ [i])) where
  rlen := by rw [List.length_set]; exact h.rlen
  mem k j hk' := by
    have hm := h.mem k j hk'
    rw [List.take_succ_eq_append_getElem hq]
    by_cases he : (onAt s i)[q] = k
    · subst he
      rw [List.getElem?_eq_getElem hk] at hm
      simp only [Option.getD_some] at hm
      simp only [List.getElem?_set_self hk, Option.getD_some, List.mem_append, List.mem_singleton, hm]
      constructor
      · rintro (h | h)
        · rcases h with h | h
          · exact .inl h
          · exact .inr ⟨h.1, .inl h.2⟩
        · exact .inr ⟨h, .inr trivial⟩
      · rintro (h | ⟨h1, h2⟩)
        · exact .inl (.inl h)
        · exact .inr h1
    · rw [List.getElem?_set_ne he, hm]
      simp only [List.mem_append, List.mem_singleton]
      constructor
      · rintro (h | h)
        · exact .inl h
        · exact .inr ⟨h.1, .inl h.2⟩
      · rintro (h | ⟨h1, h2 | h2⟩)
        · exact .inl h
        · exact .inr ⟨h1, h2⟩
        · exact absurd h2.symm he
  rl r hr := by
    rcases List.mem_or_eq_of_mem_set hr with h' | h'
    · have := h.rl r h'; omega
    · subst h'
      have := h.rl _ (List.getElem_mem hk)
      simp; omega
theorem Kept2.out {s : List Inst} {P : Dot → Bool} {i : Nat} {R R' : List (List Nat)} {T : List Nat} {L : List Bool} (h : Kept1 s P i R T L) (h2 : Kept2 s i (onAt s i).length R') (hl : (onAt s i).length ≤ 7000) (hno : ¬ lacks0 s P i) : Kept1 s P (i + 1) R' T L where
  rlen := h2.rlen
  llen := h.llen
  mem k j hk := by
    rw [h2.mem k j hk, List.take_length]
    constructor
    · rintro (⟨h1, h3⟩ | ⟨h1, h3⟩)
      · exact ⟨by omega, h3⟩
      · exact ⟨by omega, by rw [h1]; exact h3⟩
    · rintro ⟨h1, h3⟩
      rcases Nat.lt_succ_iff_lt_or_eq.1 h1 with h | h
      · exact .inl ⟨h, h3⟩
      · exact .inr ⟨h, by rw [← h]; exact h3⟩
  rl r hr := by have := h2.rl r hr; omega
  lk j := by
    rw [h.lk]
    constructor
    · rintro ⟨h1, h2⟩; exact ⟨by omega, h2⟩
    · rintro ⟨h1, h3⟩
      rcases Nat.lt_succ_iff_lt_or_eq.1 h1 with h | h
      · exact ⟨h, h3⟩
      · exact absurd (h ▸ h3) hno
  tm := h.tm
  tl := h.tl
theorem count_set_true {L : List Bool} {i : Nat} (hi : i < L.length) (h : L[i] = false) : (L.set i true).count true = L.count true + 1 := by
  rw [List.count_set hi]
  simp [h]
theorem Kept2.lack {s : List Inst} {P : Dot → Bool} {i : Nat} {R R' : List (List Nat)} {T : List Nat} {L : List Bool} (h : Kept1 s P i R T L) (h2 : Kept2 s i (onAt s i).length R') (hl : (onAt s i).length ≤ 7000) (hlk : lacks0 s P i) :
    Kept1 s P (i + 1) R' (T ++ [i]) (L.set i true) := by
  have hi : i < L.length := by rw [h.llen]; exact hlk.1
  have hfalse : L[i] = false := by
    cases hc : L[i] with
    | false => rfl
    | true =>
      have := (h.lk i).1 (by rw [List.getElem?_eq_getElem hi, hc])
      omega
  refine ⟨h2.rlen, by rw [List.length_set]; exact h.llen, ?_, fun r hr => by have := h2.rl r hr; omega, fun j => ?_, fun j => ?_, ?_⟩
  · intro k j hk
    rw [h2.mem k j hk, List.take_length]
    constructor
    · rintro (⟨h1, h3⟩ | ⟨h1, h3⟩)
      · exact ⟨by omega, h3⟩
      · exact ⟨by omega, by rw [h1]; exact h3⟩
    · rintro ⟨h1, h3⟩
      rcases Nat.lt_succ_iff_lt_or_eq.1 h1 with h | h
      · exact .inl ⟨h, h3⟩
      · exact .inr ⟨h, by rw [← h]; exact h3⟩
  · by_cases he : i = j
    · subst he
      simp [hi, hlk]
    · rw [List.getElem?_set_ne he, h.lk]
      constructor
      · rintro ⟨h1, h2⟩; exact ⟨by omega, h2⟩
      · rintro ⟨h1, h2⟩; exact ⟨by omega, h2⟩
  · by_cases he : i = j
    · subst he
      simp [hi]
    · rw [List.getElem?_set_ne he, List.mem_append, h.tm]
      simp only [List.mem_singleton]
      constructor
      · rintro (h | h)
        · exact h
        · exact absurd h.symm he
      · exact .inl
  · rw [count_set_true hi hfalse, List.length_append, h.tl]
    rfl

/-- the second part: a turned through todo -/
structure Kept3 (s : List Inst) (P : Dot → Bool) (R : List (List Nat)) (T : List Nat) (L : List Bool) : Prop where
  llen : L.length = s.length
  tm : ∀ j, j ∈ T ↔ L[j]? = some true
  tl : T.length = L.count true
  base : ∀ j, lacks0 s P j → L[j]? = some true
  least : ∀ X : Nat → Prop, (∀ j, lacks0 s P j → X j) → (∀ j k, j < s.length → k ∈ onAt s j → X k → X j) → ∀ j, L[j]? = some true → X j
def Kept3.upTo (R : List (List Nat)) (T : List Nat) (L : List Bool) (a : Nat) : Prop := ∀ p, p < a → ∀ t, T[p]? = some t → ∀ j ∈ R[t]?.getD [], L[j]? = some true
theorem Kept1.in3 {s : List Inst} {P : Dot → Bool} {R : List (List Nat)} {T : List Nat} {L : List Bool} (h : Kept1 s P s.length R T L) : Kept3 s P R T L where
  llen := h.llen
  tm := h.tm
  tl := h.tl
  base j hj := (h.lk j).2 ⟨hj.1, hj⟩
  least _X h0 _ j hj := h0 j ((h.lk j).1 hj).2
theorem Kept3.tlen {s : List Inst} {P : Dot → Bool} {R : List (List Nat)} {T : List Nat} {L : List Bool} (h : Kept3 s P R T L) : T.length ≤ s.length := by
  rw [h.tl, ← h.llen]; exact List.count_le_length
/-- one more that lacks -/
theorem Kept3.more {s : List Inst} {P : Dot → Bool} {R : List (List Nat)} {T : List Nat} {L : List Bool} (h : Kept3 s P R T L) {a t j : Nat} (ht : T[a]? = some t) (hj : j ∈ R[t]?.getD [])
    (hR : ∀ k j, k < s.length → (j ∈ R[k]?.getD [] ↔ j < s.length ∧ k ∈ onAt s j)) (hn : L[j]? = some false) : Kept3 s P R (T ++ [j]) (L.set j true) := by
  obtain ⟨hjl, hjf⟩ := List.getElem?_eq_some_iff.1 hn
  have htL : L[t]? = some true := (h.tm t).1 (List.mem_of_getElem? ht)
  have htl : t < s.length := by rw [← h.llen]; exact (List.getElem?_eq_some_iff.1 htL).1
  refine ⟨by rw [List.length_set]; exact h.llen, fun i => ?_, ?_, fun i hi => ?_, fun X h0 h1 i hi => ?_⟩
  · by_cases he : j = i
    · subst he; simp [hjl]
    · rw [List.getElem?_set_ne he, List.mem_append, h.tm]
      simp only [List.mem_singleton]
      constructor
      · rintro (h | h)
        · exact h
        · exact absurd h.symm he
      · exact .inl
  · rw [count_set_true hjl hjf, List.length_append, h.tl]; rfl
  · by_cases he : j = i
    · subst he; simp [hjl]
    · rw [List.getElem?_set_ne he]; exact h.base i hi
  · by_cases he : j = i
    · subst he
      have := (hR t j htl).1 hj
      exact h1 j t this.1 this.2 (h.least X h0 h1 t htL)
    · rw [List.getElem?_set_ne he] at hi
      exact h.least X h0 h1 i hi
theorem set_true_mono {L : List Bool} {j i : Nat} (h : L[i]? = some true) : (L.set j true)[i]? = some true := by
  by_cases he : j = i
  · subst he
    have := (List.getElem?_eq_some_iff.1 h).1
    simp [this]
  · rw [List.getElem?_set_ne he]; exact h
theorem Kept3.upTo_more {R : List (List Nat)} {T : List Nat} {L : List Bool} {a j : Nat} (h : Kept3.upTo R T L a) (ha : a ≤ T.length) : Kept3.upTo R (T ++ [j]) (L.set j true) a := by
  intro p hp t ht i hi
  rw [List.getElem?_append_left (by omega)] at ht
  exact set_true_mono (h p hp t ht i hi)

/-- what lacks, in the end -/
structure KeptSet (s : List Inst) (P : Dot → Bool) (L : List Bool) : Prop where
  llen : L.length = s.length
  base : ∀ j, lacks0 s P j → L[j]? = some true
  closed : ∀ j k, j < s.length → k ∈ onAt s j → L[k]? = some true → L[j]? = some true
  least : ∀ X : Nat → Prop, (∀ j, lacks0 s P j → X j) → (∀ j k, j < s.length → k ∈ onAt s j → X k → X j) → ∀ j, L[j]? = some true → X j
theorem Kept3.set {s : List Inst} {P : Dot → Bool} {R : List (List Nat)} {T : List Nat} {L : List Bool} (h : Kept3 s P R T L) (hu : Kept3.upTo R T L T.length) (hR : ∀ k j, k < s.length → (j ∈ R[k]?.getD [] ↔ j < s.length ∧ k ∈ onAt s j)) : KeptSet s P L where
  llen := h.llen
  base := h.base
  closed j k hj hk hL := by
    obtain ⟨p, hp, he⟩ := List.getElem_of_mem ((h.tm k).2 hL)
    exact hu p hp k (by rw [List.getElem?_eq_getElem hp, he]) j ((hR k j (onAt_lt s j k hk)).2 ⟨hj, hk⟩)
  least := h.least

/-- what is kept -/
def keepBy (s : List Inst) (L : List Bool) (k : Nat) : List Inst := (List.range k).filterMap fun i => if L[i]? = some true then none else s[i]?
theorem keepBy_succ (s : List Inst) (L : List Bool) (k : Nat) (hk : k < s.length) : keepBy s L (k + 1) = keepBy s L k ++ (if L[k]? = some true then [] else [s[k]]) := by
  unfold keepBy
  rw [List.range_succ, List.filterMap_append]
  congr 1
  by_cases h : L[k]? = some true <;> simp [h, hk]
theorem keepBy_len (s : List Inst) (L : List Bool) (k : Nat) : (keepBy s L k).length ≤ k := by
  unfold keepBy
  exact Nat.le_trans (List.length_filterMap_le _ _) (by simp)
end Go.Proofs.Ytibnnhdpaccpfaa
