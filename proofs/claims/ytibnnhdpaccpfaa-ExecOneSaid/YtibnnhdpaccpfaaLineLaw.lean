/-
  THE PLAIN LAW OF 'line': again and again the first group that hangs on none that is not told.
-/
import Derived.Test.YtibnnhdpaccpfaaTieLaw
namespace Go.Proofs.Ytibnnhdpaccpfaa

/-- who comes next -/
structure NextOf (on A : List (List Nat)) (T : List Nat) (g : Nat) : Prop where
  lt : g < A.length
  new : g ∉ T
  free : ∀ k, Hangs on A g k → k ∈ T
  first : ∀ j, j < g → j ∉ T → ∃ k, Hangs on A j k ∧ k ∉ T
inductive Told (on A : List (List Nat)) : List Nat → Prop
  | nil : Told on A []
  | snoc {T : List Nat} {g : Nat} : Told on A T → NextOf on A T g → Told on A (T ++ [g])
theorem Hangs.lt {on A : List (List Nat)} {g k : Nat} (h : Hangs on A g k) : k < A.length := by
  obtain ⟨_, v, _, u, _, hu⟩ := h
  cases hk : A[k]? with
  | none => rw [hk] at hu; simp at hu
  | some b => exact (List.getElem?_eq_some_iff.1 hk).1
theorem Told.lt {on A : List (List Nat)} {T : List Nat} (h : Told on A T) : ∀ g ∈ T, g < A.length := by
  induction h with
  | nil => simp
  | snoc _ hn ih =>
    intro g hg
    rcases List.mem_append.1 hg with h | h
    · exact ih g h
    · rw [List.mem_singleton.1 h]; exact hn.lt
theorem Told.nodup {on A : List (List Nat)} {T : List Nat} (h : Told on A T) : T.Nodup := by
  induction h with
  | nil => simp
  | snoc _ hn ih =>
    rw [List.nodup_append]
    refine ⟨ih, by simp, fun a ha b hb he => ?_⟩
    rw [List.mem_singleton.1 hb] at he
    exact hn.new (he ▸ ha)
theorem Told.closed {on A : List (List Nat)} {T : List Nat} (h : Told on A T) : ∀ g ∈ T, ∀ k, Hangs on A g k → k ∈ T := by
  induction h with
  | nil => simp
  | snoc _ hn ih =>
    intro g hg k hk
    rcases List.mem_append.1 hg with h | h
    · exact List.mem_append.2 (.inl (ih g h k hk))
    · rw [List.mem_singleton.1 h] at hk
      exact List.mem_append.2 (.inl (hn.free k hk))
theorem nodup_len : ∀ (n : Nat) (T : List Nat), T.Nodup → (∀ x ∈ T, x < n) → T.length ≤ n := by
  intro n
  induction n with
  | zero =>
    intro T _ h
    cases T with
    | nil => simp
    | cons x T => exact absurd (h x (by simp)) (by omega)
  | succ n ih =>
    intro T hT h
    have h1 := ih (T.erase n) (hT.erase n) fun x hx => by
      have h2 := (hT.mem_erase_iff).1 hx
      have h3 := h x h2.2
      have h4 := h2.1
      omega
    have h5 : T.length ≤ (T.erase n).length + 1 := by
      by_cases hm : n ∈ T
      · rw [List.length_erase_of_mem hm]; omega
      · rw [List.erase_of_not_mem hm]; omega
    omega
theorem nodup_full (n : Nat) (T : List Nat) (_hT : T.Nodup) (_h : ∀ x ∈ T, x < n) (hl : T.length < n) : ∃ x, x < n ∧ x ∉ T := by
  refine Classical.byContradiction fun hc => ?_
  have hall : ∀ x, x < n → x ∈ T := fun x hx => Classical.byContradiction fun hn => hc ⟨x, hx, hn⟩
  have h1 : (List.range n).length ≤ T.length := by
    have : ∀ (L : List Nat), L.Nodup → ∀ T : List Nat, (∀ x ∈ L, x ∈ T) → L.length ≤ T.length := by
      intro L
      induction L with
      | nil => intro _ T _; simp
      | cons x L ih =>
        intro hL T h
        have hL' := List.nodup_cons.1 hL
        have h2 := ih hL'.2 (T.erase x) fun y hy => by
          have : y ≠ x := fun he => hL'.1 (he ▸ hy)
          exact (List.mem_erase_of_ne this).2 (h y (List.mem_cons_of_mem _ hy))
        have h3 := List.length_erase_of_mem (h x List.mem_cons_self)
        have h4 : 0 < T.length := List.length_pos_of_mem (h x List.mem_cons_self)
        simp; omega
    exact this _ List.nodup_range T fun x hx => hall x (List.mem_range.1 hx)
  simp at h1
  omega

theorem waitsFor_zero {on A : List (List Nat)} {T : List Nat} {g : Nat} : waitsFor on A T g = 0 ↔ ∀ k, Hangs on A g k → k ∈ T := by
  unfold waitsFor
  rw [List.countP_eq_zero]
  constructor
  · intro h k hk
    have := h k (List.mem_range.2 hk.lt)
    rw [hb_iff.2 hk] at this
    simpa using this
  · intro h k _
    cases hc : hb on A g k with
    | false => simp
    | true => simpa using h k (hb_iff.1 hc)
theorem waitsFor_snoc {on A : List (List Nat)} {T : List Nat} {g j : Nat} (hg : g < A.length) (hn : g ∉ T) : waitsFor on A (T ++ [g]) j + (if hb on A j g = true then 1 else 0) = waitsFor on A T j := by
  unfold waitsFor
  by_cases h : hb on A j g = true
  · rw [if_pos h, ← countP_more _ g _ hg (by simp)]
    refine List.countP_congr fun k _ => ?_
    by_cases he : k = g
    · subst he; simp [h, hn]
    · have h1 : (k == g) = false := by simpa using he
      simp [h1, he]
  · rw [if_neg h]
    refine List.countP_congr fun k _ => ?_
    by_cases he : k = g
    · subst he; simp at h; simp [h]
    · simp [he]
theorem waitsFor_le (on A : List (List Nat)) (T : List Nat) (g : Nat) : waitsFor on A T g ≤ A.length := by
  unfold waitsFor
  exact Nat.le_trans List.countP_le_length (by simp)

structure Wait1 (on A : List (List Nat)) (T : List Nat) (W : List Int) : Prop where
  wl : W.length = A.length
  w : ∀ j, j < A.length → W[j]?.getD 0 = if j ∈ T then -1 else (waitsFor on A T j : Int)
theorem Tie1.wait {on A : List (List Nat)} {W : List Nat} {B : List (List Nat)} (h : Tie1 on A A.length W B) : Wait1 on A [] (W.map fun (n : Nat) => (n : Int)) where
  wl := by simp [h.wl]
  w j hj := by
    have h1 := h.w j hj
    rw [if_pos hj] at h1
    have hl : j < W.length := by rw [h.wl]; exact hj
    rw [List.getElem?_eq_getElem hl] at h1
    simp only [Option.getD_some] at h1
    simp [hl, h1]
theorem firstIdx_found {W : List Int} {x : Int} {k : Nat} (hk : k < W.length) (he : W[k] = x) : ∃ g : Nat, firstIdx W x = (g : Int) ∧ ∃ h : g < W.length, W[g] = x ∧ ∀ j, (hj : j < g) → W[j] ≠ x := by
  unfold firstIdx
  cases hf : W.findIdx? (fun z => z == x) with
  | none =>
    have := List.findIdx?_eq_none_iff.1 hf W[k] (List.getElem_mem hk)
    simp [he] at this
  | some g =>
    obtain ⟨h1, h2, h3⟩ := List.findIdx?_eq_some_iff_getElem.1 hf
    exact ⟨g, rfl, h1, by simpa using h2, fun j hj => by simpa using h3 j hj⟩
/-- the first that waits for none comes next -/
theorem Wait1.next {on A : List (List Nat)} {T : List Nat} {W : List Int} (hS : Sorted on A) (h : Wait1 on A T W) (hT : Told on A T) (hl : T.length < A.length) : ∃ g : Nat, firstIdx W 0 = (g : Int) ∧ NextOf on A T g := by
  obtain ⟨x, hx, hxT⟩ := nodup_full _ T hT.nodup hT.lt hl
  obtain ⟨g0, h0, hU, hfree⟩ := hS.free (fun g => g ∉ T) x hx hxT
  have hz : waitsFor on A T g0 = 0 := waitsFor_zero.2 fun k hk => Classical.byContradiction (hfree k hk)
  have hat : ∀ j, (hj : j < W.length) → W[j] = if j ∈ T then -1 else (waitsFor on A T j : Int) := fun j hj => by
    have := h.w j (by rw [← h.wl]; exact hj)
    rwa [List.getElem?_eq_getElem hj] at this
  have h1 := hat g0 (by rw [h.wl]; exact h0)
  rw [if_neg hU, hz] at h1
  obtain ⟨g, hg, hgl, hgz, hno⟩ := firstIdx_found (by rw [h.wl]; exact h0) h1
  have hgT : g ∉ T := fun hc => by
    have := hat g hgl
    rw [if_pos hc, hgz] at this
    simp at this
  refine ⟨g, hg, by rw [← h.wl]; exact hgl, hgT, ?_, fun j hj hjT => ?_⟩
  · have := hat g hgl
    rw [if_neg hgT, hgz] at this
    exact waitsFor_zero.1 (by omega)
  · refine Classical.byContradiction fun hc => hno j hj ?_
    rw [hat j (by omega), if_neg hjT, waitsFor_zero.2 fun k hk => Classical.byContradiction fun hk' => hc ⟨k, hk, hk'⟩]

structure Wait2 (on A : List (List Nat)) (T : List Nat) (g r : Nat) (W : List Int) : Prop where
  wl : W.length = A.length
  w : ∀ j, j < A.length → W[j]?.getD 0 = if j ∈ T ++ [g] then -1 else (waitsFor on A T j : Int) - if j ∈ ((List.range A.length).filter fun j => hb on A j g).take r then 1 else 0
theorem Wait1.in2 {on A : List (List Nat)} {T : List Nat} {W : List Int} {g : Nat} (h : Wait1 on A T W) (hg : g < A.length) : Wait2 on A T g 0 (W.set g (-1)) where
  wl := by simp [h.wl]
  w j hj := by
    by_cases he : g = j
    · subst he
      rw [List.getElem?_set_self (by rw [h.wl]; exact hg)]; simp
    · rw [List.getElem?_set_ne he, h.w j hj]
      by_cases hT : j ∈ T
      · simp [hT]
      · rw [if_neg hT, if_neg (by simp; exact ⟨hT, fun h => he h.symm⟩)]; simp
theorem Wait2.next {on A : List (List Nat)} {T : List Nat} {W : List Int} {g r k : Nat} (h : Wait2 on A T g r W) (hT : Told on A T) (hN : NextOf on A T g) (hk : ((List.range A.length).filter fun j => hb on A j g)[r]? = some k) (hkl : k < W.length) :
    Wait2 on A T g (r + 1) (W.set k (W[k] - 1)) := by
  obtain ⟨hr, hre⟩ := List.getElem?_eq_some_iff.1 hk
  have hkm : k ∈ (List.range A.length).filter fun j => hb on A j g := hre ▸ List.getElem_mem hr
  have hkb : hb on A k g = true := by simpa using (List.mem_filter.1 hkm).2
  have hkT : k ∉ T := fun hc => hN.new (hT.closed k hc g (hb_iff.1 hkb))
  have hkg : k ≠ g := fun he => by rw [he, hb_self] at hkb; cases hkb
  have hnd : ((List.range A.length).filter fun j => hb on A j g).Nodup := List.nodup_range.filter _
  have hnot : k ∉ ((List.range A.length).filter fun j => hb on A j g).take r := fun hc => by
    obtain ⟨i, hi, he⟩ := List.getElem_of_mem hc
    rw [List.getElem_take] at he
    have hi' : i < r := by simp at hi; omega
    have := (List.getElem_inj hnd).1 (he.trans hre.symm)
    omega
  refine ⟨by simp [h.wl], fun j hj => ?_⟩
  rw [List.take_succ_eq_append_getElem hr, hre]
  by_cases he : k = j
  · subst he
    have h1 := h.w k hj
    rw [List.getElem?_eq_getElem hkl] at h1
    have hno : k ∉ T ++ [g] := by simp; exact ⟨hkT, hkg⟩
    rw [if_neg hno, if_neg hnot] at h1
    simp only [Option.getD_some] at h1
    rw [List.getElem?_set_self hkl, if_neg hno, if_pos (by simp), h1]
    simp
  · rw [List.getElem?_set_ne he, h.w j hj]
    have : (j ∈ ((List.range A.length).filter fun j => hb on A j g).take r ++ [k]) ↔ j ∈ ((List.range A.length).filter fun j => hb on A j g).take r := by
      rw [List.mem_append, List.mem_singleton]
      exact ⟨fun h => h.elim id fun h => absurd h.symm he, .inl⟩
    simp only [this]
theorem Wait2.out {on A : List (List Nat)} {T : List Nat} {W : List Int} {g r : Nat} (h : Wait2 on A T g r W) (hN : NextOf on A T g) (hr : ((List.range A.length).filter fun j => hb on A j g).length ≤ r) : Wait1 on A (T ++ [g]) W where
  wl := h.wl
  w j hj := by
    rw [h.w j hj, List.take_of_length_le hr]
    by_cases hm : j ∈ T ++ [g]
    · rw [if_pos hm, if_pos hm]
    · rw [if_neg hm, if_neg hm]
      have h1 := waitsFor_snoc (on := on) (j := j) hN.lt hN.new
      by_cases hb' : hb on A j g = true
      · rw [if_pos (by simp [hb', hj])]
        rw [if_pos hb'] at h1
        omega
      · rw [if_neg (by simp at hb'; simp [hb'])]
        rw [if_neg hb'] at h1
        omega
theorem Wait2.range {on A : List (List Nat)} {T : List Nat} {W : List Int} {g r : Nat} (h : Wait2 on A T g r W) (k : Nat) (hk : k < W.length) : -1 ≤ W[k] ∧ W[k] ≤ A.length := by
  have h1 := h.w k (by rw [← h.wl]; exact hk)
  rw [List.getElem?_eq_getElem hk] at h1
  simp only [Option.getD_some] at h1
  have h2 := waitsFor_le on A T k
  rw [h1]
  split
  · omega
  · split <;> omega

/-- what line tells -/
def lineOut (A : List (List Nat)) (T : List Nat) : List Nat := T.flatMap fun g => A[g]?.getD []
theorem lineOut_snoc (A : List (List Nat)) (T : List Nat) (g : Nat) : lineOut A (T ++ [g]) = lineOut A T ++ A[g]?.getD [] := by simp [lineOut]
theorem Sorted.row_len {on A : List (List Nat)} (h : Sorted on A) (g : Nat) : (A[g]?.getD []).length ≤ on.length := by
  cases hg : A[g]? with
  | none => simp
  | some a =>
    have hm := List.mem_of_getElem? hg
    refine nodup_len _ _ ((List.pairwise_flatten.1 h.nd).1 a hm) fun x hx => (h.all x).2 ⟨a, hm, hx⟩
theorem Sorted.len {on A : List (List Nat)} (h : Sorted on A) : A.length ≤ on.length := by
  obtain ⟨G, hG, hp⟩ := h.some
  rw [hp.length_eq]; exact hG.len
theorem lineOut_len {on A : List (List Nat)} (h : Sorted on A) (T : List Nat) : (lineOut A T).length ≤ T.length * on.length := by
  induction T with
  | nil => simp [lineOut]
  | cons g T ih =>
    have := h.row_len g
    simp only [lineOut, List.flatMap_cons, List.length_append, List.length_cons] at ih ⊢
    rw [Nat.succ_mul]; omega
theorem lineOut_lt {on A : List (List Nat)} (h : Sorted on A) (T : List Nat) : ∀ i ∈ lineOut A T, i < on.length := by
  intro i hi
  obtain ⟨g, _, hm⟩ := List.mem_flatMap.1 hi
  cases hg : A[g]? with
  | none => rw [hg] at hm; simp at hm
  | some a =>
    rw [hg] at hm
    exact (h.all i).2 ⟨a, List.mem_of_getElem? hg, hm⟩
end Go.Proofs.Ytibnnhdpaccpfaa
