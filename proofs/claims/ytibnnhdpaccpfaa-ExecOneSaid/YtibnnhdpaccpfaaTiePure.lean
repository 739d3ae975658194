/-
  THE PLAIN WORDS OF 'tie': which groups hang on which.
-/
import Derived.Test.YtibnnhdpaccpfaaSortG
namespace Go.Proofs.Ytibnnhdpaccpfaa

/-- group g hangs on group k -/
def Hangs (on A : List (List Nat)) (g k : Nat) : Prop := k ≠ g ∧ ∃ v ∈ A[g]?.getD [], ∃ u, Edge on v u ∧ u ∈ A[k]?.getD []

/-- the groups in order, as sorted: the same groups as GroupsOf tells -/
structure Sorted (on A : List (List Nat)) : Prop where
  some : ∃ G, GroupsOf on G ∧ A.Perm G
  heads : ∀ (i j : Nat) (a b : List Nat), i < j → A[i]? = .some a → A[j]? = .some b → headOf a ≤ headOf b

theorem Sorted.all {on A : List (List Nat)} (h : Sorted on A) (x : Nat) : x < on.length ↔ ∃ g ∈ A, x ∈ g := by
  obtain ⟨G, hG, hp⟩ := h.some
  rw [hG.all]
  constructor
  · rintro ⟨g, h1, h2⟩; exact ⟨g, hp.mem_iff.2 h1, h2⟩
  · rintro ⟨g, h1, h2⟩; exact ⟨g, hp.mem_iff.1 h1, h2⟩
theorem Sorted.nd {on A : List (List Nat)} (h : Sorted on A) : A.flatten.Nodup := by
  obtain ⟨G, hG, hp⟩ := h.some
  exact (hp.flatten.nodup_iff).2 hG.gnd
theorem flatten_unique {A : List (List Nat)} (h : A.flatten.Nodup) {i j x : Nat} {a b : List Nat} (ha : A[i]? = .some a) (hb : A[j]? = .some b) (hxa : x ∈ a) (hxb : x ∈ b) : i = j := by
  induction A generalizing i j with
  | nil => simp at ha
  | cons g A ih =>
    rw [List.flatten_cons, List.nodup_append] at h
    obtain ⟨_, h2, h3⟩ := h
    cases i with
    | zero =>
      simp at ha
      subst ha
      cases j with
      | zero => rfl
      | succ j =>
        simp at hb
        exact absurd rfl (h3 x hxa x (List.mem_flatten.2 ⟨b, List.mem_of_getElem? hb, hxb⟩))
    | succ i =>
      simp at ha
      cases j with
      | zero =>
        simp at hb
        subst hb
        exact absurd rfl (h3 x hxb x (List.mem_flatten.2 ⟨a, List.mem_of_getElem? ha, hxa⟩))
      | succ j =>
        simp at hb
        rw [ih h2 ha hb]
theorem Sorted.one {on A : List (List Nat)} (h : Sorted on A) {i j x : Nat} {a b : List Nat} (ha : A[i]? = .some a) (hb : A[j]? = .some b) (hxa : x ∈ a) (hxb : x ∈ b) : i = j := flatten_unique h.nd ha hb hxa hxb

/-- of some groups one hangs on none of them -/
theorem Sorted.free {on A : List (List Nat)} (h : Sorted on A) (U : Nat → Prop) (g : Nat) (hg : g < A.length) (hU : U g) : ∃ g', g' < A.length ∧ U g' ∧ ∀ k, Hangs on A g' k → ¬ U k := by
  obtain ⟨G, hG, hp⟩ := h.some
  have hrank : ∀ i : Nat, i < A.length → ∃ r : Nat, ∃ a : List Nat, A[i]? = .some a ∧ G[r]? = .some a := fun i hi => by
    have hm : A[i] ∈ G := hp.mem_iff.1 (List.getElem_mem hi)
    obtain ⟨r, hr, he⟩ := List.getElem_of_mem hm
    exact ⟨r, A[i], List.getElem?_eq_getElem hi, by rw [List.getElem?_eq_getElem hr, he]⟩
  have key : ∀ (r g : Nat), g < A.length → U g → (∃ a : List Nat, A[g]? = .some a ∧ G[r]? = .some a) → ∃ g', g' < A.length ∧ U g' ∧ ∀ k, Hangs on A g' k → ¬ U k := by
    intro r
    induction r using Nat.strongRecOn with
    | ind r ih =>
      rintro g hg hU ⟨a, ha, hGa⟩
      by_cases hex : ∃ k, Hangs on A g k ∧ U k
      · obtain ⟨k, ⟨hne, v, hv, u, hvu, hu⟩, hUk⟩ := hex
        rw [ha] at hv
        simp only [Option.getD_some] at hv
        cases hk : A[k]? with
        | none => rw [hk] at hu; simp at hu
        | some b =>
          rw [hk] at hu
          simp only [Option.getD_some] at hu
          have hkl : k < A.length := (List.getElem?_eq_some_iff.1 hk).1
          obtain ⟨r', b', hb', hGb⟩ := hrank k hkl
          rw [hk] at hb'
          simp only [Option.some.injEq] at hb'
          subst hb'
          obtain ⟨j, g', hj, hg', hug'⟩ := hG.top r a hGa v hv u hvu
          have hjr : j = r' := flatten_unique hG.gnd hg' hGb hug' hu
          subst hjr
          have hlt : j < r := by
            rcases Nat.lt_or_eq_of_le hj with h1 | h1
            · exact h1
            · subst h1
              rw [hGa] at hGb
              simp only [Option.some.injEq] at hGb
              subst hGb
              exact absurd (h.one hk ha hu hu) hne
          exact ih j hlt k hkl hUk ⟨b, hk, hGb⟩
      · exact ⟨g, hg, hU, fun k hk hUk => hex ⟨k, hk, hUk⟩⟩
  obtain ⟨r, a, ha, hGa⟩ := hrank g hg
  exact key r g hg hU ⟨a, ha, hGa⟩
end Go.Proofs.Ytibnnhdpaccpfaa
