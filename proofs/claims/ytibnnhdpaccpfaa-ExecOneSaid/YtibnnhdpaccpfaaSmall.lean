/-
  THE LINE OF ONE INSTANCE, AND OF TWO.
-/
import Derived.Test.YtibnnhdpaccpfaaLine
namespace Go.Proofs.Ytibnnhdpaccpfaa

theorem list_one {p : Dot} : ∀ {D : List Dot}, D.Nodup → (∀ d, d ∈ D ↔ d = p) → D = [p]
  | [], _, h => by simpa using (h p).2 rfl
  | [a], _, h => by rw [(h a).1 (by simp)]
  | a :: b :: D, hn, h => by
    have h1 := (h a).1 (by simp)
    have h2 := (h b).1 (by simp)
    rw [h1, h2] at hn
    simp at hn
theorem list_two {p q : Dot} (hne : p ≠ q) : ∀ {D : List Dot}, D.Nodup → (∀ d, d ∈ D ↔ d = p ∨ d = q) → D = [p, q] ∨ D = [q, p]
  | [], _, h => by simpa using (h p).2 (.inl rfl)
  | [a], _, h => by
    have h1 := (h p).2 (.inl rfl)
    have h2 := (h q).2 (.inr rfl)
    simp at h1 h2
    exact absurd (h1.trans h2.symm) hne
  | [a, b], hn, h => by
    have h1 := (h a).1 (by simp)
    have h2 := (h b).1 (by simp)
    rcases h1 with rfl | rfl <;> rcases h2 with rfl | rfl
    · simp at hn
    · exact .inl rfl
    · exact .inr rfl
    · simp at hn
  | a :: b :: c :: D, hn, h => by
    have h1 := (h a).1 (by simp)
    have h2 := (h b).1 (by simp)
    have h3 := (h c).1 (by simp)
    simp only [List.nodup_cons, List.mem_cons, not_or] at hn
    rcases h1 with rfl | rfl <;> rcases h2 with rfl | rfl <;> rcases h3 with rfl | rfl <;> simp_all
theorem DReach.first {l : List Inst} {a b : Dot} (h : DReach l a b) : a = b ∨ ∃ x ∈ l, x.dot = a ∧ ∃ d, d ∈ x.depDots := by
  cases h with
  | refl => exact .inl rfl
  | step x h1 h2 h3 _ => exact .inr ⟨x, h1, h2, _, h3⟩
theorem line_one {x : Inst} {K : List Inst} {D : List Dot} (h : LineSpec [x] K D) (hd : x.depDots = []) : D = [x.dot] := by
  have hx : x ∈ K := h.kept.most [x] (fun y hy => hy) (fun y hy d hd' => by
    rw [List.mem_singleton.1 hy, hd] at hd'; simp at hd') x (by simp)
  refine list_one h.nodup fun d => ?_
  rw [h.mem]
  constructor
  · rintro ⟨y, hy, rfl⟩
    rw [List.mem_singleton.1 (h.kept.sub y hy)]
  · rintro rfl
    exact ⟨x, hx, rfl⟩
theorem line_none {x : Inst} {K : List Inst} {D : List Dot} (h : LineSpec [x] K D) {d : Dot} (hd : d ∈ x.depDots) : D = [] := by
  cases D with
  | nil => rfl
  | cons e D =>
    obtain ⟨y, hy, _⟩ := (h.mem e).1 (by simp)
    have hyx := List.mem_singleton.1 (h.kept.sub y hy)
    subst hyx
    obtain ⟨z, hz, he⟩ := h.kept.closed y hy d hd
    rw [List.mem_singleton.1 (h.kept.sub z hz)] at he
    exact absurd he.symm (mem_depDots.1 hd).1
theorem line_two {x y : Inst} {K : List Inst} {D : List Dot} (h : LineSpec [x, y] K D) (hne : x.dot ≠ y.dot) (hx : x.depDots = [y.dot]) (hy : y.depDots = []) : D = [y.dot, x.dot] := by
  have hcl : ClosedI [x, y] := fun z hz d hd => by
    simp only [List.mem_cons, List.not_mem_nil, or_false] at hz
    rcases hz with rfl | rfl
    · rw [hx] at hd
      exact ⟨y, by simp, (List.mem_singleton.1 hd).symm⟩
    · rw [hy] at hd; simp at hd
  have hK := h.kept.most [x, y] (fun z hz => hz) hcl
  have hmem : ∀ d, d ∈ D ↔ d = y.dot ∨ d = x.dot := fun d => by
    rw [h.mem]
    constructor
    · rintro ⟨z, hz, rfl⟩
      have := h.kept.sub z hz
      simp only [List.mem_cons, List.not_mem_nil, or_false] at this
      rcases this with rfl | rfl
      · exact .inr rfl
      · exact .inl rfl
    · rintro (rfl | rfl)
      · exact ⟨y, hK y (by simp), rfl⟩
      · exact ⟨x, hK x (by simp), rfl⟩
  rcases list_two (Ne.symm hne) h.nodup hmem with h1 | h1
  · exact h1
  · exfalso
    have ha := h.ahead
    rw [h1] at ha
    have hab := (List.pairwise_cons.1 ha).1 y.dot (by simp)
    have hxy : DReach [x, y] x.dot y.dot := .one (by simp) (by rw [hx]; simp)
    rcases hab with ⟨_, hyx, _⟩ | hab
    · rcases hyx.first with he | ⟨z, hz, he, d, hd⟩
      · exact hne he.symm
      · simp only [List.mem_cons, List.not_mem_nil, or_false] at hz
        rcases hz with rfl | rfl
        · exact hne he
        · rw [hy] at hd; simp at hd
    · exact hab hxy
end Go.Proofs.Ytibnnhdpaccpfaa
