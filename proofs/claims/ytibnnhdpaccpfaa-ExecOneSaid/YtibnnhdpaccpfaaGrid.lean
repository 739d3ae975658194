import Derived.Test.YtibnnhdpaccpfaaThere
namespace Go.Proofs.Ytibnnhdpaccpfaa
open Go.RowKit

theorem intCells_at (l : List Nat) (q : Nat) (h : q < l.length) : (intCells l)[q]? = some (.int .i64 (l[q] : Int)) := by simp [intCells, h]
theorem CellsAt.int {w : World} {b : Nat} {l : List Nat} (h : CellsAt w b 0 (intCells l)) (q : Nat) (hq : q < l.length) : w.cell? ⟨b, q, none⟩ = some (.int .i64 (l[q] : Int)) := by
  have := h q _ (intCells_at l q hq)
  rwa [Nat.zero_add] at this

/-- rows of numbers that are ours, no two in one block, none in block ex -/
def Grid (w : World) (ob base : Nat) (ex : Option Nat) (vs : Array Value) (rows : List (List Nat)) : Prop :=
  w.heap[ob]? = some (.cells vs 72 (0, 0)) ∧ vs.size = rows.length ∧
  (∀ (i : Nat) (v : Value), vs[i]? = some v → ∃ r, rows[i]? = some r ∧ w.ownsRow base 3 1 v r.length (intCells r) ∧ ∀ b, v.ownBlock = some b → ex ≠ some b) ∧
  (∀ (i j : Nat) (u v : Value) (b : Nat), i ≠ j → vs[i]? = some u → vs[j]? = some v → u.ownBlock = some b → v.ownBlock ≠ some b)

theorem Grid.row {w : World} {ob base : Nat} {ex : Option Nat} {vs : Array Value} {rows : List (List Nat)} (h : Grid w ob base ex vs rows) (k : Nat) (hk : k < rows.length) :
    ∃ v, vs[k]? = some v ∧ w.ownsRow base 3 1 v rows[k].length (intCells rows[k]) ∧ (∀ b, v.ownBlock = some b → ex ≠ some b) ∧ w.cell? ⟨ob, k, none⟩ = some v := by
  obtain ⟨h1, h2, h3, h4⟩ := h
  have hv : vs[k]? = some vs[k] := Array.getElem?_eq_getElem (by omega)
  obtain ⟨r, hr, ho, hx⟩ := h3 k _ hv
  have : r = rows[k] := by rw [List.getElem?_eq_getElem hk] at hr; simpa using hr.symm
  subst this
  exact ⟨_, hv, ho, hx, by rw [cell_of_heap h1]; exact hv⟩

/-- what is changed is neither the outer block nor a row -/
theorem Grid.frame {S : Nat → Prop} {w w' : World} {ob base : Nat} {ex : Option Nat} {vs : Array Value} {rows : List (List Nat)} (h : Grid w ob base ex vs rows) (hm : Mod S w w') (hob : ¬ S ob)
    (hS : ∀ b c, S b → w.heap[b]? = some (.cells c 3 (0, 0)) → ex = some b) : Grid w' ob base ex vs rows := by
  obtain ⟨h1, h2, h3, h4⟩ := h
  refine ⟨hm.heap h1 hob, h2, fun i v hv => ?_, h4⟩
  obtain ⟨r, hr, ho, hx⟩ := h3 i v hv
  refine ⟨r, hr, ownsRow_mono ho fun k hk => ?_, hx⟩
  refine hm.block k (ho.lt k hk).2 fun hs => ?_
  obtain ⟨c, hc⟩ := ownsRow_block ho hk
  exact hx k hk (hS k c hs hc)
theorem Grid.ex_new {w : World} {ob base : Nat} {ex ex' : Option Nat} {vs : Array Value} {rows : List (List Nat)} (h : Grid w ob base ex vs rows) (hx : ex' = ex ∨ ∀ b, ex' = some b → w.heap.size ≤ b) : Grid w ob base ex' vs rows := by
  obtain ⟨h1, h2, h3, h4⟩ := h
  refine ⟨h1, h2, fun i v hv => ?_, h4⟩
  obtain ⟨r, hr, ho, hx'⟩ := h3 i v hv
  refine ⟨r, hr, ho, fun b hb he => ?_⟩
  rcases hx with rfl | hx
  · exact hx' b hb he
  · have := hx b he
    have := (ho.lt b hb).2
    omega

theorem Grid.other {S : Nat → Prop} {w w' : World} {ob base : Nat} {ex ex' : Option Nat} {vs : Array Value} {rows : List (List Nat)} (h : Grid w ob base ex vs rows) (hm : Mod S w w') (hob : ¬ S ob)
    (hS : ∀ b c, S b → w.heap[b]? = some (.cells c 3 (0, 0)) → ex = some b) (hx : ex' = ex ∨ ∀ b, ex' = some b → w.heap.size ≤ b) : Grid w' ob base ex' vs rows := by
  obtain ⟨h1, h2, h3, h4⟩ := h.frame hm hob hS
  refine ⟨h1, h2, fun i v hv => ?_, h4⟩
  obtain ⟨r, hr, ho, hx'⟩ := h3 i v hv
  refine ⟨r, hr, ho, fun b hb he => ?_⟩
  rcases hx with rfl | hx
  · exact hx' b hb he
  · obtain ⟨r', _, ho', _⟩ := h.2.2.1 i v hv
    have := hx b he
    have := (ho'.lt b hb).2
    omega

theorem Grid.made {w : World} {base : Nat} (n : Nat) (ex : Option Nat) : Grid (w.alloc (.cells (Array.replicate n (.slice none 0 0)) 72)) w.heap.size base ex (Array.replicate n (.slice none 0 0)) (List.replicate n []) := by
  refine ⟨heap_alloc_new _ _, by simp, fun i v hv => ?_, fun i j u v b _ hu _ hb => ?_⟩
  · have hi : i < n := by have := (Array.getElem?_eq_some_iff.1 hv).1; simpa using this
    simp [hi] at hv
    subst hv
    exact ⟨[], by simp [hi], ⟨by simp [intCells], .inl ⟨rfl, rfl⟩⟩, fun b hb => by simp [Value.ownBlock] at hb⟩
  · have hi : i < n := by have := (Array.getElem?_eq_some_iff.1 hu).1; simpa using this
    simp [hi] at hu
    subst hu
    simp [Value.ownBlock] at hb

/-- a row is grown by one, and its head laid -/
theorem Grid.push {w w4 : World} {ob base i k gg cap : Nat} {ex : Option Nat} {vs : Array Value} {rows : List (List Nat)} {cur : Value} (h : Grid w ob base ex vs rows) (hi : i < rows.length) (hvi : vs[i]? = some cur)
    (hown4 : w4.ownsRow base 3 1 (.slice (some ⟨gg, 0, none⟩) (rows[i].length + 1) cap) (rows[i].length + 1) (intCells rows[i] ++ [.int .i64 (k : Int)]))
    (hmod' : Mod (fun j => cur.ownBlock = some j) w w4) (hat : cur.ownBlock = some gg ∨ w.heap.size ≤ gg) (hex : ∀ b, ex = some b → b < w.heap.size) :
    Grid (w4.setCell ⟨ob, i, none⟩ (.slice (some ⟨gg, 0, none⟩) (rows[i].length + 1) cap)) ob base ex (vs.setIfInBounds i (.slice (some ⟨gg, 0, none⟩) (rows[i].length + 1) cap)) (rows.set i (rows[i] ++ [k])) ∧
    Mod (fun j => j = ob ∨ cur.ownBlock = some j) w (w4.setCell ⟨ob, i, none⟩ (.slice (some ⟨gg, 0, none⟩) (rows[i].length + 1) cap)) := by
  obtain ⟨h1, h2, h3, h4⟩ := h
  have hl := lt_of_heap h1
  obtain ⟨r, hr, ho, hx⟩ := h3 i cur hvi
  have hri : r = rows[i] := by rw [List.getElem?_eq_getElem hi] at hr; simpa using hr.symm
  subst hri
  have hne : cur.ownBlock ≠ some ob := ownsRow_ne ho h1 (by decide)
  have hmod : Mod (fun j => j = ob ∨ cur.ownBlock = some j) w w4 := hmod'.weaken (fun _ h => .inr h)
  have hx4 : w4.heap[ob]? = some (.cells vs 72 (0, 0)) := hmod'.heap h1 hne
  have hgg : gg ≠ ob := by
    rintro rfl
    rcases hat with h | h
    · exact hne h
    · omega
  refine ⟨⟨heap_setCell_same hx4 i _, by simpa using h2, fun j v hv => ?_, fun j j' u v b hjj hu hv hb hb' => ?_⟩, Mod.setCell hmod _ _ (fun _ => .inl rfl)⟩
  · by_cases hj : i = j
    · subst hj
      rw [Array.getElem?_setIfInBounds] at hv
      rw [if_pos rfl, if_pos (by omega)] at hv
      simp only [Option.some.injEq] at hv
      subst hv
      refine ⟨rows[i] ++ [k], by simp [hi], ?_, fun b hb he => ?_⟩
      · have hd : intCells (rows[i] ++ [k]) = intCells rows[i] ++ [.int .i64 (k : Int)] := by simp [intCells]
        rw [hd, List.length_append]
        refine ownsRow_mono hown4 fun j hj => ?_
        refine Below.heap_setCell _ _ _ _ ?_
        simp [Value.ownBlock] at hj
        subst hj
        exact hgg
      · simp [Value.ownBlock] at hb
        subst hb
        rcases hat with h | h
        · exact hx _ h he
        · have := hex _ he; omega
    · rw [Array.getElem?_setIfInBounds_ne hj] at hv
      obtain ⟨r, hr, ho', hx'⟩ := h3 j v hv
      refine ⟨r, by rw [List.getElem?_set_ne hj]; exact hr, ownsRow_mono ho' fun b hb => ?_, hx'⟩
      rw [Below.heap_setCell _ _ _ _ (by rintro rfl; exact ownsRow_ne ho' h1 (by decide) hb)]
      exact hmod'.block b (ho'.lt b hb).2 (fun hc => h4 i j cur v b hj hvi hv hc hb)
  · by_cases hj : i = j
    · subst hj
      rw [Array.getElem?_setIfInBounds, if_pos rfl, if_pos (by omega)] at hu
      rw [Array.getElem?_setIfInBounds_ne hjj] at hv
      simp only [Option.some.injEq] at hu
      subst hu
      simp [Value.ownBlock] at hb
      subst hb
      obtain ⟨r, hr, ho', hx'⟩ := h3 j' v hv
      rcases hat with h | h
      · exact h4 i j' cur v _ hjj hvi hv h hb'
      · have := (ho'.lt _ hb').2; omega
    · by_cases hj' : i = j'
      · subst hj'
        rw [Array.getElem?_setIfInBounds, if_pos rfl, if_pos (by omega)] at hv
        rw [Array.getElem?_setIfInBounds_ne hj] at hu
        simp only [Option.some.injEq] at hv
        subst hv
        simp [Value.ownBlock] at hb'
        subst hb'
        obtain ⟨r, hr, ho', hx'⟩ := h3 j u hu
        rcases hat with h | h
        · exact h4 j i u cur _ hjj hu hvi hb h
        · have := (ho'.lt _ hb).2; omega
      · rw [Array.getElem?_setIfInBounds_ne hj] at hu
        rw [Array.getElem?_setIfInBounds_ne hj'] at hv
        exact h4 j j' u v b hjj hu hv hb hb'
end Go.Proofs.Ytibnnhdpaccpfaa
