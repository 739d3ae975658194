/-
  'tie' IN MEMORY: what it hands back; the sort of groups, the empty row too.
-/
import Derived.Test.YtibnnhdpaccpfaaLineLaw
namespace Go.Proofs.Ytibnnhdpaccpfaa
open Go.RowKit

/-- rows of numbers behind a slice, to be read -/
def RowsIn (w : World) (av : Value) (A : List (List Nat)) : Prop := ∃ ap cap, av = .slice ap A.length cap ∧ A.length ≤ cap ∧ (0 < A.length → ∃ ab, ap = some ⟨ab, 0, none⟩ ∧ RowsOn w ab A ∧ ab < w.heap.size)

theorem rowsOn_of {w : World} {ab base cap : Nat} {vs : List Value} {A : List (List Nat)} (hown : w.ownsRow base 72 1 (.slice (some ⟨ab, 0, none⟩) A.length cap) A.length vs) (hl : vs.length = A.length)
    (h : ∀ (i : Nat) (u : Value) (g : List Nat), vs[i]? = some u → A[i]? = some g → Sl0 w u g.length (intCells g)) : RowsOn w ab A := by
  intro i hi
  obtain ⟨h1, h2, h3⟩ := SlAt.of_own hown
  have hv : vs[i]? = some vs[i] := List.getElem?_eq_getElem (by omega)
  obtain ⟨p, c, hu, hc, hp⟩ := (h i _ _ hv (List.getElem?_eq_getElem hi)).form
  have hcell := h2 i _ hv
  rw [Nat.zero_add] at hcell
  exact ⟨p, c, by rw [hcell, hu], hc, hp⟩

/-- slices.SortFunc of groups by their first numbers, the empty row too -/
theorem sortG_all (w0 : World) (gv : Value) (vs : List Value) (G : List (List Nat)) (w : World) (hown : w.ownsRow w0.heap.size 72 1 gv G.length vs) (hl : vs.length = G.length)
    (hrow : ∀ (i : Nat) (u : Value) (g : List Nat), vs[i]? = some u → G[i]? = some g → Sl0 w u g.length (intCells g) ∧ ∀ b, u.ownBlock = some b → gv.ownBlock ≠ some b ∧ b < w.heap.size)
    (hne : ∀ g ∈ G, g ≠ []) (hlen : G.length ≤ 1000000) (hb : Below w0.heap.size w0 w) :
    Calls Try.prog 49 #[gv, .func (.func 50) #[] #[]] w fun e w' => e = .returned (.tuple #[]) ∧
      ∃ A, RowsIn w' gv A ∧ A.Perm G ∧ (∀ (i j : Nat) (a b : List Nat), i < j → A[i]? = some a → A[j]? = some b → headOf a ≤ headOf b) ∧ Below w0.heap.size w0 w' := by
  rcases hown.2 with ⟨rfl, hn⟩ | ⟨blk, cap, cur, rfl, hblk, _, hcap, _⟩
  · refine (Try.slices_SortInts_none none 0 (.func (.func 50) #[] #[]) w).mono ?_
    rintro e w' ⟨rfl, rfl⟩
    have : G = [] := List.length_eq_zero_iff.1 hn
    subst this
    exact ⟨rfl, [], ⟨none, 0, rfl, by simp, fun h => by simp at h⟩, List.Perm.refl _, fun i j a b _ h => by simp at h, hb⟩
  · have hG : GroupRow w blk vs G := ⟨hl, fun i v g hv hg => by
      obtain ⟨h1, h2⟩ := hrow i v g hv hg
      have hpos : 0 < g.length := List.length_pos_iff.2 (hne g (List.mem_of_getElem? hg))
      obtain ⟨p, c, rfl, hc, hp⟩ := h1.form
      obtain ⟨b, rfl, hcb, hbl⟩ := hp hpos
      exact ⟨b, c, rfl, hpos, fun he => (h2 b rfl).1 (by rw [he]; rfl), hbl, hcb, hc⟩⟩
    have hblt := (hown.lt blk rfl).2
    refine (sortG_any blk cap w0.heap.size vs G w hown hG hlen).mono ?_
    rintro e w' ⟨rfl, vs', A, hown', hA, hperm, hheads, hmod⟩
    have hlA : A.length = G.length := hperm.length_eq
    refine ⟨rfl, A, ⟨some ⟨blk, 0, none⟩, cap, by rw [hlA], by rw [hlA]; exact hcap, fun hpos => ⟨blk, rfl, ?_, (hown'.lt blk rfl).2⟩⟩, hperm, hheads, hb.trans (below_of_mod hmod (fun k hk => by rw [hk]; exact hblk) hb.size)⟩
    refine rowsOn_of (by rw [hlA]; exact hown') hA.1 fun i u g hu hg => ?_
    obtain ⟨b, c, hv, hpos, hne', hbl, hcb, hcg⟩ := hA.2 i u g hu hg
    simp only at hv hpos hcb hcg
    subst hv
    refine Sl0.mod (S := fun k => k = blk) (.inr ⟨b, c, rfl, hcg, hcb, hbl⟩) hmod fun k hk he => hne' ?_
    simp [Value.ownBlock] at hk
    rw [hk]; exact he

def zCells (l : List Int) : Array Value := (l.map (Value.int .i64)).toArray
theorem zCells_set (l : List Int) (k : Nat) (x : Int) : (zCells l).setIfInBounds k (.int .i64 x) = zCells (l.set k x) := by simp [zCells]
theorem zCells_at (l : List Int) (k : Nat) (h : k < l.length) : (zCells l)[k]? = some (.int .i64 l[k]) := by simp [zCells, h]

/-- what tie made: the groups' slice av, how many each waits for, who hangs on each; all in blocks that w4 had not -/
structure TAt (w4 : World) (av : Value) (tb wb bb n : Nat) (w : World) (W : List Int) (vs : Array Value) (B : List (List Nat)) : Prop where
  tied : w.heap[tb]? = some (.cells #[av, .slice (some ⟨wb, 0, none⟩) n n, .slice (some ⟨bb, 0, none⟩) n n] 88 (0, 0))
  wts : w.heap[wb]? = some (.cells (zCells W) 3 (0, 0))
  grid : Grid w bb w4.heap.size (some wb) vs B
  bt : w4.heap.size ≤ tb
  bw : w4.heap.size ≤ wb
  bq : w4.heap.size ≤ bb
  bel : Below w4.heap.size w4 w

section
variable {w4 w : World} {av : Value} {tb wb bb n : Nat} {W : List Int} {vs : Array Value} {B : List (List Nat)}
theorem TAt.ne_tw (h : TAt w4 av tb wb bb n w W vs B) : tb ≠ wb := by
  intro he; have h1 := h.tied; rw [he, h.wts] at h1; simp at h1
theorem TAt.ne_tb (h : TAt w4 av tb wb bb n w W vs B) : tb ≠ bb := by
  intro he; have h1 := h.tied; rw [he, h.grid.1] at h1; simp at h1
theorem TAt.ne_wb (h : TAt w4 av tb wb bb n w W vs B) : wb ≠ bb := by
  intro he; have h1 := h.wts; rw [he, h.grid.1] at h1; simp at h1
theorem TAt.frame {S : Nat → Prop} {w' : World} (h : TAt w4 av tb wb bb n w W vs B) (hm : Mod S w w') (h1 : ¬ S tb) (h2 : ¬ S wb) (h3 : ¬ S bb) (hS : ∀ b c, S b → w.heap[b]? ≠ some (.cells c 3 (0, 0))) (hlow : ∀ b, S b → w4.heap.size ≤ b) :
    TAt w4 av tb wb bb n w' W vs B :=
  ⟨hm.heap h.tied h1, hm.heap h.wts h2, h.grid.frame hm h3 (fun b c hb hc => absurd hc (hS b c hb)), h.bt, h.bw, h.bq, h.bel.trans (below_of_mod hm hlow h.bel.size)⟩
theorem TAt.fresh {w' : World} (h : TAt w4 av tb wb bb n w W vs B) (hb : Below w.heap.size w w') : TAt w4 av tb wb bb n w' W vs B :=
  h.frame (S := fun _ => False) (Mod.of_below hb) (fun h => h) (fun h => h) (fun h => h) (fun _ _ h => h.elim) (fun _ h => h.elim)
/-- a store into a block of another kind -/
theorem TAt.other {k o : Nat} {c : Array Value} {t : TypeId} {x : Value} (h : TAt w4 av tb wb bb n w W vs B) (hk : w.heap[k]? = some (.cells c t (0, 0))) (h1 : t ≠ 88) (h2 : t ≠ 3) (h3 : t ≠ 72) (hlow : w4.heap.size ≤ k) :
    TAt w4 av tb wb bb n (w.setCell ⟨k, o, none⟩ x) W vs B := by
  refine h.frame (S := fun j => j = k) ((Mod.refl _ w).setCell _ _ (fun _ => rfl)) (fun he => ?_) (fun he => ?_) (fun he => ?_) (fun b c' hb hc => ?_) (fun b hb => by rw [hb]; exact hlow)
  · have := h.tied; rw [he, hk] at this; simp at this; exact h1 this.2
  · have := h.wts; rw [he, hk] at this; simp at this; exact h2 this.2
  · have := h.grid.1; rw [he, hk] at this; simp at this; exact h3 this.2
  · rw [hb, hk] at hc; simp at hc; exact h2 hc.2
theorem TAt.setW (h : TAt w4 av tb wb bb n w W vs B) (k : Nat) (x : Int) : TAt w4 av tb wb bb n (w.setCell ⟨wb, k, none⟩ (.int .i64 x)) (W.set k x) vs B := by
  refine ⟨?_, ?_, h.grid.frame (S := fun j => j = wb) ((Mod.refl _ w).setCell _ _ (fun _ => rfl)) (fun he => h.ne_wb he.symm) (fun b c hb _ => by rw [hb]), h.bt, h.bw, h.bq, h.bel.setCell (p := ⟨wb, k, none⟩) h.bw _⟩
  · rw [Below.heap_setCell _ _ _ _ h.ne_tw]; exact h.tied
  · rw [heap_setCell_same h.wts k _, zCells_set]
theorem TAt.push {w' : World} {k g gg cap : Nat} {cur : Value} (h : TAt w4 av tb wb bb n w W vs B) (hk : k < B.length) (hv : vs[k]? = some cur)
    (hown : w'.ownsRow w4.heap.size 3 1 (.slice (some ⟨gg, 0, none⟩) (B[k].length + 1) cap) (B[k].length + 1) (intCells B[k] ++ [.int .i64 (g : Int)])) (hm : Mod (fun j => cur.ownBlock = some j) w w') (hat : cur.ownBlock = some gg ∨ w.heap.size ≤ gg) :
    TAt w4 av tb wb bb n (w'.setCell ⟨bb, k, none⟩ (.slice (some ⟨gg, 0, none⟩) (B[k].length + 1) cap)) W (vs.setIfInBounds k (.slice (some ⟨gg, 0, none⟩) (B[k].length + 1) cap)) (B.set k (B[k] ++ [g])) ∧
    Mod (fun j => j = bb ∨ cur.ownBlock = some j) w (w'.setCell ⟨bb, k, none⟩ (.slice (some ⟨gg, 0, none⟩) (B[k].length + 1) cap)) := by
  obtain ⟨hG, hM⟩ := h.grid.push hk hv hown hm hat (fun b hb => by simp at hb; subst hb; exact lt_of_heap h.wts)
  obtain ⟨v, hv', ho, hx, _⟩ := h.grid.row k hk
  rw [hv] at hv'
  simp only [Option.some.injEq] at hv'
  subst hv'
  refine ⟨⟨hM.heap h.tied ?_, hM.heap h.wts ?_, hG, h.bt, h.bw, h.bq, h.bel.trans (below_of_mod hM ?_ h.bel.size)⟩, hM⟩
  · rintro (he | he)
    · exact h.ne_tb he
    · exact ownsRow_ne ho h.tied (by decide) he
  · rintro (he | he)
    · exact h.ne_wb he
    · exact hx _ he rfl
  · rintro j (he | he)
    · rw [he]; exact h.bq
    · exact (ho.lt j he).1
theorem TAt.tcell (h : TAt w4 av tb wb bb n w W vs B) (k : Nat) : w.cell? ⟨tb, k, none⟩ = (#[av, .slice (some ⟨wb, 0, none⟩) n n, .slice (some ⟨bb, 0, none⟩) n n] : Array Value)[k]? := cell_of_heap h.tied k
theorem TAt.wcell (h : TAt w4 av tb wb bb n w W vs B) (k : Nat) (hk : k < W.length) : w.cell? ⟨wb, k, none⟩ = some (.int .i64 W[k]) := by
  rw [cell_of_heap h.wts]; exact zCells_at W k hk
end

/-- which group each place is of, up to place q of group g -/
def OfTo (on A : List (List Nat)) (g q : Nat) (F : List Nat) : Prop :=
  F.length = on.length ∧ (∀ j x, j < g → x ∈ A[j]?.getD [] → F[x]?.getD 0 = j) ∧ ∀ x ∈ (A[g]?.getD []).take q, F[x]?.getD 0 = g
theorem OfTo.start (on A : List (List Nat)) : OfTo on A 0 0 (List.replicate on.length 0) := ⟨by simp, fun j x h => by omega, by simp⟩
theorem OfTo.next {on A : List (List Nat)} (hS : Sorted on A) {g q x : Nat} {F row : List Nat} (h : OfTo on A g q F) (hrow : A[g]? = some row) (hx : row[q]? = some x) : OfTo on A g (q + 1) (F.set x g) := by
  obtain ⟨hq, hqe⟩ := List.getElem?_eq_some_iff.1 hx
  have hxm : x ∈ row := hqe ▸ List.getElem_mem hq
  have hxl : x < F.length := by rw [h.1]; exact (hS.all x).2 ⟨row, List.mem_of_getElem? hrow, hxm⟩
  refine ⟨by rw [List.length_set]; exact h.1, fun j y hj hy => ?_, fun y hy => ?_⟩
  · have hne : x ≠ y := by
      rintro rfl
      cases hj' : A[j]? with
      | none => rw [hj'] at hy; simp at hy
      | some b =>
        rw [hj'] at hy
        have := hS.one hj' hrow hy hxm
        omega
    rw [List.getElem?_set_ne hne]; exact h.2.1 j y hj hy
  · rw [hrow] at hy
    simp only [Option.getD_some] at hy
    rw [List.take_succ_eq_append_getElem hq, List.mem_append, List.mem_singleton, hqe] at hy
    by_cases he : x = y
    · subst he; rw [List.getElem?_set_self hxl]; rfl
    · rw [List.getElem?_set_ne he]
      rcases hy with hy | hy
      · exact h.2.2 y (by rw [hrow]; exact hy)
      · exact absurd hy.symm he
theorem OfTo.out {on A : List (List Nat)} {g q : Nat} {F row : List Nat} (h : OfTo on A g q F) (hrow : A[g]? = some row) (hq : row.length ≤ q) : OfTo on A (g + 1) 0 F := by
  refine ⟨h.1, fun j y hj hy => ?_, by simp⟩
  rcases Nat.lt_succ_iff_lt_or_eq.1 hj with hj | rfl
  · exact h.2.1 j y hj hy
  · refine h.2.2 y ?_
    rw [hrow] at hy ⊢
    rwa [Option.getD_some, List.take_of_length_le hq]
theorem OfTo.get {on A : List (List Nat)} (hS : Sorted on A) {F : List Nat} (h : OfTo on A A.length 0 F) {x : Nat} (hx : x < on.length) : ∃ (k : Nat) (a : List Nat), A[k]? = some a ∧ x ∈ a ∧ k < A.length ∧ F[x]? = some k := by
  obtain ⟨a, ha, hxa⟩ := (hS.all x).1 hx
  obtain ⟨k, hk, he⟩ := List.getElem_of_mem ha
  have hka : A[k]? = some a := by rw [List.getElem?_eq_getElem hk, he]
  have h1 := h.2.1 k x hk (by rw [hka]; exact hxa)
  have hxl : x < F.length := by rw [h.1]; exact hx
  refine ⟨k, a, hka, hxa, hk, ?_⟩
  rw [List.getElem?_eq_getElem hxl] at h1 ⊢
  simpa using h1
end Go.Proofs.Ytibnnhdpaccpfaa
