import Derived.Test.YtibnnhdpaccpfaaTarjan
namespace Go.Proofs.Ytibnnhdpaccpfaa
open Go.RowKit

def natCells (l : List Nat) : Array Value := (intCells l).toArray
theorem natCells_at (l : List Nat) (k : Nat) (h : k < l.length) : (natCells l)[k]? = some (.int .i64 (l[k]?.getD 0 : Nat)) := by
  simp [natCells, intCells, h]
theorem natCells_set (l : List Nat) (k m : Nat) : (natCells l).setIfInBounds k (.int .i64 (m : Int)) = natCells (l.set k m) := by
  simp [natCells, intCells]

theorem not_block {v : Value} {k b : Nat} (h : v.ownBlock ≠ some b) (hk : v.ownBlock = some k) : k ≠ b := fun he => h (he ▸ hk)

/-- the finder fb, over the rows 'on' in block ob of the world w0; what it has is in blocks of its own -/
structure FAt (w0 : World) (ob fb nb lb kb : Nat) (on : List (List Nat)) (w : World) (st : St) (sv gv : Value) (vs : List Value) : Prop where
  fin : w.heap[fb]? = some (.cells #[.slice (some ⟨ob, 0, none⟩) on.length on.length, .slice (some ⟨nb, 0, none⟩) on.length on.length, .slice (some ⟨lb, 0, none⟩) on.length on.length, sv, .slice (some ⟨kb, 0, none⟩) on.length on.length, .int .i64 (st.next : Int), gv] 114 (0, 0))
  num : w.heap[nb]? = some (.cells (natCells st.num) 3 (0, 0))
  low : w.heap[lb]? = some (.cells (natCells st.low) 3 (0, 0))
  opn : w.heap[kb]? = some (.cells (boolCells st.opn) 4 (0, 0))
  stk : w.ownsRow w0.heap.size 3 1 sv st.stack.length (intCells st.stack)
  snb : sv.ownBlock ≠ some nb
  slb : sv.ownBlock ≠ some lb
  grp : w.ownsRow w0.heap.size 72 1 gv st.groups.length vs
  gln : vs.length = st.groups.length
  gvs : ∀ (i : Nat) (v : Value) (g : List Nat), vs[i]? = some v → st.groups[i]? = some g → Sl0 w v g.length (intCells g) ∧ ∀ b, v.ownBlock = some b → w0.heap.size ≤ b ∧ b ≠ fb ∧ b ≠ nb ∧ b ≠ lb ∧ b ≠ kb ∧ sv.ownBlock ≠ some b ∧ gv.ownBlock ≠ some b ∧ b < w.heap.size
  nl : nb ≠ lb
  bf : w0.heap.size ≤ fb
  bn : w0.heap.size ≤ nb
  bl : w0.heap.size ≤ lb
  bk : w0.heap.size ≤ kb
  bel : Below w0.heap.size w0 w

section
variable {w0 : World} {ob fb nb lb kb : Nat} {on : List (List Nat)} {w : World} {st : St} {sv gv : Value} {vs : List Value}

theorem FAt.ne_fn (h : FAt w0 ob fb nb lb kb on w st sv gv vs) : fb ≠ nb := by
  intro he; have h1 := h.fin; rw [he, h.num] at h1; simp at h1
theorem FAt.ne_fl (h : FAt w0 ob fb nb lb kb on w st sv gv vs) : fb ≠ lb := by
  intro he; have h1 := h.fin; rw [he, h.low] at h1; simp at h1
theorem FAt.ne_fk (h : FAt w0 ob fb nb lb kb on w st sv gv vs) : fb ≠ kb := by
  intro he; have h1 := h.fin; rw [he, h.opn] at h1; simp at h1
theorem FAt.ne_nk (h : FAt w0 ob fb nb lb kb on w st sv gv vs) : nb ≠ kb := by
  intro he; have h1 := h.num; rw [he, h.opn] at h1; simp at h1
theorem FAt.ne_lk (h : FAt w0 ob fb nb lb kb on w st sv gv vs) : lb ≠ kb := by
  intro he; have h1 := h.low; rw [he, h.opn] at h1; simp at h1
theorem FAt.sf (h : FAt w0 ob fb nb lb kb on w st sv gv vs) : sv.ownBlock ≠ some fb := ownsRow_ne h.stk h.fin (by decide)
theorem FAt.sk (h : FAt w0 ob fb nb lb kb on w st sv gv vs) : sv.ownBlock ≠ some kb := ownsRow_ne h.stk h.opn (by decide)
theorem FAt.gf (h : FAt w0 ob fb nb lb kb on w st sv gv vs) : gv.ownBlock ≠ some fb := ownsRow_ne h.grp h.fin (by decide)
theorem FAt.gk (h : FAt w0 ob fb nb lb kb on w st sv gv vs) : gv.ownBlock ≠ some kb := ownsRow_ne h.grp h.opn (by decide)
theorem FAt.gn (h : FAt w0 ob fb nb lb kb on w st sv gv vs) : gv.ownBlock ≠ some nb := ownsRow_ne h.grp h.num (by decide)
theorem FAt.gl (h : FAt w0 ob fb nb lb kb on w st sv gv vs) : gv.ownBlock ≠ some lb := ownsRow_ne h.grp h.low (by decide)

/-- a cell of block X is set: all that lies elsewhere lies -/
theorem Sl0.setCell {v : Value} {n : Nat} {cs : List Value} (h : Sl0 w v n cs) (p : Addr) (u : Value) (hp : v.ownBlock ≠ some p.block) : Sl0 (w.setCell p u) v n cs :=
  h.mod (S := fun k => k = p.block) ((Mod.refl _ w).setCell p u (fun _ => rfl)) (fun _k hk he => hp (he ▸ hk))

theorem FAt.setNext (h : FAt w0 ob fb nb lb kb on w st sv gv vs) (m : Nat) : FAt w0 ob fb nb lb kb on (w.setCell ⟨fb, 5, none⟩ (.int .i64 (m : Int))) { st with next := m } sv gv vs := by
  refine ⟨?_, ?_, ?_, ?_, ?_, h.snb, h.slb, ?_, h.gln, fun i v g hv hg => ?_, h.nl, h.bf, h.bn, h.bl, h.bk, h.bel.setCell (p := ⟨fb, 5, none⟩) h.bf _⟩
  · rw [heap_setCell_same h.fin 5 _]; rfl
  · rw [Below.heap_setCell _ _ _ _ h.ne_fn.symm]; exact h.num
  · rw [Below.heap_setCell _ _ _ _ h.ne_fl.symm]; exact h.low
  · rw [Below.heap_setCell _ _ _ _ h.ne_fk.symm]; exact h.opn
  · exact ownsRow_mono h.stk fun k hk => Below.heap_setCell _ _ _ _ (not_block h.sf hk)
  · exact ownsRow_mono h.grp fun k hk => Below.heap_setCell _ _ _ _ (not_block h.gf hk)
  · obtain ⟨h1, h2⟩ := h.gvs i v g hv hg
    exact ⟨h1.setCell _ _ (fun he => (h2 _ he).2.1 rfl), fun b hb => by simpa using h2 b hb⟩

theorem FAt.setNum (h : FAt w0 ob fb nb lb kb on w st sv gv vs) (x m : Nat) : FAt w0 ob fb nb lb kb on (w.setCell ⟨nb, x, none⟩ (.int .i64 (m : Int))) { st with num := st.num.set x m } sv gv vs := by
  refine ⟨?_, ?_, ?_, ?_, ?_, h.snb, h.slb, ?_, h.gln, fun i v g hv hg => ?_, h.nl, h.bf, h.bn, h.bl, h.bk, h.bel.setCell (p := ⟨nb, x, none⟩) h.bn _⟩
  · rw [Below.heap_setCell _ _ _ _ h.ne_fn]; exact h.fin
  · rw [heap_setCell_same h.num x _, natCells_set]
  · rw [Below.heap_setCell _ _ _ _ h.nl.symm]; exact h.low
  · rw [Below.heap_setCell _ _ _ _ h.ne_nk.symm]; exact h.opn
  · exact ownsRow_mono h.stk fun k hk => Below.heap_setCell _ _ _ _ (not_block h.snb hk)
  · exact ownsRow_mono h.grp fun k hk => Below.heap_setCell _ _ _ _ (not_block h.gn hk)
  · obtain ⟨h1, h2⟩ := h.gvs i v g hv hg
    exact ⟨h1.setCell _ _ (fun he => (h2 _ he).2.2.1 rfl), fun b hb => by simpa using h2 b hb⟩

theorem FAt.setLow (h : FAt w0 ob fb nb lb kb on w st sv gv vs) (x m : Nat) : FAt w0 ob fb nb lb kb on (w.setCell ⟨lb, x, none⟩ (.int .i64 (m : Int))) (st.setLow x m) sv gv vs := by
  refine ⟨?_, ?_, ?_, ?_, ?_, h.snb, h.slb, ?_, h.gln, fun i v g hv hg => ?_, h.nl, h.bf, h.bn, h.bl, h.bk, h.bel.setCell (p := ⟨lb, x, none⟩) h.bl _⟩
  · rw [Below.heap_setCell _ _ _ _ h.ne_fl]; exact h.fin
  · rw [Below.heap_setCell _ _ _ _ h.nl]; exact h.num
  · rw [heap_setCell_same h.low x _, natCells_set]; rfl
  · rw [Below.heap_setCell _ _ _ _ h.ne_lk.symm]; exact h.opn
  · exact ownsRow_mono h.stk fun k hk => Below.heap_setCell _ _ _ _ (not_block h.slb hk)
  · exact ownsRow_mono h.grp fun k hk => Below.heap_setCell _ _ _ _ (not_block h.gl hk)
  · obtain ⟨h1, h2⟩ := h.gvs i v g hv hg
    exact ⟨h1.setCell _ _ (fun he => (h2 _ he).2.2.2.1 rfl), fun b hb => by simpa using h2 b hb⟩

theorem FAt.setOpn (h : FAt w0 ob fb nb lb kb on w st sv gv vs) (x : Nat) (c : Bool) : FAt w0 ob fb nb lb kb on (w.setCell ⟨kb, x, none⟩ (.bool c)) { st with opn := st.opn.set x c } sv gv vs := by
  refine ⟨?_, ?_, ?_, ?_, ?_, h.snb, h.slb, ?_, h.gln, fun i v g hv hg => ?_, h.nl, h.bf, h.bn, h.bl, h.bk, h.bel.setCell (p := ⟨kb, x, none⟩) h.bk _⟩
  · rw [Below.heap_setCell _ _ _ _ h.ne_fk]; exact h.fin
  · rw [Below.heap_setCell _ _ _ _ h.ne_nk]; exact h.num
  · rw [Below.heap_setCell _ _ _ _ h.ne_lk]; exact h.low
  · rw [heap_setCell_same h.opn x _]; simp [boolCells]
  · exact ownsRow_mono h.stk fun k hk => Below.heap_setCell _ _ _ _ (not_block h.sk hk)
  · exact ownsRow_mono h.grp fun k hk => Below.heap_setCell _ _ _ _ (not_block h.gk hk)
  · obtain ⟨h1, h2⟩ := h.gvs i v g hv hg
    exact ⟨h1.setCell _ _ (fun he => (h2 _ he).2.2.2.2.1 rfl), fun b hb => by simpa using h2 b hb⟩

/-- new blocks alone -/
theorem FAt.fresh {w' : World} (h : FAt w0 ob fb nb lb kb on w st sv gv vs) (hb : Below w.heap.size w w') : FAt w0 ob fb nb lb kb on w' st sv gv vs :=
  ⟨Below.heap hb h.fin (lt_of_heap h.fin), Below.heap hb h.num (lt_of_heap h.num), Below.heap hb h.low (lt_of_heap h.low), Below.heap hb h.opn (lt_of_heap h.opn),
   ownsRow_mono h.stk (fun k hk => hb.block k (h.stk.lt k hk).2), h.snb, h.slb, ownsRow_mono h.grp (fun k hk => hb.block k (h.grp.lt k hk).2), h.gln,
   fun i v g hv hg => ⟨(h.gvs i v g hv hg).1.below hb, fun b hb' => by
    obtain ⟨h1, h2, h3, h4, h5, h6, h7, h8⟩ := (h.gvs i v g hv hg).2 b hb'
    exact ⟨h1, h2, h3, h4, h5, h6, h7, Nat.lt_of_lt_of_le h8 hb.size⟩⟩, h.nl, h.bf, h.bn, h.bl, h.bk, h.bel.trans (hb.mono h.bel.size)⟩

/-- the stack's value is another, over the same or a new block -/
theorem FAt.setStack {w4 : World} (h : FAt w0 ob fb nb lb kb on w st sv gv vs) (s' : List Nat) (sv' : Value) (hm : Mod (fun j => sv.ownBlock = some j) w w4)
    (hown : w4.ownsRow w0.heap.size 3 1 sv' s'.length (intCells s')) (hat : sv'.ownBlock = sv.ownBlock ∨ ∀ b, sv'.ownBlock = some b → w.heap.size ≤ b) :
    FAt w0 ob fb nb lb kb on (w4.setCell ⟨fb, 3, none⟩ sv') { st with stack := s' } sv' gv vs := by
  have hf4 : w4.heap[fb]? = _ := hm.heap h.fin h.sf
  have hn4 : w4.heap[nb]? = _ := hm.heap h.num h.snb
  have hl4 : w4.heap[lb]? = _ := hm.heap h.low h.slb
  have hk4 : w4.heap[kb]? = _ := hm.heap h.opn h.sk
  have hsf' : sv'.ownBlock ≠ some fb := ownsRow_ne hown hf4 (by decide)
  have hsz := hm.size
  have old : ∀ b, b < w.heap.size → sv.ownBlock ≠ some b → sv'.ownBlock ≠ some b := fun b hb hne he => by
    rcases hat with h1 | h1
    · exact hne (h1 ▸ he)
    · have := h1 b he; omega
  have hgs : ∀ k, gv.ownBlock = some k → ¬ sv.ownBlock = some k := fun k hk he => by
    obtain ⟨c, hc⟩ := ownsRow_block h.grp hk
    exact ownsRow_ne h.stk hc (by decide) he
  refine ⟨?_, ?_, ?_, ?_, ?_, old nb (lt_of_heap h.num) h.snb, old lb (lt_of_heap h.low) h.slb, ?_, h.gln, fun i v g hv hg => ?_, h.nl, h.bf, h.bn, h.bl, h.bk, ?_⟩
  · rw [heap_setCell_same hf4 3 _]; rfl
  · rw [Below.heap_setCell _ _ _ _ h.ne_fn.symm]; exact hn4
  · rw [Below.heap_setCell _ _ _ _ h.ne_fl.symm]; exact hl4
  · rw [Below.heap_setCell _ _ _ _ h.ne_fk.symm]; exact hk4
  · exact ownsRow_mono hown fun k hk => Below.heap_setCell _ _ _ _ (not_block hsf' hk)
  · refine ownsRow_mono h.grp fun k hk => ?_
    rw [Below.heap_setCell _ _ _ _ (not_block h.gf hk)]
    exact hm.block k (h.grp.lt k hk).2 (hgs k hk)
  · obtain ⟨h1, h2⟩ := h.gvs i v g hv hg
    refine ⟨(h1.mod hm (fun k hk he => (h2 k hk).2.2.2.2.2.1 he)).setCell _ _ (fun he => (h2 _ he).2.1 rfl), fun b hb => ?_⟩
    obtain ⟨k1, k2, k3, k4, k5, k6, k7, k8⟩ := h2 b hb
    exact ⟨k1, k2, k3, k4, k5, old b k8 k6, k7, by simp; omega⟩
  · exact (h.bel.trans (below_of_mod hm (fun k hk => (h.stk.lt k hk).1) h.bel.size)).setCell (p := ⟨fb, 3, none⟩) h.bf _

/-- one group more -/
theorem FAt.addGroup {w4 : World} (h : FAt w0 ob fb nb lb kb on w st sv gv vs) (g : List Nat) (v gv' : Value) (hm : Mod (fun j => gv.ownBlock = some j) w w4)
    (hown : w4.ownsRow w0.heap.size 72 1 gv' (st.groups.length + 1) (vs ++ [v])) (hat : gv'.ownBlock = gv.ownBlock ∨ ∀ b, gv'.ownBlock = some b → w.heap.size ≤ b)
    (hv : Sl0 w v g.length (intCells g)) (hvb : ∀ b, v.ownBlock = some b → w0.heap.size ≤ b ∧ b ≠ fb ∧ b ≠ nb ∧ b ≠ lb ∧ b ≠ kb ∧ sv.ownBlock ≠ some b ∧ gv.ownBlock ≠ some b ∧ b < w.heap.size) :
    FAt w0 ob fb nb lb kb on (w4.setCell ⟨fb, 6, none⟩ gv') { st with groups := st.groups ++ [g] } sv gv' (vs ++ [v]) := by
  have hf4 : w4.heap[fb]? = _ := hm.heap h.fin h.gf
  have hn4 : w4.heap[nb]? = _ := hm.heap h.num h.gn
  have hl4 : w4.heap[lb]? = _ := hm.heap h.low h.gl
  have hk4 : w4.heap[kb]? = _ := hm.heap h.opn h.gk
  have hgf' : gv'.ownBlock ≠ some fb := ownsRow_ne hown hf4 (by decide)
  have hsz := hm.size
  have old : ∀ b, b < w.heap.size → gv.ownBlock ≠ some b → gv'.ownBlock ≠ some b := fun b hb hne he => by
    rcases hat with h1 | h1
    · exact hne (h1 ▸ he)
    · have := h1 b he; omega
  have hsg : ∀ k, sv.ownBlock = some k → ¬ gv.ownBlock = some k := fun k hk he => by
    obtain ⟨c, hc⟩ := ownsRow_block h.grp he
    exact ownsRow_ne h.stk hc (by decide) hk
  refine ⟨?_, ?_, ?_, ?_, ?_, h.snb, h.slb, ?_, by simp [h.gln], fun i u g' hu hg => ?_, h.nl, h.bf, h.bn, h.bl, h.bk, ?_⟩
  · rw [heap_setCell_same hf4 6 _]; rfl
  · rw [Below.heap_setCell _ _ _ _ h.ne_fn.symm]; exact hn4
  · rw [Below.heap_setCell _ _ _ _ h.ne_fl.symm]; exact hl4
  · rw [Below.heap_setCell _ _ _ _ h.ne_fk.symm]; exact hk4
  · refine ownsRow_mono h.stk fun k hk => ?_
    rw [Below.heap_setCell _ _ _ _ (not_block h.sf hk)]
    exact hm.block k (h.stk.lt k hk).2 (hsg k hk)
  · show World.ownsRow _ _ _ _ _ (st.groups ++ [g]).length _
    rw [List.length_append]
    exact ownsRow_mono hown fun k hk => Below.heap_setCell _ _ _ _ (not_block hgf' hk)
  · have key : ∀ (u : Value) (g' : List Nat), Sl0 w u g'.length (intCells g') → (∀ b, u.ownBlock = some b → w0.heap.size ≤ b ∧ b ≠ fb ∧ b ≠ nb ∧ b ≠ lb ∧ b ≠ kb ∧ sv.ownBlock ≠ some b ∧ gv.ownBlock ≠ some b ∧ b < w.heap.size) →
        Sl0 (w4.setCell ⟨fb, 6, none⟩ gv') u g'.length (intCells g') ∧ ∀ b, u.ownBlock = some b → w0.heap.size ≤ b ∧ b ≠ fb ∧ b ≠ nb ∧ b ≠ lb ∧ b ≠ kb ∧ sv.ownBlock ≠ some b ∧ gv'.ownBlock ≠ some b ∧ b < (w4.setCell ⟨fb, 6, none⟩ gv').heap.size := fun u g' h1 h2 => by
      refine ⟨(h1.mod hm (fun k hk he => (h2 k hk).2.2.2.2.2.2.1 he)).setCell _ _ (fun he => (h2 _ he).2.1 rfl), fun b hb => ?_⟩
      obtain ⟨k1, k2, k3, k4, k5, k6, k7, k8⟩ := h2 b hb
      exact ⟨k1, k2, k3, k4, k5, k6, old b k8 k7, by simp; omega⟩
    replace hg : (st.groups ++ [g])[i]? = some g' := hg
    rcases Nat.lt_or_ge i st.groups.length with hi | hi
    · rw [List.getElem?_append_left hi] at hg
      rw [List.getElem?_append_left (by rw [h.gln]; exact hi)] at hu
      obtain ⟨h1, h2⟩ := h.gvs i u g' hu hg
      exact key u g' h1 h2
    · rw [List.getElem?_append_right hi] at hg
      rw [List.getElem?_append_right (by rw [h.gln]; exact hi), h.gln] at hu
      have hi0 : i - st.groups.length = 0 := by
        have := (List.getElem?_eq_some_iff.1 hg).1
        simp at this; exact this
      rw [hi0] at hg hu
      simp at hg hu
      subst hg hu
      exact key v g hv hvb
  · exact (h.bel.trans (below_of_mod hm (fun k hk => (h.grp.lt k hk).1) h.bel.size)).setCell (p := ⟨fb, 6, none⟩) h.bf _
end
end Go.Proofs.Ytibnnhdpaccpfaa
