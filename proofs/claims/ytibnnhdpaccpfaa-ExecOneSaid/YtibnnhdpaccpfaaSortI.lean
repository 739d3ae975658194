import Derived.Test.YtibnnhdpaccpfaaMem
import Derived.Test.YtibnnhdpaccpfaaShelf
namespace Go.Proofs.Ytibnnhdpaccpfaa
open Go.RowKit

theorem heap_putRow (w : World) (blk : Nat) (F : Array Value) {cur : Array Value} {e : TypeId} (h : w.heap[blk]? = some (.cells cur e (0, 0))) :
    (Sort.putRow id w blk 0 F).heap[blk]? = some (.cells (Sort.putCells id 0 F cur) e (0, 0)) := by
  simp [Sort.putRow, Sort.mapBlock, Array.getElem?_modify, h, Sort.onCells]
theorem heap_putRow_other (w : World) (blk : Nat) (F : Array Value) (k : Nat) (hk : k ≠ blk) : (Sort.putRow id w blk 0 F).heap[k]? = w.heap[k]? := by
  simp [Sort.putRow, Sort.mapBlock, Array.getElem?_modify, Ne.symm hk]
theorem size_putRow' (w : World) (blk : Nat) (F : Array Value) : (Sort.putRow id w blk 0 F).heap.size = w.heap.size := by
  simp [Sort.putRow, Sort.mapBlock]
theorem heap_grow (w : World) (os : Array Obj) (k : Nat) (hk : k < w.heap.size) : (Sort.grow w os).heap[k]? = w.heap[k]? := by
  show (w.heap ++ os)[k]? = w.heap[k]?
  rw [Array.getElem?_append_left hk]
theorem putCells_take (F cur : Array Value) (h : F.size ≤ cur.size) : (Sort.putCells id 0 F cur).size = cur.size ∧ (Sort.putCells id 0 F cur).toList.take F.size = F.toList := by
  refine ⟨by simp [Sort.putCells], ?_⟩
  apply List.ext_getElem?
  intro i
  rw [List.getElem?_take]
  by_cases hi : i < F.size
  · rw [if_pos hi]
    simp only [Array.getElem?_toList, Sort.putCells, Array.getElem?_mapIdx]
    rw [Array.getElem?_eq_getElem (show i < cur.size by omega)]
    simp [hi]
  · rw [if_neg hi]
    simp [show F.size ≤ i by omega]

/-- the world behind a sort of a row at the head of a block -/
theorem sorted_world {w : World} {base : Nat} {e : TypeId} {size n blk cap : Nat} {xs : List Value} (F : Array Value) (q : Nat) (os : Array Obj)
    (hown : w.ownsRow base e size (.slice (some ⟨blk, 0, none⟩) n cap) n xs) (hF : F.size = n * size) :
    (Sort.grow (Sort.putRow id (Sort.ahead w q) blk 0 F) os).ownsRow base e size (.slice (some ⟨blk, 0, none⟩) n cap) n F.toList ∧ Mod (fun k => k = blk) w (Sort.grow (Sort.putRow id (Sort.ahead w q) blk 0 F) os) := by
  obtain ⟨hl, h2⟩ := hown
  rcases h2 with ⟨h2, _⟩ | ⟨g, cap', cur, hv, hg, hh, hnc, hcm, hcs, htk⟩
  · cases h2
  · simp only [Value.slice.injEq, Option.some.injEq, Addr.mk.injEq, true_and, and_true] at hv
    obtain ⟨rfl, rfl⟩ := hv
    have hlt := lt_of_heap hh
    have hle : F.size ≤ cur.size := by rw [hF, hcs]; exact Nat.mul_le_mul_right _ hnc
    obtain ⟨s1, s2⟩ := putCells_take F cur hle
    have hb : (Sort.grow (Sort.putRow id (Sort.ahead w q) blk 0 F) os).heap[blk]? = some (.cells (Sort.putCells id 0 F cur) e (0, 0)) := by
      rw [heap_grow _ _ _ (by rw [size_putRow']; exact hlt)]
      exact heap_putRow (Sort.ahead w q) blk F hh
    refine ⟨⟨by simp [hF], .inr ⟨blk, cap, _, rfl, hg, hb, hnc, hcm, by rw [s1, hcs], ?_⟩⟩, rfl, rfl, rfl, ?_, ?_⟩
    · rw [← hF]; exact s2
    · show w.heap.size ≤ ((Sort.putRow id (Sort.ahead w q) blk 0 F).heap ++ os).size
      rw [Array.size_append, size_putRow']; show w.heap.size ≤ w.heap.size + _; omega
    · intro k hk hne
      rw [heap_grow _ _ _ (by rw [size_putRow']; exact hk), heap_putRow_other _ _ _ _ hne]; rfl

instance : Inhabited Inst := ⟨⟨0, 0, 0, V7.zero⟩⟩

theorem flatK_toList (d : Array Inst) : (Sort.flatK instCells 10 d).toList = instsCells d.toList := by
  apply List.ext_getElem?
  intro t
  by_cases ht : t < d.size * 10
  · have hk : t / 10 < d.toList.length := by simp; omega
    have hat := instsCells_at d.toList (t / 10) (t % 10) hk (by omega)
    rw [show t / 10 * 10 + t % 10 = t from by omega] at hat
    rw [hat]
    have hlen : t % 10 < (instCells d.toList[t / 10]).length := by rw [instCells_len]; omega
    rw [List.getElem?_eq_getElem hlen]
    have hsz : t < (Sort.flatK instCells 10 d).size := by simpa using ht
    rw [Array.getElem?_toList, Array.getElem?_eq_getElem hsz]
    have := Sort.get_flatK instCells 10 d t ht
    rw [getElem!_pos _ t hsz] at this
    rw [this]
    have hd : d[t / 10]! = d.toList[t / 10] := by
      rw [getElem!_pos d (t / 10) (by simpa using hk)]; simp
    rw [hd, getElem!_pos (instCells d.toList[t / 10]) (t % 10) hlen]
  · have h1 : (Sort.flatK instCells 10 d).size ≤ t := by simp; omega
    have h2 : (instsCells d.toList).length ≤ t := by rw [instsCells_len]; simp; omega
    rw [List.getElem?_eq_none h2, List.getElem?_eq_none (by simpa using h1)]

theorem cmp_lt (x y : Inst) : x.cmp y < 0 ↔ x.lt y = true := by
  simp only [Inst.cmp, or3, cmpI, Inst.lt, decide_eq_true_eq]
  repeat' split
  all_goals omega
theorem instSWO : Sort.SWO (ltOf Inst.cmp) where
  irrefl x := by
    have : ¬ (x.cmp x < 0) := by rw [cmp_lt, Inst.lt_irrefl]; simp
    simp [ltOf, this]
  trans x y z h1 h2 := by
    simp only [ltOf, decide_eq_true_eq, cmp_lt] at *
    exact Inst.lt_trans h1 h2
  ntrans x y z h1 h2 := by
    simp only [ltOf, decide_eq_false_iff_not, cmp_lt, Inst.lt, decide_eq_true_eq] at *
    omega
theorem cmp_lays (blk off size : Nat) (w : World) : CmpLays Try.prog 37 #[] instCells 10 Inst.cmp blk off size w := fun m os dk _ x y =>
  (compare_any x y _).mono fun e w' ⟨he, o1, o2, o3, hw⟩ => ⟨he, 1, #[o1, o2, o3], by rw [hw]; rfl⟩

theorem isAggInst : ∀ w, (isAgg 31).run Try.prog w = .ok true w := fun _ => by kernel_rfl
theorem sizeOfInst : ∀ w, (Go.sizeOf 31).run Try.prog w = .ok 10 w := fun _ => by kernel_rfl

theorem holds_of_own {w : World} {base : Nat} {e : TypeId} {size n blk cap : Nat} {xs : List Value} (F : Array Value) (hown : w.ownsRow base e size (.slice (some ⟨blk, 0, none⟩) n cap) n xs) (hF : F.toList = xs) : Sort.Holds id w blk 0 F := by
  obtain ⟨hl, h2⟩ := hown
  rcases h2 with ⟨h2, _⟩ | ⟨g, cap', cur, hv, hg, hh, hnc, hcm, hcs, htk⟩
  · cases h2
  · simp only [Value.slice.injEq, Option.some.injEq, Addr.mk.injEq, true_and, and_true] at hv
    obtain ⟨rfl, rfl⟩ := hv
    intro j hj
    refine ⟨?_, free_of_heap hh _⟩
    rw [cell_of_heap hh, Nat.zero_add, getElem!_pos F j hj]
    have h3 : (cur.toList.take (n * size))[j]? = F.toList[j]? := by rw [htk, hF]
    have hjn : j < n * size := by rw [← hl, ← hF]; simpa using hj
    rw [List.getElem?_take, if_pos hjn] at h3
    simpa [hj] using h3

theorem perm_extract_all {α : Type} {d d' : Array α} (h : d'.size = d.size) (hp : (d'.extract 0 d.size).toList.Perm (d.extract 0 d.size).toList) : d'.toList.Perm d.toList := by
  have e1 : d'.extract 0 d.size = d' := by rw [← h]; simp
  have e2 : d.extract 0 d.size = d := by simp
  rwa [e1, e2] at hp

/-- slices.SortFunc of instances -/
theorem sortInst_any (blk cap base : Nat) (l : List Inst) (w : World) (hown : w.ownsRow base 31 10 (.slice (some ⟨blk, 0, none⟩) l.length cap) l.length (instsCells l)) (hnd : NodupDots l) (hlen : l.length ≤ 1000000) :
    Calls Try.prog 36 #[.slice (some ⟨blk, 0, none⟩) l.length cap, .func (.func 37) #[] #[]] w fun e w' => e = .returned (.tuple #[]) ∧
      ∃ s, IsSorted l s ∧ w'.ownsRow base 31 10 (.slice (some ⟨blk, 0, none⟩) l.length cap) l.length (instsCells s) ∧ Mod (fun k => k = blk) w w' := by
  have hblk := (hown.lt blk rfl).2
  have hH : Sort.HoldsK instCells 10 w blk 0 l.toArray := holds_of_own _ hown (flatK_toList l.toArray)
  have hc := Try.slices_SortInst isAggInst sizeOfInst instCells instCells_len (fun x v hv => by simp [instCells] at hv; rcases hv with rfl | rfl | rfl | rfl | rfl | rfl | rfl | rfl | rfl | rfl <;> rfl) Inst.cmp instSWO 37 #[] blk 0 cap l.toArray w (enters_of Try.func37 (by kernel_rfl) rfl) (cmp_lays _ _ _ _) hH hblk (by simp; omega)
  simp only [List.size_toArray] at hc
  refine hc.mono ?_
  rintro e w' ⟨rfl, d', n, os, hp, hs, rfl⟩
  obtain ⟨hsz, _, hperm⟩ := hp
  simp only [List.size_toArray] at hsz
  have hpl : d'.toList.Perm l := by
    have := perm_extract_all (d := l.toArray) (d' := d') (by simpa using hsz) (by simpa using hperm)
    simpa using this
  have hpw : d'.toList.Pairwise fun x y => x.lt y = true := by
    rw [List.pairwise_iff_getElem]
    intro i j hi hj hij
    have h1 := hs i j (Nat.zero_le _) hij (by simp at hj; omega)
    rw [getElem!_pos d' i (by simpa using hi), getElem!_pos d' j (by simpa using hj)] at h1
    simp only [ltOf, decide_eq_false_iff_not, cmp_lt] at h1
    have hnd' : NodupDots d'.toList := hnd.perm hpl
    have hne := List.pairwise_iff_getElem.1 hnd' i j hi hj hij
    rcases Inst.lt_total hne with h | h
    · exact h
    · exact absurd (by simpa using h) h1
  have hF : (Sort.flatK instCells 10 d').size = l.length * 10 := by simp [hsz]
  obtain ⟨r1, r2⟩ := sorted_world (Sort.flatK instCells 10 d') n os hown hF
  rw [flatK_toList] at r1
  exact ⟨rfl, d'.toList, ⟨hpl, hpw⟩, r1, r2⟩
end Go.Proofs.Ytibnnhdpaccpfaa
