import Derived.Test.YtibnnhdpaccpfaaTie1
namespace Go.Proofs.Ytibnnhdpaccpfaa
open Go.RowKit

/-- a group, and the slice value that holds it, apart from block blk -/
def GroupIn (w : World) (blk : Nat) (x : Value × List Nat) : Prop :=
  ∃ b cap, x.1 = .slice (some ⟨b, 0, none⟩) x.2.length cap ∧ 0 < x.2.length ∧ b ≠ blk ∧ b < w.heap.size ∧ CellsAt w b 0 (intCells x.2) ∧ x.2.length ≤ cap
abbrev GV (w : World) (blk : Nat) : Type := { x : Value × List Nat // GroupIn w blk x }
def GV.enc {w : World} {blk : Nat} (x : GV w blk) : Value := x.1.1
def GV.head {w : World} {blk : Nat} (x : GV w blk) : Int := ((x.1.2[0]?.getD 0 : Nat) : Int)
def GV.cf {w : World} {blk : Nat} (x y : GV w blk) : Int := cmpI x.head y.head
theorem GV.swo (w : World) (blk : Nat) : Sort.SWO (ltOf (GV.cf (w := w) (blk := blk))) := by
  have hlt : ∀ x y : GV w blk, ltOf GV.cf x y = decide (x.head < y.head) := fun x y => by
    unfold ltOf GV.cf cmpI
    by_cases h1 : x.head < y.head
    · simp [h1]
    · by_cases h2 : y.head < x.head <;> simp [h1, h2]
  refine ⟨fun x => ?_, fun x y z h1 h2 => ?_, fun x y z h1 h2 => ?_⟩
  · rw [hlt]; simp
  · rw [hlt] at *; simp at *; omega
  · rw [hlt] at *; simp at *; omega
theorem GV.one (w : World) (blk : Nat) : OneCell (GV.enc (w := w) (blk := blk)) := fun ⟨x, b, cap, hx, _⟩ => by
  show x.1.oneCell' = true
  rw [hx]; rfl

theorem putCells_map {α : Type} [Inhabited α] (enc : α → Value) (d : Array α) (c : Array Value) : Sort.putCells enc 0 d c = Sort.putCells id 0 (d.map enc) c := by
  unfold Sort.putCells
  apply Array.ext_getElem?
  intro i
  rw [Array.getElem?_mapIdx, Array.getElem?_mapIdx]
  cases c[i]? with
  | none => rfl
  | some x =>
    simp only [Option.map_some, Nat.zero_le, true_and, Nat.zero_add, Array.size_map, Nat.sub_zero, id]
    by_cases h : i < d.size
    · rw [if_pos h, if_pos h, getElem!_pos d i h, getElem!_pos (d.map enc) i (by simpa using h)]; simp
    · rw [if_neg h, if_neg h]
theorem putRow_map {α : Type} [Inhabited α] (enc : α → Value) (w : World) (blk : Nat) (d : Array α) : Sort.putRow enc w blk 0 d = Sort.putRow id w blk 0 (d.map enc) := by
  unfold Sort.putRow
  rw [funext (putCells_map enc d)]

/-- a row of slice values, and the groups that they hold -/
def GroupRow (w : World) (blk : Nat) (vs : List Value) (G : List (List Nat)) : Prop :=
  vs.length = G.length ∧ ∀ (i : Nat) (v : Value) (g : List Nat), vs[i]? = some v → G[i]? = some g → GroupIn w blk (v, g)
def headOf (g : List Nat) : Nat := g[0]?.getD 0

theorem GroupRow.list {w : World} {blk : Nat} {vs : List Value} {G : List (List Nat)} (h : GroupRow w blk vs G) : ∃ D : List (GV w blk), D.map (fun x => x.1.1) = vs ∧ D.map (fun x => x.1.2) = G := by
  obtain ⟨hl, h⟩ := h
  induction vs generalizing G with
  | nil => cases G with | nil => exact ⟨[], rfl, rfl⟩ | cons g G => simp at hl
  | cons v vs ih =>
    cases G with
    | nil => simp at hl
    | cons g G =>
      obtain ⟨D, h1, h2⟩ := ih (by simpa using hl) (fun i v' g' hv hg => h (i + 1) v' g' (by simpa using hv) (by simpa using hg))
      exact ⟨⟨(v, g), h 0 v g rfl rfl⟩ :: D, by simp [h1], by simp [h2]⟩

theorem tie1_lays {w : World} {blk size : Nat} [Inhabited (GV w blk)] : CmpLays1 Try.prog 50 #[] (GV.enc (w := w) (blk := blk)) GV.cf blk 0 size w := by
  rintro m os dk hs ⟨⟨v1, g1⟩, b1, c1, h1, p1, n1, l1, cs1, _⟩ ⟨⟨v2, g2⟩, b2, c2, h2, p2, n2, l2, cs2, _⟩
  simp only at h1 h2 p1 p2 cs1 cs2
  subst h1
  subst h2
  have hk : ∀ b, b ≠ blk → b < w.heap.size → (sortWorld (GV.enc (w := w) (blk := blk)) w blk 0 m dk os).heap[b]? = w.heap[b]? := fun b hb hl => by
    unfold sortWorld
    rw [putRow_map, heap_grow _ _ _ (by rw [size_putRow']; exact hl), heap_putRow_other _ _ _ _ hb]; rfl
  have x1 := cs1.int 0 p1
  have x2 := cs2.int 0 p2
  rw [← World.cell?_of_block (w := w) (hk b1 n1 l1)] at x1
  rw [← World.cell?_of_block (w := w) (hk b2 n2 l2)] at x2
  refine (tie1_any b1 b2 g1.length g2.length c1 c2 _ _ _ p1 p2 x1 x2).mono ?_
  rintro e w' ⟨rfl, k, rfl⟩
  refine ⟨?_, k, #[], by rw [Sort.grow_empty]⟩
  simp only [GV.cf, GV.head, List.getElem?_eq_getElem p1, List.getElem?_eq_getElem p2, Option.getD_some]

/-- slices.SortFunc of groups, by their first numbers -/
theorem sortG_any (blk cap base : Nat) (vs : List Value) (G : List (List Nat)) (w : World) (hown : w.ownsRow base 72 1 (.slice (some ⟨blk, 0, none⟩) G.length cap) G.length vs) (hG : GroupRow w blk vs G) (hlen : G.length ≤ 1000000) :
    Calls Try.prog 49 #[.slice (some ⟨blk, 0, none⟩) G.length cap, .func (.func 50) #[] #[]] w fun e w' => e = .returned (.tuple #[]) ∧
      ∃ vs' G', w'.ownsRow base 72 1 (.slice (some ⟨blk, 0, none⟩) G.length cap) G.length vs' ∧ GroupRow w blk vs' G' ∧ G'.Perm G ∧ (∀ (i j : Nat) (a b : List Nat), i < j → G'[i]? = some a → G'[j]? = some b → headOf a ≤ headOf b) ∧ Mod (fun k => k = blk) w w' := by
  obtain ⟨D, hD1, hD2⟩ := hG.list
  have hl : D.length = G.length := by rw [← hD2]; simp
  cases D with
  | nil =>
    have hG0 : G = [] := by rw [← hD2]; rfl
    have hv0 : vs = [] := by rw [← hD1]; rfl
    subst hG0 hv0
    refine (Try.slices_SortInts_none _ _ _ _).mono ?_
    rintro e w' ⟨rfl, rfl⟩
    exact ⟨rfl, [], [], hown, hG, List.Perm.refl _, fun i j a b _ h => by simp at h, Mod.refl _ _⟩
  | cons x0 D0 =>
    haveI : Inhabited (GV w blk) := ⟨x0⟩
    generalize x0 :: D0 = D at *
    have hmap : D.toArray.map GV.enc = vs.toArray := by rw [← hD1]; simp [GV.enc]
    have hblk := (hown.lt blk rfl).2
    have hHid : Sort.Holds id w blk 0 vs.toArray := holds_of_own _ hown (by simp)
    have hH : Sort.Holds (GV.enc (w := w) (blk := blk)) w blk 0 D.toArray := fun j hj => by
      have h1 := hHid j (by rw [← hmap]; simpa using hj)
      rw [← hmap] at h1
      rw [getElem!_pos _ j (by simpa using hj)] at h1 ⊢
      simpa using h1
    have hc := Try.slices_SortInts GV.enc (GV.one w blk) GV.cf (GV.swo w blk) 50 #[] blk 0 cap D.toArray w (enters_of Try.func50 (by kernel_rfl) rfl) tie1_lays hH hblk (by simp; omega)
    simp only [List.size_toArray, hl] at hc
    refine hc.mono ?_
    rintro e w' ⟨rfl, d', n, os, hp, hs, rfl⟩
    obtain ⟨hsz, _, hperm⟩ := hp
    simp only [List.size_toArray] at hsz
    have hpl : d'.toList.Perm D := by
      have := perm_extract_all (d := D.toArray) (d' := d') (by simpa using hsz) (by simpa [hl] using hperm)
      simpa using this
    have hdl : d'.size = G.length := by rw [hsz, hl]
    have hF : (d'.map (GV.enc (w := w) (blk := blk))).size = G.length * 1 := by simp [hdl]
    obtain ⟨r1, r2⟩ := sorted_world (d'.map (GV.enc (w := w) (blk := blk))) n os hown hF
    unfold sortWorld
    rw [putRow_map]
    refine ⟨rfl, (d'.map GV.enc).toList, d'.toList.map (fun x => x.1.2), r1, ⟨by simp, fun i v g hv hg => ?_⟩, ?_, fun i j a b hij ha hb => ?_, r2⟩
    · simp only [Array.toList_map, List.getElem?_map] at hv hg
      cases hx : d'.toList[i]? with
      | none => rw [hx] at hg; simp at hg
      | some x =>
        rw [hx] at hv hg
        simp only [Option.map_some, Option.some.injEq] at hv hg
        subst hv hg
        exact x.2
    · rw [← hD2]; exact hpl.map _
    · simp only [List.getElem?_map, Array.getElem?_toList] at ha hb
      cases hx : d'[i]? with
      | none => rw [hx] at ha; simp at ha
      | some x =>
        cases hy : d'[j]? with
        | none => rw [hy] at hb; simp at hb
        | some y =>
          rw [hx] at ha
          rw [hy] at hb
          simp only [Option.map_some, Option.some.injEq] at ha hb
          obtain ⟨hi, hxe⟩ := Array.getElem?_eq_some_iff.1 hx
          obtain ⟨hj, hye⟩ := Array.getElem?_eq_some_iff.1 hy
          have h1 := hs i j (Nat.zero_le _) hij (by omega)
          rw [getElem!_pos d' i hi, getElem!_pos d' j hj, hxe, hye] at h1
          have h2 : ¬ (y.head < x.head) := by
            intro hlt
            simp [ltOf, GV.cf, cmpI, hlt] at h1
          simp only [GV.head] at h2
          rw [← ha, ← hb]
          unfold headOf
          omega
end Go.Proofs.Ytibnnhdpaccpfaa
