/-
  WHAT COMES IN, OPENED TO CELLS: instances, clocks, acts, bytes.
-/
import Derived.Test.YtibnnhdpaccpfaaXAt
import Derived.ProofKit
import Derived.OpenShut
import Derived.Deep.Slices
import Derived.Deep.Fields
namespace Go.Proofs.Ytibnnhdpaccpfaa
open Go.ChangeShapes Go.WideShapes Go.Deep Go.RowKit

section
variable {H : Type} {enc : TypeId × Value → H} {w : World} {base : Nat} {spare : Nat → Bool} {held : Bool}

theorem int_cell {t : TypeId} {fuel : Nat} {c : Value} {x : DataW H × List MemPlace} (ht : Try.prog.underlying t = some (.int .i64)) (h : DataW.trod enc Try.prog w base spare held fuel t [c] = some x) : ∃ n, c = .int .i64 n := by
  obtain ⟨n, hn, _⟩ := DataW.trod_int ht h
  exact ⟨n, by simpa using hn⟩
theorem cellsV7 : Try.prog.cellsOf 29 = 7 := by kernel_rfl
theorem cellsVec : Try.prog.cellsOf 32 = 7 := by kernel_rfl
theorem cellsInt64 : Try.prog.cellsOf 2 = 1 := by kernel_rfl
theorem cellsInt : Try.prog.cellsOf 3 = 1 := by kernel_rfl
theorem cellsDot : Try.prog.cellsOf 28 = 2 := by kernel_rfl
theorem cellsInst : Try.prog.cellsOf 31 = 10 := by kernel_rfl
theorem list7 {α : Type} {l : List α} (h : l.length = 7) : ∃ a b c d e f g, l = [a, b, c, d, e, f, g] := by
  match l, h with
  | [a, b, c, d, e, f, g], _ => exact ⟨a, b, c, d, e, f, g, rfl⟩
theorem list10 {α : Type} {l : List α} (h : l.length = 10) : ∃ a b c d e f g h i j, l = [a, b, c, d, e, f, g, h, i, j] := by
  match l, h with
  | [a, b, c, d, e, f, g, h, i, j], _ => exact ⟨a, b, c, d, e, f, g, h, i, j, rfl⟩

theorem open_v7 {t : TypeId} {fuel : Nat} {cs : List Value} {x : DataW H × List MemPlace} (ht : Try.prog.underlying t = some (.array 7 2)) (hc : Try.prog.cellsOf t = 7) (h : DataW.trod enc Try.prog w base spare held fuel t cs = some x) : ∃ v : V7, cs = v.cells := by
  obtain ⟨xs, m, _, _, hl, hxl, hi⟩ := DataW.trod_array ht h
  rw [hc] at hl
  obtain ⟨a, b, c, d, e, f, g, rfl⟩ := list7 hl
  rw [cellsInt64] at hi
  have key : ∀ (i : Nat) (u : Value), i < 7 → ([a, b, c, d, e, f, g].drop (i * 1)).take 1 = [u] → ∃ n, u = .int .i64 n := fun i u hi7 hu => by
    have h1 := hi i hi7
    rw [hu] at h1
    have hx : xs[i]? = some (xs[i]'(by omega)) := List.getElem?_eq_getElem (by omega)
    exact int_cell int64Desc (h1.trans hx)
  obtain ⟨n0, rfl⟩ := key 0 a (by omega) rfl
  obtain ⟨n1, rfl⟩ := key 1 b (by omega) rfl
  obtain ⟨n2, rfl⟩ := key 2 c (by omega) rfl
  obtain ⟨n3, rfl⟩ := key 3 d (by omega) rfl
  obtain ⟨n4, rfl⟩ := key 4 e (by omega) rfl
  obtain ⟨n5, rfl⟩ := key 5 f (by omega) rfl
  obtain ⟨n6, rfl⟩ := key 6 g (by omega) rfl
  exact ⟨⟨n0, n1, n2, n3, n4, n5, n6⟩, rfl⟩

theorem field_of {fs : Array Field} {j : Nat} {t : TypeId} {o : Nat} (h : fs[j]?.map (fun f => (f.type, f.offset)) = some (t, o)) : ∃ f, fs[j]? = some f ∧ f.type = t ∧ f.offset = o := by
  cases hf : fs[j]? with
  | none => rw [hf] at h; simp at h
  | some f =>
    rw [hf] at h
    simp at h
    exact ⟨f, rfl, h.1, h.2⟩
/-- one field of a struct -/
theorem open_field {T : TypeId} {fs : Array Field} {fuel : Nat} {cs : List Value} {x : DataW H × List MemPlace} (ht : Try.prog.underlying T = some (.struct fs)) (h : DataW.trod enc Try.prog w base spare held fuel T cs = some x) {j : Nat} {t : TypeId} {o : Nat}
    (hf : fs[j]?.map (fun f => (f.type, f.offset)) = some (t, o)) : cs.length = Try.prog.cellsOf T ∧ ∃ n y, DataW.trod enc Try.prog w base spare held n t ((cs.drop o).take (Try.prog.cellsOf t)) = some y := by
  obtain ⟨xs, n, _, _, hl, hxl, hi⟩ := DataW.trod_struct ht h
  obtain ⟨f, hfj, rfl, rfl⟩ := field_of hf
  have hjl := (Array.getElem?_eq_some_iff.1 hfj).1
  have hx : xs[j]? = some (xs[j]'(by omega)) := List.getElem?_eq_getElem (by omega)
  exact ⟨hl, n, _, (hi j f hfj).trans hx⟩
theorem open_dot {fuel : Nat} {cs : List Value} {x : DataW H × List MemPlace} (h : DataW.trod enc Try.prog w base spare held fuel 28 cs = some x) : ∃ r n : Int, cs = [.int .i64 r, .int .i64 n] := by
  obtain ⟨hl, n0, y0, h0⟩ := open_field dotDesc h (j := 0) (t := 3) (o := 0) (by kernel_rfl)
  obtain ⟨_, n1, y1, h1⟩ := open_field dotDesc h (j := 1) (t := 2) (o := 1) (by kernel_rfl)
  rw [cellsDot] at hl
  rw [cellsInt] at h0
  rw [cellsInt64] at h1
  match cs, hl with
  | [a, b], _ =>
    obtain ⟨r, rfl⟩ := int_cell intDesc h0
    obtain ⟨n, rfl⟩ := int_cell int64Desc h1
    exact ⟨r, n, rfl⟩
theorem open_inst {fuel : Nat} {cs : List Value} {x : DataW H × List MemPlace} (h : DataW.trod enc Try.prog w base spare held fuel 31 cs = some x) : ∃ i : Inst, cs = instCells i := by
  obtain ⟨hl, n0, y0, h0⟩ := open_field instDesc h (j := 0) (t := 28) (o := 0) (by kernel_rfl)
  obtain ⟨_, n1, y1, h1⟩ := open_field instDesc h (j := 1) (t := 2) (o := 2) (by kernel_rfl)
  obtain ⟨_, n2, y2, h2⟩ := open_field instDesc h (j := 2) (t := 29) (o := 3) (by kernel_rfl)
  rw [cellsInst] at hl
  rw [cellsDot] at h0
  rw [cellsInt64] at h1
  rw [cellsV7] at h2
  obtain ⟨c0, c1, c2, c3, c4, c5, c6, c7, c8, c9, rfl⟩ := list10 hl
  obtain ⟨r, n, e0⟩ := open_dot h0
  obtain ⟨s, e1⟩ := int_cell int64Desc h1
  obtain ⟨v, e2⟩ := open_v7 Try.underlying29 cellsV7 h2
  simp only [List.drop, List.take, List.cons.injEq, and_true, V7.cells] at e0 e2
  obtain ⟨a0, a1⟩ := e0
  obtain ⟨b0, b1, b2, b3, b4, b5, b6⟩ := e2
  refine ⟨⟨r, n, s, v⟩, ?_⟩
  rw [a0, a1, e1, b0, b1, b2, b3, b4, b5, b6]
  rfl
theorem open_vec {fuel : Nat} {cs : List Value} {x : DataW H × List MemPlace} (h : DataW.trod enc Try.prog w base spare held fuel 32 cs = some x) : ∃ v : V7, cs = v.cells := open_v7 Try.underlying32 cellsVec h

/-- a slice of bytes that came in; of capacity 0 it may lie anywhere -/
def BodyAt (w : World) (v : Value) (bs : List UInt8) : Prop := SlAt w v bs.length (bCells bs) ∨ ∃ a, v = .slice (some a) 0 0 ∧ bs = []
theorem BodyAt.below {w w' : World} {v : Value} {bs : List UInt8} (h : BodyAt w v bs) (hb : Below w.heap.size w w') : BodyAt w' v bs := h.imp (fun h => h.below hb) id
theorem BodyAt.form {w : World} {v : Value} {bs : List UInt8} (h : BodyAt w v bs) : ∃ p c, v = .slice p bs.length c := by
  rcases h with (⟨rfl, h, _⟩ | ⟨b, off, cap, rfl, _⟩) | ⟨a, rfl, rfl⟩
  · exact ⟨none, 0, by rw [h]⟩
  · exact ⟨_, _, rfl⟩
  · exact ⟨_, _, rfl⟩
theorem open_body {fuel : Nat} {b : Value} {x : DataW H × List MemPlace} (hsp : ∀ k, spare k = true) (h : DataW.trod enc Try.prog w base spare held fuel 35 [b] = some x) : ∃ bs, BodyAt w b bs := by
  rcases open_ints Try.underlying35 Try.underlying5 (by kernel_rfl) h with ⟨h1, _⟩ | ⟨a, len, cap, zs, h1, _, hlc, _, hzl, _, hcell, hwf⟩
  · simp only [List.cons.injEq, and_true] at h1
    exact ⟨[], .inl (.inl ⟨h1, rfl, rfl⟩)⟩
  · simp only [List.cons.injEq, and_true] at h1
    subst h1
    rw [if_pos (hsp _)] at hzl
    by_cases h0 : cap = 0
    · have : len = 0 := by omega
      subst this h0
      exact ⟨[], .inr ⟨a, rfl, rfl⟩⟩
    · have hc0 := hcell 0 (by omega)
      have hspot : a.spot = none := by simpa [Addr.add] using World.cell?_spot hc0
      obtain ⟨blk, off, spot⟩ := a
      simp only at hspot
      subst hspot
      have hadd : ∀ j, (⟨blk, off, none⟩ : Addr).add j = ⟨blk, off + j, none⟩ := fun j => by unfold Addr.add; split <;> simp_all
      refine ⟨(zs.take len).map fun n => UInt8.ofNat n.toNat, .inl (.inr ⟨blk, off, cap, by simp; omega, by simp; omega, fun j u hj => ?_, fun _ => World.block_lt_of_cell? _ _ hc0⟩)⟩
      have hjl : j < len := by
        have := (List.getElem?_eq_some_iff.1 hj).1
        simp [bCells] at this
        omega
      have hz : zs[j]? = some (zs[j]'(by omega)) := List.getElem?_eq_getElem (by omega)
      have hw := hwf _ (List.getElem_mem (by omega : j < zs.length))
      have h2 := hcell j (by omega)
      rw [hadd] at h2
      rw [h2]
      simp only [bCells, List.map_map, List.getElem?_map, List.getElem?_take, hjl, if_true, hz, Option.map_some, Function.comp] at hj
      rw [← Option.some.inj hj]
      simp only [List.getD, hz, Option.getD_some]
      obtain ⟨hw0, hw1⟩ := bounds_u8 hw
      have hnat : (UInt8.ofNat (zs[j]'(by omega)).toNat).toNat = (zs[j]'(by omega)).toNat := by
        simp only [UInt8.toNat_ofNat']
        omega
      rw [hnat]
      congr 2
      omega
end
end Go.Proofs.Ytibnnhdpaccpfaa
