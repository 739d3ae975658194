import Derived.Test.YtibnnhdpaccpfaaOn
namespace Go.Proofs.Ytibnnhdpaccpfaa
open Go.RowKit

/-- make([]T, n), T of one cell -/
theorem run_make1 (w : World) (t e : TypeId) (i : TypeInfo) (z : Value) (ht : Try.prog.underlying t = some (.slice e)) (hi : Try.prog.info? e = some i) (hz : i.zero = some z) (hs : i.size = 1) (hb : i.bytes ≤ 24) (hc : z.cells = #[z]) (n : Nat) (hn : n ≤ 1000000) :
    (Instr.makeSlice t (.int .i64 (n : Int)) (.int .i64 (n : Int))).run Try.prog w = .ok (.slice (some ⟨w.heap.size, 0, none⟩) n n) (w.alloc (.cells (Array.replicate n z) e)) := by
  have h := run_makeSlice (P := Try.prog) w t e i z ht hi hz .i64 .i64 (n : Int) (n : Int) (by omega) (Int.le_refl _) (by rw [hs]; simp; omega) (by
    have h1 : i.bytes * n ≤ 24 * n := Nat.mul_le_mul_right n hb
    have h2 : ((i.bytes * n : Nat) : Int) ≤ ((24 * n : Nat) : Int) := by exact_mod_cast h1
    push_cast at h2
    omega) (by omega)
  rw [h, hs, hc]
  have hm : madeCells #[z] n = Array.replicate n z := by
    apply Array.ext'
    rw [toList_madeCells_one, Array.toList_replicate]
  simp only [Int.toNat_natCast, Nat.mul_one, hm]

theorem mk_intss (n : Nat) (hn : n ≤ 1000000) (w : World) : (Instr.makeSlice 74 (.int .i64 (n : Int)) (.int .i64 (n : Int))).run Try.prog w = .ok (.slice (some ⟨w.heap.size, 0, none⟩) n n) (w.alloc (.cells (Array.replicate n (.slice none 0 0)) 72)) := by
  obtain ⟨i0, hi0, hz0, hz1, hz2⟩ := info_parts intsInfo
  exact run_make1 w _ _ i0 _ Try.underlying74 hi0 hz0 hz1 (by omega) rfl n hn
theorem mk_ints (n : Nat) (hn : n ≤ 1000000) (w : World) : (Instr.makeSlice 72 (.int .i64 (n : Int)) (.int .i64 (n : Int))).run Try.prog w = .ok (.slice (some ⟨w.heap.size, 0, none⟩) n n) (w.alloc (.cells (Array.replicate n (.int .i64 0)) 3)) := by
  obtain ⟨i0, hi0, hz0, hz1, hz2⟩ := info_parts intInfo
  exact run_make1 w _ _ i0 _ Try.underlying72 hi0 hz0 hz1 (by omega) rfl n hn
theorem boolInfo : (Try.prog.info? 4).map (fun i => (i.zero, i.size, i.bytes)) = some (some (.bool false), 1, 1) := by kernel_rfl
theorem mk_bools (n : Nat) (hn : n ≤ 1000000) (w : World) : (Instr.makeSlice 82 (.int .i64 (n : Int)) (.int .i64 (n : Int))).run Try.prog w = .ok (.slice (some ⟨w.heap.size, 0, none⟩) n n) (w.alloc (.cells (Array.replicate n (.bool false)) 4)) := by
  obtain ⟨i0, hi0, hz0, hz1, hz2⟩ := info_parts boolInfo
  exact run_make1 w _ _ i0 _ Try.underlying82 hi0 hz0 hz1 (by omega) rfl n hn

/-- the numbers that x hangs on are few -/
def Inst.small (x : Inst) : Prop := ∀ r, r < 7 → x.deps.get r ≤ 1000
theorem dotsOf_len (x : Inst) (r k : Nat) : (dotsOf x r k).length ≤ k := by
  unfold dotsOf
  exact Nat.le_trans (List.length_filterMap_le _ _) (by simp)
theorem depsTo_len (x : Inst) (h : x.small) (r : Nat) (hr : r ≤ 7) : (depsTo x r 0).length ≤ r * 1000 := by
  induction r with
  | zero => simp [depsTo, dotsOf]
  | succ r ih =>
    rw [depsTo_next]
    have h1 := ih (by omega)
    have h2 : (depsTo x r (x.depNat r)).length = (depsTo x r 0).length + (dotsOf x r (x.depNat r)).length := by simp [depsTo, dotsOf]
    have h3 := dotsOf_len x r (x.depNat r)
    have h4 := h r (by omega)
    have h5 : x.depNat r ≤ 1000 := by unfold Inst.depNat; omega
    omega
theorem depDots_len (x : Inst) (h : x.small) : x.depDots.length ≤ 7000 := depsTo_len x h 7 (Nat.le_refl _)
end Go.Proofs.Ytibnnhdpaccpfaa
