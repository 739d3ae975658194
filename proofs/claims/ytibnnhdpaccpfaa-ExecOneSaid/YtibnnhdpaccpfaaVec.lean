import Derived.Test.YtibnnhdpaccpfaaDefs
namespace Go.Proofs.Ytibnnhdpaccpfaa
open Go.RowKit

set_option maxHeartbeats 400000 in
theorem vLe_any (a b : V7) (w : World) :
    Calls Try.prog 20 #[.agg #[.int .i64 a.a0, .int .i64 a.a1, .int .i64 a.a2, .int .i64 a.a3, .int .i64 a.a4, .int .i64 a.a5, .int .i64 a.a6], .agg #[.int .i64 b.a0, .int .i64 b.a1, .int .i64 b.a2, .int .i64 b.a3, .int .i64 b.a4, .int .i64 b.a5, .int .i64 b.a6]] w fun e w' => e = .returned (.bool (V7.le a b)) ∧ Below w.heap.size w w' := by
  go_enter Try.func20, Try.ntmps20
  go_wp2
  go_loopw [6] (fun i wr => ∃ k : Nat, k ≤ 7 ∧ i = .int .i64 k ∧ V7.leTo k a b = true ∧
      (∀ j, j < 7 → wr.cell? ⟨w.heap.size, j, none⟩ = some (.int .i64 (a.get j))) ∧ (∀ j, j < 7 → wr.cell? ⟨w.heap.size + 1, j, none⟩ = some (.int .i64 (b.get j))) ∧ Below w.heap.size w wr)
    (fun i _ => 7 - (intOf i).toNat)
  case atStart =>
    refine ⟨0, by omega, rfl, rfl, fun j hj => ?_, fun j hj => ?_, ((Below.refl _ _).alloc (Nat.le_refl _) _).alloc (by simp) _⟩
    · rw [World.cell?_alloc_old _ _ _ (by simp)]; rw [World.cell?_alloc_new]; exact V7.cellAt a j hj
    · rw [show w.heap.size + 1 = (w.alloc (.cells #[.int .i64 a.a0, .int .i64 a.a1, .int .i64 a.a2, .int .i64 a.a3, .int .i64 a.a4, .int .i64 a.a5, .int .i64 a.a6] 32)).heap.size from by simp]; rw [World.cell?_alloc_new]; exact V7.cellAt b j hj
  case round =>
    obtain ⟨k, hk, rfl, hle, hca, hcb, hbel⟩ := hrel
    by_cases hlt : k < 7
    · have ca := hca k hlt
      have cb := hcb k hlt
      have Hca := Lib.hid hca
      have Hcb := Lib.hid hcb
      have Hle := Lib.hid hle
      clear hca hcb hle
      go_wp2
      go_quiet (fail)
      go_wp2
      · go_ret
        exact ⟨bool_ret (V7.leTo_false hlt (by assumption)).symm, below_drewN hbel _⟩
      · go_roundw
        case rel => exact ⟨k + 1, by omega, by go_num, by rw [V7.leTo_succ, Hle.out]; simp; omega, Hca.out, Hcb.out, below_drewN hbel _⟩
        case measure => simp [intOf]; omega
    · obtain rfl : k = 7 := by omega
      have Hle := Lib.hid hle
      clear hca hcb hle
      go_wp2
      go_ret
      exact ⟨bool_ret Hle.out.symm, hbel⟩

theorem vIndex0 (a : V7) : ∀ w, (Instr.index 32 (.agg #[.int .i64 a.a0, .int .i64 a.a1, .int .i64 a.a2, .int .i64 a.a3, .int .i64 a.a4, .int .i64 a.a5, .int .i64 a.a6]) (.int .i64 (((0 : Nat) : Int)))).run Try.prog w = .ok (.int .i64 (a.get 0)) w := fun _ => by kernel_rfl
theorem vIndex1 (a : V7) : ∀ w, (Instr.index 32 (.agg #[.int .i64 a.a0, .int .i64 a.a1, .int .i64 a.a2, .int .i64 a.a3, .int .i64 a.a4, .int .i64 a.a5, .int .i64 a.a6]) (.int .i64 (((1 : Nat) : Int)))).run Try.prog w = .ok (.int .i64 (a.get 1)) w := fun _ => by kernel_rfl
theorem vIndex2 (a : V7) : ∀ w, (Instr.index 32 (.agg #[.int .i64 a.a0, .int .i64 a.a1, .int .i64 a.a2, .int .i64 a.a3, .int .i64 a.a4, .int .i64 a.a5, .int .i64 a.a6]) (.int .i64 (((2 : Nat) : Int)))).run Try.prog w = .ok (.int .i64 (a.get 2)) w := fun _ => by kernel_rfl
theorem vIndex3 (a : V7) : ∀ w, (Instr.index 32 (.agg #[.int .i64 a.a0, .int .i64 a.a1, .int .i64 a.a2, .int .i64 a.a3, .int .i64 a.a4, .int .i64 a.a5, .int .i64 a.a6]) (.int .i64 (((3 : Nat) : Int)))).run Try.prog w = .ok (.int .i64 (a.get 3)) w := fun _ => by kernel_rfl
theorem vIndex4 (a : V7) : ∀ w, (Instr.index 32 (.agg #[.int .i64 a.a0, .int .i64 a.a1, .int .i64 a.a2, .int .i64 a.a3, .int .i64 a.a4, .int .i64 a.a5, .int .i64 a.a6]) (.int .i64 (((4 : Nat) : Int)))).run Try.prog w = .ok (.int .i64 (a.get 4)) w := fun _ => by kernel_rfl
theorem vIndex5 (a : V7) : ∀ w, (Instr.index 32 (.agg #[.int .i64 a.a0, .int .i64 a.a1, .int .i64 a.a2, .int .i64 a.a3, .int .i64 a.a4, .int .i64 a.a5, .int .i64 a.a6]) (.int .i64 (((5 : Nat) : Int)))).run Try.prog w = .ok (.int .i64 (a.get 5)) w := fun _ => by kernel_rfl
theorem vIndex6 (a : V7) : ∀ w, (Instr.index 32 (.agg #[.int .i64 a.a0, .int .i64 a.a1, .int .i64 a.a2, .int .i64 a.a3, .int .i64 a.a4, .int .i64 a.a5, .int .i64 a.a6]) (.int .i64 (((6 : Nat) : Int)))).run Try.prog w = .ok (.int .i64 (a.get 6)) w := fun _ => by kernel_rfl
theorem vIndex (a : V7) (k : Nat) (h : k < 7) (w : World) : (Instr.index 32 (.agg #[.int .i64 a.a0, .int .i64 a.a1, .int .i64 a.a2, .int .i64 a.a3, .int .i64 a.a4, .int .i64 a.a5, .int .i64 a.a6]) (.int .i64 (k : Int))).run Try.prog w = .ok (.int .i64 (a.get k)) w := by
  obtain rfl | rfl | rfl | rfl | rfl | rfl | rfl : k = 0 ∨ k = 1 ∨ k = 2 ∨ k = 3 ∨ k = 4 ∨ k = 5 ∨ k = 6 := by omega
  · exact vIndex0 a w
  · exact vIndex1 a w
  · exact vIndex2 a w
  · exact vIndex3 a w
  · exact vIndex4 a w
  · exact vIndex5 a w
  · exact vIndex6 a w

set_option maxHeartbeats 400000 in
theorem vGood_any (a : V7) (w : World) :
    Calls Try.prog 15 #[.agg #[.int .i64 a.a0, .int .i64 a.a1, .int .i64 a.a2, .int .i64 a.a3, .int .i64 a.a4, .int .i64 a.a5, .int .i64 a.a6]] w fun e w' => e = .returned (.bool (V7.good a)) ∧ Below w.heap.size w w' := by
  go_enter Try.func15, Try.ntmps15
  go_wp2
  go_loop [6] (fun i => ∃ k : Nat, k ≤ 7 ∧ i = .int .i64 k ∧ V7.goodTo k a = true)
    (fun i => 7 - (intOf i).toNat)
  case atStart => exact ⟨0, by omega, rfl, rfl⟩
  case round =>
    obtain ⟨k, hk, rfl, hle⟩ := hrel
    have Hle := Lib.hid hle
    clear hle
    by_cases hlt : k < 7
    · have ci := vIndex a k hlt
      go_wp2
      · go_ret
        exact ⟨bool_ret (V7.goodTo_false hlt (by omega)).symm, ((Below.refl _ _).alloc (Nat.le_refl _) _)⟩
      · go_round
        case rel => exact ⟨k + 1, by omega, by go_num, by rw [V7.goodTo_succ, Hle.out]; simp; omega⟩
        case measure => simp [intOf]; omega
      · go_ret
        exact ⟨bool_ret (V7.goodTo_false hlt (by omega)).symm, ((Below.refl _ _).alloc (Nat.le_refl _) _)⟩
    · obtain rfl : k = 7 := by omega
      go_wp2
      go_ret
      exact ⟨bool_ret Hle.out.symm, ((Below.refl _ _).alloc (Nat.le_refl _) _)⟩

theorem run_imax {P : Program} (ts : Array TypeId) (t : TypeId) (x y : Int) (w : World) : (Builtin.max_ ts t #[.int .i64 x, .int .i64 y]).run P w = .ok (.int .i64 (max x y)) w := by
  rw [run_max_int2]; congr 2; omega

set_option maxHeartbeats 1000000 in
theorem vMerge_any (a b : V7) (w : World) :
    Calls Try.prog 16 #[.agg #[.int .i64 a.a0, .int .i64 a.a1, .int .i64 a.a2, .int .i64 a.a3, .int .i64 a.a4, .int .i64 a.a5, .int .i64 a.a6], .agg #[.int .i64 b.a0, .int .i64 b.a1, .int .i64 b.a2, .int .i64 b.a3, .int .i64 b.a4, .int .i64 b.a5, .int .i64 b.a6]] w fun e w' => e = .returned ((V7.merge a b).val) ∧ Below w.heap.size w w' := by
  go_enter Try.func16, Try.ntmps16
  have hmx := @run_imax Try.prog
  go_wp2
  refine wp_loop_rounds 8 ?_
  rw [rounds_succ]
  go_wp2
  go_region
  go_wp2
  rw [rounds_succ]
  go_wp2
  go_region
  go_wp2
  rw [rounds_succ]
  go_wp2
  go_region
  go_wp2
  rw [rounds_succ]
  go_wp2
  go_region
  go_wp2
  rw [rounds_succ]
  go_wp2
  go_region
  go_wp2
  rw [rounds_succ]
  go_wp2
  go_region
  go_wp2
  rw [rounds_succ]
  go_wp2
  go_region
  go_wp2
  rw [rounds_succ]
  go_wp2
  exact bodyPost_ret (v := (V7.merge a b).val) (by simp [results, Try.results16, go_sem]; rfl) rfl ⟨rfl, by repeat (first | exact Below.refl _ _ | refine Below.drew ?_ | refine Below.alloc ?_ (by simp; try omega) _)⟩

theorem odot_any (d : Dot) (w : World) :
    Calls Try.prog 24 #[.agg #[.int .i64 d.1, .int .i64 d.2]] w fun e w' => e = .returned (.bool (dotOk d)) ∧ Below w.heap.size w w' := by
  have hb := (Below.refl w.heap.size w).alloc (Nat.le_refl _) (.cells #[.int .i64 d.1, .int .i64 d.2] 28)
  have Hb := Lib.hid hb
  clear hb
  go_enter Try.func24, Try.ntmps24
  go_wp2
  all_goals (go_ret; exact ⟨bool_ret (by rw [Bool.eq_iff_iff]; simp [dotOk]; try omega), Hb.out⟩)

theorem ret_int {k : IntKind} {a b : Int} (h : a = b) : Ending.returned (.int k a) = .returned (.int k b) := by rw [h]
def cmpI (a b : Int) : Int := if a < b then -1 else if b < a then 1 else 0

theorem cmp64_any (a b : Int) (w : World) : Calls Try.prog 46 #[.int .i64 a, .int .i64 b] w fun e w' => e = .returned (.int .i64 (cmpI a b)) ∧ w' = w := by
  go_enter Try.func46, Try.ntmps46
  go_wp2
  · go_ret
    exact ⟨ret_int (by unfold cmpI; rw [if_pos (by assumption)]), rfl⟩
  · go_ret
    exact ⟨ret_int (by unfold cmpI; rw [if_neg (by omega), if_pos (by omega)]), rfl⟩
  · go_ret
    exact ⟨ret_int (by unfold cmpI; rw [if_neg (by omega), if_neg (by omega)]), rfl⟩
theorem cmpInt_any (a b : Int) (w : World) : Calls Try.prog 47 #[.int .i64 a, .int .i64 b] w fun e w' => e = .returned (.int .i64 (cmpI a b)) ∧ w' = w := by
  go_enter Try.func47, Try.ntmps47
  go_wp2
  · go_ret
    exact ⟨ret_int (by unfold cmpI; rw [if_pos (by assumption)]), rfl⟩
  · go_ret
    exact ⟨ret_int (by unfold cmpI; rw [if_neg (by omega), if_pos (by omega)]), rfl⟩
  · go_ret
    exact ⟨ret_int (by unfold cmpI; rw [if_neg (by omega), if_neg (by omega)]), rfl⟩
end Go.Proofs.Ytibnnhdpaccpfaa
