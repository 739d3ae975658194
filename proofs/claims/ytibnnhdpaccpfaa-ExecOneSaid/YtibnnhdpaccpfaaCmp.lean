import Derived.Test.YtibnnhdpaccpfaaVec
import Derived.StillTailTactics
import Derived.Deep.DeepMust
namespace Go.Proofs.Ytibnnhdpaccpfaa
open Go.RowKit

def or3 (x y z : Int) : Int := if x ≠ 0 then x else if y ≠ 0 then y else z
def Inst.cmp (a b : Inst) : Int := or3 (cmpI a.seq b.seq) (cmpI a.rep b.rep) (cmpI a.n b.n)

set_option maxHeartbeats 400000 in
theorem cmpOr3_any (x y z : Int) (b : Nat) (cap : Nat) (w : World) (h0 : w.cell? ⟨b, 0, none⟩ = some (.int .i64 x)) (h1 : w.cell? ⟨b, 1, none⟩ = some (.int .i64 y)) (h2 : w.cell? ⟨b, 2, none⟩ = some (.int .i64 z)) :
    Calls Try.prog 45 #[.slice (some ⟨b, 0, none⟩) 3 cap] w fun e w' => e = .returned (.int .i64 (or3 x y z)) ∧ w' = w := by
  go_enter Try.func45, Try.ntmps45
  go_wp2
  refine wp_loop_rounds 4 ?_
  rw [rounds_succ]
  by_cases e0 : x = 0
  · subst e0
    go_wp2
    rw [rounds_succ]
    by_cases e1 : y = 0
    · subst e1
      go_wp2
      rw [rounds_succ]
      by_cases e2 : z = 0
      · subst e2
        go_wp2
        rw [rounds_succ]
        go_wp2
        go_ret
        exact ⟨rfl, rfl⟩
      · have d2 : (z != 0) = true := by simpa using e2
        go_wp2
        go_ret
        exact ⟨rfl, rfl⟩
    · have d1 : (y != 0) = true := by simpa using e1
      go_wp2
      go_ret
      exact ⟨ret_int (by simp [or3, e1]), rfl⟩
  · have d0 : (x != 0) = true := by simpa using e0
    go_wp2
    go_ret
    exact ⟨ret_int (by simp [or3, e0]), rfl⟩

set_option maxHeartbeats 1000000 in
set_option maxRecDepth 100000 in
theorem compare_any (a b : Inst) (w : World) :
    Calls Try.prog 37 #[.agg #[.int .i64 a.rep, .int .i64 a.n, .int .i64 a.seq, .int .i64 a.deps.a0, .int .i64 a.deps.a1, .int .i64 a.deps.a2, .int .i64 a.deps.a3, .int .i64 a.deps.a4, .int .i64 a.deps.a5, .int .i64 a.deps.a6], .agg #[.int .i64 b.rep, .int .i64 b.n, .int .i64 b.seq, .int .i64 b.deps.a0, .int .i64 b.deps.a1, .int .i64 b.deps.a2, .int .i64 b.deps.a3, .int .i64 b.deps.a4, .int .i64 b.deps.a5, .int .i64 b.deps.a6]] w fun e w' => e = .returned (.int .i64 (a.cmp b)) ∧ ∃ o1 o2 o3, w' = (((w.alloc o1).alloc o2).alloc o3).drew := by
  go_enter Try.func37, Try.ntmps37
  go_wp2
  refine wp_region_still_tail 19 (by kernel_rfl) (by kernel_rfl) ?_
  simp only [List.take_succ_cons, List.take_zero, List.drop_succ_cons, List.drop_zero]
  change wpStill _ _ (World.drew _) _ _ _
  iterate 4 still_step
  still_call (cmp64_any _ _ _)
  iterate 6 still_step
  still_call (cmpInt_any _ _ _)
  iterate 6 still_step
  still_call (cmp64_any _ _ _)
  refine wpStill_nil ?_
  change wpList _ _ _ _ _ (World.drew _)
  go_wp2_with (go_at_call 45; go_must (refine (cmpOr3_any (cmpI a.seq b.seq) (cmpI a.rep b.rep) (cmpI a.n b.n) _ _ _ (by go_simp) (by go_simp) (by go_simp)).mono ?_); rintro e w' ⟨rfl, rfl⟩)
  go_ret
  exact ⟨ret_int rfl, _, _, _, rfl⟩
end Go.Proofs.Ytibnnhdpaccpfaa
