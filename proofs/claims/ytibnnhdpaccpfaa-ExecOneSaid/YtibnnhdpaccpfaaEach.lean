import Derived.Test.YtibnnhdpaccpfaaMap
import Derived.Test.YtibnnhdpaccpfaaPure
namespace Go.Proofs.Ytibnnhdpaccpfaa
open Go.RowKit

def instCells (x : Inst) : List Value := [.int .i64 x.rep, .int .i64 x.n, .int .i64 x.seq, .int .i64 x.deps.a0, .int .i64 x.deps.a1, .int .i64 x.deps.a2, .int .i64 x.deps.a3, .int .i64 x.deps.a4, .int .i64 x.deps.a5, .int .i64 x.deps.a6]

theorem arrIndex0 (a : V7) : ∀ w, (Instr.index 29 (.agg #[.int .i64 a.a0, .int .i64 a.a1, .int .i64 a.a2, .int .i64 a.a3, .int .i64 a.a4, .int .i64 a.a5, .int .i64 a.a6]) (.int .i64 (((0 : Nat) : Int)))).run Try.prog w = .ok (.int .i64 (a.get 0)) w := fun _ => by kernel_rfl
theorem arrIndex1 (a : V7) : ∀ w, (Instr.index 29 (.agg #[.int .i64 a.a0, .int .i64 a.a1, .int .i64 a.a2, .int .i64 a.a3, .int .i64 a.a4, .int .i64 a.a5, .int .i64 a.a6]) (.int .i64 (((1 : Nat) : Int)))).run Try.prog w = .ok (.int .i64 (a.get 1)) w := fun _ => by kernel_rfl
theorem arrIndex2 (a : V7) : ∀ w, (Instr.index 29 (.agg #[.int .i64 a.a0, .int .i64 a.a1, .int .i64 a.a2, .int .i64 a.a3, .int .i64 a.a4, .int .i64 a.a5, .int .i64 a.a6]) (.int .i64 (((2 : Nat) : Int)))).run Try.prog w = .ok (.int .i64 (a.get 2)) w := fun _ => by kernel_rfl
theorem arrIndex3 (a : V7) : ∀ w, (Instr.index 29 (.agg #[.int .i64 a.a0, .int .i64 a.a1, .int .i64 a.a2, .int .i64 a.a3, .int .i64 a.a4, .int .i64 a.a5, .int .i64 a.a6]) (.int .i64 (((3 : Nat) : Int)))).run Try.prog w = .ok (.int .i64 (a.get 3)) w := fun _ => by kernel_rfl
theorem arrIndex4 (a : V7) : ∀ w, (Instr.index 29 (.agg #[.int .i64 a.a0, .int .i64 a.a1, .int .i64 a.a2, .int .i64 a.a3, .int .i64 a.a4, .int .i64 a.a5, .int .i64 a.a6]) (.int .i64 (((4 : Nat) : Int)))).run Try.prog w = .ok (.int .i64 (a.get 4)) w := fun _ => by kernel_rfl
theorem arrIndex5 (a : V7) : ∀ w, (Instr.index 29 (.agg #[.int .i64 a.a0, .int .i64 a.a1, .int .i64 a.a2, .int .i64 a.a3, .int .i64 a.a4, .int .i64 a.a5, .int .i64 a.a6]) (.int .i64 (((5 : Nat) : Int)))).run Try.prog w = .ok (.int .i64 (a.get 5)) w := fun _ => by kernel_rfl
theorem arrIndex6 (a : V7) : ∀ w, (Instr.index 29 (.agg #[.int .i64 a.a0, .int .i64 a.a1, .int .i64 a.a2, .int .i64 a.a3, .int .i64 a.a4, .int .i64 a.a5, .int .i64 a.a6]) (.int .i64 (((6 : Nat) : Int)))).run Try.prog w = .ok (.int .i64 (a.get 6)) w := fun _ => by kernel_rfl
theorem arrIndex (a : V7) (k : Nat) (h : k < 7) (w : World) : (Instr.index 29 (.agg #[.int .i64 a.a0, .int .i64 a.a1, .int .i64 a.a2, .int .i64 a.a3, .int .i64 a.a4, .int .i64 a.a5, .int .i64 a.a6]) (.int .i64 (k : Int))).run Try.prog w = .ok (.int .i64 (a.get k)) w := by
  obtain rfl | rfl | rfl | rfl | rfl | rfl | rfl : k = 0 ∨ k = 1 ∨ k = 2 ∨ k = 3 ∨ k = 4 ∨ k = 5 ∨ k = 6 := by omega
  · exact arrIndex0 a w
  · exact arrIndex1 a w
  · exact arrIndex2 a w
  · exact arrIndex3 a w
  · exact arrIndex4 a w
  · exact arrIndex5 a w
  · exact arrIndex6 a w

/-- the web's list, and its i-th instance, lie there -/
def WebRead (W : World) (wb lb n cap i : Nat) (x : Inst) : Prop :=
  W.cell? ⟨wb, 0, none⟩ = some (.slice (some ⟨lb, 0, none⟩) n cap) ∧ CellsAt W lb (i * 10) (instCells x)

theorem all_false_of_prefix {l p : List Dot} {d : Dot} {P : Dot → Bool} (h : p ++ [d] <+: l) (hd : P d = false) : l.all P = false := by
  rw [List.all_eq_false]
  exact ⟨d, h.subset (by simp), by simp [hd]⟩

def EachPost (x : Inst) (P : Dot → Bool) (I : List Dot → World → Prop) (w' : World) : Prop := ∃ p, I p w' ∧ (x.depDots.all P = true → p = x.depDots)

set_option maxRecDepth 100000 in
set_option maxHeartbeats 1000000 in
theorem each_any (wb lb n cap i : Nat) (x : Inst) (hi : i < n) (_hn : n ≤ 1000000) (g : Nat) (cb : Array Value) (P : Dot → Bool) (I : List Dot → World → Prop)
    (hdeps : ∀ r, r < 7 → x.deps.get r ≤ 1000000)
    (hread : ∀ p W, I p W → WebRead W wb lb n cap i x)
    (hgrow : ∀ p W W', I p W → Below W.heap.size W W' → I p W')
    (eg : ∀ args w, (callFunc g args).run Try.prog w = .ok (.enter g args) w)
    (hcall : ∀ p d W, p ++ [d] <+: x.depDots → I p W → Calls Try.prog g (#[.agg #[.int .i64 d.1, .int .i64 d.2]] ++ cb) W (fun e W' => e = .returned (.bool (P d)) ∧ I (p ++ [d]) W'))
    (w : World) (h0 : I [] w) :
    Calls Try.prog 39 #[.pointer (some ⟨wb, 0, none⟩), .int .i64 i, .func (.func g) #[] cb] w fun e w' => e = .returned (.bool (x.depDots.all P)) ∧ EachPost x P I w' := by
  obtain ⟨hw0, hc⟩ := hread _ _ h0
  have c3 := hc 3 _ rfl
  have c4 := hc 4 _ rfl
  have c5 := hc 5 _ rfl
  have c6 := hc 6 _ rfl
  have c7 := hc 7 _ rfl
  have c8 := hc 8 _ rfl
  have c9 := hc 9 _ rfl
  have HREAD := Lib.hid hread
  have HGROW := Lib.hid hgrow
  have HCALL := Lib.hid hcall
  have HDEPS := Lib.hid hdeps
  have H0 := Lib.hid h0
  clear hread hgrow hcall h0 hdeps hc
  go_enter Try.func39, Try.ntmps39
  go_wp2
  go_loopw [19] (fun v wr => ∃ r : Nat, r ≤ 7 ∧ v = .int .i64 r ∧ I (depsTo x r 0) wr ∧ (depsTo x r 0).all P = true) (fun v _ => 7 - (intOf v).toNat)
  case atStart => exact ⟨0, by omega, rfl, H0.out, rfl⟩
  case round =>
    obtain ⟨r, hr, rfl, hI, hall⟩ := hrel
    clear hw0 c3 c4 c5 c6 c7 c8 c9
    by_cases hlt : r < 7
    · have hix := arrIndex x.deps r hlt
      have hd := HDEPS.out r hlt
      have HI := Lib.hid hI
      have HALL := Lib.hid hall
      clear hI hall
      have hb7 : decide ((r : Int) < 7) = true := by simp; omega
      go_wp2
      obtain ⟨wo, rfl⟩ : ∃ wo : World, wo = wr := ⟨_, rfl⟩
      go_loopw [9] (fun v wi => ∃ k : Nat, k ≤ x.depNat r ∧ v = .int .i64 (k + 1) ∧ I (depsTo x r k) wi ∧ (depsTo x r k).all P = true) (fun v _ => x.depNat r + 2 - (intOf v).toNat)
      case atStart => exact ⟨0, by omega, by simp, HI.out, HALL.out⟩
      case round =>
        obtain ⟨k, hk, rfl, hI, hall⟩ := hrel
        obtain ⟨hw0, hc⟩ := HREAD.out _ _ hI
        have c0 := hc 0 _ rfl
        have c1 := hc 1 _ rfl
        rw [Nat.add_zero] at c0
        have HI2 := Lib.hid hI
        have HALL2 := Lib.hid hall
        have hlb := World.block_lt_of_cell? _ _ c0
        have hwb := World.block_lt_of_cell? _ _ hw0
        simp only at hlb hwb
        clear hI hall hc
        have hdep : (x.depNat r : Int) ≤ 1000000 := by unfold Inst.depNat; omega
        by_cases hle : (k : Int) + 1 ≤ x.deps.get r
        · have hkn : k + 1 ≤ x.depNat r := by unfold Inst.depNat; omega
          have hdg := dotGuard
          by_cases hown : (((r : Int), (k : Int) + 1) : Dot) = x.dot
          · have hdn : ∀ w, (binOp .neq 28 (.agg #[.int .i64 (r : Int), .int .i64 ((k : Int) + 1)]) (.agg #[.int .i64 x.rep, .int .i64 x.n])).run Try.prog w = .ok (.bool false) w := fun w => by
              have h := dotNeq ((r : Int), (k : Int) + 1) x.dot w
              rwa [show ((((r : Int), (k : Int) + 1) : Dot) != x.dot) = false from by rw [hown]; simp] at h
            have HO := Lib.hid hown
            clear hown
            go_wp2
            go_quiet (fail)
            go_wp2
            go_roundw
            case rel => exact ⟨k + 1, hkn, by go_num, by rw [depsTo_succ, if_pos HO.out, List.append_nil]; exact HGROW.out _ _ _ HI2.out (below_drewN ((Below.refl _ _).alloc (Nat.le_refl _) _) _), by rw [depsTo_succ, if_pos HO.out, List.append_nil]; exact HALL2.out⟩
            case measure => simp [intOf]; omega
          · have hdn : ∀ w, (binOp .neq 28 (.agg #[.int .i64 (r : Int), .int .i64 ((k : Int) + 1)]) (.agg #[.int .i64 x.rep, .int .i64 x.n])).run Try.prog w = .ok (.bool true) w := fun w => by
              have h := dotNeq ((r : Int), (k : Int) + 1) x.dot w
              rwa [show ((((r : Int), (k : Int) + 1) : Dot) != x.dot) = true from by simpa using hown] at h
            have HO := Lib.hid hown
            clear hown
            have hs : depsTo x r (k + 1) = depsTo x r k ++ [((r : Int), (k : Int) + 1)] := by rw [depsTo_succ, if_neg HO.out]
            have hpre : depsTo x r k ++ [((r : Int), (k : Int) + 1)] <+: x.depDots := by rw [← hs]; exact depsTo_prefix x r (k + 1) hlt hkn
            have HS := Lib.hid hs
            have HPRE := Lib.hid hpre
            clear hs hpre
            go_wp2
            refine wp_region_still_tail 13 (by kernel_rfl) (by kernel_rfl) ?_
            simp only [List.take_succ_cons, List.take_zero, List.drop_succ_cons, List.drop_zero]
            change wpStill _ _ (World.drew _) _ _ _
            iterate 13 still_step
            refine wpStill_nil ?_
            change wpList _ _ _ _ _ (World.drew _)
            have hcon := HCALL.out (depsTo x r k) ((r : Int), (k : Int) + 1) ((wr.alloc (.cells #[.int .i64 (r : Int), .int .i64 ((k : Int) + 1)] 28)).drew) HPRE.out (HGROW.out _ _ _ HI2.out (((Below.refl _ _).alloc (Nat.le_refl _) _).drew))
            obtain ⟨b, hb⟩ : ∃ b, P ((r : Int), (k : Int) + 1) = b := ⟨_, rfl⟩
            rw [hb] at hcon
            have HB := Lib.hid hb
            have HCON := Lib.hid hcon
            clear hb hcon
            go_wp2_with fail
            refine HCON.out.mono ?_
            rintro e w' ⟨rfl, hI'⟩
            have HI' := Lib.hid hI'
            clear hI' HCON
            cases b with
            | false =>
              go_wp2_with fail
              go_ret
              have hf : x.depDots.all P = false := all_false_of_prefix HPRE.out HB.out
              exact ⟨bool_ret hf.symm, _, HI'.out, fun h => absurd h (by rw [hf]; simp)⟩
            | true =>
              go_wp2_with fail
              go_roundw
              case rel => exact ⟨k + 1, hkn, by go_num, by rw [HS.out]; exact HI'.out, by rw [HS.out, List.all_append, HALL2.out]; simp [HB.out]⟩
              case measure => simp [intOf]; omega
        · have hkn : k = x.depNat r := by
            have : (0 : Int) ≤ x.deps.get r ∨ x.deps.get r < 0 := by omega
            unfold Inst.depNat at hk ⊢; omega
          have HK := Lib.hid hkn
          clear hkn
          go_wp2
          go_roundw
          case rel => exact ⟨r + 1, by omega, by go_num, by rw [depsTo_next, ← HK.out]; exact HI2.out, by rw [depsTo_next, ← HK.out]; exact HALL2.out⟩
          case measure => simp [intOf]; omega
    · obtain rfl : r = 7 := by omega
      have HI := Lib.hid hI
      have HALL := Lib.hid hall
      clear hI hall
      go_wp2
      go_ret
      have he : x.depDots.all P = true := HALL.out
      exact ⟨bool_ret he.symm, _, HI.out, fun _ => rfl⟩
end Go.Proofs.Ytibnnhdpaccpfaa
