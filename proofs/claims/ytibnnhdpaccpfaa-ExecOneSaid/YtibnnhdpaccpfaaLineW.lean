import Derived.Test.YtibnnhdpaccpfaaTie
import Derived.Test.YtibnnhdpaccpfaaExec1
namespace Go.Proofs.Ytibnnhdpaccpfaa
open Go.RowKit

def LineWPost (on : List (List Nat)) (w : World) (e : Ending) (w' : World) : Prop :=
  ∃ A T v, e = .returned v ∧ Sorted on A ∧ Told on A T ∧ T.length = A.length ∧ Sl0 w' v (lineOut A T).length (intCells (lineOut A T)) ∧ Below w.heap.size w w'

theorem cells_add {w : World} {b : Nat} {cs : List Value} (h : CellsAt w b 0 cs) : ∀ j u, cs[j]? = some u → w.cell? ((⟨b, 0, none⟩ : Addr).add j) = some u := fun j u hj => by
  have hadd : (⟨b, 0, none⟩ : Addr).add j = ⟨b, 0 + j, none⟩ := by unfold Addr.add; split <;> simp_all
  rw [hadd]; exact h j u hj
theorem intCells_one (l : List Nat) : ∀ v ∈ intCells l, v.oneCell' = true := by
  intro v hv
  obtain ⟨b, _, rfl⟩ := List.mem_map.1 hv
  rfl
theorem intCells_len (l : List Nat) : (intCells l).length = l.length := by simp [intCells]
theorem intCells_append (a b : List Nat) : intCells (a ++ b) = intCells a ++ intCells b := by simp [intCells]

set_option maxRecDepth 100000 in
set_option maxHeartbeats 8000000 in
theorem line_walk (ob : Nat) (on : List (List Nat)) (w : World) (hrows : RowsOn w ob on) (hon : ∀ r ∈ on, ∀ y ∈ r, y < on.length) (hn : on.length ≤ 1000) (hrl : ∀ r ∈ on, r.length ≤ 7000) :
    Calls Try.prog 33 #[.slice (some ⟨ob, 0, none⟩) on.length on.length] w (LineWPost on w) := by
  have HTIE := Lib.hid (tie_any ob on w hrows hon hn hrl)
  clear hrows hon hrl
  go_enter Try.func33, Try.ntmps33
  go_wp2_with fail
  refine HTIE.out.mono ?_
  rintro e w5 ⟨tb, wb, bb, av, A, W0, B, vs, w4, rfl, hS, ⟨ap, cap, rfl, hcap, hAp⟩, hT1, hT, hb4⟩
  have hAl := hS.len
  have ht0 : w5.cell? ⟨tb, 0, none⟩ = some (.slice ap A.length cap) := hT.tcell 0
  have ht1 : w5.cell? ⟨tb, 1, none⟩ = some (.slice (some ⟨wb, 0, none⟩) A.length A.length) := hT.tcell 1
  have ht2 : w5.cell? ⟨tb, 2, none⟩ = some (.slice (some ⟨bb, 0, none⟩) A.length A.length) := hT.tcell 2
  obtain ⟨n, hnA⟩ : ∃ n, A.length = n := ⟨_, rfl⟩
  rw [hnA] at hAl ht0 ht1 ht2 hcap
  have HNA := Lib.hid hnA
  have HS := Lib.hid hS
  have HAP := Lib.hid hAp
  have HT1 := Lib.hid hT1
  have HT := Lib.hid hT
  have HB4 := Lib.hid hb4
  have ltb := lt_of_heap hT.tied
  have ntw := hT.ne_tw
  clear hS hAp hT1 hT hb4 hnA
  have HB5 := Lib.hid (show Below w.heap.size w w5 from HB4.out.trans (HT.out.bel.mono HB4.out.size))
  have HT0 := Lib.hid ht0
  have HT01 := Lib.hid ht1
  have HT02 := Lib.hid ht2
  go_wp2_with fail
  go_loopw [4, 15] (fun v4 v15 wr => ∃ (T : List Nat) (W : List Int), T.length ≤ n ∧ v15 = .int .i64 (T.length : Nat) ∧ Told on A T ∧ Wait1 on A T W ∧ wr.heap[wb]? = some (.cells (zCells W) 3 (0, 0)) ∧ Mod (fun k => k = wb) w5 wr ∧
    wr.ownsRow w5.heap.size 3 1 v4 (lineOut A T).length (intCells (lineOut A T))) (fun _ v _ => n - (intOf v).toNat)
  case atStart => exact ⟨[], _, by simp, rfl, .nil, HT1.out.wait, HT.out.wts, Mod.refl _ _, ⟨rfl, .inl ⟨rfl, rfl⟩⟩⟩
  case round =>
    obtain ⟨T, W, hTl, rfl, hT, hW, hwb, hmod, hout⟩ := hrel
    have HTD := Lib.hid hT
    have HW := Lib.hid hW
    have HWB := Lib.hid hwb
    have HMOD := Lib.hid hmod
    have HOUT := Lib.hid hout
    have hol := lineOut_len HS.out T
    clear hT hW hwb hmod hout ht0 ht1 ht2
    by_cases hlt : T.length < n
    · obtain ⟨g, hgi, hN⟩ := HW.out.next HS.out HTD.out (by rw [HNA.out]; exact hlt)
      have hWl : W.length = n := by rw [HW.out.wl, HNA.out]
      have hgn : g < n := by rw [← HNA.out]; exact hN.lt
      have hidx := index_any (some ⟨wb, 0, none⟩) n W 0 wr (by omega) (fun _ => ⟨wb, rfl, fun j hj => by rw [cell_of_heap HWB.out]; exact zCells_at W j hj⟩)
      rw [hWl, hgi] at hidx
      have ht0 : wr.cell? ⟨tb, 0, none⟩ = some (.slice ap n cap) := (HMOD.out.cell (p := ⟨tb, 0, none⟩) ltb ntw).trans HT0.out
      have ht1 : wr.cell? ⟨tb, 1, none⟩ = some (.slice (some ⟨wb, 0, none⟩) n n) := (HMOD.out.cell (p := ⟨tb, 1, none⟩) ltb ntw).trans HT01.out
      have hwc : wr.cell? ⟨wb, g, none⟩ = some (.int .i64 (W[g]'(by omega))) := by rw [cell_of_heap HWB.out]; exact zCells_at W g (by omega)
      have hwf : wr.frozen? ⟨wb, g, none⟩ = false := free_of_heap HWB.out g
      generalize (W[g]'(by omega)) = wg at hwc
      have hg0 : (0 : Int) ≤ (g : Int) := Int.natCast_nonneg _
      have hg1 : (g : Int) < (n : Int) := by omega
      have HIDX := Lib.hid hidx
      have HN := Lib.hid hN
      have HWL := Lib.hid hWl
      obtain ⟨tl, htl⟩ : ∃ tl, T.length = tl := ⟨_, rfl⟩
      rw [htl] at hlt hTl hol ⊢
      have HTL := Lib.hid htl
      clear htl hidx hN hWl hgi
      go_wp2_with fail
      refine HIDX.out.mono ?_
      rintro e w' ⟨rfl, rfl⟩
      go_wp2_with ((with_reducible show wpList _ _ _ (Oper.mk (some 32) _ _ _ _ _ :: _) _ _); refine stays ?_)
      refine Stays.go ?_
      have hm6 : Mod (fun k => k = wb) w5 (w'.setCell ⟨wb, g, none⟩ (.int .i64 (-1))) := HMOD.out.setCell _ _ (fun _ => rfl)
      have hwb6 : (w'.setCell ⟨wb, g, none⟩ (.int .i64 (-1))).heap[wb]? = some (.cells (zCells (W.set g (-1))) 3 (0, 0)) := by rw [heap_setCell_same HWB.out g _, zCells_set]
      have ho6 : (w'.setCell ⟨wb, g, none⟩ (.int .i64 (-1))).ownsRow w5.heap.size 3 1 u4 (lineOut A T).length (intCells (lineOut A T)) := ownsRow_mono HOUT.out fun k hk => Below.heap_setCell _ _ _ _ (by
        have h1 := (HOUT.out.lt k hk).1
        have h2 := lt_of_heap HT.out.wts
        show k ≠ wb
        omega)
      generalize w'.setCell ⟨wb, g, none⟩ (.int .i64 (-1)) = w6 at hm6 hwb6 ho6 ⊢
      have hB46 : Below w4.heap.size w4 w6 := HT.out.bel.trans (below_of_mod hm6 (fun k hk => by rw [hk]; exact HT.out.bw) HT.out.bel.size)
      obtain ⟨ab, rfl, hra, hab⟩ := HAP.out (by rw [HNA.out]; omega)
      have hrow : A[g]? = some (A[g]'(by rw [HNA.out]; exact hgn)) := List.getElem?_eq_getElem (by rw [HNA.out]; exact hgn)
      obtain ⟨pa, ca, hcr4, hcapa, hpa⟩ := hra g (by rw [HNA.out]; exact hgn)
      have hrl1 := HS.out.row_len g
      rw [hrow] at hrl1
      simp only [Option.getD_some] at hrl1
      have hpos : 0 < (A[g]'(by rw [HNA.out]; exact hgn)).length := by
        obtain ⟨G, hG, hp⟩ := HS.out.some
        exact List.length_pos_iff.2 (hG.gne _ (hp.mem_iff.1 (List.getElem_mem _))).1
      generalize (A[g]'(by rw [HNA.out]; exact hgn)) = row at hrow hcr4 hcapa hpa hrl1 hpos
      obtain ⟨ba, rfl, hca, hba⟩ := hpa hpos
      have ht0 : w6.cell? ⟨tb, 0, none⟩ = some (.slice (some ⟨ab, 0, none⟩) n cap) := (hm6.cell (p := ⟨tb, 0, none⟩) ltb ntw).trans HT0.out
      have hcr := (hB46.cell (World.block_lt_of_cell? _ _ hcr4)).trans hcr4
      have hca6 : CellsAt w6 ba 0 (intCells row) := fun j u hj => by rw [hB46.cell hba]; exact hca j u hj
      have HCA := Lib.hid hca6
      have HM6 := Lib.hid hm6
      have HWB6 := Lib.hid hwb6
      have HO6 := Lib.hid ho6
      have HROW := Lib.hid hrow
      have hm5 := HT.out.bel.size
      have hm56 := hm6.size
      obtain ⟨i0, hi0, hz0, hz1, hz2⟩ := info_parts intInfo
      have hol2 : (lineOut A T).length ≤ 1000000 := by
        have h1 : tl * on.length ≤ 1000 * 1000 := Nat.mul_le_mul (by omega) hn
        omega
      clear hm6 hwb6 ho6 hB46 hra hab hcr4 hca hba hca6 hrow hwc hwf ht1
      go_wp2_with ((with_reducible show wpList _ _ _ (Oper.mk (some 36) _ _ _ _ _ :: _) _ _); refine stays ?_)
      refine Stays.go ?_
      refine wpList_append_own _ rfl _ _ 72 rfl w5.heap.size 3 i0 _ 1 8 Try.underlying72 hi0 hz0 hz1 hz2 rfl (by decide) _ _ _ rfl HO6.out ⟨ba, 0, none⟩ row.length ca (intCells row) rfl (by simp [intCells_len]) (cells_add HCA.out) (intCells_one row) (by unfold maxLen; omega) (by omega) hm56 ?_
      intro v' w7 hown7 hgrow7 hnil7
      have hm7 : Mod (fun k => u4.ownBlock = some k) w6 w7 := Mod.grown (Mod.refl _ _) hgrow7 (fun _ h _ => h)
      have hu4 : ∀ k, u4.ownBlock = some k → w5.heap.size ≤ k := fun k hk => (HO6.out.lt k hk).1
      have lwb := lt_of_heap HT.out.wts
      have hwb7 := hm7.heap HWB6.out (fun h => by have := hu4 wb h; omega)
      have hm57 : Mod (fun k => k = wb) w5 w7 := HM6.out.then hm7 (fun k hk hlt => by have := hu4 k hk; omega)
      have ht2 : w7.cell? ⟨tb, 2, none⟩ = some (.slice (some ⟨bb, 0, none⟩) n n) := (hm57.cell (p := ⟨tb, 2, none⟩) ltb ntw).trans HT02.out
      have hBl : g < B.length := by rw [HT1.out.bl, HNA.out]; exact hgn
      have hbk := HT1.out.b g (by rw [HNA.out]; exact hgn)
      obtain ⟨bv, hbv, hbo, hbx, hbc⟩ := HT.out.grid.row g hBl
      rw [List.getElem?_eq_getElem hBl] at hbk
      simp only [Option.getD_some] at hbk
      rw [hbk] at hbo
      generalize hfl : (List.range A.length).filter (fun j => hb on A j g) = bk at hbk hbo
      have hbkl : bk.length ≤ 1000 := by
        rw [← hfl]
        refine Nat.le_trans (List.length_filter_le _ _) ?_
        have := HNA.out
        simp; omega
      obtain ⟨pb, cb, rfl, hcb, hpn, hps⟩ := own_slice hbo
      have hbc7 : w7.cell? ⟨bb, g, none⟩ = some (.slice pb bk.length cb) := (hm57.cell (p := ⟨bb, g, none⟩) (lt_of_heap HT.out.grid.1) HT.out.ne_wb.symm).trans hbc
      have HBO := Lib.hid hbo
      have HBX := Lib.hid hbx
      have HPN := Lib.hid hpn
      have HPS := Lib.hid hps
      have HFL := Lib.hid hfl
      have HO7 := Lib.hid hown7
      have HM57 := Lib.hid hm57
      have HWB7 := Lib.hid hwb7
      clear hown7 hgrow7 hnil7 hm7 hu4 hwb7 hm57 hbk hbv hbo hbx hbc hpn hps hfl ht0 hcr
      go_wp2_with fail
      go_loopw [45] (fun v45 wj => ∃ (r : Nat) (W' : List Int), r ≤ bk.length ∧ v45 = .int .i64 r ∧ Wait2 on A T g r W' ∧ wj.heap[wb]? = some (.cells (zCells W') 3 (0, 0)) ∧ Mod (fun k => k = wb) w7 wj) (fun v _ => bk.length - (intOf v).toNat)
      case atStart => exact ⟨0, _, by omega, rfl, HW.out.in2 HN.out.lt, HWB7.out, Mod.refl _ _⟩
      case round =>
        obtain ⟨r, W', hr, rfl, hW2, hwbj, hmj⟩ := hrel
        have HW2 := Lib.hid hW2
        have HWBJ := Lib.hid hwbj
        have HMJ := Lib.hid hmj
        clear hW2 hwbj hmj ht2 hbc7
        have hm5j := Lib.hid (HM57.out.trans HMJ.out)
        by_cases hrlt : r < bk.length
        · obtain ⟨a0, ha0⟩ : ∃ a0, pb = some a0 := by
            cases pb with
            | none => exact absurd (HPN.out rfl).1 (by omega)
            | some a0 => exact ⟨a0, rfl⟩
          subst ha0
          obtain ⟨b2, rfl⟩ := HPS.out a0 rfl
          have hkr : bk[r]? = some bk[r] := List.getElem?_eq_getElem hrlt
          generalize bk[r] = k at hkr
          have hkc5 : w5.cell? ⟨b2, r, none⟩ = some (.int .i64 (k : Int)) := by
            obtain ⟨_, hcs, _⟩ := SlAt.of_own HBO.out
            have h1 := hcs r (.int .i64 (k : Int)) (by simp [intCells, hkr])
            rwa [Nat.zero_add] at h1
          have hkc : wr.cell? ⟨b2, r, none⟩ = some (.int .i64 (k : Int)) := (hm5j.out.cell (p := ⟨b2, r, none⟩) (World.block_lt_of_cell? _ _ hkc5) (fun he => HBX.out b2 rfl (by rw [show b2 = wb from he]))).trans hkc5
          have hkA : k < A.length := by
            have h1 := List.mem_of_getElem? hkr
            rw [← HFL.out] at h1
            exact List.mem_range.1 (List.mem_filter.1 h1).1
          have hkW : k < W'.length := by rw [HW2.out.wl]; exact hkA
          obtain ⟨hz1, hz2⟩ := HW2.out.range k hkW
          have hkw : wr.cell? ⟨wb, k, none⟩ = some (.int .i64 W'[k]) := by rw [cell_of_heap HWBJ.out]; exact zCells_at W' k hkW
          have hkf : wr.frozen? ⟨wb, k, none⟩ = false := free_of_heap HWBJ.out k
          have hrg := HW2.out.next HTD.out HN.out (by rw [HFL.out]; exact hkr) hkW
          have hz2' : W'[k] ≤ 1000 := by have := HNA.out; omega
          generalize W'[k] = z at hz1 hz2' hkw hrg
          have HRG := Lib.hid hrg
          have ht1 : wr.cell? ⟨tb, 1, none⟩ = some (.slice (some ⟨wb, 0, none⟩) n n) := (hm5j.out.cell (p := ⟨tb, 1, none⟩) ltb ntw).trans HT01.out
          have hk0 : (0 : Int) ≤ (k : Int) := Int.natCast_nonneg _
          have hk1 : (k : Int) < (n : Int) := by have := HNA.out; omega
          clear hkr hkc5 hz2 hrg hkA
          go_wp2_with fail
          go_roundw
          case rel =>
            refine ⟨r + 1, _, by omega, by go_num, HRG.out, ?_, HMJ.out.setCell _ _ (fun _ => rfl)⟩
            rw [heap_setCell_same HWBJ.out k _, zCells_set]
          case measure => simp [intOf]; omega
        · have hre : bk.length ≤ r := by omega
          have HRE := Lib.hid hre
          clear hre
          go_wp2_with fail
          go_roundw
          case rel =>
            refine ⟨T ++ [g], W', by rw [List.length_append, HTL.out]; simp; omega, by rw [List.length_append, HTL.out]; simp, .snoc HTD.out HN.out, HW2.out.out HN.out (by rw [HFL.out]; exact HRE.out), HWBJ.out, hm5j.out, ?_⟩
            have h7 := HO7.out
            have hl7 : lineOut A (T ++ [g]) = lineOut A T ++ row := by rw [lineOut_snoc, HROW.out]; rfl
            rw [hl7, intCells_append, List.length_append]
            exact ownsRow_mod h7 HMJ.out fun k hk he => by
              have h8 := (h7.lt k hk).1
              have h9 := lt_of_heap HT.out.wts
              have h10 : k = wb := he
              omega
          case measure => simp [intOf]; omega
    · have hTe : T.length = n := by omega
      have HTE := Lib.hid hTe
      clear hTe
      obtain ⟨tl, htl⟩ : ∃ tl, T.length = tl := ⟨_, rfl⟩
      rw [htl] at hlt hTl hol HTE ⊢
      have HTL := Lib.hid htl
      clear htl
      go_wp2_with fail
      go_ret
      refine ⟨A, T, _, rfl, HS.out, HTD.out, ?_, Sl0.of_own HOUT.out (by omega), HB5.out.trans (below_of_mod HMOD.out (fun k hk => by rw [hk]; exact Nat.le_trans HB4.out.size HT.out.bw) HB5.out.size)⟩
      rw [HTL.out, HTE.out, HNA.out]
end Go.Proofs.Ytibnnhdpaccpfaa
