import Derived.Test.YtibnnhdpaccpfaaVecs
namespace Go.Proofs.Ytibnnhdpaccpfaa
open Go.RowKit

theorem inst_dep (a : Inst) (p : Nat) (hp : p < 7) : (instCells a)[3 + p]? = some (.int .i64 (a.deps.get p)) := by
  match p, hp with
  | 0, _ | 1, _ | 2, _ | 3, _ | 4, _ | 5, _ | 6, _ => rfl

set_option maxRecDepth 100000 in
set_option maxHeartbeats 8000000 in
theorem one_any (lv wv hv : Value) (l : List Inst) (ws : List V7) (t : Int) (hs : List V7) (w : World) (hl : InstsIn w lv l) (hw : VecsIn w wv ws) (hh : VecsIn w hv hs) :
    Calls Try.prog 4 #[lv, wv, .int .i64 t, hv] w fun e w' => e = .returned (.bool true) ∧ Below w.heap.size w w' := by
  obtain ⟨lp, lc, rfl, hlc, hlx, hlp⟩ := hl
  obtain ⟨wp, wcap, rfl, hwc, hwx, hwp⟩ := hw
  obtain ⟨hp, hc, rfl, hhc, hhx, hhp⟩ := hh
  unfold maxLen at hlx hwx hhx
  have HLP := Lib.hid hlp
  have HWP := Lib.hid hwp
  have HHP := Lib.hid hhp
  clear hlp hwp hhp
  obtain ⟨n, hn⟩ : ∃ n, l.length = n := ⟨_, rfl⟩
  obtain ⟨m, hm⟩ : ∃ m, ws.length = m := ⟨_, rfl⟩
  obtain ⟨q, hq⟩ : ∃ q, hs.length = q := ⟨_, rfl⟩
  rw [hn] at hlc ⊢
  rw [hm] at hwc ⊢
  rw [hq] at hhc ⊢
  have HN := Lib.hid hn
  have HM := Lib.hid hm
  have HQ := Lib.hid hq
  clear hn hm hq
  go_enter Try.func4, Try.ntmps4
  go_wp2_with fail
  refine (awake_any w).mono ?_
  rintro e w1 ⟨rfl, hb1⟩
  have HB1 := Lib.hid hb1
  clear hb1
  by_cases h1 : n < 1
  · have hd1 : decide ((n : Int) < 1) = true := by simp; omega
    go_wp2_with fail
    go_ret
    exact ⟨rfl, HB1.out⟩
  have hd1 : decide ((n : Int) < 1) = false := by simp; omega
  by_cases h2 : 15 < n
  · have hd2 : decide ((15 : Int) < (n : Int)) = true := by simp; omega
    go_wp2_with fail
    go_ret
    exact ⟨rfl, HB1.out⟩
  have hd2 : decide ((15 : Int) < (n : Int)) = false := by simp; omega
  by_cases h3 : m = n
  case neg =>
    go_wp2_with fail
    go_ret
    exact ⟨rfl, HB1.out⟩
  subst h3
  by_cases h4 : t < 0
  · have hd4 : decide (t < 0) = true := by simp; omega
    go_wp2_with fail
    go_ret
    exact ⟨rfl, HB1.out⟩
  obtain ⟨tn, rfl⟩ : ∃ tn : Nat, t = tn := ⟨t.toNat, by omega⟩
  have hd4 : decide ((tn : Int) < 0) = false := by simp
  by_cases h5 : 20 < q
  · have hd5 : decide ((20 : Int) < (q : Int)) = true := by simp; omega
    go_wp2_with fail
    go_ret
    exact ⟨rfl, HB1.out⟩
  have hd5 : decide ((20 : Int) < (q : Int)) = false := by simp; omega
  obtain ⟨lb, lo, rfl, hlb, hli⟩ := HLP.out (by have := HN.out; omega)
  have HLI := Lib.hid hli
  have hgood := good_some lb lo lc l w1 ((CellsAt.below (InstsIn.cellsAt hli) hlb HB1.out)) (fun _ => Nat.lt_of_lt_of_le hlb HB1.out.size) (by have := HN.out; omega)
  rw [HN.out] at hgood
  have HGOOD := Lib.hid hgood
  clear hli hgood
  go_wp2_with fail
  refine HGOOD.out.mono ?_
  rintro e w2 ⟨rfl, hb2⟩
  have HB2 := Lib.hid (HB1.out.trans (hb2.mono HB1.out.size))
  clear hb2 HGOOD
  cases hg : goodL l with
  | false =>
    go_wp2_with fail
    go_ret
    exact ⟨rfl, HB2.out⟩
  | true =>
    have HG := Lib.hid hg
    clear hg
    go_wp2_with fail
    go_loopw [9] (fun v9 wr => ∃ i : Nat, i ≤ m ∧ v9 = .int .i64 i ∧ pairsTo l i 0 ∧ Below w.heap.size w wr) (fun v _ => m - (intOf v).toNat)
    case atStart => exact ⟨0, by omega, rfl, ⟨fun b a x y hb => absurd hb (Nat.not_lt_zero _), fun a x y ha => absurd ha (Nat.not_lt_zero _)⟩, HB2.out⟩
    case round =>
      obtain ⟨i, hi, rfl, hpr, hbel⟩ := hrel
      have HPR := Lib.hid hpr
      have HBEL := Lib.hid hbel
      clear hpr hbel
      by_cases hlt : i < m
      · go_wp2_with fail
        go_loopw [10] (fun v10 wj => ∃ j : Nat, j ≤ i ∧ v10 = .int .i64 j ∧ pairsTo l i j ∧ Below w.heap.size w wj) (fun v _ => i - (intOf v).toNat)
        case atStart => exact ⟨0, by omega, rfl, HPR.out, HBEL.out⟩
        case round =>
          obtain ⟨j, hj, rfl, hpj, hbj⟩ := hrel
          have HPJ := Lib.hid hpj
          have HBJ := Lib.hid hbj
          clear hpj hbj
          by_cases hjl : j < i
          · have hil : i < l.length := by rw [HN.out]; exact hlt
            have hjl2 : j < l.length := by omega
            have hai : l[i]? = some l[i] := List.getElem?_eq_getElem hil
            have hbi : l[j]? = some l[j] := List.getElem?_eq_getElem hjl2
            generalize l[i] = a at hai
            generalize l[j] = b at hbi
            have hao := ok_dot ((goodL_spec HG.out).1 a (List.mem_of_getElem? hai))
            have hbo := ok_dot ((goodL_spec HG.out).1 b (List.mem_of_getElem? hbi))
            obtain ⟨pa, hpa⟩ : ∃ pa : Nat, a.rep = pa := ⟨a.rep.toNat, by omega⟩
            obtain ⟨pb, hpb⟩ : ∃ pb : Nat, b.rep = pb := ⟨b.rep.toNat, by omega⟩
            have hra : wr.rangeAt lb (lo + i * 10) (instCells a) := range_below (HLI.out i a hai) HBJ.out hlb
            have hrb : wr.rangeAt lb (lo + j * 10) (instCells b) := range_below (HLI.out j b hbi) HBJ.out hlb
            have f1 : wr.cell? ⟨lb, lo + j * 10, none⟩ = some (.int .i64 pb) := by rw [← hpb]; exact hrb 0 _ rfl
            have f2 : wr.cell? ⟨lb, lo + i * 10, none⟩ = some (.int .i64 pa) := by rw [← hpa]; exact hra 0 _ rfl
            have f3 := hrb 1 _ rfl
            have f4 := hra 1 _ rfl
            have hpa7 : pa < 7 := by omega
            have hpb7 : pb < 7 := by omega
            have f5 : wr.cell? ⟨lb, lo + i * 10 + 3 + pb, none⟩ = some (.int .i64 (a.deps.get pb)) := by
              rw [Nat.add_assoc]
              exact hra (3 + pb) _ (inst_dep a pb hpb7)
            have f6 : wr.cell? ⟨lb, lo + j * 10 + 3 + pa, none⟩ = some (.int .i64 (b.deps.get pa)) := by
              rw [Nat.add_assoc]
              exact hrb (3 + pa) _ (inst_dep b pa hpa7)
            have i0 : (0 : Int) ≤ (i : Int) := Int.natCast_nonneg _
            have i1 : (i : Int) < (m : Int) := by omega
            have j0 : (0 : Int) ≤ (j : Int) := Int.natCast_nonneg _
            have j1 : (j : Int) < (m : Int) := by omega
            have p0 : (0 : Int) ≤ (pa : Int) := Int.natCast_nonneg _
            have p1 : (pa : Int) < 7 := by omega
            have q0 : (0 : Int) ≤ (pb : Int) := Int.natCast_nonneg _
            have q1 : (pb : Int) < 7 := by omega
            have hpo : b.n ≤ a.deps.get pb ∨ a.n ≤ b.deps.get pa → pairOk a b := fun h => by
              unfold pairOk
              rw [hpa, hpb]
              exact h
            have HPO := Lib.hid hpo
            have HAI := Lib.hid hai
            have HBI := Lib.hid hbi
            clear hra hrb hpo hai hbi hao hbo hpa hpb
            generalize a.deps.get pb = u1 at f5 HPO
            generalize b.deps.get pa = u2 at f6 HPO
            generalize b.n = u3 at f3 HPO
            generalize a.n = u4 at f4 HPO
            by_cases hA : u1 < u3
            · have hdA : decide (u1 < u3) = true := by simp [hA]
              by_cases hB : u2 < u4
              · have hdB : decide (u2 < u4) = true := by simp [hB]
                go_wp2_with fail
                go_quiet (fail)
                go_wp2_with fail
                go_ret
                exact ⟨rfl, below_drewN HBJ.out _⟩
              · have hdB : decide (u2 < u4) = false := by simp; omega
                go_wp2_with fail
                go_quiet (fail)
                go_wp2_with fail
                go_roundw
                case rel => exact ⟨j + 1, by omega, by go_num, HPJ.out.next HAI.out HBI.out (HPO.out (.inr (by omega))), below_drewN HBJ.out _⟩
                case measure => simp [intOf]; omega
            · have hdA : decide (u1 < u3) = false := by simp; omega
              go_wp2_with fail
              go_quiet (fail)
              go_wp2_with fail
              go_roundw
              case rel => exact ⟨j + 1, by omega, by go_num, HPJ.out.next HAI.out HBI.out (HPO.out (.inl (by omega))), below_drewN HBJ.out _⟩
              case measure => simp [intOf]; omega
          · have hje : j = i := by omega
            subst hje
            go_wp2_with fail
            go_roundw
            case rel => exact ⟨j + 1, by omega, by go_num, HPJ.out.row, HBJ.out⟩
            case measure => simp [intOf]; omega
      · have hie : m = i := by omega
        subst hie
        have htour : Tourney l := tourney_of HG.out (j := 0) (by rw [HN.out]; exact HPR.out)
        have HTOUR := Lib.hid htour
        clear htour
        go_wp2_with fail
        refine (xnew_any w.heap.size wr HBEL.out.size).mono ?_
        rintro e w3 ⟨xb, rfl, hx3, hb3⟩
        have HX3 := Lib.hid hx3
        have HB3 := Lib.hid (HBEL.out.trans (hb3.mono HBEL.out.size))
        clear hx3 hb3
        go_wp2_with fail
        refine (xnew_any w.heap.size w3 HB3.out.size).mono ?_
        rintro e w4 ⟨yb, rfl, hy4, hb4⟩
        have HTWO := Lib.hid (show Two w w4 xb yb l from ⟨XS.new, XS.new, _, _, HX3.out.below hb4, hy4, fun k hk hg => by omega, OneInv.start l, OneInv.start l, HB3.out.trans (hb4.mono HB3.out.size)⟩)
        clear hy4 hb4
        go_wp2_with fail
        go_loopw [13] (fun v13 wr => ∃ i : Nat, i ≤ m ∧ v13 = .int .i64 i ∧ Two w wr xb yb l) (fun v _ => m - (intOf v).toNat)
        case atStart => exact ⟨0, by omega, rfl, HTWO.out⟩
        case round =>
          obtain ⟨i, hi, rfl, htw⟩ := hrel
          have HT := Lib.hid htw
          clear htw
          by_cases hlt2 : i < m
          · go_wp2_with fail
            have hj : (wrap64 ((i : Int) + (tn : Int) % (m : Int))).tmod (m : Int) = (((i + tn % m) % m : Nat) : Int) := by
              have h0 : (i : Int) + (tn : Int) % (m : Int) = ((i + tn % m : Nat) : Int) := by omega
              have h1 : tn % m < m := Nat.mod_lt _ (by omega)
              rw [h0, IntWalk.wrap64_in _ (by omega)]
              rfl
            have hkm : (i + tn % m) % m < m := Nat.mod_lt _ (by omega)
            rw [hj]
            generalize (i + tn % m) % m = k at hkm
            clear hj
            obtain ⟨wb, wo, rfl, hwb, hwi⟩ := HWP.out (by have := HM.out; omega)
            have hil : i < l.length := by rw [HN.out]; exact hlt2
            have hkl : k < l.length := by rw [HN.out]; exact hkm
            have hil' : i < ws.length := by rw [HM.out]; exact hlt2
            have hkl' : k < ws.length := by rw [HM.out]; exact hkm
            have hai : l[i]? = some l[i] := List.getElem?_eq_getElem hil
            have hak : l[k]? = some l[k] := List.getElem?_eq_getElem hkl
            have hvi : ws[i]? = some ws[i] := List.getElem?_eq_getElem hil'
            have hvk : ws[k]? = some ws[k] := List.getElem?_eq_getElem hkl'
            generalize l[i] = a1 at hai
            generalize l[k] = a2 at hak
            generalize ws[i] = v1 at hvi
            generalize ws[k] = v2 at hvk
            have HS1 := Lib.hid (show ∀ W, Below w.heap.size w W → (fun w' : World => w'.rangeAt lb (lo + i * 10) (instCells a1) ∧ w'.rangeAt wb (wo + i * 7) v1.cells) W from fun W hW => ⟨range_below (HLI.out i a1 hai) hW hlb, range_below (hwi i v1 hvi) hW hwb⟩)
            have HS2 := Lib.hid (show ∀ W, Below w.heap.size w W → (fun w' : World => w'.rangeAt lb (lo + k * 10) (instCells a2) ∧ w'.rangeAt wb (wo + k * 7) v2.cells) W from fun W hW => ⟨range_below (HLI.out k a2 hak) hW hlb, range_below (hwi k v2 hvk) hW hwb⟩)
            have HA1 := Lib.hid (List.mem_of_getElem? hai)
            have HA2 := Lib.hid (List.mem_of_getElem? hak)
            have HWI := Lib.hid hwi
            have i0 : (0 : Int) ≤ (i : Int) := Int.natCast_nonneg _
            have i1 : (i : Int) < (m : Int) := by omega
            have k0 : (0 : Int) ≤ (k : Int) := Int.natCast_nonneg _
            have k1 : (k : Int) < (m : Int) := by omega
            clear hai hak hvi hvk hwi hil hkl hil' hkl'
            refine wp_region_F (fun j => Nat.blt j 10) (fun w' => w'.rangeAt lb (lo + i * 10) (instCells a1) ∧ w'.rangeAt wb (wo + i * 7) v1.cells) (by rfl) ?_
            have HSS : (fun w' : World => w'.rangeAt lb (lo + i * 10) (instCells a1) ∧ w'.rangeAt wb (wo + i * 7) v1.cells) (World.drew wr) := HS1.out _ HT.out.old.drew
            change wpAnyF _ _ _ _ _ _ _ _ _ (World.drew wr)
            refine wpAnyF_take (i := 0) (oi := ⟨_, _, _, _, _, _⟩) (v := ?_) rfl (by kernel_rfl) (fun _ _ _ h => h) (Or.inl ⟨by rfl, ?_⟩) HSS ?_
            rotate_left
            · intro wS hSw; (try dsimp only at hSw); go_simp; (try with_reducible rfl)
            simp only [Act.put, List.setIfInBounds_toArray, List.set_cons_zero, List.set_cons_succ]
            refine wpAnyF_take (i := 1) (oi := ⟨_, _, _, _, _, _⟩) (v := ?_) rfl (by kernel_rfl) (fun _ _ _ h => h) (Or.inl ⟨by rfl, ?_⟩) HSS ?_
            rotate_left
            · intro wS hSw; (try dsimp only at hSw); go_simp; (try with_reducible rfl)
            simp only [Act.put, List.setIfInBounds_toArray, List.set_cons_zero, List.set_cons_succ]
            refine wpAnyF_take (i := 2) (oi := ⟨_, _, _, _, _, _⟩) (v := ?_) rfl (by kernel_rfl) (fun _ _ _ h => h) (Or.inl ⟨by rfl, ?_⟩) HSS ?_
            rotate_left
            · intro wS hSw; (try dsimp only at hSw); go_simp; (try with_reducible rfl)
            simp only [Act.put, List.setIfInBounds_toArray, List.set_cons_zero, List.set_cons_succ]
            refine wpAnyF_take (i := 3) (oi := ⟨_, _, _, _, _, _⟩) (v := ?_) rfl (by kernel_rfl) (fun _ _ _ h => h) (Or.inl ⟨by rfl, ?_⟩) HSS ?_
            rotate_left
            · intro wS hSw; (try dsimp only at hSw); go_simp; (try with_reducible rfl)
            simp only [Act.put, List.setIfInBounds_toArray, List.set_cons_zero, List.set_cons_succ]
            refine wpAnyF_take (i := 4) (oi := ⟨_, _, _, _, _, _⟩) (v := .agg (instCells a1 : List Value).toArray) rfl (by kernel_rfl) (fun _ _ _ h => h) (yieldsIf_load_mid (by rfl) 31 (.tmp 120) rfl lb (lo + i * 10) rfl (instCells a1) _ (fun _ hS => hS.1) instDesc rfl instSize) HSS ?_
            simp only [Act.put, List.setIfInBounds_toArray, List.set_cons_zero, List.set_cons_succ]
            refine wpAnyF_take (i := 5) (oi := ⟨_, _, _, _, _, _⟩) (v := ?_) rfl (by kernel_rfl) (fun _ _ _ h => h) (Or.inl ⟨by rfl, ?_⟩) HSS ?_
            rotate_left
            · intro wS hSw; (try dsimp only at hSw); go_simp; (try with_reducible rfl)
            simp only [Act.put, List.setIfInBounds_toArray, List.set_cons_zero, List.set_cons_succ]
            refine wpAnyF_take (i := 6) (oi := ⟨_, _, _, _, _, _⟩) (v := ?_) rfl (by kernel_rfl) (fun _ _ _ h => h) (Or.inl ⟨by rfl, ?_⟩) HSS ?_
            rotate_left
            · intro wS hSw; (try dsimp only at hSw); go_simp; (try with_reducible rfl)
            simp only [Act.put, List.setIfInBounds_toArray, List.set_cons_zero, List.set_cons_succ]
            refine wpAnyF_take (i := 7) (oi := ⟨_, _, _, _, _, _⟩) (v := ?_) rfl (by kernel_rfl) (fun _ _ _ h => h) (Or.inl ⟨by rfl, ?_⟩) HSS ?_
            rotate_left
            · intro wS hSw; (try dsimp only at hSw); go_simp; (try with_reducible rfl)
            simp only [Act.put, List.setIfInBounds_toArray, List.set_cons_zero, List.set_cons_succ]
            refine wpAnyF_take (i := 8) (oi := ⟨_, _, _, _, _, _⟩) (v := .agg (v1.cells : List Value).toArray) rfl (by kernel_rfl) (fun _ _ _ h => h) (yieldsIf_load_mid (by rfl) 32 (.tmp 124) rfl wb (wo + i * 7) rfl (v1.cells) _ (fun _ hS => hS.2) Try.underlying32 rfl vecSize) HSS ?_
            simp only [Act.put, List.setIfInBounds_toArray, List.set_cons_zero, List.set_cons_succ]
            refine wpAnyF_step (i := 9) (o := ⟨_, _, _, _, _, _⟩) rfl (by kernel_rfl) ?_
            go_wp2_with fail
            refine (two_commit w wr.drew xb yb l (HT.out.below (Below.refl _ _).drew) a1 HA1.out v1).mono ?_
            rintro e w5 ⟨⟨c1, rfl⟩, ht5⟩
            have HT5 := Lib.hid ht5
            clear ht5 HSS
            go_wp2_with fail
            refine onEnd_normal ⟨fun _ => HS1.out _ HT5.out.old, ?_⟩
            refine wpAnyF_chain [] [] rfl (by kernel_rfl) ?_
            go_wp2_with fail
            refine wp_region_F (fun j => Nat.blt j 10) (fun w' => w'.rangeAt lb (lo + k * 10) (instCells a2) ∧ w'.rangeAt wb (wo + k * 7) v2.cells) (by rfl) ?_
            have HSS : (fun w' : World => w'.rangeAt lb (lo + k * 10) (instCells a2) ∧ w'.rangeAt wb (wo + k * 7) v2.cells) (World.drew w5) := HS2.out _ HT5.out.old.drew
            change wpAnyF _ _ _ _ _ _ _ _ _ (World.drew w5)
            refine wpAnyF_take (i := 0) (oi := ⟨_, _, _, _, _, _⟩) (v := ?_) rfl (by kernel_rfl) (fun _ _ _ h => h) (Or.inl ⟨by rfl, ?_⟩) HSS ?_
            rotate_left
            · intro wS hSw; (try dsimp only at hSw); go_simp; (try with_reducible rfl)
            simp only [Act.put, List.setIfInBounds_toArray, List.set_cons_zero, List.set_cons_succ]
            refine wpAnyF_take (i := 1) (oi := ⟨_, _, _, _, _, _⟩) (v := ?_) rfl (by kernel_rfl) (fun _ _ _ h => h) (Or.inl ⟨by rfl, ?_⟩) HSS ?_
            rotate_left
            · intro wS hSw; (try dsimp only at hSw); go_simp; (try with_reducible rfl)
            simp only [Act.put, List.setIfInBounds_toArray, List.set_cons_zero, List.set_cons_succ]
            refine wpAnyF_take (i := 2) (oi := ⟨_, _, _, _, _, _⟩) (v := ?_) rfl (by kernel_rfl) (fun _ _ _ h => h) (Or.inl ⟨by rfl, ?_⟩) HSS ?_
            rotate_left
            · intro wS hSw; (try dsimp only at hSw); go_simp; (try with_reducible rfl)
            simp only [Act.put, List.setIfInBounds_toArray, List.set_cons_zero, List.set_cons_succ]
            refine wpAnyF_take (i := 3) (oi := ⟨_, _, _, _, _, _⟩) (v := ?_) rfl (by kernel_rfl) (fun _ _ _ h => h) (Or.inl ⟨by rfl, ?_⟩) HSS ?_
            rotate_left
            · intro wS hSw; (try dsimp only at hSw); go_simp; (try with_reducible rfl)
            simp only [Act.put, List.setIfInBounds_toArray, List.set_cons_zero, List.set_cons_succ]
            refine wpAnyF_take (i := 4) (oi := ⟨_, _, _, _, _, _⟩) (v := .agg (instCells a2 : List Value).toArray) rfl (by kernel_rfl) (fun _ _ _ h => h) (yieldsIf_load_mid (by rfl) 31 (.tmp 130) rfl lb (lo + k * 10) rfl (instCells a2) _ (fun _ hS => hS.1) instDesc rfl instSize) HSS ?_
            simp only [Act.put, List.setIfInBounds_toArray, List.set_cons_zero, List.set_cons_succ]
            refine wpAnyF_take (i := 5) (oi := ⟨_, _, _, _, _, _⟩) (v := ?_) rfl (by kernel_rfl) (fun _ _ _ h => h) (Or.inl ⟨by rfl, ?_⟩) HSS ?_
            rotate_left
            · intro wS hSw; (try dsimp only at hSw); go_simp; (try with_reducible rfl)
            simp only [Act.put, List.setIfInBounds_toArray, List.set_cons_zero, List.set_cons_succ]
            refine wpAnyF_take (i := 6) (oi := ⟨_, _, _, _, _, _⟩) (v := ?_) rfl (by kernel_rfl) (fun _ _ _ h => h) (Or.inl ⟨by rfl, ?_⟩) HSS ?_
            rotate_left
            · intro wS hSw; (try dsimp only at hSw); go_simp; (try with_reducible rfl)
            simp only [Act.put, List.setIfInBounds_toArray, List.set_cons_zero, List.set_cons_succ]
            refine wpAnyF_take (i := 7) (oi := ⟨_, _, _, _, _, _⟩) (v := ?_) rfl (by kernel_rfl) (fun _ _ _ h => h) (Or.inl ⟨by rfl, ?_⟩) HSS ?_
            rotate_left
            · intro wS hSw; (try dsimp only at hSw); go_simp; (try with_reducible rfl)
            simp only [Act.put, List.setIfInBounds_toArray, List.set_cons_zero, List.set_cons_succ]
            refine wpAnyF_take (i := 8) (oi := ⟨_, _, _, _, _, _⟩) (v := .agg (v2.cells : List Value).toArray) rfl (by kernel_rfl) (fun _ _ _ h => h) (yieldsIf_load_mid (by rfl) 32 (.tmp 134) rfl wb (wo + k * 7) rfl (v2.cells) _ (fun _ hS => hS.2) Try.underlying32 rfl vecSize) HSS ?_
            simp only [Act.put, List.setIfInBounds_toArray, List.set_cons_zero, List.set_cons_succ]
            refine wpAnyF_step (i := 9) (o := ⟨_, _, _, _, _, _⟩) rfl (by kernel_rfl) ?_
            go_wp2_with fail
            refine (two_commit w w5.drew yb xb l (HT5.out.below (Below.refl _ _).drew).swap a2 HA2.out v2).mono ?_
            rintro e w6 ⟨⟨c2, rfl⟩, ht6⟩
            have HT6 := Lib.hid ht6.swap
            clear ht6 HSS
            go_wp2_with fail
            refine onEnd_normal ⟨fun _ => HS2.out _ HT6.out.old, ?_⟩
            refine wpAnyF_chain [] [] rfl (by kernel_rfl) ?_
            go_upto_if 140 with (fail)
            go_cut [] (fun wx => Two w wx xb yb l)
            case first =>
              by_cases hiq : i < q
              · obtain ⟨hb, ho, rfl, hhb, hhi⟩ := HHP.out (by rw [HQ.out]; omega)
                have hih : i < hs.length := by rw [HQ.out]; exact hiq
                obtain ⟨z, hz⟩ : ∃ z, q - 1 - i = z := ⟨_, rfl⟩
                have hzq : z < q := by omega
                have hzh : z < hs.length := by rw [HQ.out]; exact hzq
                have hgi : hs[i]? = some hs[i] := List.getElem?_eq_getElem hih
                have hgz : hs[z]? = some hs[z] := List.getElem?_eq_getElem hzh
                generalize hs[i] = g1 at hgi
                generalize hs[z] = g2 at hgz
                have r1 := range_below (hhi i g1 hgi) HT6.out.old hhb
                have c1 := r1 0 _ rfl
                have c2 := r1 1 _ rfl
                have c3 := r1 2 _ rfl
                have c4 := r1 3 _ rfl
                have c5 := r1 4 _ rfl
                have c6 := r1 5 _ rfl
                have c7 := r1 6 _ rfl
                rw [Nat.add_zero] at c1
                have hsubz : (q : Int) - 1 - (i : Int) = (z : Int) := by omega
                have HGZ := Lib.hid (hhi z g2 hgz)
                have i2 : (i : Int) < (q : Int) := by omega
                have z0 : (0 : Int) ≤ (z : Int) := Int.natCast_nonneg _
                have z1 : (z : Int) < (q : Int) := by omega
                clear r1 hgi hgz hhi hih hzh
                go_wp2_with fail
                refine (two_have w w6 xb yb l HT6.out (goodL_spec HG.out).2.1 HTOUR.out g1).mono ?_
                rintro e w7 ⟨⟨c7, rfl⟩, ht7⟩
                have HT7 := Lib.hid ht7
                have r2 := range_below HGZ.out ht7.old hhb
                have d1 := r2 0 _ rfl
                have d2 := r2 1 _ rfl
                have d3 := r2 2 _ rfl
                have d4 := r2 3 _ rfl
                have d5 := r2 4 _ rfl
                have d6 := r2 5 _ rfl
                have d7 := r2 6 _ rfl
                rw [Nat.add_zero] at d1
                clear ht7 r2
                go_wp2_with fail
                refine (two_have w w7 yb xb l HT7.out.swap (goodL_spec HG.out).2.1 HTOUR.out g2).mono ?_
                rintro e w8 ⟨⟨c8, rfl⟩, ht8⟩
                have HT8 := Lib.hid ht8.swap
                clear ht8
                go_wp2_with fail
                go_meet
                exact HT8.out
              · go_wp2_with fail
                go_meet
                exact HT6.out
            case rest =>
              obtain ⟨x, y, F, G, hx, hy, hd, ox, oy, hold⟩ := hcut
              have HX := Lib.hid hx
              have HY := Lib.hid hy
              have OX := Lib.hid ox
              have OY := Lib.hid oy
              have HD := Lib.hid hd
              have HOLD := Lib.hid hold
              clear hx hy ox oy hd hold
              go_wp2_with fail
              refine (xdone_any w.heap.size _ xb F x HX.out OX.out.ok).mono ?_
              rintro e w7 ⟨av, rfl, hav, _, hb7⟩
              have HAV := Lib.hid hav
              have HB7 := Lib.hid hb7
              clear hav hb7
              go_wp2_with fail
              refine (xdone_any w.heap.size _ yb G y (HY.out.below HB7.out) OY.out.ok).mono ?_
              rintro e w8 ⟨bv, rfl, hbv, _, hb8⟩
              obtain ⟨pa, ca, rfl, hca, hAt⟩ := (HAV.out.below hb8).take
              obtain ⟨pb, cb, rfl, hcb, hBt⟩ := hbv.take
              have HAT := Lib.hid hAt
              have HBT := Lib.hid hBt
              have HTW := Lib.hid (show TwoAt w w8 xb yb l x y from ⟨F, G, (HX.out.below HB7.out).below hb8, (HY.out.below HB7.out).below hb8, HD.out, OX.out, OY.out, (HOLD.out.trans (HB7.out.mono HOLD.out.size)).trans (hb8.mono (Nat.le_trans HOLD.out.size HB7.out.size))⟩)
              have hcx : x.coms.length ≤ 1000 := by simpa [XS.insts] using (goodL_spec OX.out.ok.good).2.2
              have hdx := OX.out.ok.dlen
              have hdy := OY.out.ok.dlen
              have hcy : y.coms.length ≤ 1000 := OY.out.ok.clen
              obtain ⟨na, hna⟩ : ∃ na, x.done.length = na := ⟨_, rfl⟩
              obtain ⟨nb, hnb⟩ : ∃ nb, y.done.length = nb := ⟨_, rfl⟩
              rw [hna] at hca hdx ⊢
              rw [hnb] at hcb hdy ⊢
              have HNA := Lib.hid hna
              have HNB := Lib.hid hnb
              clear hAt hBt hbv hb8 hna hnb
              go_upto_if 166 with (fail)
              go_cut [17] (fun v17 wx => ∃ z : Nat, v17 = .int .i64 z ∧ z ≤ na ∧ z ≤ nb ∧ wx = w8)
              case first =>
                by_cases hab : nb < na
                · go_wp2_with fail
                  go_meet
                  exact ⟨nb, rfl, by omega, Nat.le_refl _, rfl⟩
                · go_wp2_with fail
                  go_meet
                  exact ⟨na, rfl, Nat.le_refl _, by omega, rfl⟩
              case rest =>
                obtain ⟨z, rfl, hza, hzb, rfl⟩ := hcut
                have hsame : x.done.take z = y.done.take z := OneInv.same OX.out OY.out (goodL_spec HG.out).2.1 HTOUR.out (by rw [HNA.out]; exact hza) (by rw [HNB.out]; exact hzb)
                have HQT := Lib.hid (show ∀ k, Calls Try.prog 12 #[.slice pa z ca, .slice pb z cb] (wc.drewN k) fun e w' => e = .returned (.bool true) ∧ ∃ j, w' = (wc.drewN k).drewN j from fun k => by
                  have := dots_any _ _ (x.done.take z) (y.done.take z) (wc.drewN k) ((HAT.out z (by rw [HNA.out]; exact hza)).below (below_drewN (Below.refl _ _) k)) ((HBT.out z (by rw [HNB.out]; exact hzb)).below (below_drewN (Below.refl _ _) k)) (by rw [List.length_take]; omega)
                  rw [hsame, beq_self_eq_true] at this
                  exact this)
                have z0 : (0 : Int) ≤ (z : Int) := Int.natCast_nonneg _
                have z1 : (z : Int) ≤ (ca : Int) := by omega
                have z2 : (z : Int) ≤ (cb : Int) := by omega
                clear hsame
                go_upto_region 27 with (fail)
                go_quiet (refine Calls.quiet_of (HQT.out _))
                go_wp2_with fail
                go_roundw
                case rel => exact ⟨i + 1, by omega, by go_num, Two.below ⟨x, y, HTW.out⟩ (below_drewN (Below.refl _ _) _)⟩
                case measure => simp [intOf]; omega
          · go_wp2_with fail
            go_ret
            exact ⟨rfl, HT.out.old⟩
end Go.Proofs.Ytibnnhdpaccpfaa
