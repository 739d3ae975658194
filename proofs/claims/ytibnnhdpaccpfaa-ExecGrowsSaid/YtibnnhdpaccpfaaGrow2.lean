import Derived.Test.YtibnnhdpaccpfaaGrow1
namespace Go.Proofs.Ytibnnhdpaccpfaa
open Go.RowKit

theorem fits_op {a : ActD} {r n : Int} (h : a.op ≠ 0) : a.fits r n = false := by simp [ActD.fits, h]
theorem fits_rep {a : ActD} {r n : Int} (h : a.i.rep ≠ r) : a.fits r n = false := by simp [ActD.fits, h]
theorem fits_n {a : ActD} {r n : Int} (h : a.i.n ≠ n) : a.fits r n = false := by simp [ActD.fits, h]
theorem fits_v {a : ActD} {r n : Int} (h : V7.good a.v = false) : a.fits r n = false := by simp [ActD.fits, h]
theorem fits_len {a : ActD} {r n : Int} (h : 65536 < a.bs.length) : a.fits r n = false := by
  have : ¬ a.bs.length ≤ 65536 := by omega
  simp [ActD.fits, this]
theorem fits_yes {a : ActD} {r n : Int} (h0 : a.op = 0) (h1 : a.i.rep = r) (h2 : a.i.n = n) (h3 : V7.good a.v = true) (h4 : a.bs.length ≤ 65536) : a.fits r n = true := by simp [ActD.fits, h0, h1, h2, h3, h4]
def noFit (l : List ActD) (r n : Int) (k : Nat) : Prop := ∀ a ∈ l.take k, a.fits r n = false
theorem noFit_next {l : List ActD} {r n : Int} {k : Nat} {a : ActD} (h : noFit l r n k) (ha : l[k]? = some a) (hf : a.fits r n = false) : noFit l r n (k + 1) := by
  obtain ⟨hk, rfl⟩ := List.getElem?_eq_some_iff.1 ha
  intro b hb
  rw [List.take_succ_eq_append_getElem hk, List.mem_append, List.mem_singleton] at hb
  rcases hb with hb | rfl
  · exact h b hb
  · exact hf
theorem waitedL_at {l : List ActD} {r n : Int} {k : Nat} {a : ActD} {has : V7} (h : noFit l r n k) (ha : l[k]? = some a) (hf : a.fits r n = true) : waitedL l r n has = (V7.le a.v has || !a.first) := by
  obtain ⟨hk, rfl⟩ := List.getElem?_eq_some_iff.1 ha
  have h1 : (l.find? fun a => a.fits r n) = some l[k] := by
    have h2 : (l.take k ++ l.drop k).find? (fun a => a.fits r n) = some l[k] := by
      rw [List.find?_append]
      have h3 : (l.take k).find? (fun a => a.fits r n) = none := List.find?_eq_none.2 fun b hb => by rw [h b hb]; simp
      rw [h3, List.drop_eq_getElem_cons hk, List.find?_cons, hf]
      rfl
    rwa [List.take_append_drop] at h2
  unfold waitedL
  rw [h1]
theorem waitedL_none {l : List ActD} {r n : Int} {has : V7} (h : noFit l r n l.length) : waitedL l r n has = false := by
  have h1 : (l.find? fun a => a.fits r n) = none := List.find?_eq_none.2 fun b hb => by rw [h b (by rw [List.take_length]; exact hb)]; simp
  unfold waitedL
  rw [h1]

theorem actSize : (Try.prog.info? 47).map (·.size) = some 19 := by kernel_rfl

set_option maxRecDepth 100000 in
set_option maxHeartbeats 4000000 in
theorem waited_any (l : List ActD) (lb lo cap : Nat) (r n : Int) (hv : V7) (w : World) (h : ActsAt w lb lo l) (hlen : l.length ≤ 1000) (hcap : l.length ≤ cap) :
    Calls Try.prog 17 #[.slice (some ⟨lb, lo, none⟩) l.length cap, .int .i64 r, .int .i64 n, .agg #[.int .i64 hv.a0, .int .i64 hv.a1, .int .i64 hv.a2, .int .i64 hv.a3, .int .i64 hv.a4, .int .i64 hv.a5, .int .i64 hv.a6]] w fun e w' => e = .returned (.bool (waitedL l r n hv)) ∧ Below w.heap.size w w' := by
  have hb1 : Below w.heap.size w (w.alloc (.cells #[.int .i64 hv.a0, .int .i64 hv.a1, .int .i64 hv.a2, .int .i64 hv.a3, .int .i64 hv.a4, .int .i64 hv.a5, .int .i64 hv.a6] 32)) := (Below.refl _ _).alloc (Nat.le_refl _) _
  have hbx := heap_alloc_new w (.cells #[.int .i64 hv.a0, .int .i64 hv.a1, .int .i64 hv.a2, .int .i64 hv.a3, .int .i64 hv.a4, .int .i64 hv.a5, .int .i64 hv.a6] 32)
  have HA := Lib.hid h
  clear h
  go_enter Try.func17, Try.ntmps17
  go_wp2_with fail
  generalize w.alloc (.cells #[.int .i64 hv.a0, .int .i64 hv.a1, .int .i64 hv.a2, .int .i64 hv.a3, .int .i64 hv.a4, .int .i64 hv.a5, .int .i64 hv.a6] 32) = w1 at hb1 hbx ⊢
  have HB1 := Lib.hid hb1
  have HBX := Lib.hid hbx
  obtain ⟨kb, hkb⟩ : ∃ kb, w.heap.size = kb := ⟨_, rfl⟩
  rw [hkb]
  have HKB := Lib.hid hkb
  clear hb1 hbx hkb
  go_loopw [9] (fun v9 wr => ∃ k : Nat, k ≤ l.length ∧ v9 = .int .i64 k ∧ noFit l r n k ∧ Below w1.heap.size w1 wr) (fun v _ => l.length - (intOf v).toNat)
  case atStart => exact ⟨0, by omega, rfl, fun a ha => by simp at ha, Below.refl _ _⟩
  case round =>
    obtain ⟨k, hk, rfl, hno, hbel⟩ := hrel
    have HNO := Lib.hid hno
    have HBEL := Lib.hid hbel
    clear hno hbel
    by_cases hlt : k < l.length
    · have hak : l[k]? = some l[k] := List.getElem?_eq_getElem hlt
      generalize l[k] = a at hak
      obtain ⟨hrg, hbd, hll⟩ := (HA.out.below (HB1.out.trans (HBEL.out.mono HB1.out.size))) k a hak
      obtain ⟨pb, cb, hab⟩ := hbd.form
      have c0 := hrg 0 _ rfl
      have c1 := hrg 1 _ rfl
      have c2 := hrg 2 _ rfl
      have c11 := hrg 11 _ rfl
      have c12 := hrg 12 _ rfl
      have c13 := hrg 13 _ rfl
      have c14 := hrg 14 _ rfl
      have c15 := hrg 15 _ rfl
      have c16 := hrg 16 _ rfl
      have c17 := hrg 17 _ rfl
      have c18 := hrg 18 _ rfl
      rw [Nat.add_zero] at c0
      rw [hab] at c18
      have hk0 : (0 : Int) ≤ (k : Int) := Int.natCast_nonneg _
      have hk1 : (k : Int) < (l.length : Int) := by omega
      have HAK := Lib.hid hak
      have HRG := Lib.hid hrg
      have HBD := Lib.hid hbd
      have HAB := Lib.hid hab
      clear hak hrg hbd hab
      by_cases h0 : a.op = 0
      · have hd0 : (a.op == 0) = true := by simpa using h0
        have H0 := Lib.hid h0
        clear h0
        by_cases h1 : a.i.rep = r
        · have hd1 : (a.i.rep == r) = true := by simpa using h1
          have H1 := Lib.hid h1
          clear h1
          by_cases h2 : a.i.n = n
          · have hd2 : (a.i.n == n) = true := by simpa using h2
            have H2 := Lib.hid h2
            clear h2
            go_wp2_with fail
            refine (vGood_any a.v _).mono ?_
            rintro e w2 ⟨rfl, hb2⟩
            have HB2 := Lib.hid hb2
            clear hb2
            cases hg : V7.good a.v with
            | false =>
              have HF := Lib.hid (fits_v (r := r) (n := n) hg)
              clear hg
              go_wp2_with fail
              go_roundw
              case rel => exact ⟨k + 1, by omega, by go_num, noFit_next HNO.out HAK.out HF.out, HBEL.out.trans (HB2.out.mono HBEL.out.size)⟩
              case measure => simp [intOf]; omega
            | true =>
              have HG := Lib.hid hg
              have c18' : w2.cell? ⟨lb, lo + k * 19 + 18, none⟩ = _ := (HB2.out.cell hll).trans c18
              clear hg
              by_cases h4 : a.bs.length ≤ 65536
              · have hd4 : decide ((a.bs.length : Int) ≤ 65536) = true := by simp; omega
                have HF := Lib.hid (fits_yes H0.out H1.out H2.out HG.out h4)
                go_wp2_with fail
                have hb20 : Below w1.heap.size w1 w2 := HBEL.out.trans (HB2.out.mono HBEL.out.size)
                have hbx2 := Below.heap hb20 HBX.out (lt_of_heap HBX.out)
                rw [HKB.out] at hbx2
                have s1 : w2.rangeAt lb (lo + k * 19) a.cells := fun j u hj => (HB2.out.cell hll).trans (HRG.out j u hj)
                have s2 : w2.rangeAt lb (lo + k * 19 + 11) a.v.cells := fun j u hj => by
                  have hj7 : j < 7 := (List.getElem?_eq_some_iff.1 hj).1
                  have h7 : a.cells[11 + j]? = some u := by
                    rw [← hj]
                    match j, hj7 with
                    | 0, _ | 1, _ | 2, _ | 3, _ | 4, _ | 5, _ | 6, _ => rfl
                  have := s1 (11 + j) u h7
                  rw [← this]
                  congr 2
                  omega
                have s3 : w2.rangeAt kb 0 hv.cells := fun j u hj => by rw [cell_of_heap hbx2, Nat.zero_add, ← Array.getElem?_toList]; exact hj
                have lkb2 := lt_of_heap hbx2
                have lll2 : lb < w2.heap.size := Nat.lt_of_lt_of_le hll HB2.out.size
                have HB20 := Lib.hid hb20
                clear hb20 hbx2 c0 c1 c2 c11 c12 c13 c14 c15 c16 c17 c18 c18'
                refine wp_region_F (fun j => Nat.blt j 15) (fun w' => w'.rangeAt lb (lo + k * 19) a.cells ∧ w'.rangeAt lb (lo + k * 19 + 11) a.v.cells ∧ w'.rangeAt kb 0 hv.cells) (by rfl) ?_
                have HSS : (fun w' : World => w'.rangeAt lb (lo + k * 19) a.cells ∧ w'.rangeAt lb (lo + k * 19 + 11) a.v.cells ∧ w'.rangeAt kb 0 hv.cells) (World.drew w2) := ⟨s1, s2, s3⟩
                change wpAnyF _ _ _ _ _ _ _ _ _ (World.drew w2)
                refine wpAnyF_take (i := 0) (oi := ⟨_, _, _, _, _, _⟩) (v := ?_) rfl (by kernel_rfl) (fun _ _ _ h => h) (Or.inl ⟨by rfl, ?_⟩) HSS ?_
                rotate_left
                · intro wS hSw; (try dsimp only at hSw); go_simp; (try with_reducible rfl)
                simp only [Act.put, List.setIfInBounds_toArray, List.set_cons_zero, List.set_cons_succ]
                refine wpAnyF_take (i := 1) (oi := ⟨_, _, _, _, _, _⟩) (v := ?_) rfl (by kernel_rfl) (fun _ _ _ h => h) (Or.inl ⟨by rfl, ?_⟩) HSS ?_
                rotate_left
                · intro wS hSw; (try dsimp only at hSw); go_simp; (try with_reducible rfl)
                simp only [Act.put, List.setIfInBounds_toArray, List.set_cons_zero, List.set_cons_succ]
                refine wpAnyF_take (i := 2) (oi := ⟨_, _, _, _, _, _⟩) (v := ?_) rfl (by kernel_rfl) (fun _ _ _ h => h) (Or.inl ⟨by rfl, ?_⟩) HSS ?_
                rotate_left
                · intro wS hSw; (try dsimp only at hSw); go_simp; (try with_reducible rfl)
                simp only [Act.put, List.setIfInBounds_toArray, List.set_cons_zero, List.set_cons_succ]
                refine wpAnyF_take (i := 3) (oi := ⟨_, _, _, _, _, _⟩) (v := ?_) rfl (by kernel_rfl) (fun _ _ _ h => h) (Or.inl ⟨by rfl, ?_⟩) HSS ?_
                rotate_left
                · intro wS hSw; (try dsimp only at hSw); go_simp; (try with_reducible rfl)
                simp only [Act.put, List.setIfInBounds_toArray, List.set_cons_zero, List.set_cons_succ]
                refine wpAnyF_take (i := 4) (oi := ⟨_, _, _, _, _, _⟩) (v := .agg (a.v.cells : List Value).toArray) rfl (by kernel_rfl) (fun _ _ _ h => h) (yieldsIf_load_mid (by rfl) 32 (.tmp 64) rfl lb (lo + k * 19 + 11) rfl (a.v.cells) _ (fun _ hS => hS.2.1) Try.underlying32 rfl vecSize) HSS ?_
                simp only [Act.put, List.setIfInBounds_toArray, List.set_cons_zero, List.set_cons_succ]
                refine wpAnyF_take (i := 5) (oi := ⟨_, _, _, _, _, _⟩) (v := .agg (hv.cells : List Value).toArray) rfl (by kernel_rfl) (fun _ _ _ h => h) (yieldsIf_load_mid (by rfl) 32 (.tmp 7) rfl kb (0) rfl (hv.cells) _ (fun _ hS => hS.2.2) Try.underlying32 rfl vecSize) HSS ?_
                simp only [Act.put, List.setIfInBounds_toArray, List.set_cons_zero, List.set_cons_succ]
                refine wpAnyF_step (i := 6) (o := ⟨_, _, _, _, _, _⟩) rfl (by kernel_rfl) ?_
                go_wp2_with fail
                refine (vLe_any a.v hv _).mono ?_
                rintro e w3 ⟨rfl, hb3⟩
                have hb23 : Below w2.heap.size w2 w3 := (Below.refl _ _).drew.trans (hb3.mono (by simp))
                have HTT : (fun w' : World => w'.rangeAt lb (lo + k * 19) a.cells ∧ w'.rangeAt lb (lo + k * 19 + 11) a.v.cells ∧ w'.rangeAt kb 0 hv.cells) w3 := ⟨fun j u hj => (hb23.cell lll2).trans (s1 j u hj), fun j u hj => (hb23.cell lll2).trans (s2 j u hj), fun j u hj => (hb23.cell lkb2).trans (s3 j u hj)⟩
                have HB30 := Lib.hid (show Below w.heap.size w w3 from HB1.out.trans ((HB20.out.trans (hb23.mono HB20.out.size)).mono HB1.out.size))
                have lll3 : lb < w3.heap.size := Nat.lt_of_lt_of_le lll2 hb23.size
                have lkb3 : kb < w3.heap.size := Nat.lt_of_lt_of_le lkb2 hb23.size
                have hcells := HAB.out
                clear HSS s1 s2 s3 hb3 hb23
                cases hle : V7.le a.v hv with
                | true =>
                  have hw : waitedL l r n hv = true := by rw [waitedL_at HNO.out HAK.out HF.out, hle]; rfl
                  have HW := Lib.hid hw
                  clear hle hw hcells
                  go_wp2_with fail
                  refine onEnd_normal ⟨fun _ => HTT, ?_⟩
                  refine wpAnyF_step (i := 7) (o := ⟨_, _, _, _, _, _⟩) rfl (by kernel_rfl) ?_
                  go_wp2_with fail
                  refine onEnd_normal ⟨fun _ => HTT, ?_⟩
                  refine wpAnyF_take (i := 8) (oi := ⟨_, _, _, _, _, _⟩) (v := undef) rfl (by kernel_rfl) (fun _ _ _ h => h) (Or.inr ⟨by rfl, rfl⟩) HTT ?_
                  simp only [Act.put, List.setIfInBounds_toArray, List.set_cons_zero, List.set_cons_succ]
                  refine wpAnyF_take (i := 9) (oi := ⟨_, _, _, _, _, _⟩) (v := undef) rfl (by kernel_rfl) (fun _ _ _ h => h) (Or.inr ⟨by rfl, rfl⟩) HTT ?_
                  simp only [Act.put, List.setIfInBounds_toArray, List.set_cons_zero, List.set_cons_succ]
                  refine wpAnyF_take (i := 10) (oi := ⟨_, _, _, _, _, _⟩) (v := undef) rfl (by kernel_rfl) (fun _ _ _ h => h) (Or.inr ⟨by rfl, rfl⟩) HTT ?_
                  simp only [Act.put, List.setIfInBounds_toArray, List.set_cons_zero, List.set_cons_succ]
                  refine wpAnyF_take (i := 11) (oi := ⟨_, _, _, _, _, _⟩) (v := undef) rfl (by kernel_rfl) (fun _ _ _ h => h) (Or.inr ⟨by rfl, rfl⟩) HTT ?_
                  simp only [Act.put, List.setIfInBounds_toArray, List.set_cons_zero, List.set_cons_succ]
                  refine wpAnyF_take (i := 12) (oi := ⟨_, _, _, _, _, _⟩) (v := undef) rfl (by kernel_rfl) (fun _ _ _ h => h) (Or.inr ⟨by rfl, rfl⟩) HTT ?_
                  simp only [Act.put, List.setIfInBounds_toArray, List.set_cons_zero, List.set_cons_succ]
                  refine wpAnyF_take (i := 13) (oi := ⟨_, _, _, _, _, _⟩) (v := undef) rfl (by kernel_rfl) (fun _ _ _ h => h) (Or.inr ⟨by rfl, rfl⟩) HTT ?_
                  simp only [Act.put, List.setIfInBounds_toArray, List.set_cons_zero, List.set_cons_succ]
                  refine wpAnyF_step (i := 14) (o := ⟨_, _, _, _, _, _⟩) rfl (by kernel_rfl) ?_
                  go_wp2_with fail
                  refine onEnd_normal ⟨fun _ => HTT, ?_⟩
                  refine wpAnyF_chain [15] [⟨_, _, _, _, _, _⟩] rfl (by kernel_rfl) ?_
                  go_wp2_with fail
                  go_ret
                  exact ⟨bool_ret HW.out.symm, HB30.out⟩
                | false =>
                  have hw : waitedL l r n hv = !a.first := by rw [waitedL_at HNO.out HAK.out HF.out, hle]; rfl
                  have HW := Lib.hid hw
                  have HAB2 := Lib.hid hcells
                  clear hle hw hcells
                  go_wp2_with fail
                  refine onEnd_normal ⟨fun _ => HTT, ?_⟩
                  refine wpAnyF_step (i := 7) (o := ⟨_, _, _, _, _, _⟩) rfl (by kernel_rfl) ?_
                  go_wp2_with fail
                  refine onEnd_normal ⟨fun _ => HTT, ?_⟩
                  refine wpAnyF_take (i := 8) (oi := ⟨_, _, _, _, _, _⟩) (v := ?_) rfl (by kernel_rfl) (fun _ _ _ h => h) (Or.inl ⟨by rfl, ?_⟩) HTT ?_
                  rotate_left
                  · intro wS hSw; (try dsimp only at hSw); go_simp; (try with_reducible rfl)
                  simp only [Act.put, List.setIfInBounds_toArray, List.set_cons_zero, List.set_cons_succ]
                  refine wpAnyF_take (i := 9) (oi := ⟨_, _, _, _, _, _⟩) (v := ?_) rfl (by kernel_rfl) (fun _ _ _ h => h) (Or.inl ⟨by rfl, ?_⟩) HTT ?_
                  rotate_left
                  · intro wS hSw; (try dsimp only at hSw); go_simp; (try with_reducible rfl)
                  simp only [Act.put, List.setIfInBounds_toArray, List.set_cons_zero, List.set_cons_succ]
                  refine wpAnyF_take (i := 10) (oi := ⟨_, _, _, _, _, _⟩) (v := ?_) rfl (by kernel_rfl) (fun _ _ _ h => h) (Or.inl ⟨by rfl, ?_⟩) HTT ?_
                  rotate_left
                  · intro wS hSw; (try dsimp only at hSw); go_simp; (try with_reducible rfl)
                  simp only [Act.put, List.setIfInBounds_toArray, List.set_cons_zero, List.set_cons_succ]
                  refine wpAnyF_take (i := 11) (oi := ⟨_, _, _, _, _, _⟩) (v := .agg (a.cells : List Value).toArray) rfl (by kernel_rfl) (fun _ _ _ h => h) (yieldsIf_load_mid (by rfl) 47 (.tmp 71) rfl lb (lo + k * 19) rfl (a.cells) _ (fun _ hS => hS.1) Try.underlying47 rfl actSize) HTT ?_
                  simp only [Act.put, List.setIfInBounds_toArray, List.set_cons_zero, List.set_cons_succ]
                  refine wpAnyF_step (i := 12) (o := ⟨_, _, _, _, _, _⟩) rfl (by kernel_rfl) ?_
                  go_wp2_with fail
                  refine (first_any a pb a.bs.length cb HAB2.out _).mono ?_
                  rintro e w4 ⟨rfl, hb4⟩
                  have HTT4 : (fun w' : World => w'.rangeAt lb (lo + k * 19) a.cells ∧ w'.rangeAt lb (lo + k * 19 + 11) a.v.cells ∧ w'.rangeAt kb 0 hv.cells) w4 := ⟨fun j u hj => (hb4.cell lll3).trans (HTT.1 j u hj), fun j u hj => (hb4.cell lll3).trans (HTT.2.1 j u hj), fun j u hj => (hb4.cell lkb3).trans (HTT.2.2 j u hj)⟩
                  have HB40 := Lib.hid (HB30.out.trans (hb4.mono HB30.out.size))
                  clear hb4 HTT
                  generalize a.first = fst at *
                  go_wp2_with fail
                  refine onEnd_normal ⟨fun _ => HTT4, ?_⟩
                  refine wpAnyF_step (i := 13) (o := ⟨_, _, _, _, _, _⟩) rfl (by kernel_rfl) ?_
                  go_wp2_with fail
                  refine onEnd_normal ⟨fun _ => HTT4, ?_⟩
                  refine wpAnyF_step (i := 14) (o := ⟨_, _, _, _, _, _⟩) rfl (by kernel_rfl) ?_
                  go_wp2_with fail
                  refine onEnd_normal ⟨fun _ => HTT4, ?_⟩
                  refine wpAnyF_chain [15] [⟨_, _, _, _, _, _⟩] rfl (by kernel_rfl) ?_
                  go_wp2_with fail
                  go_ret
                  exact ⟨bool_ret HW.out.symm, HB40.out⟩
              · have hd4 : decide ((a.bs.length : Int) ≤ 65536) = false := by simp; omega
                have HF := Lib.hid (fits_len (r := r) (n := n) (a := a) (by omega))
                go_wp2_with fail
                go_roundw
                case rel => exact ⟨k + 1, by omega, by go_num, noFit_next HNO.out HAK.out HF.out, HBEL.out.trans (HB2.out.mono HBEL.out.size)⟩
                case measure => simp [intOf]; omega
          · have hd2 : (a.i.n == n) = false := by simpa using h2
            have HF := Lib.hid (fits_n (r := r) h2)
            clear h2
            go_wp2_with fail
            go_roundw
            case rel => exact ⟨k + 1, by omega, by go_num, noFit_next HNO.out HAK.out HF.out, HBEL.out⟩
            case measure => simp [intOf]; omega
        · have hd1 : (a.i.rep == r) = false := by simpa using h1
          have HF := Lib.hid (fits_rep (n := n) h1)
          clear h1
          go_wp2_with fail
          go_roundw
          case rel => exact ⟨k + 1, by omega, by go_num, noFit_next HNO.out HAK.out HF.out, HBEL.out⟩
          case measure => simp [intOf]; omega
      · have hd0 : (a.op == 0) = false := by simpa using h0
        have HF := Lib.hid (fits_op (r := r) (n := n) h0)
        clear h0
        generalize a.op = op at *
        go_wp2_with fail
        go_roundw
        case rel => exact ⟨k + 1, by omega, by go_num, noFit_next HNO.out HAK.out HF.out, HBEL.out⟩
        case measure => simp [intOf]; omega
    · have hke : l.length = k := by omega
      have HKE := Lib.hid hke
      clear hke
      go_wp2_with fail
      go_ret
      exact ⟨bool_ret (waitedL_none (by rw [HKE.out]; exact HNO.out)).symm, HB1.out.trans (HBEL.out.mono HB1.out.size)⟩
end Go.Proofs.Ytibnnhdpaccpfaa
