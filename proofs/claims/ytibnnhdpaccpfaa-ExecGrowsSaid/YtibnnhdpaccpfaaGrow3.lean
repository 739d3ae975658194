import Derived.Test.YtibnnhdpaccpfaaGrow2
namespace Go.Proofs.Ytibnnhdpaccpfaa
open Go.RowKit

/-- acts behind a slice that came in -/
def ActsIn (w : World) (v : Value) (l : List ActD) : Prop := ∃ p c, v = .slice p l.length c ∧ l.length ≤ c ∧ c ≤ maxLen ∧ (0 < l.length → ∃ b o, p = some ⟨b, o, none⟩ ∧ ActsAt w b o l)
theorem ActsAt.take {w : World} {b o : Nat} {l : List ActD} (h : ActsAt w b o l) (n : Nat) : ActsAt w b o (l.take n) := fun k a ha => by
  rw [List.getElem?_take] at ha
  split at ha
  · exact h k a ha
  · cases ha
def GrowNew (l : List ActD) (n : Nat) (x : XS) : Prop := n ≤ x.done.length ∧ ∀ k d, n ≤ k → x.done[k]? = some d → waitedL l d.1 d.2 x.has = true
theorem GrowNew.same {l : List ActD} {x : XS} {n : Nat} (h : x.done.length = n) : GrowNew l n x := ⟨by omega, fun k d hk hd => by
  have := (List.getElem?_eq_some_iff.1 hd).1
  omega⟩
theorem mem_tw {α : Type} {p : α → Bool} : ∀ {l : List α} {d : α}, d ∈ l.takeWhile p → p d = true
  | [], d, h => by simp at h
  | a :: l, d, h => by
    rw [List.takeWhile_cons] at h
    by_cases ha : p a = true
    · rw [if_pos ha] at h
      rcases List.mem_cons.1 h with rfl | h
      · exact ha
      · exact mem_tw h
    · rw [if_neg ha] at h; simp at h
theorem GrowNew.run {l : List ActD} {x : XS} {v : V7} {D : List Dot} (h : GrowInv l ((x.setHas v).run D)) : GrowNew l x.done.length ((x.setHas v).run D) := by
  refine ⟨by simp [XS.run, XS.setHas], fun k d hk hd => ?_⟩
  have hm : d ∈ nowOf (x.setHas v) D := by
    have h1 : ((x.setHas v).run D).done = x.done ++ nowOf (x.setHas v) D := rfl
    rw [h1, List.getElem?_append_right hk] at hd
    exact List.mem_of_getElem? hd
  refine h.waited (List.mem_of_getElem? hd) ?_
  have hle : V7.le ((x.setHas v).wait d) (x.setHas v).has = true := by
    unfold nowOf at hm
    obtain ⟨h2, h3⟩ := List.mem_filter.1 hm
    have h4 := mem_tw h2
    simp only [Bool.or_eq_true, decide_eq_true_eq] at h4
    simp only [Bool.not_eq_true', decide_eq_false_iff_not] at h3
    exact h4.resolve_left h3
  exact hle
theorem setHas_has (x : XS) (v : V7) (D : List Dot) : ((x.setHas v).run D).has = if V7.good v = true then V7.merge x.has v else x.has := rfl
theorem take_next {l : List ActD} {i : Nat} {a : ActD} (h : l[i]? = some a) : l.take (i + 1) = l.take i ++ [a] := by
  obtain ⟨hi, rfl⟩ := List.getElem?_eq_some_iff.1 h
  exact List.take_succ_eq_append_getElem hi

theorem commit_has (x : XS) (i : Inst) (v : V7) (b : Value) (bs : List UInt8) : (x.commit i v b bs).has = x.has ∧ (x.commit i v b bs).done = x.done := by
  unfold XS.commit
  split <;> exact ⟨rfl, rfl⟩
theorem act_inst {w : World} {b o : Nat} {a : ActD} (h : w.rangeAt b o a.cells) : w.rangeAt b (o + 1) (instCells a.i) := fun j u hj => by
  have hj10 : j < 10 := (List.getElem?_eq_some_iff.1 hj).1
  have h7 : a.cells[1 + j]? = some u := by
    rw [← hj]
    match j, hj10 with
    | 0, _ | 1, _ | 2, _ | 3, _ | 4, _ | 5, _ | 6, _ | 7, _ | 8, _ | 9, _ => rfl
  rw [← h (1 + j) u h7]
  congr 2
  omega
theorem act_vec {w : World} {b o : Nat} {a : ActD} (h : w.rangeAt b o a.cells) : w.rangeAt b (o + 11) a.v.cells := fun j u hj => by
  have hj7 : j < 7 := (List.getElem?_eq_some_iff.1 hj).1
  have h7 : a.cells[11 + j]? = some u := by
    rw [← hj]
    match j, hj7 with
    | 0, _ | 1, _ | 2, _ | 3, _ | 4, _ | 5, _ | 6, _ => rfl
  rw [← h (11 + j) u h7]
  congr 2
  omega
theorem rangeAt_below {w w' : World} {b o : Nat} {cs : List Value} (h : w.rangeAt b o cs) (hb : Below w.heap.size w w') (hl : b < w.heap.size) : w'.rangeAt b o cs := fun j u hj => (hb.cell hl).trans (h j u hj)

def GrowAt (w : World) (kb xb : Nat) (l : List ActD) (n : Nat) (wx : World) : Prop :=
  ∃ x F, XAt w.heap.size wx xb F x ∧ GrowInv l x ∧ wx.heap[kb]? = some (.cells x.has.cells.toArray 32 (0, 0)) ∧ ¬ F kb ∧ w.heap.size ≤ kb ∧ Below w.heap.size w wx ∧ GrowNew l n x

set_option maxRecDepth 100000 in
set_option maxHeartbeats 8000000 in
theorem grows_any (sv : Value) (l : List ActD) (w : World) (h : ActsIn w sv l) : Calls Try.prog 5 #[sv] w fun e w' => e = .returned (.bool true) ∧ Below w.heap.size w w' := by
  obtain ⟨p, cap, rfl, hcap, hmax, hp⟩ := h
  unfold maxLen at hmax
  have HP := Lib.hid hp
  clear hp
  obtain ⟨len, hlen⟩ : ∃ len, l.length = len := ⟨_, rfl⟩
  rw [hlen] at hcap ⊢
  have HLEN := Lib.hid hlen
  clear hlen
  have hlm : (len : Int) ≤ 9223372036854775807 := by omega
  go_enter Try.func5, Try.ntmps5
  go_wp2_with fail
  refine (awake_any w).mono ?_
  rintro e w1 ⟨rfl, hb1⟩
  have HB1 := Lib.hid hb1
  clear hb1
  by_cases h30 : 30 < len
  · have hdec : decide ((30 : Int) < (len : Int)) = true := by simp; omega
    go_wp2_with fail
    go_ret
    exact ⟨rfl, HB1.out⟩
  · have hdec : decide ((30 : Int) < (len : Int)) = false := by simp; omega
    go_wp2_with fail
    refine (xnew_any w.heap.size w1 HB1.out.size).mono ?_
    rintro e w2 ⟨xb, rfl, hx2, hb2⟩
    have HX2 := Lib.hid hx2
    have HB2 := Lib.hid hb2
    clear hx2 hb2
    go_wp2_with fail
    have hb3 : Below w2.heap.size w2 (w2.alloc (.cells #[.int .i64 0, .int .i64 0, .int .i64 0, .int .i64 0, .int .i64 0, .int .i64 0, .int .i64 0] 32)) := (Below.refl _ _).alloc (Nat.le_refl _) _
    have hbx3 := heap_alloc_new w2 (.cells #[.int .i64 0, .int .i64 0, .int .i64 0, .int .i64 0, .int .i64 0, .int .i64 0, .int .i64 0] 32)
    generalize w2.alloc (.cells #[.int .i64 0, .int .i64 0, .int .i64 0, .int .i64 0, .int .i64 0, .int .i64 0, .int .i64 0] 32) = w3 at hb3 hbx3 ⊢
    obtain ⟨kb, hkb⟩ : ∃ kb, w2.heap.size = kb := ⟨_, rfl⟩
    have hst : ∃ F, XAt w.heap.size w3 xb F XS.new ∧ w3.heap[kb]? = some (.cells XS.new.has.cells.toArray 32 (0, 0)) ∧ ¬ F kb ∧ w.heap.size ≤ kb ∧ Below w.heap.size w w3 := by
      have h1 := HB1.out.size
      have h2 := HB2.out.size
      refine ⟨_, HX2.out.below hb3, ?_, fun hF => by omega, by omega, (HB1.out.trans (HB2.out.mono h1)).trans (hb3.mono (by omega))⟩
      rw [← hkb]; exact hbx3
    have HST := Lib.hid hst
    rw [hkb]
    clear hb3 hbx3 hkb hst
    go_wp2_with fail
    go_loopw [4, 6] (fun v4 v6 wr => ∃ (i n : Nat), i ≤ len ∧ v6 = .int .i64 i ∧ v4 = .int .i64 n ∧ n ≤ 1000 ∧ ∃ x F, x.done.length = n ∧ XAt w.heap.size wr xb F x ∧ GrowInv (l.take i) x ∧ wr.heap[kb]? = some (.cells x.has.cells.toArray 32 (0, 0)) ∧ ¬ F kb ∧ w.heap.size ≤ kb ∧ Below w.heap.size w wr) (fun _ v _ => len - (intOf v).toNat)
    case atStart =>
      obtain ⟨F, h1, h2, h3, h4, h5⟩ := HST.out
      exact ⟨0, 0, by omega, rfl, rfl, by omega, XS.new, F, rfl, h1, GrowInv.start, h2, h3, h4, h5⟩
    case round =>
      obtain ⟨i, n, hi, rfl, rfl, hn1000, x, F, hxn, hx, hinv, hbx, hnF, hkbw, hbel⟩ := hrel
      have HXN := Lib.hid hxn
      have HX := Lib.hid hx
      have HINV := Lib.hid hinv
      have HBX := Lib.hid hbx
      have HNF := Lib.hid hnF
      have HBEL := Lib.hid hbel
      clear hxn hx hinv hbx hnF hbel HST
      by_cases hlt : i < len
      · obtain ⟨lb, lo, rfl, hacts⟩ := HP.out (by rw [HLEN.out]; omega)
        have hil : i < l.length := by rw [HLEN.out]; exact hlt
        have hai : l[i]? = some l[i] := List.getElem?_eq_getElem hil
        generalize l[i] = a at hai
        obtain ⟨hrg, hbd, hlw⟩ := hacts i a hai
        have HACTS := Lib.hid hacts
        have HAI := Lib.hid hai
        have HRG := Lib.hid hrg
        have HBD := Lib.hid hbd
        have hi0 : (0 : Int) ≤ (i : Int) := Int.natCast_nonneg _
        have hi1 : (i : Int) < (len : Int) := by omega
        have hop : wr.cell? ⟨lb, lo + i * 19, none⟩ = some (.int .i64 a.op) := by
          have := (HBEL.out.cell hlw).trans (hrg 0 _ rfl)
          rwa [Nat.add_zero] at this
        clear hacts hai hrg hbd
        go_upto_if 30 with (fail)
        go_cut [] (fun wx => GrowAt w kb xb (l.take (i + 1)) n wx)
        case first =>
          by_cases h0 : a.op = 0
          · have hd0 : (a.op == 0) = true := by simpa using h0
            have H0 := Lib.hid h0
            clear h0
            go_wp2_with fail
            obtain ⟨pb, cb, hab⟩ := HBD.out.form
            have HS := Lib.hid (show ∀ W, Below w.heap.size w W → (fun w' : World => w'.rangeAt lb (lo + i * 19 + 1) (instCells a.i) ∧ w'.rangeAt lb (lo + i * 19 + 11) a.v.cells ∧ w'.cell? ⟨lb, lo + i * 19 + 18, none⟩ = some (.slice pb a.bs.length cb)) W from fun W hW => ⟨rangeAt_below (act_inst HRG.out) hW hlw, rangeAt_below (act_vec HRG.out) hW hlw, by rw [hW.cell hlw, HRG.out 18 _ rfl, ← hab]⟩)
            have HAB := Lib.hid hab
            clear hab hop
            refine wp_region_F (fun j => Nat.blt j 17) (fun w' => w'.rangeAt lb (lo + i * 19 + 1) (instCells a.i) ∧ w'.rangeAt lb (lo + i * 19 + 11) a.v.cells ∧ w'.cell? ⟨lb, lo + i * 19 + 18, none⟩ = some (.slice pb a.bs.length cb)) (by rfl) ?_
            have HSS : (fun w' : World => w'.rangeAt lb (lo + i * 19 + 1) (instCells a.i) ∧ w'.rangeAt lb (lo + i * 19 + 11) a.v.cells ∧ w'.cell? ⟨lb, lo + i * 19 + 18, none⟩ = some (.slice pb a.bs.length cb)) (World.drew wr) := HS.out _ HBEL.out.drew
            change wpAnyF _ _ _ _ _ _ _ _ _ (World.drew wr)
            refine wpAnyF_take (i := 0) (oi := ⟨_, _, _, _, _, _⟩) (v := ?_) rfl (by kernel_rfl) (fun _ _ _ h => h) (Or.inl ⟨by rfl, ?_⟩) HSS ?_
            rotate_left
            · intro wS hSw; (try dsimp only at hSw); go_simp; (try with_reducible rfl)
            simp only [Act.put, List.setIfInBounds_toArray, List.set_cons_zero, List.set_cons_succ]
            refine wpAnyF_take (i := 1) (oi := ⟨_, _, _, _, _, _⟩) (v := ?_) rfl (by kernel_rfl) (fun _ _ _ h => h) (Or.inl ⟨by rfl, ?_⟩) HSS ?_
            rotate_left
            · intro wS hSw; (try dsimp only at hSw); go_simp; (try with_reducible rfl)
            simp only [Act.put, List.setIfInBounds_toArray, List.set_cons_zero, List.set_cons_succ]
            refine wpAnyF_take (i := 2) (oi := ⟨_, _, _, _, _, _⟩) (v := ?_) rfl (by kernel_rfl) (fun _ _ _ h => h) (Or.inl ⟨by rfl, ?_⟩) HSS ?_
            rotate_left
            · intro wS hSw; (try dsimp only at hSw); go_simp; (try with_reducible rfl)
            simp only [Act.put, List.setIfInBounds_toArray, List.set_cons_zero, List.set_cons_succ]
            refine wpAnyF_take (i := 3) (oi := ⟨_, _, _, _, _, _⟩) (v := ?_) rfl (by kernel_rfl) (fun _ _ _ h => h) (Or.inl ⟨by rfl, ?_⟩) HSS ?_
            rotate_left
            · intro wS hSw; (try dsimp only at hSw); go_simp; (try with_reducible rfl)
            simp only [Act.put, List.setIfInBounds_toArray, List.set_cons_zero, List.set_cons_succ]
            refine wpAnyF_take (i := 4) (oi := ⟨_, _, _, _, _, _⟩) (v := ?_) rfl (by kernel_rfl) (fun _ _ _ h => h) (Or.inl ⟨by rfl, ?_⟩) HSS ?_
            rotate_left
            · intro wS hSw; (try dsimp only at hSw); go_simp; (try with_reducible rfl)
            simp only [Act.put, List.setIfInBounds_toArray, List.set_cons_zero, List.set_cons_succ]
            refine wpAnyF_take (i := 5) (oi := ⟨_, _, _, _, _, _⟩) (v := .agg (instCells a.i : List Value).toArray) rfl (by kernel_rfl) (fun _ _ _ h => h) (yieldsIf_load_mid (by rfl) 31 (.tmp 35) rfl lb (lo + i * 19 + 1) rfl (instCells a.i) _ (fun _ hS => hS.1) instDesc rfl instSize) HSS ?_
            simp only [Act.put, List.setIfInBounds_toArray, List.set_cons_zero, List.set_cons_succ]
            refine wpAnyF_take (i := 6) (oi := ⟨_, _, _, _, _, _⟩) (v := ?_) rfl (by kernel_rfl) (fun _ _ _ h => h) (Or.inl ⟨by rfl, ?_⟩) HSS ?_
            rotate_left
            · intro wS hSw; (try dsimp only at hSw); go_simp; (try with_reducible rfl)
            simp only [Act.put, List.setIfInBounds_toArray, List.set_cons_zero, List.set_cons_succ]
            refine wpAnyF_take (i := 7) (oi := ⟨_, _, _, _, _, _⟩) (v := ?_) rfl (by kernel_rfl) (fun _ _ _ h => h) (Or.inl ⟨by rfl, ?_⟩) HSS ?_
            rotate_left
            · intro wS hSw; (try dsimp only at hSw); go_simp; (try with_reducible rfl)
            simp only [Act.put, List.setIfInBounds_toArray, List.set_cons_zero, List.set_cons_succ]
            refine wpAnyF_take (i := 8) (oi := ⟨_, _, _, _, _, _⟩) (v := ?_) rfl (by kernel_rfl) (fun _ _ _ h => h) (Or.inl ⟨by rfl, ?_⟩) HSS ?_
            rotate_left
            · intro wS hSw; (try dsimp only at hSw); go_simp; (try with_reducible rfl)
            simp only [Act.put, List.setIfInBounds_toArray, List.set_cons_zero, List.set_cons_succ]
            refine wpAnyF_take (i := 9) (oi := ⟨_, _, _, _, _, _⟩) (v := ?_) rfl (by kernel_rfl) (fun _ _ _ h => h) (Or.inl ⟨by rfl, ?_⟩) HSS ?_
            rotate_left
            · intro wS hSw; (try dsimp only at hSw); go_simp; (try with_reducible rfl)
            simp only [Act.put, List.setIfInBounds_toArray, List.set_cons_zero, List.set_cons_succ]
            refine wpAnyF_take (i := 10) (oi := ⟨_, _, _, _, _, _⟩) (v := .agg (a.v.cells : List Value).toArray) rfl (by kernel_rfl) (fun _ _ _ h => h) (yieldsIf_load_mid (by rfl) 32 (.tmp 40) rfl lb (lo + i * 19 + 11) rfl (a.v.cells) _ (fun _ hS => hS.2.1) Try.underlying32 rfl vecSize) HSS ?_
            simp only [Act.put, List.setIfInBounds_toArray, List.set_cons_zero, List.set_cons_succ]
            refine wpAnyF_take (i := 11) (oi := ⟨_, _, _, _, _, _⟩) (v := ?_) rfl (by kernel_rfl) (fun _ _ _ h => h) (Or.inl ⟨by rfl, ?_⟩) HSS ?_
            rotate_left
            · intro wS hSw; (try dsimp only at hSw); go_simp; (try with_reducible rfl)
            simp only [Act.put, List.setIfInBounds_toArray, List.set_cons_zero, List.set_cons_succ]
            refine wpAnyF_take (i := 12) (oi := ⟨_, _, _, _, _, _⟩) (v := ?_) rfl (by kernel_rfl) (fun _ _ _ h => h) (Or.inl ⟨by rfl, ?_⟩) HSS ?_
            rotate_left
            · intro wS hSw; (try dsimp only at hSw); go_simp; (try with_reducible rfl)
            simp only [Act.put, List.setIfInBounds_toArray, List.set_cons_zero, List.set_cons_succ]
            refine wpAnyF_take (i := 13) (oi := ⟨_, _, _, _, _, _⟩) (v := ?_) rfl (by kernel_rfl) (fun _ _ _ h => h) (Or.inl ⟨by rfl, ?_⟩) HSS ?_
            rotate_left
            · intro wS hSw; (try dsimp only at hSw); go_simp; (try with_reducible rfl)
            simp only [Act.put, List.setIfInBounds_toArray, List.set_cons_zero, List.set_cons_succ]
            refine wpAnyF_take (i := 14) (oi := ⟨_, _, _, _, _, _⟩) (v := ?_) rfl (by kernel_rfl) (fun _ _ _ h => h) (Or.inl ⟨by rfl, ?_⟩) HSS ?_
            rotate_left
            · intro wS hSw; (try dsimp only at hSw); go_simp; (try with_reducible rfl)
            simp only [Act.put, List.setIfInBounds_toArray, List.set_cons_zero, List.set_cons_succ]
            refine wpAnyF_take (i := 15) (oi := ⟨_, _, _, _, _, _⟩) (v := ?_) rfl (by kernel_rfl) (fun _ _ _ h => h) (Or.inl ⟨by rfl, ?_⟩) HSS ?_
            rotate_left
            · intro wS hSw; (try dsimp only at hSw); go_simp; (try with_reducible rfl)
            simp only [Act.put, List.setIfInBounds_toArray, List.set_cons_zero, List.set_cons_succ]
            refine wpAnyF_step (i := 16) (o := ⟨_, _, _, _, _, _⟩) rfl (by kernel_rfl) ?_
            go_wp2_with fail
            have hbody : BodyAt wr.drew (.slice pb a.bs.length cb) a.bs := by
              have := HBD.out.below HBEL.out.drew
              rw [HAB.out] at this
              exact this
            have hxd := HX.out.below (Below.refl _ _).drew
            refine (xcommit_any w.heap.size wr.drew xb F x hxd HINV.out.ok a.i a.v _ a.bs hbody).mono ?_
            rintro e w4 ⟨b, F', rfl, hx4, hF', hm4, _⟩
            have hbel4 := below_step HBEL.out.drew hxd hm4
            have hbx4 := hm4.heap (heap_drew_keeps HBX.out) HNF.out
            have lkb := lt_of_heap HBX.out
            have HALL := Lib.hid (show GrowAt w kb xb (l.take (i + 1)) n w4 from by
              obtain ⟨hc1, hc2⟩ := commit_has x a.i a.v b a.bs
              refine ⟨_, F', hx4, ?_, by rw [hc1]; exact hbx4, fun hF => ?_, hkbw, hbel4, GrowNew.same (by rw [hc2]; exact HXN.out)⟩
              · rw [take_next HAI.out]
                exact HINV.out.commit H0.out (by simp; omega) b
              · rcases hF' kb hF with h | h
                · exact HNF.out h
                · simp at h; omega)
            have HB4 := Lib.hid hbel4
            clear hbody hxd hx4 hF' hm4 hbel4 hbx4 lkb HSS
            go_wp2_with fail
            refine onEnd_normal ⟨fun _ => HS.out _ HB4.out, ?_⟩
            refine wpAnyF_chain [] [] rfl (by kernel_rfl) ?_
            go_wp2_with fail
            go_meet
            exact HALL.out
          · have hd0 : (a.op == 0) = false := by simpa using h0
            have H0 := Lib.hid h0
            clear h0
            have hvr : wr.rangeAt lb (lo + i * 19 + 11) a.v.cells := rangeAt_below (act_vec HRG.out) HBEL.out hlw
            have c11 := hvr 0 _ rfl
            have c12 := hvr 1 _ rfl
            have c13 := hvr 2 _ rfl
            have c14 := hvr 3 _ rfl
            have c15 := hvr 4 _ rfl
            have c16 := hvr 5 _ rfl
            have c17 := hvr 6 _ rfl
            rw [Nat.add_zero] at c11
            clear hvr
            go_wp2_with fail
            refine (xhave_any w.heap.size wr xb F x HX.out HINV.out.ok a.v).mono ?_
            rintro e w4 ⟨D, nv, F', rfl, hD, _, hx4, hF', hm4⟩
            have hbel4 := below_step HBEL.out HX.out hm4
            have hbx4 := hm4.heap HBX.out HNF.out
            have lkb := lt_of_heap HBX.out
            have hinv4 := HINV.out.other (a := a) (x' := (x.setHas a.v).run D) H0.out ((HINV.out.ok.setHas a.v).run hD) rfl
            rw [← take_next HAI.out] at hinv4
            have HNEW := Lib.hid (show GrowNew (l.take (i + 1)) n ((x.setHas a.v).run D) from by
              have := GrowNew.run hinv4
              rw [HXN.out] at this
              exact this)
            have HX4 := Lib.hid hx4
            have HINV4 := Lib.hid hinv4
            have HBX4 := Lib.hid hbx4
            have HNF4 := Lib.hid (show ¬ F' kb from fun hF => by
              rcases hF' kb hF with h | h
              · exact HNF.out h
              · omega)
            have HB4 := Lib.hid hbel4
            have hvr4 : w4.rangeAt lb (lo + i * 19 + 11) a.v.cells := rangeAt_below (act_vec HRG.out) hbel4 hlw
            have d11 := hvr4 0 _ rfl
            have d12 := hvr4 1 _ rfl
            have d13 := hvr4 2 _ rfl
            have d14 := hvr4 3 _ rfl
            have d15 := hvr4 4 _ rfl
            have d16 := hvr4 5 _ rfl
            have d17 := hvr4 6 _ rfl
            rw [Nat.add_zero] at d11
            have HVR4 := Lib.hid hvr4
            clear c11 c12 c13 c14 c15 c16 c17 hop hD hx4 hF' hm4 hbel4 hbx4 hinv4 hvr4
            go_wp2_with fail
            refine (vGood_any a.v _).mono ?_
            rintro e w5 ⟨rfl, hb5⟩
            have HB5 := Lib.hid hb5
            clear hb5 d11 d12 d13 d14 d15 d16 d17
            cases hg : V7.good a.v with
            | false =>
              have HALL := Lib.hid (show GrowAt w kb xb (l.take (i + 1)) n w5 from by
                refine ⟨_, F', HX4.out.below HB5.out, HINV4.out, ?_, HNF4.out, hkbw, HB4.out.trans (HB5.out.mono HB4.out.size), HNEW.out⟩
                rw [setHas_has, if_neg (by rw [hg]; simp)]
                exact Below.heap HB5.out HBX4.out (lt_of_heap HBX4.out))
              clear hg
              go_wp2_with fail
              go_meet
              exact HALL.out
            | true =>
              have hhas : ((x.setHas a.v).run D).has = V7.merge x.has a.v := by rw [setHas_has, if_pos hg]
              have HHAS := Lib.hid hhas
              have hbx5 := Below.heap HB5.out HBX4.out (lt_of_heap HBX4.out)
              have HBX5 := Lib.hid hbx5
              have HS := Lib.hid (show ∀ W, Below w5.heap.size w5 W → (fun w' : World => w'.rangeAt kb 0 x.has.cells ∧ w'.rangeAt lb (lo + i * 19 + 11) a.v.cells) W from fun W hW => ⟨fun j u hj => by rw [hW.cell (lt_of_heap hbx5), cell_of_heap hbx5, Nat.zero_add]; simpa using hj, rangeAt_below (rangeAt_below HVR4.out HB5.out (Nat.lt_of_lt_of_le hlw HB4.out.size)) hW (Nat.lt_of_lt_of_le (Nat.lt_of_lt_of_le hlw HB4.out.size) HB5.out.size)⟩)
              clear hg hhas hbx5
              go_wp2_with fail
              refine wp_region_F (fun j => Nat.blt j 7) (fun w' => w'.rangeAt kb 0 x.has.cells ∧ w'.rangeAt lb (lo + i * 19 + 11) a.v.cells) (by rfl) ?_
              have HSS : (fun w' : World => w'.rangeAt kb 0 x.has.cells ∧ w'.rangeAt lb (lo + i * 19 + 11) a.v.cells) (World.drew w5) := HS.out _ (Below.refl _ _).drew
              change wpAnyF _ _ _ _ _ _ _ _ _ (World.drew w5)
              refine wpAnyF_take (i := 0) (oi := ⟨_, _, _, _, _, _⟩) (v := .agg (x.has.cells : List Value).toArray) rfl (by kernel_rfl) (fun _ _ _ h => h) (yieldsIf_load_mid (by rfl) 32 (.tmp 5) rfl kb (0) rfl (x.has.cells) _ (fun _ hS => hS.1) Try.underlying32 rfl vecSize) HSS ?_
              simp only [Act.put, List.setIfInBounds_toArray, List.set_cons_zero, List.set_cons_succ]
              refine wpAnyF_take (i := 1) (oi := ⟨_, _, _, _, _, _⟩) (v := ?_) rfl (by kernel_rfl) (fun _ _ _ h => h) (Or.inl ⟨by rfl, ?_⟩) HSS ?_
              rotate_left
              · intro wS hSw; (try dsimp only at hSw); go_simp; (try with_reducible rfl)
              simp only [Act.put, List.setIfInBounds_toArray, List.set_cons_zero, List.set_cons_succ]
              refine wpAnyF_take (i := 2) (oi := ⟨_, _, _, _, _, _⟩) (v := ?_) rfl (by kernel_rfl) (fun _ _ _ h => h) (Or.inl ⟨by rfl, ?_⟩) HSS ?_
              rotate_left
              · intro wS hSw; (try dsimp only at hSw); go_simp; (try with_reducible rfl)
              simp only [Act.put, List.setIfInBounds_toArray, List.set_cons_zero, List.set_cons_succ]
              refine wpAnyF_take (i := 3) (oi := ⟨_, _, _, _, _, _⟩) (v := ?_) rfl (by kernel_rfl) (fun _ _ _ h => h) (Or.inl ⟨by rfl, ?_⟩) HSS ?_
              rotate_left
              · intro wS hSw; (try dsimp only at hSw); go_simp; (try with_reducible rfl)
              simp only [Act.put, List.setIfInBounds_toArray, List.set_cons_zero, List.set_cons_succ]
              refine wpAnyF_take (i := 4) (oi := ⟨_, _, _, _, _, _⟩) (v := ?_) rfl (by kernel_rfl) (fun _ _ _ h => h) (Or.inl ⟨by rfl, ?_⟩) HSS ?_
              rotate_left
              · intro wS hSw; (try dsimp only at hSw); go_simp; (try with_reducible rfl)
              simp only [Act.put, List.setIfInBounds_toArray, List.set_cons_zero, List.set_cons_succ]
              refine wpAnyF_take (i := 5) (oi := ⟨_, _, _, _, _, _⟩) (v := .agg (a.v.cells : List Value).toArray) rfl (by kernel_rfl) (fun _ _ _ h => h) (yieldsIf_load_mid (by rfl) 32 (.tmp 65) rfl lb (lo + i * 19 + 11) rfl (a.v.cells) _ (fun _ hS => hS.2) Try.underlying32 rfl vecSize) HSS ?_
              simp only [Act.put, List.setIfInBounds_toArray, List.set_cons_zero, List.set_cons_succ]
              refine wpAnyF_step (i := 6) (o := ⟨_, _, _, _, _, _⟩) rfl (by kernel_rfl) ?_
              go_wp2_with fail
              refine (vMerge_any x.has a.v _).mono ?_
              rintro e w6 ⟨rfl, hb6⟩
              have hb56 : Below w5.heap.size w5 w6 := (Below.refl _ _).drew.trans (hb6.mono (by simp))
              have hbx6 := Below.heap hb56 HBX5.out (lt_of_heap HBX5.out)
              have hthere : w6.there kb 0 7 := fun j hj => ⟨by
                rw [cell_of_heap hbx6]
                match j, hj with
                | 0, _ | 1, _ | 2, _ | 3, _ | 4, _ | 5, _ | 6, _ => rfl, free_of_heap hbx6 _⟩
              have HB6 := Lib.hid hb56
              have HBX6 := Lib.hid (And.intro hbx6 hthere)
              clear hb6 hb56 hbx6 hthere HSS
              go_wp2_with fail
              refine onEnd_normal ⟨fun _ => HS.out _ HB6.out, ?_⟩
              refine wpAnyF_chain [7] [⟨_, _, _, _, _, _⟩] rfl (by kernel_rfl) ?_
              go_wp2_with ((with_reducible show wpList _ _ _ (Oper.mk none _ _ _ _ _ :: _) _ _); refine wpList_store_mid (op := ⟨none, _, _, _, _, _⟩) rfl 32 (.tmp 5) (.tmp 67) rfl kb 0 (V7.merge x.has a.v).cells.toArray rfl rfl HBX6.out.2 vecSize (by simp [V7.cells, Value.oneCell']) ?_)
              go_meet
              obtain ⟨hkx, hkm⟩ := setCells7 (v := V7.merge x.has a.v) (r := []) HBX6.out.1
              rw [List.append_nil] at hkx
              have hb46 : Below w4.heap.size w4 w6 := HB5.out.trans (HB6.out.mono HB5.out.size)
              have hx6 := (HX4.out.below hb46).frame hkm (fun k hk he => HNF4.out (he ▸ hk))
              refine ⟨_, F', hx6, HINV4.out, by rw [HHAS.out]; exact hkx, HNF4.out, hkbw, ?_, HNEW.out⟩
              have hbel6 := HB4.out.trans (hb46.mono HB4.out.size)
              exact hbel6.trans (below_of_mod hkm (fun k hk => by rw [hk]; exact hkbw) hbel6.size)
        case rest =>
          obtain ⟨x', F', hx, hinv, hbx, hnF, _, hbel, hnew⟩ := hcut
          have HX' := Lib.hid hx
          have HINV' := Lib.hid hinv
          have HBX' := Lib.hid hbx
          have HNF' := Lib.hid hnF
          have HBEL' := Lib.hid hbel
          have HNEW := Lib.hid hnew
          have hdl := hinv.ok.dlen
          have hcl := hinv.ok.clen
          clear hx hinv hbx hnF hbel hnew hop
          go_wp2_with fail
          refine (xdone_any w.heap.size wc xb F' x' HX'.out HINV'.out.ok).mono ?_
          rintro e w4 ⟨dv, rfl, hdv, _, hb4⟩
          obtain ⟨pd, cd, rfl, hcd, hpd⟩ := hdv.form
          have HPD := Lib.hid hpd
          have HB4 := Lib.hid hb4
          obtain ⟨m, hm⟩ : ∃ m, x'.done.length = m := ⟨_, rfl⟩
          have hnm : n ≤ m := by have := HNEW.out.1; omega
          rw [hm] at hcd hdl ⊢
          have HM := Lib.hid hm
          have hm1000 : m ≤ 1000 := by omega
          have hdec1 : decide (m < n) = false := by simp; omega
          clear hdv hpd hb4 hm
          go_wp2_with fail
          try rw [hdec1]
          clear hdec1
          go_loopw [8] (fun v8 wj => ∃ k : Nat, n ≤ k ∧ k ≤ m ∧ v8 = .int .i64 k ∧ Below w4.heap.size w4 wj) (fun v _ => m - (intOf v).toNat)
          case atStart => exact ⟨n, by omega, by omega, rfl, Below.refl _ _⟩
          case round =>
            obtain ⟨k, hnk, hkm, rfl, hbj⟩ := hrel
            have HBJ := Lib.hid hbj
            clear hbj
            by_cases hkl : k < m
            · have hkd : k < x'.done.length := by rw [HM.out]; exact hkl
              obtain ⟨bd, rfl, hcb, hbl⟩ := HPD.out (by omega)
              have hdot := fun (q : Nat) (hq : q < x'.done.length) => dotCells_at x'.done q hq
              obtain ⟨a1, a2⟩ := hdot k hkd
              have f1 := hcb _ _ a1
              have f2 := hcb _ _ a2
              rw [Nat.zero_add] at f1 f2
              have e1 := (HBJ.out.cell hbl).trans f1
              have e2 := (HBJ.out.cell hbl).trans f2
              have hdk : x'.done[k]? = some x'.done[k] := List.getElem?_eq_getElem hkd
              generalize x'.done[k] = d at f1 f2 e1 e2 hdk
              have hwt := HNEW.out.2 k d hnk hdk
              have hfs : (x'.find d).isSome = true := by
                obtain ⟨c0, hc0, hcd0⟩ := HINV'.out.ok.sub d (List.mem_of_getElem? hdk)
                exact List.find?_isSome.2 ⟨c0, hc0, by simp [hcd0]⟩
              have hbody := xbody_any w.heap.size wr xb F' x' (HX'.out.below (HB4.out.trans (HBJ.out.mono HB4.out.size))) HINV'.out.ok d
              rw [hfs] at hbody
              have HBODY := Lib.hid hbody
              have HDK := Lib.hid hdk
              have HWT := Lib.hid hwt
              have HCB := Lib.hid hcb
              have hk0 : (0 : Int) ≤ (k : Int) := Int.natCast_nonneg _
              have hk1 : (k : Int) < (m : Int) := by omega
              have hbx4 := Below.heap HB4.out HBX'.out (lt_of_heap HBX'.out)
              have hs4 : (fun w' : World => w'.cell? ⟨bd, k * 2, none⟩ = some (.int .i64 d.1) ∧ w'.cell? ⟨bd, k * 2 + 1, none⟩ = some (.int .i64 d.2) ∧ w'.rangeAt kb 0 x'.has.cells) w4 := ⟨f1, f2, fun j u hj => by rw [cell_of_heap hbx4, Nat.zero_add]; simpa using hj⟩
              have HS := Lib.hid (show ∀ W, Below w4.heap.size w4 W → (fun w' : World => w'.cell? ⟨bd, k * 2, none⟩ = some (.int .i64 d.1) ∧ w'.cell? ⟨bd, k * 2 + 1, none⟩ = some (.int .i64 d.2) ∧ w'.rangeAt kb 0 x'.has.cells) W from fun W hW => ⟨(hW.cell hbl).trans hs4.1, (hW.cell hbl).trans hs4.2.1, fun j u hj => (hW.cell (lt_of_heap hbx4)).trans (hs4.2.2 j u hj)⟩)
              have hi2 : (i : Int) + 1 ≤ (cap : Int) := by omega
              clear hcb a1 a2 hdot hdk hwt hfs hbody hbx4 hs4 f1 f2
              go_wp2_with fail
              refine HBODY.out.mono ?_
              rintro e w5 ⟨bv, rfl, _, hb5⟩
              have HB5 := Lib.hid (HBJ.out.trans (hb5.mono HBJ.out.size))
              clear hb5 e1 e2
              go_wp2_with fail
              have hsum := IntWalk.i64_in ((i : Int) + 1) (by omega)
              have hsum2 : ((i : Int) + 1).toNat = i + 1 := by omega
              have hsum0 : (0 : Int) ≤ (i : Int) + 1 := by omega
              refine wp_region_F (fun j => Nat.blt j 21) (fun w' => w'.cell? ⟨bd, k * 2, none⟩ = some (.int .i64 d.1) ∧ w'.cell? ⟨bd, k * 2 + 1, none⟩ = some (.int .i64 d.2) ∧ w'.rangeAt kb 0 x'.has.cells) (by rfl) ?_
              have HSS : (fun w' : World => w'.cell? ⟨bd, k * 2, none⟩ = some (.int .i64 d.1) ∧ w'.cell? ⟨bd, k * 2 + 1, none⟩ = some (.int .i64 d.2) ∧ w'.rangeAt kb 0 x'.has.cells) (World.drew w5) := HS.out _ HB5.out.drew
              change wpAnyF _ _ _ _ _ _ _ _ _ (World.drew w5)
              refine wpAnyF_take (i := 0) (oi := ⟨_, _, _, _, _, _⟩) (v := ?_) rfl (by kernel_rfl) (fun _ _ _ h => h) (Or.inl ⟨by rfl, ?_⟩) HSS ?_
              rotate_left
              · intro wS hSw; (try dsimp only at hSw); go_simp; (try with_reducible rfl)
              simp only [Act.put, List.setIfInBounds_toArray, List.set_cons_zero, List.set_cons_succ]
              refine wpAnyF_take (i := 1) (oi := ⟨_, _, _, _, _, _⟩) (v := ?_) rfl (by kernel_rfl) (fun _ _ _ h => h) (Or.inl ⟨by rfl, ?_⟩) HSS ?_
              rotate_left
              · intro wS hSw; (try dsimp only at hSw); go_simp; (try with_reducible rfl)
              simp only [Act.put, List.setIfInBounds_toArray, List.set_cons_zero, List.set_cons_succ]
              refine wpAnyF_take (i := 2) (oi := ⟨_, _, _, _, _, _⟩) (v := ?_) rfl (by kernel_rfl) (fun _ _ _ h => h) (Or.inl ⟨by rfl, ?_⟩) HSS ?_
              rotate_left
              · intro wS hSw; (try dsimp only at hSw); go_simp; (try with_reducible rfl)
              simp only [Act.put, List.setIfInBounds_toArray, List.set_cons_zero, List.set_cons_succ]
              refine wpAnyF_take (i := 3) (oi := ⟨_, _, _, _, _, _⟩) (v := ?_) rfl (by kernel_rfl) (fun _ _ _ h => h) (Or.inl ⟨by rfl, ?_⟩) HSS ?_
              rotate_left
              · intro wS hSw; (try dsimp only at hSw); go_simp; (try with_reducible rfl)
              simp only [Act.put, List.setIfInBounds_toArray, List.set_cons_zero, List.set_cons_succ]
              refine wpAnyF_take (i := 4) (oi := ⟨_, _, _, _, _, _⟩) (v := ?_) rfl (by kernel_rfl) (fun _ _ _ h => h) (Or.inl ⟨by rfl, ?_⟩) HSS ?_
              rotate_left
              · intro wS hSw; (try dsimp only at hSw); go_simp; (try with_reducible rfl)
              simp only [Act.put, List.setIfInBounds_toArray, List.set_cons_zero, List.set_cons_succ]
              refine wpAnyF_take (i := 5) (oi := ⟨_, _, _, _, _, _⟩) (v := ?_) rfl (by kernel_rfl) (fun _ _ _ h => h) (Or.inl ⟨by rfl, ?_⟩) HSS ?_
              rotate_left
              · intro wS hSw; (try dsimp only at hSw); go_simp; (try with_reducible rfl)
              simp only [Act.put, List.setIfInBounds_toArray, List.set_cons_zero, List.set_cons_succ]
              refine wpAnyF_take (i := 6) (oi := ⟨_, _, _, _, _, _⟩) (v := ?_) rfl (by kernel_rfl) (fun _ _ _ h => h) (Or.inl ⟨by rfl, ?_⟩) HSS ?_
              rotate_left
              · intro wS hSw; (try dsimp only at hSw); go_simp; (try with_reducible rfl)
              simp only [Act.put, List.setIfInBounds_toArray, List.set_cons_zero, List.set_cons_succ]
              refine wpAnyF_take (i := 7) (oi := ⟨_, _, _, _, _, _⟩) (v := ?_) rfl (by kernel_rfl) (fun _ _ _ h => h) (Or.inl ⟨by rfl, ?_⟩) HSS ?_
              rotate_left
              · intro wS hSw; (try dsimp only at hSw); go_simp; (try with_reducible rfl)
              simp only [Act.put, List.setIfInBounds_toArray, List.set_cons_zero, List.set_cons_succ]
              refine wpAnyF_take (i := 8) (oi := ⟨_, _, _, _, _, _⟩) (v := ?_) rfl (by kernel_rfl) (fun _ _ _ h => h) (Or.inl ⟨by rfl, ?_⟩) HSS ?_
              rotate_left
              · intro wS hSw; (try dsimp only at hSw); go_simp; (try with_reducible rfl)
              simp only [Act.put, List.setIfInBounds_toArray, List.set_cons_zero, List.set_cons_succ]
              refine wpAnyF_take (i := 9) (oi := ⟨_, _, _, _, _, _⟩) (v := ?_) rfl (by kernel_rfl) (fun _ _ _ h => h) (Or.inl ⟨by rfl, ?_⟩) HSS ?_
              rotate_left
              · intro wS hSw; (try dsimp only at hSw); go_simp; (try with_reducible rfl)
              simp only [Act.put, List.setIfInBounds_toArray, List.set_cons_zero, List.set_cons_succ]
              refine wpAnyF_take (i := 10) (oi := ⟨_, _, _, _, _, _⟩) (v := ?_) rfl (by kernel_rfl) (fun _ _ _ h => h) (Or.inl ⟨by rfl, ?_⟩) HSS ?_
              rotate_left
              · intro wS hSw; (try dsimp only at hSw); go_simp; (try with_reducible rfl)
              simp only [Act.put, List.setIfInBounds_toArray, List.set_cons_zero, List.set_cons_succ]
              refine wpAnyF_take (i := 11) (oi := ⟨_, _, _, _, _, _⟩) (v := ?_) rfl (by kernel_rfl) (fun _ _ _ h => h) (Or.inl ⟨by rfl, ?_⟩) HSS ?_
              rotate_left
              · intro wS hSw; (try dsimp only at hSw); go_simp; (try with_reducible rfl)
              simp only [Act.put, List.setIfInBounds_toArray, List.set_cons_zero, List.set_cons_succ]
              refine wpAnyF_take (i := 12) (oi := ⟨_, _, _, _, _, _⟩) (v := ?_) rfl (by kernel_rfl) (fun _ _ _ h => h) (Or.inl ⟨by rfl, ?_⟩) HSS ?_
              rotate_left
              · intro wS hSw; (try dsimp only at hSw); go_simp; (try with_reducible rfl)
              simp only [Act.put, List.setIfInBounds_toArray, List.set_cons_zero, List.set_cons_succ]
              refine wpAnyF_take (i := 13) (oi := ⟨_, _, _, _, _, _⟩) (v := ?_) rfl (by kernel_rfl) (fun _ _ _ h => h) (Or.inl ⟨by rfl, ?_⟩) HSS ?_
              rotate_left
              · intro wS hSw; (try dsimp only at hSw); go_simp; (try with_reducible rfl)
              simp only [Act.put, List.setIfInBounds_toArray, List.set_cons_zero, List.set_cons_succ]
              refine wpAnyF_take (i := 14) (oi := ⟨_, _, _, _, _, _⟩) (v := ?_) rfl (by kernel_rfl) (fun _ _ _ h => h) (Or.inl ⟨by rfl, ?_⟩) HSS ?_
              rotate_left
              · intro wS hSw; (try dsimp only at hSw); go_simp; (try with_reducible rfl)
              simp only [Act.put, List.setIfInBounds_toArray, List.set_cons_zero, List.set_cons_succ]
              refine wpAnyF_take (i := 15) (oi := ⟨_, _, _, _, _, _⟩) (v := ?_) rfl (by kernel_rfl) (fun _ _ _ h => h) (Or.inl ⟨by rfl, ?_⟩) HSS ?_
              rotate_left
              · intro wS hSw; (try dsimp only at hSw); go_simp; (try with_reducible rfl)
              simp only [Act.put, List.setIfInBounds_toArray, List.set_cons_zero, List.set_cons_succ]
              refine wpAnyF_take (i := 16) (oi := ⟨_, _, _, _, _, _⟩) (v := ?_) rfl (by kernel_rfl) (fun _ _ _ h => h) (Or.inl ⟨by rfl, ?_⟩) HSS ?_
              rotate_left
              · intro wS hSw; (try dsimp only at hSw); go_simp; (try with_reducible rfl)
              simp only [Act.put, List.setIfInBounds_toArray, List.set_cons_zero, List.set_cons_succ]
              refine wpAnyF_take (i := 17) (oi := ⟨_, _, _, _, _, _⟩) (v := .agg (x'.has.cells : List Value).toArray) rfl (by kernel_rfl) (fun _ _ _ h => h) (yieldsIf_load_mid (by rfl) 32 (.tmp 5) rfl kb (0) rfl (x'.has.cells) _ (fun _ hS => hS.2.2) Try.underlying32 rfl vecSize) HSS ?_
              simp only [Act.put, List.setIfInBounds_toArray, List.set_cons_zero, List.set_cons_succ]
              refine wpAnyF_step (i := 18) (o := ⟨_, _, _, _, _, _⟩) rfl (by kernel_rfl) ?_
              go_wp2_with fail
              have hbw4 : Below w.heap.size w w4 := HBEL'.out.trans (HB4.out.mono HBEL'.out.size)
              have hbw5 : Below w.heap.size w w5.drew := hbw4.trans (HB5.out.drew.mono hbw4.size)
              have hti : (l.take (i + 1)).length = i + 1 := by rw [List.length_take, HLEN.out]; omega
              have hwd := waited_any (l.take (i + 1)) lb lo cap d.1 d.2 x'.has w5.drew ((HACTS.out.below hbw5).take _) (by omega) (by omega)
              rw [hti, HWT.out] at hwd
              refine hwd.mono ?_
              rintro e w6 ⟨rfl, hb6⟩
              have HB6 := Lib.hid (HB5.out.drew.trans (hb6.mono HB5.out.drew.size))
              clear hb6 hbw4 hbw5 hti hwd HSS
              go_wp2_with fail
              refine onEnd_normal ⟨fun _ => HS.out _ HB6.out, ?_⟩
              refine wpAnyF_step (i := 19) (o := ⟨_, _, _, _, _, _⟩) rfl (by kernel_rfl) ?_
              go_wp2_with fail
              refine onEnd_normal ⟨fun _ => HS.out _ HB6.out, ?_⟩
              refine wpAnyF_step (i := 20) (o := ⟨_, _, _, _, _, _⟩) rfl (by kernel_rfl) ?_
              go_wp2_with fail
              refine onEnd_normal ⟨fun _ => HS.out _ HB6.out, ?_⟩
              clear hsum hsum2 hsum0 hi2
              refine wpAnyF_chain [] [] rfl (by kernel_rfl) ?_
              go_wp2_with fail
              go_loopw [11] (fun v11 wj => ∃ q : Nat, q ≤ k ∧ v11 = .int .i64 q ∧ Below w4.heap.size w4 wj) (fun v _ => k - (intOf v).toNat)
              case atStart => exact ⟨0, by omega, rfl, HB6.out⟩
              case round =>
                obtain ⟨q, hq, rfl, hbq⟩ := hrel
                have HBQ := Lib.hid hbq
                clear hbq
                by_cases hql : q < k
                · have hqd : q < x'.done.length := by rw [HM.out]; omega
                  have hkd2 : k < x'.done.length := by rw [HM.out]; omega
                  have hne : (x'.done[q] == x'.done[k]) = false := by
                    rw [beq_eq_false_iff_ne]
                    intro h
                    have := (List.getElem_inj HINV'.out.ok.nodup).1 h
                    omega
                  obtain ⟨a1, a2⟩ := dotCells_at x'.done q hqd
                  obtain ⟨b1, b2⟩ := dotCells_at x'.done k hkd2
                  have f1 := HCB.out _ _ a1
                  have f2 := HCB.out _ _ a2
                  have f3 := HCB.out _ _ b1
                  have f4 := HCB.out _ _ b2
                  rw [Nat.zero_add] at f1 f2 f3 f4
                  have e1 := (HBQ.out.cell hbl).trans f1
                  have e2 := (HBQ.out.cell hbl).trans f2
                  have e3 := (HBQ.out.cell hbl).trans f3
                  have e4 := (HBQ.out.cell hbl).trans f4
                  have hdn := dotEql x'.done[q] x'.done[k]
                  rw [hne] at hdn
                  have hdg := dotGuard
                  have hq0 : (0 : Int) ≤ (q : Int) := Int.natCast_nonneg _
                  have hq1 : (q : Int) < (m : Int) := by omega
                  clear a1 a2 b1 b2 f1 f2 f3 f4 hne
                  generalize x'.done[q] = dq at e1 e2 hdn
                  generalize x'.done[k] = dk at e3 e4 hdn
                  go_wp2_with fail
                  go_quiet (fail)
                  go_wp2_with fail
                  go_roundw
                  case rel => exact ⟨q + 1, by omega, by go_num, below_drewN HBQ.out nq⟩
                  case measure => simp [intOf]; omega
                · have hqe : q = k := by omega
                  go_wp2_with fail
                  go_roundw
                  case rel => exact ⟨k + 1, by omega, by omega, by go_num, HBQ.out⟩
                  case measure => simp [intOf]; omega
            · have hke : k = m := by omega
              have HKE := Lib.hid hke
              clear hke
              go_wp2_with fail
              go_roundw
              case rel =>
                have hbw4 : Below w.heap.size w w4 := HBEL'.out.trans (HB4.out.mono HBEL'.out.size)
                refine ⟨i + 1, m, by omega, by go_num, rfl, hm1000, x', F', HM.out, ?_, HINV'.out, ?_, HNF'.out, hkbw, hbw4.trans (HBJ.out.mono hbw4.size)⟩
                · exact HX'.out.below (HB4.out.trans (HBJ.out.mono HB4.out.size))
                · exact Below.heap (HB4.out.trans (HBJ.out.mono HB4.out.size)) HBX'.out (lt_of_heap HBX'.out)
              case measure => simp [intOf]; omega
      · have hie : i = len := by omega
        go_wp2_with fail
        go_ret
        exact ⟨rfl, HBEL.out⟩
end Go.Proofs.Ytibnnhdpaccpfaa
