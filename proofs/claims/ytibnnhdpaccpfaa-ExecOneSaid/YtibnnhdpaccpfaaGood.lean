import Derived.Test.YtibnnhdpaccpfaaEach
import Derived.Test.YtibnnhdpaccpfaaMark
namespace Go.Proofs.Ytibnnhdpaccpfaa
open Go.RowKit

def instsCells (l : List Inst) : List Value := l.flatMap instCells
theorem instCells_len (x : Inst) : (instCells x).length = 10 := rfl
theorem instsCells_len (l : List Inst) : (instsCells l).length = l.length * 10 := by
  induction l with
  | nil => rfl
  | cons x r ih => simp only [instsCells, List.flatMap_cons, List.length_append, instCells_len, List.length_cons] at ih ⊢; omega
theorem instsCells_at (l : List Inst) (k j : Nat) (h : k < l.length) (hj : j < 10) : (instsCells l)[k * 10 + j]? = (instCells l[k])[j]? := by
  induction l generalizing k with
  | nil => simp at h
  | cons x r ih =>
    cases k with
    | zero =>
      simp only [instsCells, List.flatMap_cons, List.getElem_cons_zero, Nat.zero_mul, Nat.zero_add]
      rw [List.getElem?_append_left (by rw [instCells_len]; exact hj)]
    | succ k =>
      have := ih k (by simpa using h)
      simp only [instsCells, List.flatMap_cons, List.getElem_cons_succ] at this ⊢
      rw [List.getElem?_append_right (by rw [instCells_len]; omega), instCells_len, show (k + 1) * 10 + j - 10 = k * 10 + j from by omega]
      exact this
theorem CellsAt.inst {w : World} {b o : Nat} {l : List Inst} (h : CellsAt w b o (instsCells l)) (k : Nat) (hk : k < l.length) : CellsAt w b (o + k * 10) (instCells l[k]) := by
  intro j u hj
  have hj10 : j < 10 := by
    have := (List.getElem?_eq_some_iff.1 hj).1
    rwa [instCells_len] at this
  have := h (k * 10 + j) u (by rw [instsCells_at l k j hk hj10]; exact hj)
  rwa [← Nat.add_assoc] at this
theorem CellsAt.below {w w' : World} {b o : Nat} {cs : List Value} (h : CellsAt w b o cs) (hb : b < w.heap.size) (hw : Below w.heap.size w w') : CellsAt w' b o cs := fun j u hj => by
  rw [hw.cell hb]; exact h j u hj
theorem load_cells {w : World} {b o n : Nat} {cs : List Value} (h : CellsAt w b o cs) (hn : cs.length = n) : (loadCellsFrom ⟨b, o, none⟩ 0 n #[]).run Try.prog w = .ok cs.toArray w := by
  have := run_loadCells_list (P := Try.prog) w ⟨b, o, none⟩ cs (fun j v hv => by
    have hadd : (⟨b, o, none⟩ : Addr).add j = ⟨b, o + j, none⟩ := by unfold Addr.add; split <;> simp_all
    rw [hadd]; exact h j v hv)
  rw [hn] at this
  simpa [loadCells] using this

abbrev instZero : Array Value := #[.int .i64 0, .int .i64 0, .int .i64 0, .int .i64 0, .int .i64 0, .int .i64 0, .int .i64 0, .int .i64 0, .int .i64 0, .int .i64 0]
theorem instSize : (Try.prog.info? 31).map (·.size) = some 10 := by kernel_rfl
theorem instDesc : Try.prog.underlying 31 = some (.struct (Try.prog.fieldsOf 31)) := by kernel_rfl
theorem store_inst (w : World) (cl : List Value) (hs : cl.length = 10) (h1 : ∀ v ∈ cl, v.oneCell' = true) :
    (storeCells ⟨w.heap.size, 0, none⟩ cl 0).run Try.prog (w.alloc (.cells instZero 31)) = .ok () (w.alloc (.cells cl.toArray 31)) :=
  run_storeCells_new (P := Try.prog) w 31 instZero cl.toArray (by rw [instSize]; simp [hs]) (by simp [hs]) (all_oneCell_toArray h1)

/-- the cells of an instance, as a list of which only what is needed is known -/
structure InstList (x : Inst) (cl : List Value) : Prop where
  len : cl.length = 10
  one : ∀ v ∈ cl, v.oneCell' = true
  c0 : ∀ h : 0 < cl.length, cl[0] = .int .i64 x.rep
  c1 : ∀ h : 1 < cl.length, cl[1] = .int .i64 x.n
  c2 : ∀ h : 2 < cl.length, cl[2] = .int .i64 x.seq
  c3 : ∀ h : 3 < cl.length, cl[3] = .int .i64 x.deps.a0
  c4 : ∀ h : 4 < cl.length, cl[4] = .int .i64 x.deps.a1
  c5 : ∀ h : 5 < cl.length, cl[5] = .int .i64 x.deps.a2
  c6 : ∀ h : 6 < cl.length, cl[6] = .int .i64 x.deps.a3
  c7 : ∀ h : 7 < cl.length, cl[7] = .int .i64 x.deps.a4
  c8 : ∀ h : 8 < cl.length, cl[8] = .int .i64 x.deps.a5
  c9 : ∀ h : 9 < cl.length, cl[9] = .int .i64 x.deps.a6
theorem inst_opaque (x : Inst) : ∃ cl : List Value, instCells x = cl ∧ InstList x cl :=
  ⟨_, rfl, ⟨rfl, by simp [instCells, Value.oneCell'], fun _ => rfl, fun _ => rfl, fun _ => rfl, fun _ => rfl, fun _ => rfl, fun _ => rfl, fun _ => rfl, fun _ => rfl, fun _ => rfl, fun _ => rfl⟩⟩

theorem below_setMap {B : Nat} {a w : World} (h : Below B a w) {r : Nat} (hr : B ≤ r) (o : Obj) : Below B a (w.setMap r o) :=
  h.trans ⟨rfl, rfl, rfl, by rw [size_setMap]; exact Nat.le_refl _, fun k hk => heap_setMap_other _ _ _ _ (by omega)⟩
theorem heap_setMap_keeps {w : World} {b r : Nat} {o : Obj} (h : w.heap[b]? = some o) (hne : b ≠ r) (M : Obj) : (w.setMap r M).heap[b]? = some o := by
  rw [heap_setMap_other _ _ _ _ hne]; exact h

def seenOf (l : List Inst) (k : Nat) : List (Dot × Value) := (l.take k).map fun x => (x.dot, Value.bool true)
theorem seenOf_vals (l : List Inst) (k : Nat) : BoolVals (seenOf l k) := by
  intro p hp; unfold seenOf at hp; obtain ⟨x, _, rfl⟩ := List.mem_map.1 hp; rfl
theorem seenOf_none (l : List Inst) (k : Nat) (x : Inst) : (getAt (seenOf l k) x.dot).isSome = !freshAt l k x := by
  cases h : getAt (seenOf l k) x.dot with
  | none =>
    have := getAt_none.1 h
    simp only [Option.isSome_none, freshAt]
    symm
    simp only [Bool.not_eq_false', List.all_eq_true, bne_iff_ne]
    intro y hy
    exact this (y.dot, .bool true) (List.mem_map.2 ⟨y, hy, rfl⟩)
  | some v =>
    obtain ⟨y, hy, he⟩ := List.mem_map.1 (getAt_mem h)
    have hd : y.dot = x.dot := congrArg Prod.fst he
    simp only [Option.isSome_some, freshAt]
    symm
    simp only [Bool.not_eq_true', List.all_eq_false, bne_iff_ne]
    exact ⟨y, hy, by simp [hd]⟩

set_option maxRecDepth 100000 in
set_option maxHeartbeats 1000000 in
theorem good_some (lb lo cap : Nat) (l : List Inst) (w : World) (hc : CellsAt w lb lo (instsCells l)) (hlb : 0 < l.length → lb < w.heap.size) (hlen : l.length ≤ 1000000) :
    Calls Try.prog 14 #[.slice (some ⟨lb, lo, none⟩) l.length cap] w fun e w' => e = .returned (.bool (goodL l)) ∧ Below w.heap.size w w' := by
  have HC := Lib.hid hc
  have HLB := Lib.hid hlb
  clear hc hlb
  have hmm := @run_makeMap Try.prog
  go_enter Try.func14, Try.ntmps14
  go_wp2
  go_loopw [11] (fun v wr => ∃ (k : Nat) (es : Array MapEntry) (clk : Nat), k ≤ l.length ∧ v = .int .i64 k ∧ wr.heap[w.heap.size]? = some (.map es clk) ∧ Entries es (seenOf l k) ∧ goodTo l k = true ∧ Below w.heap.size w wr)
    (fun v _ => l.length - (intOf v).toNat)
  case atStart => exact ⟨0, #[], 0, by omega, rfl, heap_alloc_new w _, Entries.nil, rfl, (Below.refl _ _).alloc (Nat.le_refl _) _⟩
  case round =>
    obtain ⟨k, es, clk, hk, rfl, hm, hE, hg, hbel⟩ := hrel
    have HE := Lib.hid hE
    have HG := Lib.hid hg
    have HBEL := Lib.hid hbel
    have HM := Lib.hid hm
    have hBlt : w.heap.size < wr.heap.size := lt_of_heap hm
    clear hE hg hbel hm
    by_cases hlt : k < l.length
    · have hlbk : lb < w.heap.size := HLB.out (by omega)
      have hcx : CellsAt wr lb (lo + k * 10) (instCells l[k]) := (HC.out.inst k hlt).below hlbk HBEL.out
      obtain ⟨x, hx⟩ : ∃ x, l[k] = x := ⟨_, rfl⟩
      rw [hx] at hcx
      obtain ⟨cl, hcl, hI⟩ := inst_opaque x
      rw [hcl] at hcx
      have hst := store_inst wr cl hI.len hI.one
      have hsz := hI.len
      have hszi : (Try.prog.info? 31).map (·.size) = some cl.length := by rw [instSize, hsz]
      have HX := Lib.hid hx
      have HCX := Lib.hid hcx
      have HSZ := Lib.hid hszi
      have HI := Lib.hid hI
      have c0 := hI.c0
      have c1 := hI.c1
      have c2 := hI.c2
      have c3 := hI.c3
      have c4 := hI.c4
      have c5 := hI.c5
      have c6 := hI.c6
      have c7 := hI.c7
      have c8 := hI.c8
      have c9 := hI.c9
      clear hcl hx hcx hszi hI
      go_wp2_with ((with_reducible show wpList _ _ _ (Oper.mk (some 14) _ _ _ _ _ :: _) _ _); refine wpList_load_mid (op := ⟨some 14, _, _, _, _, _⟩) rfl 31 (.tmp 13) rfl lb (lo + k * 10) rfl cl _ HCX.out instDesc rfl HSZ.out ?_)
      refine (odot_any x.dot _).mono ?_
      rintro e w1 ⟨rfl, hb1⟩
      have hn1 : w1.heap[wr.heap.size]? = some (.cells cl.toArray 31 (0, 0)) := by rw [hb1.block _ (by simp)]; exact heap_alloc_new wr _
      have hm1 : w1.heap[w.heap.size]? = some (.map es clk) := by rw [hb1.block _ (by simp; omega)]; exact heap_alloc_keeps HM.out _
      have hB1 : Below w.heap.size w w1 := (HBEL.out.alloc (by omega) _).trans (hb1.mono (by simp; omega))
      have y0 : w1.cell? ⟨wr.heap.size, 0, none⟩ = some (.int .i64 x.rep) := by rw [cell_of_heap hn1]; simp [hsz, c0]
      have y1 : w1.cell? ⟨wr.heap.size, 1, none⟩ = some (.int .i64 x.n) := by rw [cell_of_heap hn1]; simp [hsz, c1]
      have y2 : w1.cell? ⟨wr.heap.size, 2, none⟩ = some (.int .i64 x.seq) := by rw [cell_of_heap hn1]; simp [hsz, c2]
      have HN1 := Lib.hid hn1
      have HM1 := Lib.hid hm1
      have HB1 := Lib.hid hB1
      clear hst hb1 hn1 hB1 c0 c1 c2 hsz
      have hlk := run_lookup 53 4 mapBoolDesc _ zeroBool w.heap.size es clk _ HE.out x.dot
      rw [(seenOf_vals l k).get, seenOf_none] at hlk
      obtain ⟨fr, hfr⟩ : ∃ fr, freshAt l k x = fr := ⟨_, rfl⟩
      obtain ⟨dk, hdk⟩ : ∃ dk, dotOk x.dot = dk := ⟨_, rfl⟩
      rw [hfr] at hlk
      simp only [Inst.dot] at hlk
      rw [hdk]
      have HFR := Lib.hid hfr
      have HDK := Lib.hid hdk
      clear hfr hdk
      cases dk with
      | false =>
        go_wp2
        go_ret
        exact ⟨bool_ret (goodL_false hlt (.inl (by rw [HX.out]; simp [Inst.ok, HDK.out]))).symm, HB1.out⟩
      | true =>
        by_cases hs0 : x.seq < 0
        · go_wp2
          go_ret
          exact ⟨bool_ret (goodL_false hlt (.inl (by rw [HX.out]; simp [Inst.ok]; omega))).symm, HB1.out⟩
        · by_cases hs1 : 1099511627776 < x.seq
          · go_wp2
            go_ret
            exact ⟨bool_ret (goodL_false hlt (.inl (by rw [HX.out]; simp [Inst.ok]; omega))).symm, HB1.out⟩
          · cases fr with
            | false =>
              go_wp2
              go_ret
              exact ⟨bool_ret (goodL_false hlt (.inr (by rw [HX.out]; exact HFR.out))).symm, HB1.out⟩
            | true =>
              have hn0 : getAt (seenOf l k) x.dot = none := by
                have := seenOf_none l k x
                rw [HFR.out] at this
                simpa using this
              have hup := run_update_new 53 4 mapBoolDesc w.heap.size es clk _ HE.out x.dot hn0 (.bool true)
              simp only [Inst.dot] at hup
              clear hn0
              have z3 : ∀ M, (w1.setMap w.heap.size M).cell? ⟨wr.heap.size, 3, none⟩ = some (.int .i64 x.deps.a0) := fun M => by rw [cell_of_heap (heap_setMap_keeps HN1.out (by omega) M)]; simp [HI.out.len, c3]
              have z4 : ∀ M, (w1.setMap w.heap.size M).cell? ⟨wr.heap.size, 4, none⟩ = some (.int .i64 x.deps.a1) := fun M => by rw [cell_of_heap (heap_setMap_keeps HN1.out (by omega) M)]; simp [HI.out.len, c4]
              have z5 : ∀ M, (w1.setMap w.heap.size M).cell? ⟨wr.heap.size, 5, none⟩ = some (.int .i64 x.deps.a2) := fun M => by rw [cell_of_heap (heap_setMap_keeps HN1.out (by omega) M)]; simp [HI.out.len, c5]
              have z6 : ∀ M, (w1.setMap w.heap.size M).cell? ⟨wr.heap.size, 6, none⟩ = some (.int .i64 x.deps.a3) := fun M => by rw [cell_of_heap (heap_setMap_keeps HN1.out (by omega) M)]; simp [HI.out.len, c6]
              have z7 : ∀ M, (w1.setMap w.heap.size M).cell? ⟨wr.heap.size, 7, none⟩ = some (.int .i64 x.deps.a4) := fun M => by rw [cell_of_heap (heap_setMap_keeps HN1.out (by omega) M)]; simp [HI.out.len, c7]
              have z8 : ∀ M, (w1.setMap w.heap.size M).cell? ⟨wr.heap.size, 8, none⟩ = some (.int .i64 x.deps.a5) := fun M => by rw [cell_of_heap (heap_setMap_keeps HN1.out (by omega) M)]; simp [HI.out.len, c8]
              have z9 : ∀ M, (w1.setMap w.heap.size M).cell? ⟨wr.heap.size, 9, none⟩ = some (.int .i64 x.deps.a6) := fun M => by rw [cell_of_heap (heap_setMap_keeps HN1.out (by omega) M)]; simp [HI.out.len, c9]
              have hix := arrIndex x.deps
              clear c3 c4 c5 c6 c7 c8 c9
              go_wp2
              go_loop [40] (fun v => ∃ j : Nat, j ≤ 7 ∧ v = .int .i64 j ∧ V7.depTo j x.deps = true) (fun v => 7 - (intOf v).toNat)
              case atStart => exact ⟨0, by omega, rfl, rfl⟩
              case round =>
                obtain ⟨j, hj, rfl, hd⟩ := hrel
                have HD := Lib.hid hd
                clear hd z3 z4 z5 z6 z7 z8 z9 hup hlk
                by_cases hjl : j < 7
                · have hixj := hix j hjl
                  clear hix
                  go_wp2
                  · go_ret
                    exact ⟨bool_ret (goodL_false hlt (.inl (by rw [HX.out]; simp [Inst.ok, V7.depTo_false (a := x.deps) hjl (by omega)]))).symm, below_setMap HB1.out (Nat.le_refl _) _⟩
                  · go_round
                    case rel => exact ⟨j + 1, by omega, by go_num, by rw [V7.depTo_succ, HD.out]; simp; omega⟩
                    case measure => simp [intOf]; omega
                  · go_ret
                    exact ⟨bool_ret (goodL_false hlt (.inl (by rw [HX.out]; simp [Inst.ok, V7.depTo_false (a := x.deps) hjl (by omega)]))).symm, below_setMap HB1.out (Nat.le_refl _) _⟩
                · clear hix
                  have hj7 : j = 7 := by omega
                  have HJ := Lib.hid hj7
                  clear hj7
                  go_wp2
                  go_roundw
                  case rel =>
                    have hs : seenOf l (k + 1) = seenOf l k ++ [(x.dot, .bool true)] := by
                      unfold seenOf
                      rw [List.take_succ_eq_append_getElem hlt, List.map_append, HX.out]; rfl
                    refine ⟨k + 1, _, clk + 1, by omega, by go_num, heap_setMap_same _ _ _ (lt_of_heap HM1.out), by rw [hs]; exact HE.out.push x.dot (.bool true) clk, goodTo_step hlt HG.out ?_ (by rw [HX.out]; exact HFR.out), below_setMap HB1.out (Nat.le_refl _) _⟩
                    have h7 := HD.out
                    rw [HJ.out] at h7
                    rw [HX.out]
                    simp [Inst.ok, HDK.out, h7]; omega
                  case measure => simp [intOf]; omega
    · have hkl : k = l.length := by omega
      have HKL := Lib.hid hkl
      clear hkl
      go_wp2
      all_goals
        go_ret
        refine ⟨bool_ret ?_, HBEL.out⟩
        have := HG.out
        rw [HKL.out] at this
        simp [goodL, this]
        omega
theorem goodL_nil : goodL [] = true := rfl
set_option maxHeartbeats 400000 in
theorem good_nil (w : World) :
    Calls Try.prog 14 #[.slice none 0 0] w fun e w' => e = .returned (.bool (goodL [])) ∧ Below w.heap.size w w' := by
  have hmm := @run_makeMap Try.prog
  go_enter Try.func14, Try.ntmps14
  go_wp2
  refine wp_loop_rounds 1 ?_
  rw [rounds_succ]
  go_wp2
  go_ret
  exact ⟨rfl, (Below.refl _ _).alloc (Nat.le_refl _) _⟩
end Go.Proofs.Ytibnnhdpaccpfaa
