import Derived.Test.YtibnnhdpaccpfaaSortI
namespace Go.Proofs.Ytibnnhdpaccpfaa
open Go.RowKit

def WebAt (w : World) (wb : Nat) (s : List Inst) : Prop :=
  ∃ lv mb es clk, w.heap[wb]? = some (.cells #[lv, .map (some mb)] 81 (0, 0)) ∧ Sl0 w lv s.length (instsCells s) ∧ w.heap[mb]? = some (.map es clk) ∧ Entries es (placeOf s s.length)

theorem WebAt.below {w w' : World} {wb : Nat} {s : List Inst} (h : WebAt w wb s) (hb : Below w.heap.size w w') : WebAt w' wb s := by
  obtain ⟨lv, mb, es, clk, h1, h2, h3, h4⟩ := h
  exact ⟨lv, mb, es, clk, Below.heap hb h1 (lt_of_heap h1), h2.below hb, Below.heap hb h3 (lt_of_heap h3), h4⟩
def WovePost (l : List Inst) (w : World) (e : Ending) (w' : World) : Prop :=
  ∃ wb s, e = .returned (.pointer (some ⟨wb, 0, none⟩)) ∧ IsSorted l s ∧ WebAt w' wb s ∧ w.heap.size ≤ wb ∧ Below w.heap.size w w'

theorem mapIntDesc : Try.prog.underlying 79 = some (.map 28 3) := by kernel_rfl

set_option maxRecDepth 100000 in
set_option maxHeartbeats 1000000 in
theorem weave_nil (w : World) : Calls Try.prog 30 #[.slice none 0 0] w (WovePost [] w) := by
  have hmm := @run_makeMap Try.prog
  go_enter Try.func30, Try.ntmps30
  go_wp2_with fail
  refine (cloneInst_nil _).mono ?_
  rintro e w1 ⟨rfl, rfl⟩
  go_wp2_with fail
  refine (Try.slices_SortInst_none _ _ _ _).mono ?_
  rintro e w2 ⟨rfl, rfl⟩
  go_wp2
  refine wp_loop_rounds 1 ?_
  rw [rounds_succ]
  go_wp2
  go_ret
  refine ⟨_, [], rfl, ⟨List.Perm.refl _, List.Pairwise.nil⟩, ⟨.slice none 0 0, _, _, _, heap_new2 _ _ _, .inl ⟨rfl, rfl, rfl⟩, heap_alloc_keeps (heap_alloc_new _ _) _, Entries.nil⟩, by simp, ((Below.refl _ _).alloc (Nat.le_refl _) _).alloc (by simp) _⟩

set_option maxRecDepth 100000 in
set_option maxHeartbeats 1000000 in
theorem weave_some (lb lo cap : Nat) (l : List Inst) (w : World) (hc : CellsAt w lb lo (instsCells l)) (hlb : 0 < l.length → lb < w.heap.size) (hlen : l.length ≤ 1000000) (hnd : NodupDots l) :
    Calls Try.prog 30 #[.slice (some ⟨lb, lo, none⟩) l.length cap] w (WovePost l w) := by
  have hmm := @run_makeMap Try.prog
  have HC := Lib.hid hc
  have HLB := Lib.hid hlb
  have HND := Lib.hid hnd
  clear hc hlb hnd
  go_enter Try.func30, Try.ntmps30
  go_wp2_with fail
  refine (cloneInst_some lb lo cap l.length (instsCells l) _ (instsCells_len l) HC.out (fun h => HLB.out (by rw [instsCells_len] at h; omega)) (instsCells_one l) hlen).mono ?_
  rintro e w1 ⟨g, cap1, rfl, hg1, hown1, hb1⟩
  have HO1 := Lib.hid hown1
  have HB1 := Lib.hid hb1
  clear hown1 hb1
  go_wp2_with fail
  refine (sortInst_any g cap1 w.heap.size l _ HO1.out HND.out hlen).mono ?_
  rintro e w2 ⟨rfl, s, hs, hown2, hm2⟩
  obtain ⟨hcap, hcs, hgl⟩ := SlAt.of_own hown2
  have hb2 : Below w.heap.size w w2 := HB1.out.trans (below_of_mod hm2 (by intro k hk; subst hk; exact hg1) (HB1.out.size))
  have hsl : s.length = l.length := hs.1.length_eq
  have HS := Lib.hid hs
  have HCS := Lib.hid hcs
  have HB2 := Lib.hid hb2
  have HSL := Lib.hid hsl
  clear hs hown2 hm2 hcs hb2 hsl
  have hsz2 : w.heap.size ≤ w2.heap.size := HB2.out.size
  go_wp2
  have hw3a : ((w2.alloc (.map #[] 0)).alloc (.cells #[.slice (some ⟨g, 0, none⟩) l.length cap1, .map (some w2.heap.size)] 81)).heap[w2.heap.size + 1]? = some (.cells #[.slice (some ⟨g, 0, none⟩) l.length cap1, .map (some w2.heap.size)] 81 (0, 0)) := heap_new2 _ _ _
  have hw3b : ((w2.alloc (.map #[] 0)).alloc (.cells #[.slice (some ⟨g, 0, none⟩) l.length cap1, .map (some w2.heap.size)] 81)).heap[w2.heap.size]? = some (.map #[] 0) := heap_alloc_keeps (heap_alloc_new _ _) _
  have hw3c : Below w2.heap.size w2 ((w2.alloc (.map #[] 0)).alloc (.cells #[.slice (some ⟨g, 0, none⟩) l.length cap1, .map (some w2.heap.size)] 81)) := ((Below.refl _ _).alloc (Nat.le_refl _) _).alloc (by simp) _
  generalize (w2.alloc (.map #[] 0)).alloc (.cells #[.slice (some ⟨g, 0, none⟩) l.length cap1, .map (some w2.heap.size)] 81) = w3 at hw3a hw3b hw3c ⊢
  have HA := Lib.hid hw3a
  have HBm := Lib.hid hw3b
  have H23 := Lib.hid hw3c
  clear hw3a hw3b hw3c
  go_loopw [16] (fun v wr => ∃ (k : Nat) (es : Array MapEntry) (clk : Nat), k ≤ l.length ∧ v = .int .i64 k ∧ wr.heap[w2.heap.size]? = some (.map es clk) ∧ Entries es (placeOf s k) ∧
      wr.heap[w2.heap.size + 1]? = some (.cells #[.slice (some ⟨g, 0, none⟩) l.length cap1, .map (some w2.heap.size)] 81 (0, 0)) ∧ Below w2.heap.size w2 wr)
    (fun v _ => l.length - (intOf v).toNat)
  case atStart => exact ⟨0, #[], 0, by omega, rfl, HBm.out, Entries.nil, HA.out, H23.out⟩
  case round =>
    obtain ⟨k, es, clk, hk, rfl, hm, hE, hwb, hbel⟩ := hrel
    have HM := Lib.hid hm
    have HE := Lib.hid hE
    have HWB := Lib.hid hwb
    have HBEL := Lib.hid hbel
    have cw1 : wr.cell? ⟨w2.heap.size + 1, 1, none⟩ = some (.map (some w2.heap.size)) := by rw [cell_of_heap hwb]; rfl
    have hszr : w2.heap.size + 1 < wr.heap.size := lt_of_heap hwb
    clear hE hbel
    by_cases hlt : k < l.length
    · have hks : k < s.length := by have := HSL.out; omega
      have hcx : CellsAt wr g (k * 10) (instCells s[k]) := by
        have := (HCS.out.inst k hks).below hgl HBEL.out
        rwa [Nat.zero_add] at this
      obtain ⟨x, hx⟩ : ∃ x, s[k] = x := ⟨_, rfl⟩
      rw [hx] at hcx
      obtain ⟨cl, hcl, hI⟩ := inst_opaque x
      rw [hcl] at hcx
      have hst := store_inst wr cl hI.len hI.one
      have hsz := hI.len
      have hszi : (Try.prog.info? 31).map (·.size) = some cl.length := by rw [instSize, hsz]
      have HX := Lib.hid hx
      have HCX := Lib.hid hcx
      have HSZ := Lib.hid hszi
      have c0 := hI.c0
      have c1 := hI.c1
      have m1 := fun o => heap_drew_keeps (heap_alloc_keeps hm o)
      have m2 := fun o => heap_alloc_keeps hm o
      have hn0 : getAt (placeOf s k) x.dot = none := by
        rw [getAt_none]
        intro p hp
        obtain ⟨i, hi, hik, rfl⟩ := mem_placeOf hp
        have := List.pairwise_iff_getElem.1 (HND.out.perm HS.out.1) i k hi hks hik
        rwa [HX.out] at this
      have hup := run_update_new 79 3 mapIntDesc w2.heap.size es clk _ HE.out x.dot hn0 (.int .i64 (k : Int))
      simp only [Inst.dot] at hup
      clear hcl hx hcx hszi hI hn0 hm hwb
      go_wp2_with ((with_reducible show wpList _ _ _ (Oper.mk (some 20) _ _ _ _ _ :: _) _ _); refine wpList_load_mid (op := ⟨some 20, _, _, _, _, _⟩) rfl 31 (.tmp 19) rfl g (k * 10) rfl cl _ HCX.out instDesc rfl HSZ.out ?_)
      go_region
      go_wp2
      go_roundw
      case rel =>
        refine ⟨k + 1, es.push { key := dotV x.dot, val := .int .i64 (k : Int), born := clk }, clk + 1, by omega, by go_num, heap_setMap_same _ _ _ (by simp; omega), ?_, ?_, ?_⟩
        · rw [placeOf_succ hks, HX.out]; exact HE.out.push _ _ _
        · rw [heap_setMap_other _ _ _ _ (by omega)]; exact heap_drew_keeps (heap_alloc_keeps HWB.out _)
        · exact below_setMap ((HBEL.out.alloc (by omega) _).drew) (Nat.le_refl _) _
      case measure => simp [intOf]; omega
    · have hkl : k = l.length := by omega
      have HKL := Lib.hid hkl
      clear hkl hm hwb
      go_wp2
      go_ret
      have hsl := HSL.out
      refine ⟨w2.heap.size + 1, s, rfl, HS.out, ⟨_, _, es, clk, HWB.out, .inr ⟨g, cap1, ?_, by omega, HCS.out.below hgl HBEL.out, ?_⟩, HM.out, ?_⟩, by omega, HB2.out.trans (HBEL.out.mono hsz2)⟩
      · rw [hsl]
      · have := HBEL.out.size; omega
      · rw [hsl, ← HKL.out]; exact HE.out
end Go.Proofs.Ytibnnhdpaccpfaa
