import Derived.Test.YtibnnhdpaccpfaaDots
namespace Go.Proofs.Ytibnnhdpaccpfaa
open Go.RowKit

/-- what Line calls done -/
def isDone (done : V7) (M : List (Dot × Value)) (d : Dot) : Bool := decide (d.2 ≤ done.get d.1.toNat) || (getAt M d).isSome

set_option maxRecDepth 100000 in
set_option maxHeartbeats 1000000 in
theorem is_any (bd bm mm : Nat) (done : V7) (es : Array MapEntry) (clk : Nat) (M : List (Dot × Value)) (d : Dot) (hd0 : 0 ≤ d.1) (hd1 : d.1 < 7) (w : World)
    (hbd : CellsAt w bd 0 ((#[.int .i64 done.a0, .int .i64 done.a1, .int .i64 done.a2, .int .i64 done.a3, .int .i64 done.a4, .int .i64 done.a5, .int .i64 done.a6]).toList)) (hbm : w.cell? ⟨bm, 0, none⟩ = some (.map (some mm))) (hm : w.heap[mm]? = some (.map es clk)) (hE : Entries es M) (hV : BoolVals M) :
    Calls Try.prog 26 #[.agg #[.int .i64 d.1, .int .i64 d.2], .pointer (some ⟨bd, 0, none⟩), .pointer (some ⟨bm, 0, none⟩)] w fun e w' =>
      e = .returned (.bool (isDone done M d)) ∧ Below w.heap.size w w' := by
  obtain ⟨r, hr⟩ : ∃ r : Nat, d.1 = (r : Int) := ⟨d.1.toNat, by omega⟩
  have hr7 : r < 7 := by omega
  have hcr : w.cell? ⟨bd, r, none⟩ = some (.int .i64 (done.get r)) := by
    have := hbd r (.int .i64 (done.get r)) (by
      have := V7.cellAt done r hr7
      simpa using this)
    rwa [Nat.zero_add] at this
  have lbd := World.block_lt_of_cell? _ _ hcr
  have lbm := World.block_lt_of_cell? _ _ hbm
  simp only at lbd lbm
  have hlk := run_lookup 53 4 mapBoolDesc _ zeroBool mm es clk M hE d
  rw [hV.get] at hlk
  have m1 := fun o => heap_drew_keeps (heap_alloc_keeps hm o)
  have m2 := fun o => heap_alloc_keeps hm o
  have hpost : isDone done M d = (decide (d.2 ≤ done.get r) || (getAt M d).isSome) := by unfold isDone; rw [hr]; rfl
  rw [hpost]
  rw [hr] at hlk ⊢
  have hr1 : (r : Int) < 7 := by omega
  have hr0 : (0 : Int) ≤ (r : Int) := by omega
  obtain ⟨dn, hdn⟩ : ∃ dn, d.2 = dn := ⟨_, rfl⟩
  rw [hdn] at hlk ⊢
  clear hbd hE hV hm hpost hd0 hd1
  generalize (getAt M d).isSome = mo at *
  by_cases hle : dn ≤ done.get r
  · go_enter Try.func26, Try.ntmps26
    go_wp2
    go_quiet (fail)
    go_wp2
    go_ret
    exact ⟨by simp [hle], below_drewN ((Below.refl _ _).alloc (Nat.le_refl _) _) _⟩
  · go_enter Try.func26, Try.ntmps26
    go_wp2
    go_quiet (fail)
    go_wp2
    go_ret
    exact ⟨by simp, below_drewN ((Below.refl _ _).alloc (Nat.le_refl _) _) _⟩

set_option maxRecDepth 100000 in
set_option maxHeartbeats 1000000 in
theorem line2_any (bis g : Nat) (cb : Array Value) (P : Dot → Bool) (x : Inst) (hx0 : 0 ≤ x.rep) (hx1 : x.rep < 7) (w : World) (eg : ∀ args w, (callFunc g args).run Try.prog w = .ok (.enter g args) w)
    (hb : w.cell? ⟨bis, 0, none⟩ = some (.func (.func g) #[] cb)) (ht : Tells w g cb P) :
    Calls Try.prog 29 #[.agg (instCells x).toArray, .pointer (some ⟨bis, 0, none⟩)] w fun e w' => e = .returned (.bool (P x.dot)) ∧ Below w.heap.size w w' := by
  have lb := World.block_lt_of_cell? _ _ hb
  simp only at lb
  obtain ⟨cl, hcl, hI⟩ := inst_opaque x
  rw [hcl]
  have hst := store_inst w cl hI.len hI.one
  have hsz := hI.len
  have c0 := hI.c0
  have c1 := hI.c1
  have HT := Lib.hid ht
  have hb1 := fun o => cell_alloc hb o
  clear hcl hI ht
  go_enter Try.func29, Try.ntmps29
  go_wp2
  refine (HT.out x.dot _ hx0 hx1 ((Below.refl _ _).alloc (Nat.le_refl _) _)).mono ?_
  rintro e w' ⟨rfl, hb'⟩
  go_wp2_with fail
  go_ret
  exact ⟨rfl, ((Below.refl _ _).alloc (Nat.le_refl _) _).trans (hb'.mono (by simp))⟩

set_option maxRecDepth 100000 in
set_option maxHeartbeats 1000000 in
theorem index_none (bis g : Nat) (cb : Array Value) (P : Dot → Bool) (lv : Value) (l : List Inst) (w : World) (eg : ∀ args w, (callFunc g args).run Try.prog w = .ok (.enter g args) w)
    (hl : Sl0 w lv l.length (instsCells l)) (hlen : l.length ≤ 1000000) (hok : ∀ x ∈ l, 0 ≤ x.rep ∧ x.rep < 7 ∧ P x.dot = false)
    (hb : w.cell? ⟨bis, 0, none⟩ = some (.func (.func g) #[] cb)) (ht : Tells w g cb P) :
    Calls Try.prog 35 #[lv, .func (.func 29) #[] #[.pointer (some ⟨bis, 0, none⟩)]] w fun e w' => e = .returned (.int .i64 (-1)) ∧ Below w.heap.size w w' := by
  obtain ⟨p, cap, rfl, hcap, hp⟩ := hl.form
  have HP := Lib.hid hp
  have HOK := Lib.hid hok
  have HB := Lib.hid hb
  have HT := Lib.hid ht
  clear hp hl hok hb ht
  go_enter Try.func35, Try.ntmps35
  go_wp2
  go_loopw [8] (fun v8 wr => ∃ k : Nat, k ≤ l.length ∧ v8 = .int .i64 k ∧ Below w.heap.size w wr) (fun v _ => l.length - (intOf v).toNat)
  case atStart => exact ⟨0, by omega, rfl, Below.refl _ _⟩
  case round =>
    obtain ⟨k, hk, rfl, hbel⟩ := hrel
    have HBEL := Lib.hid hbel
    clear hbel
    by_cases hlt : k < l.length
    · obtain ⟨b, rfl, hcb, hbl⟩ := HP.out (by omega)
      have hcx : CellsAt wr b (k * 10) (instCells l[k]) := by
        have := (hcb.inst k hlt).below hbl HBEL.out
        rwa [Nat.zero_add] at this
      obtain ⟨h0, h1, hP⟩ := HOK.out _ (List.getElem_mem hlt)
      have hcon := line2_any bis g cb P l[k] h0 h1 wr eg (by rw [HBEL.out.cell (World.block_lt_of_cell? _ _ HB.out)]; exact HB.out) (HT.out.below HBEL.out)
      rw [hP] at hcon
      obtain ⟨x, hx⟩ : ∃ x, l[k] = x := ⟨_, rfl⟩
      rw [hx] at hcx hcon
      obtain ⟨cl, hcl, hI⟩ := inst_opaque x
      rw [hcl] at hcx hcon
      have hszi : (Try.prog.info? 31).map (·.size) = some cl.length := by rw [instSize, hI.len]
      have HCX := Lib.hid hcx
      have HSZ := Lib.hid hszi
      have HCON := Lib.hid hcon
      clear hcx hszi hcon hcl hI hx h0 h1 hP hcb
      go_wp2_with ((with_reducible show wpList _ _ _ (Oper.mk (some 15) _ _ _ _ _ :: _) _ _); refine stays ?_)
      refine Stays.go ?_
      refine wpList_load_mid (op := ⟨some 15, _, _, _, _, _⟩) rfl 31 (.tmp 14) rfl b (k * 10) rfl cl _ HCX.out instDesc rfl HSZ.out ?_
      go_wp2_with fail
      refine HCON.out.mono ?_
      rintro e w1 ⟨rfl, hb1⟩
      go_wp2_with fail
      go_roundw
      case rel => exact ⟨k + 1, by omega, by go_num, HBEL.out.trans (hb1.mono HBEL.out.size)⟩
      case measure => simp [intOf]; omega
    · have hke : k = l.length := by omega
      have HKE := Lib.hid hke
      clear hke
      go_wp2
      go_ret
      exact ⟨rfl, HBEL.out⟩

set_option maxRecDepth 100000 in
set_option maxHeartbeats 1000000 in
theorem delete_none (bis g : Nat) (cb : Array Value) (P : Dot → Bool) (lv : Value) (l : List Inst) (w : World) (eg : ∀ args w, (callFunc g args).run Try.prog w = .ok (.enter g args) w)
    (hl : Sl0 w lv l.length (instsCells l)) (hlen : l.length ≤ 1000000) (hok : ∀ x ∈ l, 0 ≤ x.rep ∧ x.rep < 7 ∧ P x.dot = false)
    (hb : w.cell? ⟨bis, 0, none⟩ = some (.func (.func g) #[] cb)) (ht : Tells w g cb P) :
    Calls Try.prog 27 #[lv, .func (.func 29) #[] #[.pointer (some ⟨bis, 0, none⟩)]] w fun e w' => e = .returned lv ∧ Below w.heap.size w w' := by
  have HCON := Lib.hid (index_none bis g cb P lv l w eg hl hlen hok hb ht)
  clear hl hok hb ht
  go_enter Try.func27, Try.ntmps27
  go_wp2_with fail
  refine HCON.out.mono ?_
  rintro e w1 ⟨rfl, hb1⟩
  go_wp2
  go_ret
  exact ⟨rfl, hb1⟩
end Go.Proofs.Ytibnnhdpaccpfaa
