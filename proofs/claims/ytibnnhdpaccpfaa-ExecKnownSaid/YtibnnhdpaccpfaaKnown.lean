import Derived.Test.YtibnnhdpaccpfaaAwake
namespace Go.Proofs.Ytibnnhdpaccpfaa
open Go.RowKit

theorem commit_step (w0 w : World) (xb : Nat) (F : Nat → Prop) (x : XS) (i : Inst) (v : V7) (bv : Value) (bs : List UInt8) (hB : Below w0.heap.size w0 w) (hx : XAt w0.heap.size w xb F x) (hok : x.Ok) (hsl : SlAt w bv bs.length (bCells bs)) :
    Calls Try.prog 8 #[.pointer (some ⟨xb, 0, none⟩), .agg #[.int .i64 i.rep, .int .i64 i.n, .int .i64 i.seq, .int .i64 i.deps.a0, .int .i64 i.deps.a1, .int .i64 i.deps.a2, .int .i64 i.deps.a3, .int .i64 i.deps.a4, .int .i64 i.deps.a5, .int .i64 i.deps.a6], .agg #[.int .i64 v.a0, .int .i64 v.a1, .int .i64 v.a2, .int .i64 v.a3, .int .i64 v.a4, .int .i64 v.a5, .int .i64 v.a6], bv] w fun e w' => ∃ b F', e = .returned (.int .i64 (commitErr x i v bs.length)) ∧ XAt w0.heap.size w' xb F' (x.commit i v b bs) ∧ Below w0.heap.size w0 w' := by
  refine (xcommit_any w0.heap.size w xb F x hx hok i v bv bs hsl).mono ?_
  rintro e w' ⟨b, F', rfl, hx', _, hm, _⟩
  exact ⟨b, F', rfl, hx', below_step hB hx hm⟩
theorem have_step (w0 w : World) (xb : Nat) (F : Nat → Prop) (x : XS) (v : V7) (hB : Below w0.heap.size w0 w) (hx : XAt w0.heap.size w xb F x) (hok : x.Ok) :
    Calls Try.prog 9 #[.pointer (some ⟨xb, 0, none⟩), .agg #[.int .i64 v.a0, .int .i64 v.a1, .int .i64 v.a2, .int .i64 v.a3, .int .i64 v.a4, .int .i64 v.a5, .int .i64 v.a6]] w fun e w' => ∃ D nv F', e = .returned nv ∧ LineOf x.insts D ∧ Sl0 w' nv (nowOf (x.setHas v) D).length (dotCells (nowOf (x.setHas v) D)) ∧ XAt w0.heap.size w' xb F' ((x.setHas v).run D) ∧ Below w0.heap.size w0 w' := by
  refine (xhave_any w0.heap.size w xb F x hx hok v).mono ?_
  rintro e w' ⟨D, nv, F', rfl, hD, hn, hx', _, hm⟩
  exact ⟨D, nv, F', rfl, hD, hn, hx', below_step hB hx hm⟩
theorem slNil (w : World) : SlAt w (.slice none 0 0) ([] : List UInt8).length (bCells []) := .inl ⟨rfl, rfl, rfl⟩

def kI0 : Inst := ⟨0, 0, 0, V7.zero⟩
def kJ : Inst := ⟨0, 1, 0, ⟨0, 1, 0, 0, 0, 0, 0⟩⟩
def kJ2 : Inst := ⟨1, 1, 0, V7.zero⟩
def kI3 : Inst := ⟨3, 1, 0, V7.zero⟩
def kV4 : V7 := ⟨4, 0, 0, 0, 0, 0, 0⟩
def kV5 : V7 := ⟨5, 0, 0, 0, 0, 0, 0⟩
def kVm : V7 := ⟨-1, 0, 0, 0, 0, 0, 0⟩
theorem kJ_deps : kJ.depDots = [(1, 1)] := by decide
theorem kJ2_deps : kJ2.depDots = [] := by decide
abbrev kX2 (b1 : Value) : XS := ⟨V7.zero, [⟨kJ, V7.zero, b1, []⟩], []⟩
abbrev kX4 (b1 b2 : Value) : XS := ⟨V7.zero, [⟨kJ, V7.zero, b1, []⟩, ⟨kJ2, kV5, b2, [113]⟩], []⟩
abbrev kX5 (b1 b2 : Value) : XS := ⟨kV4, [⟨kJ, V7.zero, b1, []⟩, ⟨kJ2, kV5, b2, [113]⟩], []⟩
abbrev kX6 (b1 b2 : Value) : XS := ⟨kV5, [⟨kJ, V7.zero, b1, []⟩, ⟨kJ2, kV5, b2, [113]⟩], [(1, 1), (0, 1)]⟩
theorem kE1 : commitErr XS.new kI0 V7.zero 0 = 1 := by decide
theorem kE2 : commitErr XS.new kJ V7.zero 0 = 0 := by decide
theorem kE3 (b1 : Value) : commitErr (kX2 b1) aI V7.zero 0 = 5 := rfl
theorem kE4 (b1 : Value) : commitErr (kX2 b1) kJ2 kV5 1 = 0 := rfl
theorem kE5 (b1 b2 : Value) : commitErr (kX6 b1 b2) kI3 kVm 0 = 1 := rfl
theorem kN5 (b1 b2 : Value) : nowOf ((kX4 b1 b2).setHas kV4) [(1, 1), (0, 1)] = [] := rfl
theorem kR5 (b1 b2 : Value) : ((kX4 b1 b2).setHas kV4).run [(1, 1), (0, 1)] = kX5 b1 b2 := rfl
theorem kN6 (b1 b2 : Value) : nowOf ((kX5 b1 b2).setHas kV5) [(1, 1), (0, 1)] = [(1, 1), (0, 1)] := rfl
theorem kR6 (b1 b2 : Value) : ((kX5 b1 b2).setHas kV5).run [(1, 1), (0, 1)] = kX6 b1 b2 := rfl
theorem commit_none {x : XS} {i : Inst} {v : V7} {b : Value} {bs : List UInt8} {c : Int} (h : commitErr x i v bs.length = c) (hc : c ≠ 0) : x.commit i v b bs = x := by
  unfold XS.commit
  rw [if_neg (by rw [h]; exact hc)]
theorem commit_some {x : XS} {i : Inst} {v : V7} {b : Value} {bs : List UInt8} (h : commitErr x i v bs.length = 0) : x.commit i v b bs = { x with coms := x.coms ++ [⟨i, v, b, bs⟩] } := by
  unfold XS.commit
  rw [if_pos h]

set_option maxRecDepth 100000 in
set_option maxHeartbeats 8000000 in
theorem known_any (w : World) : Calls Try.prog 3 #[] w fun e w' => e = .returned (.bool true) ∧ Below w.heap.size w w' := by
  have kc := fun (w : World) (C : Array Value) (n c : Nat) => Lib.run_convert_bytes_const (P := Try.prog) w 35 5 C n c Try.underlying35 Try.underlying5
  go_enter Try.func3, Try.ntmps3
  go_wp2_with fail
  refine (awake_any w).mono ?_
  rintro e w1 ⟨rfl, hb1⟩
  have HB1 := Lib.hid hb1
  clear hb1
  go_wp2_with fail
  refine (xnew_any w.heap.size w1 HB1.out.size).mono ?_
  rintro e w2 ⟨xb, rfl, hx2, hb2⟩
  have HX2 := Lib.hid hx2
  have HB2 := Lib.hid (HB1.out.trans (hb2.mono HB1.out.size))
  clear hx2 hb2
  go_wp2_with fail
  refine (commit_step w w2 xb _ XS.new kI0 V7.zero _ [] HB2.out HX2.out XS.new_ok (slNil _)).mono ?_
  rintro e w3 ⟨b, F3, rfl, hx3, hb3⟩
  rw [commit_none kE1 (by decide)] at hx3
  rw [show commitErr XS.new kI0 V7.zero ([] : List UInt8).length = 1 from kE1]
  have HX3 := Lib.hid hx3
  have HB3 := Lib.hid hb3
  clear hx3 hb3
  go_wp2_with fail
  refine (commit_step w w3 xb _ XS.new kJ V7.zero _ [] HB3.out HX3.out XS.new_ok (slNil _)).mono ?_
  rintro e w4 ⟨b1, F4, rfl, hx4, hb4⟩
  have hok4 := XS.new_ok.commit kJ V7.zero b1 []
  rw [commit_some kE2] at hx4 hok4
  rw [show commitErr XS.new kJ V7.zero ([] : List UInt8).length = 0 from kE2]
  have HX4 := Lib.hid (show XAt w.heap.size w4 xb F4 (kX2 b1) from hx4)
  have HOK4 := Lib.hid (show (kX2 b1).Ok from hok4)
  have HB4 := Lib.hid hb4
  clear hx4 hb4 hok4
  go_wp2_with fail
  refine (commit_step w w4 xb _ (kX2 b1) aI V7.zero _ [] HB4.out HX4.out HOK4.out (slNil _)).mono ?_
  rintro e w5 ⟨b, F5, rfl, hx5, hb5⟩
  rw [commit_none (kE3 b1) (by decide)] at hx5
  rw [show commitErr (kX2 b1) aI V7.zero ([] : List UInt8).length = 5 from kE3 b1]
  have HX5 := Lib.hid hx5
  have HB5 := Lib.hid hb5
  clear hx5 hb5
  go_wp2_with fail
  refine (have_step w w5 xb F5 (kX2 b1) V7.zero HB5.out HX5.out HOK4.out).mono ?_
  rintro e w6 ⟨D, nv6, F6, rfl, hD, hn6, hx6, hb6⟩
  obtain ⟨K, hs⟩ := LineOf.spec HOK4.out.good hD
  have hDe : D = [] := line_none (x := kJ) (d := (1, 1)) hs (by rw [kJ_deps]; simp)
  subst hDe
  obtain ⟨p6, c6, rfl⟩ := sl0_nil hn6 rfl
  have HX6 := Lib.hid (show XAt w.heap.size w6 xb F6 (kX2 b1) from hx6)
  have HB6 := Lib.hid hb6
  clear hD hs hn6 hx6 hb6
  go_wp2_with fail
  have hsl : SlAt (w6.alloc (.cells #[.int .u8 113] 5 (1, 2))) (.slice (some ⟨w6.heap.size, 0, none⟩) 1 1) ([113] : List UInt8).length (bCells [113]) :=
    .inr ⟨_, 0, 1, rfl, by simp, fun j u hj => by rw [Nat.zero_add, World.cell?_alloc_mark, ← Array.getElem?_toList]; exact hj, fun _ => by simp⟩
  have hbw : Below w6.heap.size w6 (w6.alloc (.cells #[.int .u8 113] 5 (1, 2))) := (Below.refl _ _).alloc (Nat.le_refl _) _
  refine (commit_step w _ xb _ (kX2 b1) kJ2 kV5 _ [113] (HB6.out.trans (hbw.mono HB6.out.size)) (HX6.out.below hbw) HOK4.out hsl).mono ?_
  rintro e w7 ⟨b2, F7, rfl, hx7, hb7⟩
  have hok7 := HOK4.out.commit kJ2 kV5 b2 [113]
  rw [commit_some (kE4 b1)] at hx7 hok7
  have HX7 := Lib.hid (show XAt w.heap.size w7 xb F7 (kX4 b1 b2) from hx7)
  have HOK7 := Lib.hid (show (kX4 b1 b2).Ok from hok7)
  have HB7 := Lib.hid hb7
  clear hx7 hb7 hok7 hsl hbw
  go_wp2_with fail
  refine (have_step w w7 xb F7 (kX4 b1 b2) kV4 HB7.out HX7.out HOK7.out).mono ?_
  rintro e w8 ⟨D, nv8, F8, rfl, hD, hn8, hx8, hb8⟩
  obtain ⟨K, hs⟩ := LineOf.spec HOK7.out.good hD
  have hDe : D = [(1, 1), (0, 1)] := line_two (x := kJ) (y := kJ2) hs (by decide) kJ_deps kJ2_deps
  subst hDe
  have hok8 : (kX5 b1 b2).Ok := by
    have := (HOK7.out.setHas kV4).run hD
    rw [kR5] at this
    exact this
  rw [kN5] at hn8
  rw [kR5] at hx8
  obtain ⟨p8, c8, rfl⟩ := sl0_nil hn8 rfl
  have HX8 := Lib.hid hx8
  have HOK8 := Lib.hid hok8
  have HB8 := Lib.hid hb8
  clear hD hs hn8 hx8 hb8 hok8
  go_wp2_with fail
  refine (xwaits_any w.heap.size w8 xb F8 (kX5 b1 b2) HX8.out HOK8.out).mono ?_
  rintro e w9 ⟨rfl, n9, rfl⟩
  have hb9 : Below w8.heap.size w8 (w8.drewN n9) := below_drewN (Below.refl _ _) _
  have HX9 := Lib.hid (HX8.out.below hb9)
  have HB9 := Lib.hid (HB8.out.trans (hb9.mono HB8.out.size))
  clear hb9
  generalize w8.drewN n9 = w9 at HX9 HB9 ⊢
  have hw2 : (((kX5 b1 b2).coms.length : Nat) : Int) - (((kX5 b1 b2).done.length : Nat) : Int) = 2 := rfl
  rw [hw2]
  clear hw2
  go_wp2_with fail
  refine (have_step w w9 xb F8 (kX5 b1 b2) kV5 HB9.out HX9.out HOK8.out).mono ?_
  rintro e w10 ⟨D, g, F10, rfl, hD, hn10, hx10, hb10⟩
  obtain ⟨K, hs⟩ := LineOf.spec HOK8.out.good hD
  have hDe : D = [(1, 1), (0, 1)] := line_two (x := kJ) (y := kJ2) hs (by decide) kJ_deps kJ2_deps
  subst hDe
  have hok10 : (kX6 b1 b2).Ok := by
    have := (HOK8.out.setHas kV5).run hD
    rw [kR6] at this
    exact this
  rw [kN6] at hn10
  rw [kR6] at hx10
  have HX10 := Lib.hid hx10
  have HOK10 := Lib.hid hok10
  have HB10 := Lib.hid hb10
  have HG10 := Lib.hid hn10
  clear hD hs hn10 hx10 hb10 hok10
  go_wp2_with fail
  refine (xbody_any w.heap.size w10 xb F10 (kX6 b1 b2) HX10.out HOK10.out (2, 1)).mono ?_
  rintro e w11 ⟨bv, rfl, _, hb11⟩
  have hfs : ((kX6 b1 b2).find (2, 1)).isSome = false := rfl
  rw [hfs]
  have HX11 := Lib.hid (HX10.out.below hb11)
  have HG11 := Lib.hid (HG10.out.below hb11)
  have HB11 := Lib.hid (HB10.out.trans (hb11.mono HB10.out.size))
  clear hb11 hfs
  go_wp2_with fail
  refine (xcommit_any w.heap.size w11 xb F10 (kX6 b1 b2) HX11.out HOK10.out kI3 kVm _ [] (slNil _)).mono ?_
  rintro e w12 ⟨b, F12, rfl, _, _, _, hb12⟩
  have hb12 := hb12 (by rw [show commitErr (kX6 b1 b2) kI3 kVm ([] : List UInt8).length = 1 from kE5 b1 b2]; decide)
  rw [show commitErr (kX6 b1 b2) kI3 kVm ([] : List UInt8).length = 1 from kE5 b1 b2]
  have HX12 := Lib.hid (HX11.out.below hb12)
  have HG12 := Lib.hid (HG11.out.below hb12)
  have HB12 := Lib.hid (HB11.out.trans (hb12.mono HB11.out.size))
  clear hb12
  go_wp2_with fail
  have hb13 : Below w12.heap.size w12 (w12.alloc (.cells #[.int .i64 1, .int .i64 1, .int .i64 0, .int .i64 1] 28)) := (Below.refl _ _).alloc (Nat.le_refl _) _
  have hlit : SlAt (w12.alloc (.cells #[.int .i64 1, .int .i64 1, .int .i64 0, .int .i64 1] 28)) (.slice (some ⟨w12.heap.size, 0, none⟩) 2 2) ([(1, 1), (0, 1)] : List Dot).length (dotCells [(1, 1), (0, 1)]) :=
    .inr ⟨_, 0, 2, rfl, by simp, fun j u hj => by rw [Nat.zero_add, cell_new, ← Array.getElem?_toList]; exact hj, fun _ => by simp⟩
  refine (dots_any g _ [(1, 1), (0, 1)] [(1, 1), (0, 1)] _ (HG12.out.below hb13).sl hlit (by simp)).mono ?_
  rintro e w13 ⟨rfl, n13, rfl⟩
  have hb14 : Below w12.heap.size w12 ((w12.alloc (.cells #[.int .i64 1, .int .i64 1, .int .i64 0, .int .i64 1] 28)).drewN n13) := below_drewN hb13 _
  have HX14 := Lib.hid (HX12.out.below hb14)
  have HG14 := Lib.hid (HG12.out.below hb14)
  have HB14 := Lib.hid (HB12.out.trans (hb14.mono HB12.out.size))
  have hdd : (([(1, 1), (0, 1)] : List Dot) == [(1, 1), (0, 1)]) = true := rfl
  rw [hdd]
  clear hb13 hb14 hlit
  generalize (w12.alloc (.cells #[.int .i64 1, .int .i64 1, .int .i64 0, .int .i64 1] 28)).drewN n13 = w14 at HX14 HG14 HB14 ⊢
  go_wp2_with fail
  refine (xdone_any w.heap.size w14 xb F10 (kX6 b1 b2) HX14.out HOK10.out).mono ?_
  rintro e w15 ⟨v15, rfl, hv15, _, hb15⟩
  have HG15 := Lib.hid (HG14.out.below hb15)
  have HB15 := Lib.hid (HB14.out.trans (hb15.mono HB14.out.size))
  have HV15 := Lib.hid hv15
  clear hv15 hb15
  go_wp2_with fail
  refine (dots_any v15 g [(1, 1), (0, 1)] [(1, 1), (0, 1)] _ HV15.out.sl HG15.out.sl (by simp)).mono ?_
  rintro e w16 ⟨rfl, n16, rfl⟩
  rw [hdd]
  clear hdd
  go_wp2_with fail
  go_ret
  exact ⟨rfl, below_drewN HB15.out _⟩
end Go.Proofs.Ytibnnhdpaccpfaa
