import Derived.Test.YtibnnhdpaccpfaaExec4
import Derived.Test.YtibnnhdpaccpfaaSmall
import Derived.Lib.SlBytesConst
namespace Go.Proofs.Ytibnnhdpaccpfaa
open Go.RowKit

set_option maxRecDepth 100000 in
set_option maxHeartbeats 1000000 in
theorem sameDots_any (va vb : Value) (a b : List Dot) (w : World) (ha : SlAt w va a.length (dotCells a)) (hb : SlAt w vb b.length (dotCells b)) (hlen : a.length ≤ 1000000) :
    Calls Try.prog 22 #[va, vb] w fun e w' => e = .returned (.bool (a == b)) ∧ ∃ n, w' = w.drewN n := by
  by_cases hl : a.length = b.length
  · by_cases h0 : a.length = 0
    · have ha0 : a = [] := List.length_eq_zero_iff.1 h0
      have hb0 : b = [] := List.length_eq_zero_iff.1 (by omega)
      subst ha0 hb0
      obtain ⟨pa, ca, rfl⟩ : ∃ p c, va = .slice p 0 c := by
        rcases ha with ⟨rfl, _⟩ | ⟨b, o, c, rfl, _⟩ <;> exact ⟨_, _, rfl⟩
      obtain ⟨pb, cb, rfl⟩ : ∃ p c, vb = .slice p 0 c := by
        rcases hb with ⟨rfl, _⟩ | ⟨b, o, c, rfl, _⟩ <;> exact ⟨_, _, rfl⟩
      clear ha hb hl h0 hlen
      go_enter Try.func22, Try.ntmps22
      go_wp2
      refine wp_loop_rounds 1 ?_
      rw [rounds_succ]
      go_wp2
      go_ret
      exact ⟨rfl, 0, rfl⟩
    · rcases ha with ⟨_, h, _⟩ | ⟨ab, ao, ac, rfl, _, hca, _⟩
      · exact absurd h h0
      · rcases hb with ⟨_, h, _⟩ | ⟨bb, bo, bc, rfl, _, hcb, _⟩
        · exact absurd h (by omega)
        · have := sameDots_some ab ao ac bb bo bc a b w hl hlen hca hcb
          rw [hl] at this ⊢
          exact this
  · obtain ⟨pa, ca, rfl⟩ : ∃ p c, va = .slice p a.length c := by
      rcases ha with ⟨rfl, h, _⟩ | ⟨b, o, c, rfl, _⟩
      · exact ⟨none, 0, by rw [h]⟩
      · exact ⟨_, _, rfl⟩
    obtain ⟨pb, cb, rfl⟩ : ∃ p c, vb = .slice p b.length c := by
      rcases hb with ⟨rfl, h, _⟩ | ⟨b, o, c, rfl, _⟩
      · exact ⟨none, 0, by rw [h]⟩
      · exact ⟨_, _, rfl⟩
    have hf : (a == b) = false := by
      rw [beq_eq_false_iff_ne]
      rintro rfl
      exact hl rfl
    rw [hf]
    have hne : (((a.length : Nat) : Int) != ((b.length : Nat) : Int)) = true := by rw [bne_iff_ne]; omega
    clear ha hb hf hl
    generalize a.length = n at *
    generalize b.length = m at *
    go_enter Try.func22, Try.ntmps22
    go_wp2
    go_ret
    exact ⟨rfl, 0, rfl⟩

set_option maxRecDepth 100000 in
set_option maxHeartbeats 1000000 in
theorem dots_any (va vb : Value) (a b : List Dot) (w : World) (ha : SlAt w va a.length (dotCells a)) (hb : SlAt w vb b.length (dotCells b)) (hlen : a.length ≤ 1000000) :
    Calls Try.prog 12 #[va, vb] w fun e w' => e = .returned (.bool (a == b)) ∧ ∃ n, w' = w.drewN n := by
  have HC := Lib.hid (sameDots_any va vb a b w ha hb hlen)
  clear ha hb
  go_enter Try.func12, Try.ntmps12
  go_wp2_with fail
  refine HC.out.mono ?_
  rintro e w' ⟨rfl, n, rfl⟩
  go_wp2_with fail
  go_ret
  exact ⟨rfl, n, rfl⟩

theorem goodTo_of {l : List Inst} (h1 : ∀ x ∈ l, x.ok = true) (h2 : NodupDots l) : ∀ k, k ≤ l.length → goodTo l k = true
  | 0, _ => rfl
  | k + 1, hk => by
    have hlt : k < l.length := by omega
    refine goodTo_step hlt (goodTo_of h1 h2 k (by omega)) (h1 _ (List.getElem_mem hlt)) ?_
    unfold freshAt
    rw [List.all_eq_true]
    intro y hy
    obtain ⟨j, hj, rfl⟩ := List.getElem_of_mem hy
    rw [List.getElem_take, bne_iff_ne]
    simp only [List.length_take] at hj
    exact List.pairwise_iff_getElem.1 h2 j k (by omega) hlt (by omega)
theorem goodL_of {l : List Inst} (h1 : ∀ x ∈ l, x.ok = true) (h2 : NodupDots l) (h3 : l.length ≤ 1000) : goodL l = true := by
  unfold goodL
  rw [goodTo_of h1 h2 _ (Nat.le_refl _)]
  simp [h3]
theorem commit_zero {x : XS} {i : Inst} {v : V7} {n : Nat} (h : commitErr x i v n = 0) : goodL [i] = true ∧ V7.good v = true ∧ n ≤ 65536 ∧ x.find i.dot = none ∧ x.coms.length < 1000 := by
  unfold commitErr at h
  split at h
  · cases h
  · rename_i h1
    split at h
    · cases h
    · rename_i h2
      split at h
      · cases h
      · rename_i h3
        simp only [not_or, Bool.not_eq_false, Nat.not_lt] at h1
        exact ⟨h1.1, h1.2.1, h1.2.2, by simpa using h2, by omega⟩
theorem XS.Ok.commit {x : XS} (h : x.Ok) (i : Inst) (v : V7) (b : Value) (bs : List UInt8) : (x.commit i v b bs).Ok := by
  unfold XS.commit
  split
  · rename_i h0
    obtain ⟨hg, hv, hn, hf, hc⟩ := commit_zero h0
    obtain ⟨g1, g2, g3⟩ := goodL_spec h.good
    have gi := (goodL_spec hg).1 i (by simp)
    have hins : ({ x with coms := x.coms ++ [⟨i, v, b, bs⟩] } : XS).insts = x.insts ++ [i] := by simp [XS.insts]
    refine ⟨?_, fun d hd => ?_, h.nodup, fun c hc' => ?_⟩
    · rw [hins]
      refine goodL_of (fun y hy => ?_) ?_ ?_
      · rcases List.mem_append.1 hy with hy | hy
        · exact g1 y hy
        · rw [List.mem_singleton.1 hy]; exact gi
      · unfold NodupDots
        rw [List.pairwise_append]
        refine ⟨g2, by simp, fun a ha b' hb' he => ?_⟩
        rw [List.mem_singleton.1 hb'] at he
        obtain ⟨c, hc1, rfl⟩ := List.mem_map.1 ha
        unfold XS.find at hf
        have := List.find?_eq_none.1 hf c hc1
        simp at this
        exact this he
      · simp [XS.insts]; omega
    · obtain ⟨c, hc1, he⟩ := h.sub d hd
      exact ⟨c, List.mem_append.2 (.inl hc1), he⟩
    · rcases List.mem_append.1 hc' with hc' | hc'
      · exact h.blen c hc'
      · rw [List.mem_singleton.1 hc']; exact hn
  · exact h

/-- an Exec that is ours alone, in a world behind w0 -/
theorem below_step {w0 w w' : World} {F : Nat → Prop} {xb : Nat} {x : XS} (hb : Below w0.heap.size w0 w) (hx : XAt w0.heap.size w xb F x) (hm : Mod F w w') : Below w0.heap.size w0 w' :=
  hb.trans (below_of_mod hm (fun k hk => (hx.low k hk).1) hb.size)
theorem sl_form {w : World} {v : Value} {n : Nat} {cs : List Value} (h : Sl0 w v n cs) : ∃ p c, v = .slice p n c := by
  rcases h with ⟨rfl, h, _⟩ | ⟨b, c, rfl, _⟩
  · exact ⟨none, 0, by rw [h]⟩
  · exact ⟨_, _, rfl⟩

theorem toStr {w : World} {v : Value} {bs : List UInt8} (h : Sl0 w v bs.length (bCells bs)) : (convert 35 9 v).run Try.prog w = .ok (.string ⟨bs.toArray⟩) w := by
  rcases h with ⟨rfl, h1, _⟩ | ⟨b, c, rfl, _, hc, _⟩
  · have : bs = [] := List.length_eq_zero_iff.1 h1
    subst this
    rw [run_convert_bytes_string w 35 9 5 none 0 0 Try.underlying35 Try.underlying5 Try.underlying9]
    simp [Conv.bytesToString]
    rfl
  · refine run_convert_bytes_back w 35 9 5 ⟨b, 0, none⟩ c bs Try.underlying35 Try.underlying5 Try.underlying9 fun j hj => ?_
    have := cells_add hc j (.int .u8 (bs[j].toNat : Int)) (by simp [bCells, hj])
    exact this
def aI : Inst := ⟨0, 1, 0, V7.zero⟩
def aV : V7 := ⟨1, 0, 0, 0, 0, 0, 0⟩
theorem aI_deps : aI.depDots = [] := by decide
theorem aI_err : commitErr XS.new aI aV 1 = 0 := by decide

theorem aNow1 (b : Value) : nowOf ((⟨V7.zero, [⟨aI, aV, b, [98]⟩], []⟩ : XS).setHas V7.zero) [(0, 1)] = [] := rfl
theorem aRun1 (b : Value) : ((⟨V7.zero, [⟨aI, aV, b, [98]⟩], []⟩ : XS).setHas V7.zero).run [(0, 1)] = ⟨V7.zero, [⟨aI, aV, b, [98]⟩], []⟩ := rfl
theorem aNow2 (b : Value) : nowOf ((⟨V7.zero, [⟨aI, aV, b, [98]⟩], []⟩ : XS).setHas aV) [(0, 1)] = [(0, 1)] := rfl
theorem aRun2 (b : Value) : ((⟨V7.zero, [⟨aI, aV, b, [98]⟩], []⟩ : XS).setHas aV).run [(0, 1)] = ⟨aV, [⟨aI, aV, b, [98]⟩], [(0, 1)]⟩ := rfl
theorem sl0_nil {w : World} {v : Value} {n : Nat} {cs : List Value} (h : Sl0 w v n cs) (h0 : n = 0) : ∃ p c, v = .slice p 0 c := by
  obtain ⟨p, c, hv⟩ := sl_form h
  exact ⟨p, c, by rw [hv, h0]⟩

set_option maxRecDepth 100000 in
set_option maxHeartbeats 4000000 in
theorem awake_any (w : World) : Calls Try.prog 6 #[] w fun e w' => e = .returned (.bool true) ∧ Below w.heap.size w w' := by
  go_enter Try.func6, Try.ntmps6
  go_wp2_with fail
  refine (xnew_any w.heap.size w (Nat.le_refl _)).mono ?_
  rintro e w1 ⟨xb, rfl, hx1, hb1⟩
  have HX1 := Lib.hid hx1
  have HB1 := Lib.hid hb1
  clear hx1 hb1
  have kc := fun (w : World) (C : Array Value) (n c : Nat) => Lib.run_convert_bytes_const (P := Try.prog) w 35 5 C n c Try.underlying35 Try.underlying5
  go_wp2_with fail
  have hsl : SlAt (w1.alloc (.cells #[.int .u8 98] 5 (1, 2))) (.slice (some ⟨w1.heap.size, 0, none⟩) 1 1) ([98] : List UInt8).length (bCells [98]) :=
    .inr ⟨_, 0, 1, rfl, by simp, fun j u hj => by rw [Nat.zero_add, World.cell?_alloc_mark, ← Array.getElem?_toList]; exact hj, fun _ => by simp⟩
  have hbw : Below w1.heap.size w1 (w1.alloc (.cells #[.int .u8 98] 5 (1, 2))) := (Below.refl _ _).alloc (Nat.le_refl _) _
  refine (xcommit_any w.heap.size _ xb _ XS.new (HX1.out.below hbw) XS.new_ok aI aV _ [98] (.inl hsl)).mono ?_
  rintro e w2 ⟨b, F2, rfl, hx2, _, hm2, _⟩
  have HB2 := Lib.hid (below_step (HB1.out.trans (hbw.mono HB1.out.size)) (HX1.out.below hbw) hm2)
  have he0 : commitErr XS.new aI aV ([98] : List UInt8).length = 0 := aI_err
  have hxe : XS.new.commit aI aV b [98] = ⟨V7.zero, [⟨aI, aV, b, [98]⟩], []⟩ := by
    unfold XS.commit
    rw [if_pos he0]
    rfl
  have hok2 := XS.new_ok.commit aI aV b [98]
  rw [hxe] at hx2 hok2
  rw [he0]
  have HX2 := Lib.hid hx2
  have HOK2 := Lib.hid hok2
  clear hx2 hm2 hsl hbw he0 hxe hok2
  go_wp2_with fail
  refine (xhave_any w.heap.size w2 xb F2 _ HX2.out HOK2.out V7.zero).mono ?_
  rintro e w3 ⟨D, nv, F3, rfl, hD, hnv, hx3, _, hm3⟩
  obtain ⟨K, hs⟩ := LineOf.spec HOK2.out.good hD
  have hDe : D = [(0, 1)] := line_one hs aI_deps
  subst hDe
  rw [aNow1] at hnv
  rw [aRun1] at hx3
  obtain ⟨p3, c3, rfl⟩ := sl0_nil hnv rfl
  have HB3 := Lib.hid (below_step HB2.out HX2.out hm3)
  have HX3 := Lib.hid hx3
  clear hD hnv hx3 hm3 hs
  go_wp2_with fail
  refine (xhave_any w.heap.size w3 xb F3 _ HX3.out HOK2.out aV).mono ?_
  rintro e w4 ⟨D, nv2, F4, rfl, hD, hnv2, hx4, _, hm4⟩
  obtain ⟨K, hs⟩ := LineOf.spec HOK2.out.good hD
  have hDe : D = [(0, 1)] := line_one hs aI_deps
  subst hDe
  have hok4 := (HOK2.out.setHas aV).run hD
  rw [aNow2] at hnv2
  rw [aRun2] at hx4 hok4
  have HB4 := Lib.hid (below_step HB3.out HX3.out hm4)
  have HX4 := Lib.hid hx4
  have HOK4 := Lib.hid hok4
  have HN4 := Lib.hid hnv2
  clear hD hnv2 hx4 hm4 hs hok4
  go_wp2_with fail
  refine (xbody_any w.heap.size w4 xb F4 _ HX4.out HOK4.out (0, 1)).mono ?_
  rintro e w5 ⟨bv, rfl, hbv, hb5⟩
  have HBV := Lib.hid (show Sl0 w5 bv ([98] : List UInt8).length (bCells [98]) from hbv)
  have HN5 := Lib.hid (HN4.out.below hb5)
  have HX5 := Lib.hid (HX4.out.below hb5)
  have HB5 := Lib.hid (HB4.out.trans (hb5.mono HB4.out.size))
  have hfs : ((⟨aV, [⟨aI, aV, b, [98]⟩], [(0, 1)]⟩ : XS).find (0, 1)).isSome = true := rfl
  rw [hfs]
  clear hbv hb5 hfs
  go_wp2_with fail
  have hb6 : Below w5.heap.size w5 (w5.alloc (.cells #[.int .i64 0, .int .i64 1] 28)) := (Below.refl _ _).alloc (Nat.le_refl _) _
  have hlit : SlAt (w5.alloc (.cells #[.int .i64 0, .int .i64 1] 28)) (.slice (some ⟨w5.heap.size, 0, none⟩) 1 1) ([(0, 1)] : List Dot).length (dotCells [(0, 1)]) :=
    .inr ⟨_, 0, 1, rfl, by simp, fun j u hj => by rw [Nat.zero_add, cell_new, ← Array.getElem?_toList]; exact hj, fun _ => by simp⟩
  refine (dots_any nv2 _ [(0, 1)] [(0, 1)] _ (HN5.out.below hb6).sl hlit (by simp)).mono ?_
  rintro e w6 ⟨rfl, n6, rfl⟩
  have hb7 : Below w5.heap.size w5 ((w5.alloc (.cells #[.int .i64 0, .int .i64 1] 28)).drewN n6) := below_drewN hb6 _
  have hstr := toStr (HBV.out.below hb7)
  have HX7 := Lib.hid (HX5.out.below hb7)
  have HB7 := Lib.hid (HB5.out.trans (hb7.mono HB5.out.size))
  clear hb6 hb7 hlit
  have hdd : (([(0, 1)] : List Dot) == [(0, 1)]) = true := rfl
  rw [hdd]
  clear hdd
  generalize (w5.alloc (.cells #[.int .i64 0, .int .i64 1] 28)).drewN n6 = w7 at hstr HX7 HB7 ⊢
  go_wp2_with fail
  refine (xwaits_any w.heap.size w7 xb F4 _ HX7.out HOK4.out).mono ?_
  rintro e w8 ⟨rfl, n8, rfl⟩
  go_wp2_with fail
  go_ret
  exact ⟨rfl, below_drewN HB7.out _⟩
end Go.Proofs.Ytibnnhdpaccpfaa
