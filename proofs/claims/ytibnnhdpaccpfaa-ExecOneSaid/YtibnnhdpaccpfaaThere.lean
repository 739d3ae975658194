import Derived.Test.YtibnnhdpaccpfaaOnAll
namespace Go.Proofs.Ytibnnhdpaccpfaa
open Go.RowKit

/-- a closure that tells P of a dot, and changes nothing, in every world behind w -/
def Tells (w : World) (g : Nat) (cb : Array Value) (P : Dot → Bool) : Prop :=
  ∀ (d : Dot) (W : World), 0 ≤ d.1 → d.1 < 7 → Below w.heap.size w W → Calls Try.prog g (#[.agg #[.int .i64 d.1, .int .i64 d.2]] ++ cb) W fun e W' => e = .returned (.bool (P d)) ∧ Below W.heap.size W W'
theorem Tells.below {w w' : World} {g : Nat} {cb : Array Value} {P : Dot → Bool} (h : Tells w g cb P) (hb : Below w.heap.size w w') : Tells w' g cb P :=
  fun d W h0 h1 hW => h d W h0 h1 (hb.trans (hW.mono hb.size))
theorem dotsOf_range {x : Inst} {r k : Nat} {d : Dot} (h : d ∈ dotsOf x r k) : d.1 = (r : Int) ∧ 1 ≤ d.2 ∧ d.2 ≤ (k : Int) := by
  unfold dotsOf at h
  obtain ⟨j, hj, hd⟩ := List.mem_filterMap.1 h
  have := List.mem_range.1 hj
  split at hd
  · cases hd
  · simp only [Option.some.injEq] at hd
    subst hd
    exact ⟨rfl, by simp; omega, by simp; omega⟩
theorem depDots_range {x : Inst} {d : Dot} (h : d ∈ x.depDots) : 0 ≤ d.1 ∧ d.1 < 7 ∧ 1 ≤ d.2 ∧ d.2 ≤ x.deps.get d.1.toNat := by
  unfold Inst.depDots depsTo at h
  rw [List.mem_append] at h
  rcases h with h | h
  · obtain ⟨r, hr, hd⟩ := List.mem_flatMap.1 h
    have := List.mem_range.1 hr
    obtain ⟨h1, h2, h3⟩ := dotsOf_range hd
    refine ⟨by omega, by omega, h2, ?_⟩
    rw [h1]
    unfold Inst.depNat at h3
    simp only [Int.toNat_natCast]
    omega
  · obtain ⟨h1, h2, h3⟩ := dotsOf_range h
    simp at h3
    omega

set_option maxRecDepth 100000 in
set_option maxHeartbeats 1000000 in
theorem there_any (bw bf wb g : Nat) (cb : Array Value) (P : Dot → Bool) (s : List Inst) (d : Dot) (hd0 : 0 ≤ d.1) (hd1 : d.1 < 7) (w : World) (eg : ∀ args w, (callFunc g args).run Try.prog w = .ok (.enter g args) w)
    (hbw : w.cell? ⟨bw, 0, none⟩ = some (.pointer (some ⟨wb, 0, none⟩))) (hweb : WebAt w wb s) (hnd : NodupDots s) (hbf : w.cell? ⟨bf, 0, none⟩ = some (.func (.func g) #[] cb)) (ht : Tells w g cb P) :
    Calls Try.prog 38 #[.agg #[.int .i64 d.1, .int .i64 d.2], .pointer (some ⟨bw, 0, none⟩), .pointer (some ⟨bf, 0, none⟩)] w fun e w' =>
      e = .returned (.bool ((posOf s d).isSome || P d)) ∧ Below w.heap.size w w' := by
  obtain ⟨lv, mb, es, clk, hwb, hsl, hm, hE⟩ := hweb
  have cw1 : w.cell? ⟨wb, 1, none⟩ = some (.map (some mb)) := by rw [cell_of_heap hwb]; rfl
  have l1 := World.block_lt_of_cell? _ _ hbw
  have l2 := World.block_lt_of_cell? _ _ hbf
  have l4 := lt_of_heap hwb
  simp only at l1 l2 l4
  have m1 := fun o => heap_drew_keeps (heap_alloc_keeps hm o)
  have m2 := fun o => heap_alloc_keeps hm o
  have hlk := run_lookup_ok 79 3 mapIntDesc _ zeroInt mb es clk _ hE d
  rw [getAt_place hnd] at hlk
  have HT := Lib.hid ht
  clear hE hm hwb hsl hnd ht
  cases hp : posOf s d with
  | some k =>
    rw [hp] at hlk
    simp only [Option.map_some, Option.getD_some, Option.isSome_some] at hlk
    clear hp
    go_enter Try.func38, Try.ntmps38
    go_wp2
    go_quiet (fail)
    go_wp2
    go_ret
    exact ⟨rfl, below_drewN ((Below.refl _ _).alloc (Nat.le_refl _) _) _⟩
  | none =>
    rw [hp] at hlk
    simp only [Option.map_none, Option.getD_none, Option.isSome_none] at hlk
    clear hp
    go_enter Try.func38, Try.ntmps38
    go_wp2
    go_quiet (fail)
    go_wp2
    have hb2 : Below w.heap.size w ((w.alloc (.cells #[.int .i64 d.1, .int .i64 d.2] 28)).drewN nq) := below_drewN ((Below.refl _ _).alloc (Nat.le_refl _) _) _
    refine (HT.out d _ hd0 hd1 hb2).mono ?_
    rintro e w' ⟨rfl, hb'⟩
    go_wp2_with fail
    go_ret
    exact ⟨by simp, hb2.trans (hb'.mono (hb2.size))⟩
end Go.Proofs.Ytibnnhdpaccpfaa
