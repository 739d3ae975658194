import Derived.Test.YtibnnhdpaccpfaaGood
namespace Go.Proofs.Ytibnnhdpaccpfaa
open Go.RowKit

/-- what slices.Clone hands back: a new row that holds the same -/
def Cloned (E : TypeId) (size n : Nat) (cs : List Value) (w : World) (e : Ending) (w' : World) : Prop :=
  ∃ g cap, e = .returned (.slice (some ⟨g, 0, none⟩) n cap) ∧ w.heap.size ≤ g ∧ w'.ownsRow w.heap.size E size (.slice (some ⟨g, 0, none⟩) n cap) n cs ∧ Below w.heap.size w w'

theorem cloned_of {E : TypeId} {size n : Nat} {cs : List Value} {w w1 : World} {v v' : Value} (hv : v = .slice (some ⟨w.heap.size, 0, none⟩) 0 0)
    (hown : w1.ownsRow w.heap.size E size v' n cs) (hgrow : (w.alloc (.cells #[] E)).grownBy w1 v.ownBlock) (hne : ¬ v' = .slice none 0 0) : Cloned E size n cs w (.returned v') w1 := by
  subst hv
  obtain ⟨h1, h2⟩ := hown
  rcases h2 with ⟨h2, _⟩ | ⟨g, cap, cur, rfl, hg, r⟩
  · exact absurd h2 hne
  · exact ⟨g, cap, rfl, hg, ⟨h1, .inr ⟨g, cap, cur, rfl, hg, r⟩⟩, (((Below.refl _ w).alloc (Nat.le_refl _) _).grown hgrow (by simp) (fun k hk => by simp [Value.ownBlock] at hk; omega))⟩

theorem eqNil (T E : TypeId) (h : Try.prog.underlying T = some (.slice E)) (a : Option Addr) (n c : Nat) : ∀ w, (binOp .eql T (.slice a n c) (.slice none 0 0)).run Try.prog w = .ok (.bool a.isNone) w := fun w => by
  simp only [binOp]
  simp [run_equal_slice_nil w T E a n c h]
theorem instInfo : (Try.prog.info? 31).map (fun i => (i.zero, i.size, i.bytes)) = some (some (.agg instZero), 10, 80) := by kernel_rfl
theorem byteInfo : (Try.prog.info? 5).map (fun i => (i.zero, i.size, i.bytes)) = some (some (.int .u8 0), 1, 1) := by kernel_rfl

set_option maxHeartbeats 400000 in
set_option maxRecDepth 100000 in
theorem cloneInst_some (b off cap n : Nat) (cs : List Value) (w : World) (hl : cs.length = n * 10) (hc : CellsAt w b off cs) (hb : 0 < cs.length → b < w.heap.size) (h1 : ∀ v ∈ cs, v.oneCell' = true) (hn : n ≤ 1000000) :
    Calls Try.prog 28 #[.slice (some ⟨b, off, none⟩) n cap] w (Cloned 31 10 n cs w) := by
  obtain ⟨i0, hi0, hz0, hz1, hz2⟩ := info_parts instInfo
  have hc' : ∀ j u, cs[j]? = some u → (w.alloc (.cells #[] 31)).cell? ((⟨b, off, none⟩ : Addr).add j) = some u := fun j u hj => by
    have hadd : (⟨b, off, none⟩ : Addr).add j = ⟨b, off + j, none⟩ := by unfold Addr.add; split <;> simp_all
    have hlt : b < w.heap.size := hb (by have := (List.getElem?_eq_some_iff.1 hj).1; omega)
    rw [hadd, World.cell?_alloc_lt _ _ _ hlt]; exact hc j u hj
  have HL := Lib.hid hl
  have HC := Lib.hid hc'
  have H1 := Lib.hid h1
  have HB := Lib.hid hb
  clear hl hc hc' hb h1
  have heq := eqNil 41 31 Try.underlying41
  go_enter Try.func28, Try.ntmps28
  go_wp2_with (at_builtin; go_must (refine wpList_append_own _ rfl _ _ 41 rfl w.heap.size 31 i0 _ 10 80 Try.underlying41 hi0 hz0 hz1 hz2 rfl (by decide) _ _ _ rfl (World.ownsRow_made w #[] 0 (Nat.le_refl _) (Nat.zero_le _) rfl) ⟨b, off, none⟩ n cap cs rfl HL.out HC.out H1.out (by unfold maxLen; omega) (by omega) (by simp) ?_))
  intro v' w1 hown hgrow hnil
  have HO := Lib.hid hown
  have HG := Lib.hid hgrow
  have HN := Lib.hid hnil
  clear hown hgrow hnil
  go_wp2
  go_ret
  exact cloned_of rfl HO.out HG.out HN.out
set_option maxHeartbeats 400000 in
theorem cloneInst_nil (w : World) : Calls Try.prog 28 #[.slice none 0 0] w fun e w' => e = .returned (.slice none 0 0) ∧ w' = w := by
  have heq := eqNil 41 31 Try.underlying41
  go_enter Try.func28, Try.ntmps28
  go_wp2
  go_ret
  exact ⟨rfl, rfl⟩

set_option maxHeartbeats 400000 in
set_option maxRecDepth 100000 in
theorem cloneDot_some (b off cap n : Nat) (cs : List Value) (w : World) (hl : cs.length = n * 2) (hc : CellsAt w b off cs) (hb : 0 < cs.length → b < w.heap.size) (h1 : ∀ v ∈ cs, v.oneCell' = true) (hn : n ≤ 1000000) :
    Calls Try.prog 23 #[.slice (some ⟨b, off, none⟩) n cap] w (Cloned 28 2 n cs w) := by
  obtain ⟨i0, hi0, hz0, hz1, hz2⟩ := info_parts dotInfo
  have hc' : ∀ j u, cs[j]? = some u → (w.alloc (.cells #[] 28)).cell? ((⟨b, off, none⟩ : Addr).add j) = some u := fun j u hj => by
    have hadd : (⟨b, off, none⟩ : Addr).add j = ⟨b, off + j, none⟩ := by unfold Addr.add; split <;> simp_all
    have hlt : b < w.heap.size := hb (by have := (List.getElem?_eq_some_iff.1 hj).1; omega)
    rw [hadd, World.cell?_alloc_lt _ _ _ hlt]; exact hc j u hj
  have HL := Lib.hid hl
  have HC := Lib.hid hc'
  have H1 := Lib.hid h1
  have HB := Lib.hid hb
  clear hl hc hc' hb h1
  have heq := eqNil 33 28 Try.underlying33
  go_enter Try.func23, Try.ntmps23
  go_wp2_with (at_builtin; go_must (refine wpList_append_own _ rfl _ _ 33 rfl w.heap.size 28 i0 _ 2 16 Try.underlying33 hi0 hz0 hz1 hz2 rfl (by decide) _ _ _ rfl (World.ownsRow_made w #[] 0 (Nat.le_refl _) (Nat.zero_le _) rfl) ⟨b, off, none⟩ n cap cs rfl HL.out HC.out H1.out (by unfold maxLen; omega) (by omega) (by simp) ?_))
  intro v' w1 hown hgrow hnil
  have HO := Lib.hid hown
  have HG := Lib.hid hgrow
  have HN := Lib.hid hnil
  clear hown hgrow hnil
  go_wp2
  go_ret
  exact cloned_of rfl HO.out HG.out HN.out
set_option maxHeartbeats 400000 in
theorem cloneDot_nil (w : World) : Calls Try.prog 23 #[.slice none 0 0] w fun e w' => e = .returned (.slice none 0 0) ∧ w' = w := by
  have heq := eqNil 33 28 Try.underlying33
  go_enter Try.func23, Try.ntmps23
  go_wp2
  go_ret
  exact ⟨rfl, rfl⟩

set_option maxHeartbeats 400000 in
set_option maxRecDepth 100000 in
theorem bClone_some (b off cap n : Nat) (cs : List Value) (w : World) (hl : cs.length = n * 1) (hc : CellsAt w b off cs) (hb : 0 < cs.length → b < w.heap.size) (h1 : ∀ v ∈ cs, v.oneCell' = true) (hn : n ≤ 1000000) :
    Calls Try.prog 18 #[.slice (some ⟨b, off, none⟩) n cap] w (Cloned 5 1 n cs w) := by
  obtain ⟨i0, hi0, hz0, hz1, hz2⟩ := info_parts byteInfo
  have hc' : ∀ j u, cs[j]? = some u → (w.alloc (.cells #[] 5)).cell? ((⟨b, off, none⟩ : Addr).add j) = some u := fun j u hj => by
    have hadd : (⟨b, off, none⟩ : Addr).add j = ⟨b, off + j, none⟩ := by unfold Addr.add; split <;> simp_all
    have hlt : b < w.heap.size := hb (by have := (List.getElem?_eq_some_iff.1 hj).1; omega)
    rw [hadd, World.cell?_alloc_lt _ _ _ hlt]; exact hc j u hj
  have HL := Lib.hid hl
  have HC := Lib.hid hc'
  have H1 := Lib.hid h1
  have HB := Lib.hid hb
  clear hl hc hc' hb h1
  have heq := eqNil 35 5 Try.underlying35
  go_enter Try.func18, Try.ntmps18
  go_wp2_with (at_builtin; go_must (refine wpList_append_own _ rfl _ _ 35 rfl w.heap.size 5 i0 _ 1 1 Try.underlying35 hi0 hz0 hz1 hz2 rfl (by decide) _ _ _ rfl (World.ownsRow_made w #[] 0 (Nat.le_refl _) (Nat.zero_le _) rfl) ⟨b, off, none⟩ n cap cs rfl HL.out HC.out H1.out (by unfold maxLen; omega) (by omega) (by simp) ?_))
  intro v' w1 hown hgrow hnil
  have HO := Lib.hid hown
  have HG := Lib.hid hgrow
  have HN := Lib.hid hnil
  clear hown hgrow hnil
  go_wp2
  go_ret
  exact cloned_of rfl HO.out HG.out HN.out
set_option maxHeartbeats 400000 in
theorem bClone_nil (w : World) : Calls Try.prog 18 #[.slice none 0 0] w fun e w' => e = .returned (.slice none 0 0) ∧ w' = w := by
  have heq := eqNil 35 5 Try.underlying35
  go_enter Try.func18, Try.ntmps18
  go_wp2
  go_ret
  exact ⟨rfl, rfl⟩

end Go.Proofs.Ytibnnhdpaccpfaa
