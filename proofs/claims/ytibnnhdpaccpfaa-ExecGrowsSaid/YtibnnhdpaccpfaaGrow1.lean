import Derived.Test.YtibnnhdpaccpfaaGrowLaw
namespace Go.Proofs.Ytibnnhdpaccpfaa
open Go.RowKit

def ActD.cells (a : ActD) : List Value := .int .i64 a.op :: (instCells a.i ++ (a.v.cells ++ [a.b]))
theorem ActD.cells_len (a : ActD) : a.cells.length = 19 := rfl
/-- acts that came in -/
def ActsAt (w : World) (blk o : Nat) (l : List ActD) : Prop := ∀ (k : Nat) (a : ActD), l[k]? = some a → w.rangeAt blk (o + k * 19) a.cells ∧ BodyAt w a.b a.bs ∧ blk < w.heap.size
theorem ActsAt.below {w w' : World} {blk o : Nat} {l : List ActD} (h : ActsAt w blk o l) (hb : Below w.heap.size w w') : ActsAt w' blk o l := fun k a ha => by
  obtain ⟨h1, h2, h3⟩ := h k a ha
  exact ⟨fun j u hj => (hb.cell h3).trans (h1 j u hj), h2.below hb, Nat.lt_of_lt_of_le h3 hb.size⟩

set_option maxRecDepth 100000 in
set_option maxHeartbeats 2000000 in
theorem first_any (a : ActD) (p : Option Addr) (n c : Nat) (hb : a.b = .slice p n c) (w : World) :
    Calls Try.prog 25 #[.agg a.cells.toArray] w fun e w' => e = .returned (.bool a.first) ∧ Below w.heap.size w w' := by
  obtain ⟨op, i, v, b, bs⟩ := a
  simp only at hb
  subst hb
  have hfirst : (⟨op, i, v, .slice p n c, bs⟩ : ActD).first = (V7.depTo 7 i.deps && decide (0 ≤ i.seq ∧ i.seq ≤ 1099511627776)) := rfl
  rw [hfirst]
  have hc : ∀ j, j < 7 → (w.alloc (.cells (ActD.cells ⟨op, i, v, .slice p n c, bs⟩).toArray 47)).cell? ⟨w.heap.size, 4 + j, none⟩ = some (.int .i64 (i.deps.get j)) := fun j hj => by
    rw [cell_new]
    match j, hj with
    | 0, _ | 1, _ | 2, _ | 3, _ | 4, _ | 5, _ | 6, _ => rfl
  have hs : (w.alloc (.cells (ActD.cells ⟨op, i, v, .slice p n c, bs⟩).toArray 47)).cell? ⟨w.heap.size, 3, none⟩ = some (.int .i64 i.seq) := by rw [cell_new]; rfl
  have hb1 : Below w.heap.size w (w.alloc (.cells (ActD.cells ⟨op, i, v, .slice p n c, bs⟩).toArray 47)) := (Below.refl _ _).alloc (Nat.le_refl _) _
  show Calls Try.prog 25 #[.agg #[.int .i64 op, .int .i64 i.rep, .int .i64 i.n, .int .i64 i.seq, .int .i64 i.deps.a0, .int .i64 i.deps.a1, .int .i64 i.deps.a2, .int .i64 i.deps.a3, .int .i64 i.deps.a4, .int .i64 i.deps.a5, .int .i64 i.deps.a6, .int .i64 v.a0, .int .i64 v.a1, .int .i64 v.a2, .int .i64 v.a3, .int .i64 v.a4, .int .i64 v.a5, .int .i64 v.a6, .slice p n c]] w _
  go_enter Try.func25, Try.ntmps25
  go_wp2_with fail
  change Code.wp _ _ _ _ (w.alloc (.cells (ActD.cells ⟨op, i, v, .slice p n c, bs⟩).toArray 47))
  generalize w.alloc (.cells (ActD.cells ⟨op, i, v, .slice p n c, bs⟩).toArray 47) = w1 at hc hs hb1 ⊢
  have HB1 := Lib.hid hb1
  have HC := Lib.hid hc
  clear hb1 hc
  go_loop [3] (fun s => ∃ k : Nat, k ≤ 7 ∧ s = .int .i64 k ∧ V7.depTo k i.deps = true) (fun s => 7 - (intOf s).toNat)
  case atStart => exact ⟨0, by omega, rfl, rfl⟩
  case round =>
    obtain ⟨k, hk, rfl, hd⟩ := hrel
    have HD := Lib.hid hd
    clear hd
    by_cases hlt : k < 7
    · have hck := HC.out k hlt
      generalize hz : i.deps.get k = z at hck
      have HZ := Lib.hid hz
      clear hz
      have hk0 : (0 : Int) ≤ (k : Int) := Int.natCast_nonneg _
      have hk1 : (k : Int) < 7 := by omega
      by_cases h0 : z < 0
      · have hf := V7.depTo_false (k := k) (a := i.deps) hlt (.inl (by rw [HZ.out]; exact h0))
        have HF := Lib.hid hf
        have hdec : decide (z < 0) = true := by simpa using h0
        clear hf
        go_wp2_with fail
        go_ret
        exact ⟨by rw [HF.out]; rfl, HB1.out⟩
      · have hdec : decide (z < 0) = false := by simpa using h0
        by_cases h1 : 1000 < z
        · have hf := V7.depTo_false (k := k) (a := i.deps) hlt (.inr (by rw [HZ.out]; exact h1))
          have HF := Lib.hid hf
          have hdec2 : decide (1000 < z) = true := by simpa using h1
          clear hf
          go_wp2_with fail
          go_ret
          exact ⟨by rw [HF.out]; rfl, HB1.out⟩
        · have hdec2 : decide (1000 < z) = false := by simpa using h1
          have hn := V7.depTo_succ k i.deps
          have HN := Lib.hid hn
          clear hn
          go_wp2_with fail
          go_round
          case rel =>
            refine ⟨k + 1, by omega, by go_num, ?_⟩
            rw [HN.out, HD.out, HZ.out]
            simp; omega
          case measure => simp [intOf]; omega
    · have hke : k = 7 := by omega
      subst hke
      generalize hsq : i.seq = s at *
      have HSQ := Lib.hid hsq
      clear hsq
      by_cases h0 : 0 ≤ s
      · have hdec : decide (0 ≤ s) = true := by simpa using h0
        by_cases h1 : s ≤ 1099511627776
        · have hdec2 : decide (s ≤ 1099511627776) = true := by simpa using h1
          go_wp2_with fail
          go_ret
          exact ⟨bool_ret (by rw [HD.out, HSQ.out]; simp [h0, h1]), HB1.out⟩
        · have hdec2 : decide (s ≤ 1099511627776) = false := by simpa using h1
          go_wp2_with fail
          go_ret
          exact ⟨bool_ret (by rw [HD.out, HSQ.out]; simp [h1]), HB1.out⟩
      · have hdec : decide (0 ≤ s) = false := by simpa using h0
        go_wp2_with fail
        go_ret
        exact ⟨bool_ret (by rw [HD.out, HSQ.out]; simp; omega), HB1.out⟩
end Go.Proofs.Ytibnnhdpaccpfaa
