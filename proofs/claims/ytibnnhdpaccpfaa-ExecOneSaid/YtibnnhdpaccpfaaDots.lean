import Derived.Test.YtibnnhdpaccpfaaKept
namespace Go.Proofs.Ytibnnhdpaccpfaa
open Go.RowKit

def dotsAt (s : List Inst) (L : List Nat) : List Dot := L.filterMap fun i => (s[i]?).map Inst.dot
theorem dotsAt_snoc (s : List Inst) (L : List Nat) (i : Nat) (h : i < s.length) : dotsAt s (L ++ [i]) = dotsAt s L ++ [s[i].dot] := by
  simp [dotsAt, h]
theorem dotsAt_len (s : List Inst) (L : List Nat) : (dotsAt s L).length ≤ L.length := List.length_filterMap_le _ _

set_option maxRecDepth 100000 in
set_option maxHeartbeats 1000000 in
theorem wdots_any (wb : Nat) (lv : Value) (L : List Nat) (s : List Inst) (w : World) (hweb : WebAt w wb s) (hl : Sl0 w lv L.length (intCells L)) (hL : ∀ i ∈ L, i < s.length) (hlen : L.length ≤ 1000000) (_hsl : s.length ≤ 1000000) :
    Calls Try.prog 32 #[.pointer (some ⟨wb, 0, none⟩), lv] w fun e w' => ∃ v, e = .returned v ∧ Sl0 w' v (dotsAt s L).length (dotCells (dotsAt s L)) ∧ Below w.heap.size w w' := by
  obtain ⟨p, cap, rfl, hcap, hp⟩ := hl.form
  have HW := Lib.hid hweb
  have HP := Lib.hid hp
  have HLT := Lib.hid hL
  obtain ⟨n, hn⟩ : ∃ n, L.length = n := ⟨_, rfl⟩
  rw [hn] at hcap hlen
  have HN := Lib.hid hn
  clear hweb hp hl hL
  rw [hn]
  clear hn
  go_enter Try.func32, Try.ntmps32
  go_wp2
  go_loopw [5, 10] (fun v5 v10 wr => ∃ k : Nat, k ≤ n ∧ v10 = .int .i64 k ∧ wr.ownsRow w.heap.size 28 2 v5 (dotsAt s (L.take k)).length (dotCells (dotsAt s (L.take k))) ∧ Below w.heap.size w wr)
    (fun _ v _ => n - (intOf v).toNat)
  case atStart => exact ⟨0, by omega, rfl, ⟨by simp [dotsAt, dotCells], .inl ⟨rfl, by simp [dotsAt]⟩⟩, Below.refl _ _⟩
  case round =>
    obtain ⟨k, hk, rfl, hown, hbel⟩ := hrel
    have HOWN := Lib.hid hown
    have HBEL := Lib.hid hbel
    clear hown hbel
    by_cases hlt : k < n
    · have hkL : k < L.length := by rw [HN.out]; exact hlt
      obtain ⟨b, rfl, hcb, hbl⟩ := HP.out (by omega)
      have hkc := hcb.int k hkL
      rw [← HBEL.out.cell hbl] at hkc
      obtain ⟨i, hi⟩ : ∃ i, L[k] = i := ⟨_, rfl⟩
      rw [hi] at hkc
      have his : i < s.length := by rw [← hi]; exact HLT.out _ (List.getElem_mem hkL)
      obtain ⟨lb, capb, hc0, hcs, hlb, hwbl⟩ := (HW.out.below HBEL.out).read i his
      have hcx := hcs.inst i his
      rw [Nat.zero_add] at hcx
      obtain ⟨x, hx⟩ : ∃ x, s[i] = x := ⟨_, rfl⟩
      rw [hx] at hcx
      have x0 := hcx 0 _ rfl
      have x1 := hcx 1 _ rfl
      rw [Nat.add_zero] at x0
      have hi0 : (0 : Int) ≤ (i : Int) := Int.natCast_nonneg _
      have hi1 : (i : Int) < (s.length : Int) := by omega
      have HX := Lib.hid hx
      have HI := Lib.hid hi
      clear hcb hcs hcx hx hi
      obtain ⟨i0, hi0', hz0, hz1, hz2⟩ := info_parts dotInfo
      obtain ⟨nK, hnK⟩ : ∃ nK, (dotsAt s (L.take k)).length = nK := ⟨_, rfl⟩
      have hnK1 : nK ≤ 1000000 := by have := dotsAt_len s (L.take k); have := List.length_take_le k L; omega
      have HNK := Lib.hid hnK
      clear hnK
      go_wp2_with ((with_reducible show wpList _ _ _ (Oper.mk (some 24) _ _ _ _ _ :: _) _ _); refine stays ?_)
      refine Stays.go ?_
      refine wpList_append_lies _ rfl _ _ _ rfl w.heap.size 28 i0 _ 2 16 Try.underlying33 hi0' hz0 hz1 hz2 rfl (by omega) u5 nK (dotCells (dotsAt s (L.take k))) (by rfl) ((HNK.out ▸ HOWN.out).alloc _) ⟨wr.heap.size, 0, none⟩ 1 1 [.int .i64 x.rep, .int .i64 x.n] (by rfl) (by rfl) (World.news_of_block (cs := #[.int .i64 x.rep, .int .i64 x.n]) (t := 28) (fr := (0, 0)) (heap_alloc_new _ _)) (by simp [Value.oneCell']) (by omega) (by unfold maxLen; omega) (by omega) (by have := HBEL.out.size; simp; omega) (wr.heap.size + 1) (by simp) ?_
      intro gg cap4 w6 hown6 hgrow6 hat hltg
      have HOWN6 := Lib.hid hown6
      have HGROW6 := Lib.hid hgrow6
      clear hown6 hgrow6
      go_wp2
      go_roundw
      case rel =>
        have hk : dotsAt s (L.take (k + 1)) = dotsAt s (L.take k) ++ [x.dot] := by
          rw [List.take_succ_eq_append_getElem hkL, HI.out, dotsAt_snoc s _ _ his, HX.out]
        have hM : Mod (fun b => u5.ownBlock = some b) wr w6 := Mod.grown (Mod.alloc (Mod.refl _ _) _) HGROW6.out (fun _ h _ => h)
        refine ⟨k + 1, by omega, by go_num, ?_, HBEL.out.trans (below_of_mod hM (fun b hb => (HOWN.out.lt b hb).1) HBEL.out.size)⟩
        have h6 := HOWN6.out
        have hcs : dotCells (dotsAt s (L.take k) ++ [x.dot]) = dotCells (dotsAt s (L.take k)) ++ [.int .i64 x.rep, .int .i64 x.n] := by simp [dotCells, Inst.dot]
        rw [hk, List.length_append, HNK.out, hcs]
        exact h6
      case measure => simp [intOf]; omega
    · have hke : k = n := by omega
      have HKE := Lib.hid hke
      clear hke
      go_wp2
      go_ret
      have hown := HOWN.out
      rw [HKE.out, ← HN.out, List.take_length] at hown
      exact ⟨_, rfl, Sl0.of_own hown (by omega), HBEL.out⟩
end Go.Proofs.Ytibnnhdpaccpfaa
