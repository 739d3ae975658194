/-
  order.Line, NOTHING DONE AND NOTHING ELSE TOLD.
-/
import Derived.Test.YtibnnhdpaccpfaaLineW
import Derived.Test.YtibnnhdpaccpfaaSpec
import Derived.Laws.EntriesVeiled
namespace Go.Proofs.Ytibnnhdpaccpfaa
open Go.RowKit

theorem good_all (lv : Value) (l : List Inst) (w : World) (h : Sl0 w lv l.length (instsCells l)) (hlen : l.length ≤ 1000000) :
    Calls Try.prog 14 #[lv] w fun e w' => e = .returned (.bool (goodL l)) ∧ Below w.heap.size w w' := by
  rcases h with ⟨rfl, h1, _⟩ | ⟨b, cap, rfl, _, hc, hb⟩
  · have : l = [] := List.length_eq_zero_iff.1 h1
    subst this
    exact good_nil w
  · exact good_some b 0 cap l w hc (fun _ => hb) hlen
theorem cloneInst_any (lv : Value) (l : List Inst) (w : World) (h : Sl0 w lv l.length (instsCells l)) (hlen : l.length ≤ 1000000) :
    Calls Try.prog 28 #[lv] w fun e w' => ∃ v, e = .returned v ∧ Sl0 w' v l.length (instsCells l) ∧ Below w.heap.size w w' := by
  rcases h with ⟨rfl, h1, h2⟩ | ⟨b, cap, rfl, hc, hcs, hb⟩
  · refine (cloneInst_nil w).mono ?_
    rintro e w' ⟨rfl, rfl⟩
    exact ⟨_, rfl, .inl ⟨rfl, h1, h2⟩, Below.refl _ _⟩
  · refine (cloneInst_some b 0 cap l.length (instsCells l) w (instsCells_len l) hcs (fun _ => hb) (instsCells_one l) hlen).mono ?_
    rintro e w' ⟨g, cap', rfl, hg, hown, hb'⟩
    exact ⟨_, rfl, Sl0.of_own hown (by omega), hb'⟩
theorem rowsOn_at {w : World} {ob : Nat} {s : List Inst} (h : RowsAt w ob (onOf s)) : RowsOn w ob (onOf s) := by
  intro i hi
  have hi' : i < s.length := by rwa [onOf_len] at hi
  obtain ⟨p, cap, hc, hcap, hp, _⟩ := h.row i hi'
  have he : (onOf s)[i] = onAt s i := by unfold onAt; rw [List.getElem?_eq_getElem hi]; rfl
  rw [he]
  exact ⟨p, cap, hc, hcap, hp⟩
theorem goodL_small {l : List Inst} (h : goodL l = true) : (∀ x ∈ l, x.small) ∧ (∀ x ∈ l, 0 ≤ x.rep ∧ x.rep < 7 ∧ 1 ≤ x.n) := by
  have h1 := (goodL_spec h).1
  refine ⟨fun x hx r hr => ?_, fun x hx => ?_⟩
  · have h2 := h1 x hx
    simp only [Inst.ok, Bool.and_eq_true, V7.depTo, List.all_eq_true, List.mem_range, decide_eq_true_eq] at h2
    exact (h2.2 r hr).2
  · have h2 := h1 x hx
    simp only [Inst.ok, Bool.and_eq_true, dotOk, Inst.dot] at h2
    have h3 := of_decide_eq_true h2.1.1
    exact ⟨h3.1, h3.2.1, h3.2.2.1⟩
theorem notDone {d : Dot} (h : 1 ≤ d.2) : isDone V7.zero [] d = false := by
  have hz : V7.zero.get d.1.toNat = 0 := by
    unfold V7.get V7.zero V7.l
    generalize d.1.toNat = k
    match k with
    | 0 | 1 | 2 | 3 | 4 | 5 | 6 => rfl
    | k + 7 => simp
  unfold isDone
  rw [hz]
  have : ¬ d.2 ≤ 0 := by omega
  simp [this, getAt_nil]

def LineOf (l : List Inst) (D : List Dot) : Prop :=
  ∃ s L A T, IsSorted l s ∧ KeptSet s (isDone V7.zero []) L ∧ Sorted (onOf (keepBy s L s.length)) A ∧ Told (onOf (keepBy s L s.length)) A T ∧ T.length = A.length ∧ D = dotsAt (keepBy s L s.length) (lineOut A T)
def LinePost (l : List Inst) (w : World) (e : Ending) (w' : World) : Prop :=
  ∃ v D, e = .returned v ∧ LineOf l D ∧ D.length ≤ 1000000 ∧ Sl0 w' v D.length (dotCells D) ∧ Below w.heap.size w w'

set_option maxRecDepth 100000 in
set_option maxHeartbeats 4000000 in
theorem line_any (lv : Value) (l : List Inst) (w : World) (hl : Sl0 w lv l.length (instsCells l)) (hg : goodL l = true) :
    Calls Try.prog 19 #[lv, .agg #[.int .i64 0, .int .i64 0, .int .i64 0, .int .i64 0, .int .i64 0, .int .i64 0, .int .i64 0], .slice none 0 0] w (LinePost l w) := by
  have hlen := (goodL_spec hg).2.2
  have HG := Lib.hid hg
  have HL := Lib.hid hl
  have hmm := @run_makeMap Try.prog
  have hmf : ∀ (fn : Fn) (first cap : Array Value) (w : World), (Instr.makeFunc fn first cap).run Try.prog w = .ok (.func fn first cap) w := fun _ _ _ _ => rfl
  clear hl hg
  go_enter Try.func19, Try.ntmps19
  go_wp2_with fail
  have hb0 : Below w.heap.size w (w.alloc (.cells #[.int .i64 0, .int .i64 0, .int .i64 0, .int .i64 0, .int .i64 0, .int .i64 0, .int .i64 0] 29)) := (Below.refl _ _).alloc (Nat.le_refl _) _
  have hG := good_all lv l _ (HL.out.below hb0) (by omega)
  rw [HG.out] at hG
  have HGC := Lib.hid hG
  clear hG
  refine HGC.out.mono ?_
  rintro e w1 ⟨rfl, hb1⟩
  go_wp2_with fail
  refine wp_loop_rounds 1 ?_
  rw [rounds_succ]
  go_wp2_with fail
  obtain ⟨bd, hbd⟩ : ∃ bd, w.heap.size = bd := ⟨_, rfl⟩
  obtain ⟨mm, hmmE⟩ : ∃ mm, w1.heap.size = mm := ⟨_, rfl⟩
  have a1 := heap_alloc_keeps (heap_alloc_keeps (heap_alloc_new w1 (.map #[] 0)) (.cells #[.map (some w1.heap.size)] 53)) (.cells #[.func (.func 26) #[] #[.pointer (some ⟨w.heap.size, 0, none⟩), .pointer (some ⟨w1.heap.size + 1, 0, none⟩)]] 62)
  have a2 := heap_alloc_keeps (heap_new2 w1 (.map #[] 0) (.cells #[.map (some w1.heap.size)] 53)) (.cells #[.func (.func 26) #[] #[.pointer (some ⟨w.heap.size, 0, none⟩), .pointer (some ⟨w1.heap.size + 1, 0, none⟩)]] 62)
  have a3 := heap_new2 (w1.alloc (.map #[] 0)) (.cells #[.map (some w1.heap.size)] 53) (.cells #[.func (.func 26) #[] #[.pointer (some ⟨w.heap.size, 0, none⟩), .pointer (some ⟨w1.heap.size + 1, 0, none⟩)]] 62)
  rw [World.size_alloc] at a3
  have hb12 : Below w1.heap.size w1 (((w1.alloc (.map #[] 0)).alloc (.cells #[.map (some w1.heap.size)] 53)).alloc (.cells #[.func (.func 26) #[] #[.pointer (some ⟨w.heap.size, 0, none⟩), .pointer (some ⟨w1.heap.size + 1, 0, none⟩)]] 62)) :=
    (((Below.refl _ _).alloc (Nat.le_refl _) _).alloc (by simp) _).alloc (by simp; omega) _
  have hz : (w.alloc (.cells #[.int .i64 0, .int .i64 0, .int .i64 0, .int .i64 0, .int .i64 0, .int .i64 0, .int .i64 0] 29)).heap.size = w.heap.size + 1 := by simp
  have hsz1 := hb1.size
  rw [hz] at hsz1
  have hb2 : Below w.heap.size w (((w1.alloc (.map #[] 0)).alloc (.cells #[.map (some w1.heap.size)] 53)).alloc (.cells #[.func (.func 26) #[] #[.pointer (some ⟨w.heap.size, 0, none⟩), .pointer (some ⟨w1.heap.size + 1, 0, none⟩)]] 62)) :=
    (hb0.trans (hb1.mono (by rw [hz]; omega))).trans (hb12.mono (by omega))
  have a0 := Below.heap hb12 (Below.heap hb1 (heap_alloc_new w (.cells #[.int .i64 0, .int .i64 0, .int .i64 0, .int .i64 0, .int .i64 0, .int .i64 0, .int .i64 0] 29)) (by simp)) (by omega)
  generalize (((w1.alloc (.map #[] 0)).alloc (.cells #[.map (some w1.heap.size)] 53)).alloc (.cells #[.func (.func 26) #[] #[.pointer (some ⟨w.heap.size, 0, none⟩), .pointer (some ⟨w1.heap.size + 1, 0, none⟩)]] 62)) = w2 at a0 a1 a2 a3 hb2 ⊢
  rw [hmmE] at a2
  rw [hbd, hmmE] at a3
  rw [hbd] at a0 ⊢
  rw [hmmE] at a1 ⊢
  have hfc : w2.cell? ⟨mm + 1 + 1, 0, none⟩ = some (.func (.func 26) #[] #[.pointer (some ⟨bd, 0, none⟩), .pointer (some ⟨mm + 1, 0, none⟩)]) := by rw [cell_of_heap a3]; rfl
  have lfc := lt_of_heap a3
  have ht : Tells w2 26 #[.pointer (some ⟨bd, 0, none⟩), .pointer (some ⟨mm + 1, 0, none⟩)] (isDone V7.zero []) := by
    intro d W h0 h1 hb
    refine is_any bd (mm + 1) mm V7.zero #[] 0 [] d h0 h1 W (fun j u hj => ?_) ?_ (Below.heap hb a1 (lt_of_heap a1)) rfl (fun p hp => by simp at hp)
    · rw [cell_of_heap (Below.heap hb a0 (lt_of_heap a0)), Nat.zero_add, ← Array.getElem?_toList]; exact hj
    · rw [cell_of_heap (Below.heap hb a2 (lt_of_heap a2))]; rfl
  have HT := Lib.hid ht
  have HB2 := Lib.hid hb2
  have hsmall := goodL_small HG.out
  have HSM := Lib.hid hsmall
  have HND := Lib.hid (goodL_spec HG.out).2.1
  have HP := Lib.hid (show ∀ x ∈ l, isDone V7.zero [] x.dot = false from fun x hx => notDone (hsmall.2 x hx).2.2)
  have HFC := Lib.hid hfc
  clear a0 a1 a2 a3 hb0 hb1 hb12 hz hsz1 hbd hmmE hb2 ht hmm hsmall hfc
  refine (cloneInst_any lv l w2 (HL.out.below HB2.out) (by omega)).mono ?_
  rintro e w3 ⟨v3, rfl, hv3, hb3⟩
  have HV3 := Lib.hid hv3
  have HB3 := Lib.hid hb3
  clear hv3 hb3
  go_wp2_with fail
  refine (delete_none (mm + 1 + 1) 26 _ (isDone V7.zero []) v3 l w3 (fun _ _ => rfl) HV3.out (by omega) (fun x hx => ⟨(HSM.out.2 x hx).1, (HSM.out.2 x hx).2.1, HP.out x hx⟩) (by rw [HB3.out.cell lfc]; exact HFC.out) (HT.out.below HB3.out)).mono ?_
  rintro e w4 ⟨rfl, hb4⟩
  have HB4 := Lib.hid (HB3.out.trans (hb4.mono HB3.out.size))
  have HV4 := Lib.hid (HV3.out.below hb4)
  have hfc4 : w4.cell? ⟨mm + 1 + 1, 0, none⟩ = some (.func (.func 26) #[] #[.pointer (some ⟨bd, 0, none⟩), .pointer (some ⟨mm + 1, 0, none⟩)]) := by rw [HB4.out.cell lfc]; exact HFC.out
  clear hb4
  go_wp2_with fail
  refine (kept_any v3 26 _ (isDone V7.zero []) l w4 (fun _ _ => rfl) HV4.out HND.out HSM.out.1 hlen (HT.out.below HB4.out)).mono ?_
  rintro e w5 ⟨v5, s, L, rfl, hs, hK, hv5, hb5⟩
  have HSO := Lib.hid hs
  have HK := Lib.hid hK
  have HV5 := Lib.hid hv5
  have HB5 := Lib.hid (HB4.out.trans (hb5.mono HB4.out.size))
  have hsl : s.length ≤ 1000 := by rw [hs.1.length_eq]; exact hlen
  have hkl := keepBy_len s L s.length
  have HNDK := Lib.hid (show NodupDots (keepBy s L s.length) from keepBy_pairs L s.length (HND.out.perm hs.1))
  have HSO2 := Lib.hid (show IsSorted (keepBy s L s.length) (keepBy s L s.length) from ⟨List.Perm.refl _, keepBy_pairs L s.length hs.2⟩)
  have HSMK := Lib.hid (show ∀ x ∈ keepBy s L s.length, x.small from fun x hx => by
    unfold keepBy at hx
    obtain ⟨i, _, he⟩ := List.mem_filterMap.1 hx
    split at he
    · cases he
    · exact HSM.out.1 x (hs.1.subset (List.mem_of_getElem? he)))
  clear hs hK hv5 hb5 hfc4
  generalize hKE : keepBy s L s.length = K at *
  have HKE := Lib.hid hKE
  clear hKE
  go_wp2_with fail
  refine (weave_any v5 K w5 HV5.out (by omega) HNDK.out).mono ?_
  rintro e w6 ⟨wb, s2, rfl, hs2, hweb, hwb, hb6⟩
  have hs2K : s2 = K := hs2.unique HSO2.out
  subst hs2K
  have HB6 := Lib.hid (HB5.out.trans (hb6.mono HB5.out.size))
  have HWEB := Lib.hid hweb
  clear hs2 hweb hwb hb6
  go_wp2_with fail
  refine (on_any wb s2 w6 HWEB.out HNDK.out HSMK.out (by omega)).mono ?_
  rintro e w7 ⟨ob, rfl, hon, hob, hb7⟩
  have hline := line_walk ob (onOf s2) w7 (rowsOn_at hon) (onOf_lt s2) (by rw [onOf_len]; omega) (fun r hr => by
    obtain ⟨i, hi, rfl⟩ := List.getElem_of_mem hr
    have := onAt_len s2 HSMK.out i
    unfold onAt at this
    rw [List.getElem?_eq_getElem hi] at this
    exact this)
  rw [onOf_len] at hline
  have HLINE := Lib.hid hline
  have HWEB7 := Lib.hid (HWEB.out.below hb7)
  have HB7 := Lib.hid (HB6.out.trans (hb7.mono HB6.out.size))
  clear hon hob hb7 hline
  go_wp2_with fail
  refine HLINE.out.mono ?_
  rintro e w8 ⟨A, T, v8, rfl, hS, hT, hTl, hv8, hb8⟩
  have hol := lineOut_len hS T
  have hT1000 : T.length ≤ 1000 := by have := hS.len; rw [onOf_len] at this; omega
  have hlo : (lineOut A T).length ≤ 1000000 := by
    rw [onOf_len] at hol
    have h1 : T.length * s2.length ≤ 1000 * 1000 := Nat.mul_le_mul hT1000 (by omega)
    omega
  have hlt : ∀ i ∈ lineOut A T, i < s2.length := fun i hi => by have := lineOut_lt hS T i hi; rwa [onOf_len] at this
  have HWEB8 := Lib.hid (HWEB7.out.below hb8)
  have HB8 := Lib.hid (HB7.out.trans (hb8.mono HB7.out.size))
  have HV8 := Lib.hid hv8
  have HST := Lib.hid (And.intro hS (And.intro hT hTl))
  have HLT := Lib.hid hlt
  clear hS hT hTl hv8 hb8 hol hT1000 hlt
  go_wp2_with fail
  refine (wdots_any wb v8 (lineOut A T) s2 w8 HWEB8.out HV8.out HLT.out hlo (by omega)).mono ?_
  rintro e w9 ⟨v9, rfl, hv9, hb9⟩
  have HV9 := Lib.hid hv9
  have HB9 := Lib.hid (HB8.out.trans (hb9.mono HB8.out.size))
  clear hv9 hb9
  go_wp2_with fail
  go_ret
  refine ⟨v9, dotsAt s2 (lineOut A T), rfl, ⟨s, L, A, T, HSO.out, HK.out, ?_, ?_, HST.out.2.2, ?_⟩, Nat.le_trans (dotsAt_len _ _) hlo, HV9.out, HB2.out.trans (HB9.out.mono HB2.out.size)⟩
  · rw [HKE.out]; exact HST.out.1
  · rw [HKE.out]; exact HST.out.2.1
  · rw [HKE.out]

theorem LineOf.spec {l : List Inst} {D : List Dot} (hg : goodL l = true) (h : LineOf l D) : ∃ K, LineSpec l K D := by
  obtain ⟨s, L, A, T, hs, hK, hS, hT, hTl, rfl⟩ := h
  have hnd := (goodL_spec hg).2.1
  exact ⟨_, line_spec hnd (kept_of hnd hs (fun x _ d hd => notDone (mem_depDots.1 hd).2.2.2.1) hK) (keepBy_pairs L s.length (hnd.perm hs.1)) (keepBy_pairs L s.length hs.2) hS hT hTl⟩
end Go.Proofs.Ytibnnhdpaccpfaa
