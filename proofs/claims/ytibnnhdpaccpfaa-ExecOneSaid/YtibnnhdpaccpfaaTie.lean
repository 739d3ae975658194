import Derived.Test.YtibnnhdpaccpfaaTieAt
import Derived.Deep.DeepCutAuto
namespace Go.Proofs.Ytibnnhdpaccpfaa
open Go.RowKit

def castL (l : List Nat) : List Int := l.map fun (n : Nat) => (n : Int)
theorem castL_set (l : List Nat) (k m : Nat) : (castL l).set k (m : Int) = castL (l.set k m) := by simp [castL]
theorem castL_len (l : List Nat) : (castL l).length = l.length := by simp [castL]
theorem castL_get (l : List Nat) (k : Nat) (h : k < l.length) : (castL l)[k]'(by rw [castL_len]; exact h) = (l[k] : Int) := by simp [castL]

theorem RowsOn.below {w w' : World} {ob : Nat} {on : List (List Nat)} (h : RowsOn w ob on) (hb : Below w.heap.size w w') : RowsOn w' ob on := by
  intro i hi
  obtain ⟨p, cap, hc, hcap, hp⟩ := h i hi
  refine ⟨p, cap, (hb.cell (World.block_lt_of_cell? _ _ hc)).trans hc, hcap, fun h0 => ?_⟩
  obtain ⟨b, h1, h2, h3⟩ := hp h0
  exact ⟨b, h1, fun j u hj => by rw [hb.cell h3]; exact h2 j u hj, Nat.lt_of_lt_of_le h3 hb.size⟩
theorem RowsOn.row {w : World} {ob : Nat} {on : List (List Nat)} (h : RowsOn w ob on) {g : Nat} {row : List Nat} (hr : on[g]? = some row) : ∃ p cap, w.cell? ⟨ob, g, none⟩ = some (.slice p row.length cap) ∧ row.length ≤ cap ∧ (0 < row.length → ∃ b, p = some ⟨b, 0, none⟩ ∧ ∀ (q x : Nat), row[q]? = some x → w.cell? ⟨b, q, none⟩ = some (.int .i64 (x : Int))) := by
  obtain ⟨hg, rfl⟩ := List.getElem?_eq_some_iff.1 hr
  obtain ⟨p, cap, hc, hcap, hp⟩ := h g hg
  refine ⟨p, cap, hc, hcap, fun h0 => ?_⟩
  obtain ⟨b, h1, h2, _⟩ := hp h0
  refine ⟨b, h1, fun q x hx => ?_⟩
  obtain ⟨hq, rfl⟩ := List.getElem?_eq_some_iff.1 hx
  exact h2.int q hq

def TiePost (on : List (List Nat)) (w : World) (e : Ending) (w' : World) : Prop :=
  ∃ tb wb bb av A W B vs w4, e = .returned (.pointer (some ⟨tb, 0, none⟩)) ∧ Sorted on A ∧ RowsIn w4 av A ∧ Tie1 on A A.length W B ∧ TAt w4 av tb wb bb A.length w' (castL W) vs B ∧ Below w.heap.size w w4

theorem tat_made {w w' : World} {av : Value} {tb wb bb n : Nat} (h1 : w'.heap[tb]? = some (.cells #[av, .slice (some ⟨wb, 0, none⟩) n n, .slice (some ⟨bb, 0, none⟩) n n] 88 (0, 0))) (h2 : w'.heap[wb]? = some (.cells (Array.replicate n (.int .i64 0)) 3 (0, 0)))
    (h3 : w'.heap[bb]? = some (.cells (Array.replicate n (.slice none 0 0)) 72 (0, 0))) (a : w.heap.size ≤ tb) (b : w.heap.size ≤ wb) (c : w.heap.size ≤ bb) (hb : Below w.heap.size w w') :
    TAt w av tb wb bb n w' (castL (List.replicate n 0)) (Array.replicate n (.slice none 0 0)) (List.replicate n []) := by
  refine ⟨h1, by rw [h2]; simp [zCells, castL], ⟨h3, by simp, fun i v hv => ?_, fun i j u v b _ hu _ hb => ?_⟩, a, b, c, hb⟩
  · have hi : i < n := by have := (Array.getElem?_eq_some_iff.1 hv).1; simpa using this
    simp [hi] at hv
    subst hv
    exact ⟨[], by simp [hi], ⟨by simp [intCells], .inl ⟨rfl, rfl⟩⟩, fun b hb => by simp [Value.ownBlock] at hb⟩
  · have hi : i < n := by have := (Array.getElem?_eq_some_iff.1 hu).1; simpa using this
    simp [hi] at hu
    subst hu
    simp [Value.ownBlock] at hb

theorem heap3 (w : World) (a b c : Obj) : (((w.alloc a).alloc b).alloc c).drew.heap[w.heap.size]? = some a ∧ (((w.alloc a).alloc b).alloc c).drew.heap[w.heap.size + 1]? = some b ∧ (((w.alloc a).alloc b).alloc c).drew.heap[w.heap.size + 1 + 1]? = some c ∧ Below w.heap.size w (((w.alloc a).alloc b).alloc c).drew := by
  refine ⟨?_, ?_, ?_, ?_⟩
  · exact heap_drew_keeps (heap_alloc_keeps (heap_alloc_keeps (heap_alloc_new _ _) _) _)
  · exact heap_drew_keeps (heap_alloc_keeps (heap_new2 _ _ _) _)
  · have := heap_new2 (w.alloc a) b c
    rw [World.size_alloc] at this
    exact heap_drew_keeps this
  · exact ((((Below.refl _ _).alloc (Nat.le_refl _) _).alloc (by simp) _).alloc (by simp; omega) _).drew

set_option maxRecDepth 100000 in
set_option maxHeartbeats 8000000 in
theorem tie_any (ob : Nat) (on : List (List Nat)) (w : World) (hrows : RowsOn w ob on) (hon : ∀ r ∈ on, ∀ y ∈ r, y < on.length) (hn : on.length ≤ 1000) (hrl : ∀ r ∈ on, r.length ≤ 7000) :
    Calls Try.prog 40 #[.slice (some ⟨ob, 0, none⟩) on.length on.length] w (TiePost on w) := by
  have HROWS := Lib.hid hrows
  have HON := Lib.hid hon
  have HRL := Lib.hid hrl
  have hmk0 := mk_ints on.length (by omega)
  clear hrows hon hrl
  go_enter Try.func40, Try.ntmps40
  go_wp2_with fail
  refine (groups_any ob on w HROWS.out HON.out hn HRL.out).mono ?_
  rintro e w1 ⟨gv, G, gvs, rfl, hG, hown, hgl, hrow, hb1⟩
  obtain ⟨p, cap, rfl⟩ : ∃ p cap, gv = .slice p G.length cap := by
    rcases hown.2 with ⟨rfl, hn0⟩ | ⟨g, cap, cur, rfl, _⟩
    · exact ⟨none, 0, by rw [hn0]⟩
    · exact ⟨_, _, rfl⟩
  have hC := sortG_all w _ gvs G w1 hown hgl hrow (fun g hg => (hG.gne g hg).1) (by have := hG.len; omega) hb1
  have HG := Lib.hid hG
  have hnG : G.length ≤ 1000 := by have := hG.len; omega
  clear hG hown hgl hrow hb1
  generalize G.length = n at hnG hC ⊢
  have HC := Lib.hid hC
  clear hC
  go_wp2_with fail
  refine HC.out.mono ?_
  rintro e w2 ⟨rfl, A, ⟨ap, cap', hav, hcap, hAp⟩, hperm, hheads, hb2⟩
  simp only [Value.slice.injEq] at hav
  obtain ⟨rfl, hnA, rfl⟩ := hav
  have HNA := Lib.hid hnA
  have hcap' : n ≤ cap := by omega
  have HS := Lib.hid (show Sorted on A from ⟨⟨G, HG.out, hperm⟩, hheads⟩)
  have HAP := Lib.hid hAp
  have HB2 := Lib.hid hb2
  clear hnA hAp hperm hheads hb2 hcap HC HG
  go_wp2_with fail
  have g1 : (w2.alloc (.cells (Array.replicate on.length (.int .i64 0)) 3)).heap[w2.heap.size]? = some (.cells (natCells (List.replicate on.length 0)) 3 (0, 0)) := by rw [heap_alloc_new]; simp [natCells, intCells]
  have g2 : Below w2.heap.size w2 (w2.alloc (.cells (Array.replicate on.length (.int .i64 0)) 3)) := (Below.refl _ _).alloc (Nat.le_refl _) _
  generalize (w2.alloc (.cells (Array.replicate on.length (.int .i64 0)) 3)) = w3 at g1 g2 ⊢
  have HG12 := Lib.hid (And.intro g1 g2)
  clear g1 g2 hmk0
  go_loopw [27] (fun v27 wr => ∃ (g : Nat) (F : List Nat), g ≤ n ∧ v27 = .int .i64 g ∧ OfTo on A g 0 F ∧ wr.heap[w2.heap.size]? = some (.cells (natCells F) 3 (0, 0)) ∧ Below w2.heap.size w2 wr) (fun v _ => n - (intOf v).toNat)
  case atStart => exact ⟨0, _, by omega, rfl, OfTo.start on A, HG12.out.1, HG12.out.2⟩
  case round =>
    obtain ⟨g, F, hg, rfl, hF, hfb, hbel⟩ := hrel
    have HF := Lib.hid hF
    have HFB := Lib.hid hfb
    have HBEL := Lib.hid hbel
    clear hF hfb hbel HG12
    by_cases hlt : g < n
    · obtain ⟨ab, rfl, hra, hab⟩ := HAP.out (by rw [← HNA.out]; omega)
      obtain ⟨pr, capr, hcr, hcapr, hpr⟩ := hra g (by rw [← HNA.out]; exact hlt)
      have hrow : A[g]? = some A[g] := List.getElem?_eq_getElem (by rw [← HNA.out]; exact hlt)
      have hrl1 := HS.out.row_len g
      rw [hrow] at hrl1
      obtain ⟨row, hrw⟩ : ∃ row, A[g]'(by rw [← HNA.out]; exact hlt) = row := ⟨_, rfl⟩
      simp only [Option.getD_some] at hrl1
      rw [hrw] at hrow hcr hcapr hpr hrl1
      have hcr' : wr.cell? ⟨ab, g, none⟩ = some (.slice pr row.length capr) := (HBEL.out.cell hab).trans hcr
      have hg0 : (0 : Int) ≤ (g : Int) := Int.natCast_nonneg _
      have hg1 : (g : Int) < (n : Int) := by omega
      have HROW := Lib.hid hrow
      have HPR := Lib.hid hpr
      clear hra hcr hrow hrw hpr
      go_wp2_with fail
      go_loopw [34] (fun v34 wi => ∃ (q : Nat) (F : List Nat), q ≤ row.length ∧ v34 = .int .i64 q ∧ OfTo on A g q F ∧ wi.heap[w2.heap.size]? = some (.cells (natCells F) 3 (0, 0)) ∧ Below w2.heap.size w2 wi) (fun v _ => row.length - (intOf v).toNat)
      case atStart => exact ⟨0, F, by omega, rfl, HF.out, HFB.out, HBEL.out⟩
      case round =>
        obtain ⟨q, F, hq, rfl, hF, hfb, hbel⟩ := hrel
        have HF2 := Lib.hid hF
        have HFB2 := Lib.hid hfb
        have HBEL2 := Lib.hid hbel
        clear hF hfb hbel hcr'
        by_cases hqlt : q < row.length
        · obtain ⟨b, rfl, hcb, hbl⟩ := HPR.out (by omega)
          have hxc := hcb.int q hqlt
          rw [← HBEL2.out.cell hbl] at hxc
          have hxq : row[q]? = some row[q] := List.getElem?_eq_getElem hqlt
          obtain ⟨x, hx⟩ : ∃ x, row[q] = x := ⟨_, rfl⟩
          rw [hx] at hxc hxq
          have HXQ := Lib.hid hxq
          have hxl : x < on.length := (HS.out.all x).2 ⟨row, List.mem_of_getElem? HROW.out, List.mem_of_getElem? hxq⟩
          have hx0 : (0 : Int) ≤ (x : Int) := Int.natCast_nonneg _
          have hx1 : (x : Int) < (on.length : Int) := by omega
          have hfc : wr.cell? ⟨w2.heap.size, x, none⟩ = some (.int .i64 (F[x]?.getD 0 : Nat)) := by rw [cell_of_heap HFB2.out]; exact natCells_at F x (by rw [HF2.out.1]; exact hxl)
          have hff : wr.frozen? ⟨w2.heap.size, x, none⟩ = false := free_of_heap HFB2.out x
          clear hcb hx hxq
          go_wp2_with fail
          go_roundw
          case rel =>
            refine ⟨q + 1, F.set x g, by omega, by go_num, HF2.out.next HS.out HROW.out HXQ.out, ?_, HBEL2.out.setCell (p := ⟨w2.heap.size, x, none⟩) (Nat.le_refl _) _⟩
            rw [heap_setCell_same HFB2.out x _, natCells_set]
          case measure => simp [intOf]; omega
        · have hqe : row.length ≤ q := by omega
          have HQE := Lib.hid hqe
          clear hqe
          go_wp2_with fail
          go_roundw
          case rel => exact ⟨g + 1, F, by omega, by go_num, HF2.out.out HROW.out HQE.out, HFB2.out, HBEL2.out⟩
          case measure => simp [intOf]; omega
    · have hge : g = n := by omega
      have HGE := Lib.hid hge
      clear hge
      have hmk1 := mk_ints n (by omega)
      have hmk2 := mk_intss n (by omega)
      go_upto_region 13 with (fail)
      go_cut [9] (fun s9 wx => ∃ tb wb bb, s9 = .pointer (some ⟨tb, 0, none⟩) ∧ TAt wr (.slice p n cap) tb wb bb n wx (castL (List.replicate n 0)) (Array.replicate n (.slice none 0 0)) (List.replicate n []))
      case first =>
        go_region
        · go_wp2_with fail
          go_meet
          obtain ⟨a1, a2, a3, a4⟩ := heap3 wr (.cells (Array.replicate n (.int .i64 0)) 3) (.cells (Array.replicate n (.slice none 0 0)) 72) (.cells #[.slice p n cap, .slice (some ⟨wr.heap.size, 0, none⟩) n n, .slice (some ⟨wr.heap.size + 1, 0, none⟩) n n] 88)
          exact ⟨_, _, _, rfl, tat_made a3 a1 a2 (by omega) (by omega) (by omega) a4⟩
        · go_wp2_with fail
          go_meet
          obtain ⟨a1, a2, a3, a4⟩ := heap3 wr (.cells (Array.replicate n (.slice none 0 0)) 72) (.cells (Array.replicate n (.int .i64 0)) 3) (.cells #[.slice p n cap, .slice (some ⟨wr.heap.size + 1, 0, none⟩) n n, .slice (some ⟨wr.heap.size, 0, none⟩) n n] 88)
          exact ⟨_, _, _, rfl, tat_made a3 a2 a1 (by omega) (by omega) (by omega) a4⟩
      case rest =>
        obtain ⟨tb, wb, bb, rfl, hT⟩ := hcut
        have HT := Lib.hid hT
        obtain ⟨w4, hw4⟩ : ∃ w4 : World, w4 = wr := ⟨_, rfl⟩
        have hT1 : Tie1 on A 0 (List.replicate n 0) (List.replicate n []) := by rw [HNA.out]; exact Tie1.start on A
        have HT1 := Lib.hid hT1
        have HFO := Lib.hid (show OfTo on A A.length 0 F from by have := HF.out; rw [HGE.out, HNA.out] at this; exact this)
        have hbool := mk_bools n (by omega)
        subst hw4
        have hb24 : Below w.heap.size w w4 := HB2.out.trans (HBEL.out.mono HB2.out.size)
        have HB24 := Lib.hid hb24
        have HRO := Lib.hid (HROWS.out.below hb24)
        clear hT hT1 hmk1 hmk2 hb24
        go_wp2_with fail
        go_loopw [55] (fun v55 wr => ∃ (g : Nat) (W : List Nat) (vs : Array Value) (B : List (List Nat)), g ≤ n ∧ v55 = .int .i64 g ∧ TAt w4 (.slice p n cap) tb wb bb n wr (castL W) vs B ∧ Tie1 on A g W B) (fun v _ => n - (intOf v).toNat)
        case atStart => exact ⟨0, _, _, _, by omega, rfl, HT.out, HT1.out⟩
        case round =>
          obtain ⟨g, W, vs, B, hg, rfl, hT, hT1⟩ := hrel
          have HT := Lib.hid hT
          have HT1 := Lib.hid hT1
          clear hT hT1
          by_cases hlt3 : g < n
          · obtain ⟨ab, rfl, hra, hab⟩ := HAP.out (by rw [← HNA.out]; omega)
            have hrow : A[g]? = some (A[g]'(by rw [← HNA.out]; exact hlt3)) := List.getElem?_eq_getElem (by rw [← HNA.out]; exact hlt3)
            generalize (A[g]'(by rw [← HNA.out]; exact hlt3)) = row at hrow
            obtain ⟨pr, capr, hcr4, hcapr, hpr⟩ := (hra.below HBEL.out).row hrow
            have hcr := (HT.out.bel.cell (World.block_lt_of_cell? _ _ hcr4)).trans hcr4
            have hrl1 := HS.out.row_len g
            rw [hrow] at hrl1
            simp only [Option.getD_some] at hrl1
            have hg0 : (0 : Int) ≤ (g : Int) := Int.natCast_nonneg _
            have hg1 : (g : Int) < (n : Int) := by omega
            have HROW := Lib.hid hrow
            have HPR := Lib.hid hpr
            have hkl := HT.out.bel.size
            clear hrow hra hpr hcr4
            go_wp2_with ((with_reducible show wpList _ _ _ (Oper.mk (some 65) _ _ _ _ _ :: _) _ _); refine stays ?_)
            refine Stays.go ?_
            have a1 := heap_alloc_new wr (.cells (Array.replicate n (.bool false)) 4)
            have hT2 := HT.out.fresh ((Below.refl _ _).alloc (Nat.le_refl _) (.cells (Array.replicate n (.bool false)) 4))
            have hT3 := hT2.other (o := g) (x := .bool true) a1 (by decide) (by decide) (by decide) hkl
            have a2 := heap_setCell_same a1 g (.bool true)
            have hcl := hT2.bel.cell (p := ⟨ab, g, none⟩)
            generalize (wr.alloc (.cells (Array.replicate n (.bool false)) 4)) = w5 at a1 a2 hT2 hT3 ⊢
            generalize wr.heap.size = kb at *
            have ck : w5.cell? ⟨kb, g, none⟩ = some (.bool false) := by rw [cell_of_heap a1]; simp [hlt3]
            have fk : w5.frozen? ⟨kb, g, none⟩ = false := free_of_heap a1 g
            have hset : (Array.replicate n (Value.bool false)).setIfInBounds g (.bool true) = boolCells ((List.replicate n false).set g true) := by
              apply Array.ext'
              simp [boolCells]
            rw [hset] at a2
            have hin2 := Lib.hid (show Tie2 on A g 0 0 W B ((List.replicate n false).set g true) from by have := HT1.out.in2 (g := g) (by rw [← HNA.out]; exact hlt3); rw [← HNA.out] at this; exact this)
            have HA2 := Lib.hid (And.intro a2 hT3)
            clear a1 hT2 hset hcl hcr
            go_wp2_with fail
            generalize w5.setCell ⟨kb, g, none⟩ (.bool true) = w6 at a2 hT3 ⊢
            have HIN := Lib.hid (And.intro a2 (And.intro hT3 hin2.out))
            clear a2 hT3 HA2 hin2 ck fk HT HT1
            go_loopw [68] (fun v68 wi => ∃ (q : Nat) (W : List Nat) (vs : Array Value) (B : List (List Nat)) (H : List Bool), q ≤ row.length ∧ v68 = .int .i64 q ∧ TAt w4 (.slice (some ⟨ab, 0, none⟩) n cap) tb wb bb n wi (castL W) vs B ∧
              wi.heap[kb]? = some (.cells (boolCells H) 4 (0, 0)) ∧ Tie2 on A g q 0 W B H) (fun v _ => row.length - (intOf v).toNat)
            case atStart => exact ⟨0, _, _, _, _, by omega, rfl, HIN.out.2.1, HIN.out.1, HIN.out.2.2⟩
            case round =>
              obtain ⟨q, W, vs, B, H, hq, rfl, hT, hH, hT2⟩ := hrel
              have HT := Lib.hid hT
              have HH := Lib.hid hH
              have HT2 := Lib.hid hT2
              clear hT hH hT2 HIN
              by_cases hqlt : q < row.length
              · obtain ⟨b, rfl, hcb⟩ := HPR.out (by omega)
                have hvq : row[q]? = some row[q] := List.getElem?_eq_getElem hqlt
                generalize row[q] = v at hvq
                have hcb4 := hcb q v hvq
                have hvc := (HT.out.bel.cell (World.block_lt_of_cell? _ _ hcb4)).trans hcb4
                have hvl : v < on.length := (HS.out.all v).2 ⟨row, List.mem_of_getElem? HROW.out, List.mem_of_getElem? hvq⟩
                have HVQ := Lib.hid (show (A[g]?.getD [])[q]? = some v by rw [HROW.out]; exact hvq)
                have horow : on[v]? = some on[v] := List.getElem?_eq_getElem hvl
                have hol : on[v].length ≤ 7000 := HRL.out _ (List.getElem_mem hvl)
                have horl : ∀ y ∈ on[v], y < on.length := HON.out _ (List.getElem_mem hvl)
                generalize on[v] = orow at horow hol horl
                obtain ⟨po, capo, hco4, hcapo, hpo⟩ := HRO.out.row horow
                have hco := (HT.out.bel.cell (World.block_lt_of_cell? _ _ hco4)).trans hco4
                have hv0 : (0 : Int) ≤ (v : Int) := Int.natCast_nonneg _
                have hv1 : (v : Int) < (on.length : Int) := by omega
                have HOROW := Lib.hid horow
                have HORL := Lib.hid horl
                have HPO := Lib.hid hpo
                clear hcb hvq hcb4 horow horl hco4 hpo
                go_wp2_with fail
                go_loopw [77] (fun v77 wj => ∃ (r : Nat) (W : List Nat) (vs : Array Value) (B : List (List Nat)) (H : List Bool), r ≤ orow.length ∧ v77 = .int .i64 r ∧ TAt w4 (.slice (some ⟨ab, 0, none⟩) n cap) tb wb bb n wj (castL W) vs B ∧
                  wj.heap[kb]? = some (.cells (boolCells H) 4 (0, 0)) ∧ Tie2 on A g q r W B H) (fun v _ => orow.length - (intOf v).toNat)
                case atStart => exact ⟨0, _, _, _, _, by omega, rfl, HT.out, HH.out, HT2.out⟩
                case round =>
                  obtain ⟨r, W, vs, B, H, hr, rfl, hT, hH, hT2⟩ := hrel
                  have HT' := Lib.hid hT
                  have HH' := Lib.hid hH
                  have HT2' := Lib.hid hT2
                  clear hT hH hT2 hco hvc
                  by_cases hrlt : r < orow.length
                  · obtain ⟨bo, rfl, hcb⟩ := HPO.out (by omega)
                    have hur : orow[r]? = some orow[r] := List.getElem?_eq_getElem hrlt
                    generalize orow[r] = u at hur
                    have hcb4 := hcb r u hur
                    have huc := (HT'.out.bel.cell (World.block_lt_of_cell? _ _ hcb4)).trans hcb4
                    have hul : u < on.length := HORL.out u (List.mem_of_getElem? hur)
                    have HUR := Lib.hid (show (on[v]?.getD [])[r]? = some u by rw [HOROW.out]; exact hur)
                    obtain ⟨k, a, hka, hua, hkl3, hFk⟩ := HFO.out.get HS.out hul
                    have hkn : k < n := by rw [HNA.out]; exact hkl3
                    have hFl := (List.getElem?_eq_some_iff.1 hFk).1
                    have hfc : wr.cell? ⟨w2.heap.size, u, none⟩ = some (.int .i64 (k : Int)) := by
                      rw [HT'.out.bel.cell (lt_of_heap HFB.out), cell_of_heap HFB.out, natCells_at F u hFl, hFk]; rfl
                    have hHl : H.length = n := by rw [HT2'.out.hl, HNA.out]
                    have hHk : H[k]? = some (H[k]'(by omega)) := List.getElem?_eq_getElem (by omega)
                    generalize (H[k]'(by omega)) = hk at hHk
                    have hhc : wr.cell? ⟨kb, k, none⟩ = some (.bool hk) := by rw [cell_of_heap HH'.out]; simp [boolCells, hHk]
                    have hu0 : (0 : Int) ≤ (u : Int) := Int.natCast_nonneg _
                    have hu1 : (u : Int) < (on.length : Int) := by omega
                    have hk0 : (0 : Int) ≤ (k : Int) := Int.natCast_nonneg _
                    have hk1 : (k : Int) < (n : Int) := by omega
                    have HKA := Lib.hid hka
                    have HUA := Lib.hid hua
                    have HHK := Lib.hid hHk
                    have HHL := Lib.hid hHl
                    clear hcb hur hcb4 hka hFk hFl hHk hHl
                    cases hk with
                    | true =>
                      go_wp2_with fail
                      go_roundw
                      case rel => exact ⟨r + 1, W, vs, B, H, by omega, by go_num, HT'.out, HH'.out, HT2'.out.old HS.out HVQ.out HUR.out HKA.out HUA.out HHK.out⟩
                      case measure => simp [intOf]; omega
                    | false =>
                      have hWl : g < W.length := by rw [HT2'.out.wl, ← HNA.out]; exact hlt3
                      have hwg := HT2'.out.wg
                      rw [List.getElem?_eq_getElem hWl] at hwg
                      simp only [Option.getD_some] at hwg
                      have hcnt : H.count true ≤ n := by rw [← HHL.out]; exact List.count_le_length
                      have hwc : wr.cell? ⟨wb, g, none⟩ = some (.int .i64 (W[g] : Int)) := by
                        have := HT'.out.wcell g (by rw [castL_len]; exact hWl)
                        rw [castL_get W g hWl] at this
                        exact this
                      obtain ⟨x, hx⟩ : ∃ x, W[g] = x := ⟨_, rfl⟩
                      rw [hx] at hwg hwc
                      have HX := Lib.hid hx
                      have hx0 : (0 : Int) ≤ (x : Int) := Int.natCast_nonneg _
                      have hx1 : (x : Int) ≤ 1000 := by omega
                      have hfz : wr.frozen? ⟨kb, k, none⟩ = false := free_of_heap HH'.out k
                      clear hx hwg hcnt
                      go_wp2_with ((with_reducible show wpList _ _ _ (Oper.mk (some 96) _ _ _ _ _ :: _) _ _); refine stays ?_)
                      refine Stays.go ?_
                      have hT7 := HT'.out.other (o := k) (x := .bool true) HH'.out (by decide) (by decide) (by decide) hkl
                      have hH7 := heap_setCell_same HH'.out k (.bool true)
                      have hbs : (boolCells H).setIfInBounds k (.bool true) = boolCells (H.set k true) := by simp [boolCells]
                      rw [hbs] at hH7
                      have hwc7 : (wr.setCell ⟨kb, k, none⟩ (.bool true)).cell? ⟨wb, g, none⟩ = some (.int .i64 (x : Int)) := cell_setCell_ne hwc (cells_ne HT'.out.wts HH'.out (by decide))
                      generalize wr.setCell ⟨kb, k, none⟩ (.bool true) = w7 at hT7 hH7 hwc7 ⊢
                      have hf7 : w7.frozen? ⟨wb, g, none⟩ = false := free_of_heap hT7.wts g
                      have ht1 : w7.cell? ⟨tb, 1, none⟩ = some (.slice (some ⟨wb, 0, none⟩) n n) := hT7.tcell 1
                      have HT7 := Lib.hid hT7
                      have HH7 := Lib.hid hH7
                      clear hT7 hH7 hbs hwc hfz hhc hfc huc
                      go_wp2_with fail
                      have hT8 := HT7.out.setW g ((x : Int) + 1)
                      have hcs : (castL W).set g ((x : Int) + 1) = castL (W.set g (W[g] + 1)) := by
                        rw [← castL_set, HX.out]
                        rfl
                      rw [hcs] at hT8
                      have hH8 : (w7.setCell ⟨wb, g, none⟩ (.int .i64 ((x : Int) + 1))).heap[kb]? = some (.cells (boolCells (H.set k true)) 4 (0, 0)) := by
                        rw [Below.heap_setCell _ _ _ _ (cells_ne HH7.out HT7.out.wts (by decide))]; exact HH7.out
                      generalize w7.setCell ⟨wb, g, none⟩ (.int .i64 ((x : Int) + 1)) = w8 at hT8 hH8 ⊢
                      have hBl : k < B.length := by rw [HT2'.out.bl, ← HNA.out]; exact hkn
                      obtain ⟨cur, hcv, hcown, hcex, hcc⟩ := hT8.grid.row k hBl
                      have hln : B[k].length ≤ 2000000 := by
                        have := HT2'.out.b k (by rw [← HNA.out]; exact hkn)
                        rw [List.getElem?_eq_getElem hBl, HHK.out] at this
                        simp only [Option.getD_some] at this
                        rw [this]
                        have h5 : ((List.range g).filter fun j => hb on A j k).length ≤ g := Nat.le_trans (List.length_filter_le _ _) (by simp)
                        simp
                        omega
                      have ht2 : w8.cell? ⟨tb, 2, none⟩ = some (.slice (some ⟨bb, 0, none⟩) n n) := hT8.tcell 2
                      have hsz8 := hT8.bel.size
                      have HC8 := Lib.hid (And.intro hcv (And.intro hcown hcex))
                      have HT8 := Lib.hid hT8
                      have HH8 := Lib.hid hH8
                      have ltb := lt_of_heap hT8.tied
                      have lbb := lt_of_heap hT8.grid.1
                      obtain ⟨i0, hi0, hz0, hz1, hz2⟩ := info_parts intInfo
                      clear hcs hwc7 hf7 ht1 hcv hcown hcex hT8 hH8
                      refine wp_region_F (fun j => Nat.blt j 15) (fun w' => w'.cell? ⟨tb, 2, none⟩ = some (.slice (some ⟨bb, 0, none⟩) n n) ∧ w'.cell? ⟨bb, k, none⟩ = some cur) (by rfl) ?_
                      have HSS : (fun w' : World => w'.cell? ⟨tb, 2, none⟩ = some (.slice (some ⟨bb, 0, none⟩) n n) ∧ w'.cell? ⟨bb, k, none⟩ = some cur) (World.drew w8) := ⟨ht2, hcc⟩
                      change wpAnyF _ _ _ _ _ _ _ _ _ (World.drew w8)
                      refine wpAnyF_take (i := 0) (oi := ⟨_, _, _, _, _, _⟩) (v := ?_) rfl (by kernel_rfl) (fun _ _ _ h => h) (Or.inl ⟨by rfl, ?_⟩) HSS ?_
                      rotate_left
                      · intro wS hSw; (try dsimp only at hSw); go_simp; (try with_reducible rfl)
                      simp only [Act.put, List.setIfInBounds_toArray, List.set_cons_zero, List.set_cons_succ]
                      refine wpAnyF_take (i := 1) (oi := ⟨_, _, _, _, _, _⟩) (v := ?_) rfl (by kernel_rfl) (fun _ _ _ h => h) (Or.inl ⟨by rfl, ?_⟩) HSS ?_
                      rotate_left
                      · intro wS hSw; (try dsimp only at hSw); go_simp; (try with_reducible rfl)
                      simp only [Act.put, List.setIfInBounds_toArray, List.set_cons_zero, List.set_cons_succ]
                      refine wpAnyF_take (i := 2) (oi := ⟨_, _, _, _, _, _⟩) (v := ?_) rfl (by kernel_rfl) (fun _ _ _ h => h) (Or.inl ⟨by rfl, ?_⟩) HSS ?_
                      rotate_left
                      · intro wS hSw; (try dsimp only at hSw); go_simp; (try with_reducible rfl)
                      simp only [Act.put, List.setIfInBounds_toArray, List.set_cons_zero, List.set_cons_succ]
                      refine wpAnyF_take (i := 3) (oi := ⟨_, _, _, _, _, _⟩) (v := ?_) rfl (by kernel_rfl) (fun _ _ _ h => h) (Or.inl ⟨by rfl, ?_⟩) HSS ?_
                      rotate_left
                      · intro wS hSw; (try dsimp only at hSw); go_simp; (try with_reducible rfl)
                      simp only [Act.put, List.setIfInBounds_toArray, List.set_cons_zero, List.set_cons_succ]
                      refine wpAnyF_take (i := 4) (oi := ⟨_, _, _, _, _, _⟩) (v := ?_) rfl (by kernel_rfl) (fun _ _ _ h => h) (Or.inl ⟨by rfl, ?_⟩) HSS ?_
                      rotate_left
                      · intro wS hSw; (try dsimp only at hSw); go_simp; (try with_reducible rfl)
                      simp only [Act.put, List.setIfInBounds_toArray, List.set_cons_zero, List.set_cons_succ]
                      refine wpAnyF_take (i := 5) (oi := ⟨_, _, _, _, _, _⟩) (v := ?_) rfl (by kernel_rfl) (fun _ _ _ h => h) (Or.inl ⟨by rfl, ?_⟩) HSS ?_
                      rotate_left
                      · intro wS hSw; (try dsimp only at hSw); go_simp; (try with_reducible rfl)
                      simp only [Act.put, List.setIfInBounds_toArray, List.set_cons_zero, List.set_cons_succ]
                      refine wpAnyF_take (i := 6) (oi := ⟨_, _, _, _, _, _⟩) (v := ?_) rfl (by kernel_rfl) (fun _ _ _ h => h) (Or.inl ⟨by rfl, ?_⟩) HSS ?_
                      rotate_left
                      · intro wS hSw; (try dsimp only at hSw); go_simp; (try with_reducible rfl)
                      simp only [Act.put, List.setIfInBounds_toArray, List.set_cons_zero, List.set_cons_succ]
                      refine wpAnyF_take (i := 7) (oi := ⟨_, _, _, _, _, _⟩) (v := ?_) rfl (by kernel_rfl) (fun _ _ _ h => h) (Or.inl ⟨by rfl, ?_⟩) HSS ?_
                      rotate_left
                      · intro wS hSw; (try dsimp only at hSw); go_simp; (try with_reducible rfl)
                      simp only [Act.put, List.setIfInBounds_toArray, List.set_cons_zero, List.set_cons_succ]
                      refine wpAnyF_take (i := 8) (oi := ⟨_, _, _, _, _, _⟩) (v := ?_) rfl (by kernel_rfl) (fun _ _ _ h => h) (Or.inl ⟨by rfl, ?_⟩) HSS ?_
                      rotate_left
                      · intro wS hSw; (try dsimp only at hSw); go_simp; (try with_reducible rfl)
                      simp only [Act.put, List.setIfInBounds_toArray, List.set_cons_zero, List.set_cons_succ]
                      refine wpAnyF_take (i := 9) (oi := ⟨_, _, _, _, _, _⟩) (v := ?_) rfl (by kernel_rfl) (fun _ _ _ h => h) (Or.inl ⟨by rfl, ?_⟩) HSS ?_
                      rotate_left
                      · intro wS hSw; (try dsimp only at hSw); go_simp; (try with_reducible rfl)
                      simp only [Act.put, List.setIfInBounds_toArray, List.set_cons_zero, List.set_cons_succ]
                      refine wpAnyF_take (i := 10) (oi := ⟨_, _, _, _, _, _⟩) (v := ?_) rfl (by kernel_rfl) (fun _ _ _ h => h) (Or.inl ⟨by rfl, ?_⟩) HSS ?_
                      rotate_left
                      · intro wS hSw; (try dsimp only at hSw); go_simp; (try with_reducible rfl)
                      simp only [Act.put, List.setIfInBounds_toArray, List.set_cons_zero, List.set_cons_succ]
                      refine wpAnyF_take (i := 11) (oi := ⟨_, _, _, _, _, _⟩) (v := ?_) rfl (by kernel_rfl) (fun _ _ _ h => h) (Or.inl ⟨by rfl, ?_⟩) HSS ?_
                      rotate_left
                      · intro wS hSw; (try dsimp only at hSw); go_simp; (try with_reducible rfl)
                      simp only [Act.put, List.setIfInBounds_toArray, List.set_cons_zero, List.set_cons_succ]
                      refine wpAnyF_take (i := 12) (oi := ⟨_, _, _, _, _, _⟩) (v := ?_) rfl (by kernel_rfl) (fun _ _ _ h => h) (Or.inl ⟨by rfl, ?_⟩) HSS ?_
                      rotate_left
                      · intro wS hSw; (try dsimp only at hSw); go_simp; (try with_reducible rfl)
                      simp only [Act.put, List.setIfInBounds_toArray, List.set_cons_zero, List.set_cons_succ]
                      refine wpAnyF_step (i := 13) (o := ⟨_, _, _, _, _, _⟩) rfl (by kernel_rfl) ?_
                      go_wp2
                      refine onEnd_normal ⟨⟨?_, ?_⟩, ?_⟩
                      · rw [World.cell?_drew, World.cell?_alloc_lt _ _ _ ltb]; exact ht2
                      · rw [World.cell?_drew, World.cell?_alloc_lt _ _ _ lbb]; exact hcc
                      refine wpAnyF_step (i := 14) (o := ⟨_, _, _, _, _, _⟩) rfl (by kernel_rfl) ?_
                      refine wpList_append_lies _ rfl _ _ _ rfl w4.heap.size 3 i0 _ 1 8 Try.underlying72 hi0 hz0 hz1 hz2 rfl (by omega) cur B[k].length (intCells B[k]) (by rfl) (HC8.out.2.1.alloc _).drew ⟨w8.heap.size, 0, none⟩ 1 1 [.int .i64 (g : Int)] (by rfl) (by rfl) (World.news_of_block (cs := #[.int .i64 (g : Int)]) (t := 3) (fr := (0, 0)) (heap_alloc_new w8 _)) (by simp [Value.oneCell']) (by omega) (by unfold maxLen; omega) (by omega) (by simp; omega) (w8.heap.size + 1) (by simp) ?_
                      intro gg cap9 w9 hown9 hgrow9 hat9 hlt9
                      have hm9 : Mod (fun j => cur.ownBlock = some j) w8 w9 := Mod.grown (Mod.drew (Mod.alloc (Mod.refl _ _) _)) hgrow9 (fun _ h _ => h)
                      have hx9 := hm9.heap HT8.out.grid.1 (ownsRow_ne HC8.out.2.1 HT8.out.grid.1 (by decide))
                      have y1 : w9.cell? ⟨tb, 2, none⟩ = some (.slice (some ⟨bb, 0, none⟩) n n) := by rw [hm9.cell ltb (ownsRow_ne HC8.out.2.1 HT8.out.tied (by decide))]; exact ht2
                      have y2 : w9.cell? ⟨bb, k, none⟩ = some cur := by rw [cell_of_heap hx9]; exact HC8.out.1
                      have y3 : w9.frozen? ⟨bb, k, none⟩ = false := free_of_heap hx9 k
                      have HO9 := Lib.hid hown9
                      have HM9 := Lib.hid hm9
                      have HAT9 := Lib.hid hat9
                      clear hown9 hgrow9 hm9 hx9 hat9
                      refine onEnd_normal ⟨fun _ => ⟨y1, y2⟩, ?_⟩
                      refine wpAnyF_chain [15,16] [⟨_, _, _, _, _, _⟩, ⟨_, _, _, _, _, _⟩] rfl (by kernel_rfl) ?_
                      go_wp2_with fail
                      go_roundw
                      case rel =>
                        obtain ⟨hTF, hMF⟩ := HT8.out.push hBl HC8.out.1 HO9.out HM9.out (HAT9.out.imp id (fun h => by omega))
                        refine ⟨r + 1, _, _, _, _, by omega, by go_num, hTF, hMF.heap HH8.out ?_, HT2'.out.new HS.out (by rw [← HNA.out]; exact hlt3) HVQ.out HUR.out HKA.out HUA.out HHK.out hBl hWl⟩
                        rintro (h | h)
                        · exact cells_ne HH8.out HT8.out.grid.1 (by decide) h
                        · exact ownsRow_ne HC8.out.2.1 HH8.out (by decide) h
                      case measure => simp [intOf]; omega
                  · have hre : orow.length ≤ r := by omega
                    have HRE := Lib.hid hre
                    clear hre
                    go_wp2_with fail
                    go_roundw
                    case rel => exact ⟨q + 1, W, vs, B, H, by omega, by go_num, HT'.out, HH'.out, HT2'.out.past HVQ.out (by rw [HOROW.out]; exact HRE.out)⟩
                    case measure => simp [intOf]; omega
              · have hqe : row.length ≤ q := by omega
                have HQE := Lib.hid hqe
                clear hqe
                go_wp2_with fail
                go_roundw
                case rel => exact ⟨g + 1, W, vs, B, by omega, by go_num, HT.out, HT2.out.out (by rw [← HNA.out]; exact hlt3) (by rw [HROW.out]; exact HQE.out)⟩
                case measure => simp [intOf]; omega
          · have hge : g = n := by omega
            have HGE3 := Lib.hid hge
            clear hge
            go_wp2_with fail
            go_ret
            have h1 := HT1.out
            have h2 := HT.out
            rw [HGE3.out, HNA.out] at h1
            rw [HNA.out] at h2
            exact ⟨tb, wb, bb, _, A, W, B, vs, w4, rfl, HS.out, ⟨p, cap, rfl, by rw [← HNA.out]; exact hcap', fun h0 => by
              obtain ⟨ab, h3, h4, h5⟩ := HAP.out h0
              exact ⟨ab, h3, h4.below HBEL.out, Nat.lt_of_lt_of_le h5 HBEL.out.size⟩⟩, h1, h2, HB24.out⟩
end Go.Proofs.Ytibnnhdpaccpfaa
