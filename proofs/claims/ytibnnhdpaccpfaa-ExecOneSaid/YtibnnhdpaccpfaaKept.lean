import Derived.Test.YtibnnhdpaccpfaaKeptPure
namespace Go.Proofs.Ytibnnhdpaccpfaa
open Go.RowKit

theorem heap_new_at {w : World} {n : Nat} (h : w.heap.size = n) (o : Obj) : (w.alloc o).heap[n]? = some o := by subst h; exact heap_alloc_new w o
theorem own_form {w : World} {base n : Nat} {v : Value} {T : List Nat} (h : w.ownsRow base 3 1 v n (intCells T)) (_hn : T.length = n) : ∃ p cap, v = .slice p n cap ∧ n ≤ cap ∧ (0 < n → ∃ b, p = some ⟨b, 0, none⟩ ∧ ∀ q, (hq : q < T.length) → w.cell? ⟨b, q, none⟩ = some (.int .i64 (T[q] : Int))) := by
  obtain ⟨p, cap, hv, hc, hp⟩ := (Sl0.of_own h (by omega)).form
  refine ⟨p, cap, hv, hc, fun h => ?_⟩
  obtain ⟨b, hb, hcs, _⟩ := hp h
  exact ⟨b, hb, fun q hq => hcs.int q hq⟩
theorem fold_inst10 (a b c d e f g h i j : Value) : List.foldl (fun (cs : Array Value) (x : Value × Nat) => cs.setIfInBounds x.snd x.fst) instZero [a, b, c, d, e, f, g, h, i, j].zipIdx = #[a, b, c, d, e, f, g, h, i, j] := by
  kernel_rfl
theorem fold_inst (cl : List Value) (h : cl.length = 10) : List.foldl (fun (cs : Array Value) (x : Value × Nat) => cs.setIfInBounds x.snd x.fst) instZero cl.zipIdx = cl.toArray := by
  match cl, h with
  | [a, b, c, d, e, f, g, h, i, j], _ => exact fold_inst10 a b c d e f g h i j
theorem cell_bool {w : World} {b : Nat} {L : List Bool} {fr : Nat × Nat} (h : w.heap[b]? = some (.cells (L.map Value.bool).toArray 4 fr)) (i : Nat) : w.cell? ⟨b, i, none⟩ = (L[i]?).map Value.bool := by
  rw [cell_of_heap h]; simp
theorem weave_any (lv : Value) (l : List Inst) (w : World) (hl : Sl0 w lv l.length (instsCells l)) (hlen : l.length ≤ 1000000) (hnd : NodupDots l) : Calls Try.prog 30 #[lv] w (WovePost l w) := by
  rcases hl with ⟨rfl, h, _⟩ | ⟨b, cap, rfl, hn, hc, hb⟩
  · have : l = [] := List.length_eq_zero_iff.1 h
    subst this
    exact weave_nil w
  · exact weave_some b 0 cap l w hc (fun _ => hb) hlen hnd

theorem Grid.grown {w w4 : World} {ob base : Nat} {ex : Option Nat} {vs : Array Value} {rows : List (List Nat)} {cur z : Value} {n : Nat} {xs : List Value} (h : Grid w ob base ex vs rows) (ho : w.ownsRow base 3 1 cur n xs) (hg : (w.alloc (.cells #[z] 3)).grownBy w4 cur.ownBlock) :
    w4.heap[ob]? = some (.cells vs 72 (0, 0)) := by
  have := hg.block ob (by have := lt_of_heap h.1; simp; omega) (Ne.symm (ownsRow_ne ho h.1 (by decide)))
  rw [this]
  exact heap_alloc_keeps h.1 _

theorem WebAt.read {w : World} {wb : Nat} {s : List Inst} (h : WebAt w wb s) (i : Nat) (hi : i < s.length) : ∃ lb cap, w.cell? ⟨wb, 0, none⟩ = some (.slice (some ⟨lb, 0, none⟩) s.length cap) ∧ CellsAt w lb 0 (instsCells s) ∧ lb < w.heap.size ∧ wb < w.heap.size := by
  obtain ⟨lv, mb, es, clk, hwb, hsl, _, _⟩ := h
  have hl := lt_of_heap hwb
  have hc : w.cell? ⟨wb, 0, none⟩ = some lv := by rw [cell_of_heap hwb]; rfl
  rcases hsl with ⟨rfl, hn, _⟩ | ⟨b, cap, rfl, _, hcs, hb⟩
  · omega
  · exact ⟨b, cap, hc, hcs, hb, hl⟩

set_option maxRecDepth 100000 in
set_option maxHeartbeats 1000000 in
theorem there_each (bw bf wb i g : Nat) (cb : Array Value) (P : Dot → Bool) (s : List Inst) (x : Inst) (hi : i < s.length) (hx : s[i] = x) (w : World) (eg : ∀ args w, (callFunc g args).run Try.prog w = .ok (.enter g args) w)
    (hbw : w.cell? ⟨bw, 0, none⟩ = some (.pointer (some ⟨wb, 0, none⟩))) (hweb : WebAt w wb s) (hnd : NodupDots s) (hsm : x.small) (hlen : s.length ≤ 1000000) (hbf : w.cell? ⟨bf, 0, none⟩ = some (.func (.func g) #[] cb)) (ht : Tells w g cb P) :
    Calls Try.prog 39 #[.pointer (some ⟨wb, 0, none⟩), .int .i64 i, .func (.func 38) #[] #[.pointer (some ⟨bw, 0, none⟩), .pointer (some ⟨bf, 0, none⟩)]] w fun e w' =>
      e = .returned (.bool (x.depDots.all (thereIn s P))) ∧ Below w.heap.size w w' := by
  obtain ⟨lb, cap, hc0, hcs, hlb, hwbl⟩ := hweb.read i hi
  refine (each_any wb lb s.length cap i x hi hlen 38 _ (thereIn s P) (fun _ W => Below w.heap.size w W) (fun r hr => by have := hsm r hr; omega) ?_ ?_ ?_ ?_ w (Below.refl _ _)).mono ?_
  · intro p W hb
    refine ⟨by rw [hb.cell hwbl]; exact hc0, ?_⟩
    have := (hcs.inst i hi).below hlb hb
    rwa [Nat.zero_add, hx] at this
  · intro p W W' hb hb'
    exact hb.trans (hb'.mono hb.size)
  · intro args w; rfl
  · intro p d W hp hb
    obtain ⟨hd0, hd1, _⟩ := depDots_range (hp.subset (by simp : d ∈ p ++ [d]))
    refine (there_any bw bf wb g cb P s d hd0 hd1 W eg ?_ (hweb.below hb) hnd ?_ (ht.below hb)).mono ?_
    · rw [hb.cell (World.block_lt_of_cell? _ _ hbw)]; exact hbw
    · rw [hb.cell (World.block_lt_of_cell? _ _ hbf)]; exact hbf
    · rintro e w' ⟨rfl, hb'⟩
      exact ⟨rfl, hb.trans (hb'.mono hb.size)⟩
  · rintro e w' ⟨rfl, p, hb, _⟩
    exact ⟨rfl, hb⟩

theorem RowsAt.row {w : World} {ob : Nat} {s : List Inst} (h : RowsAt w ob (onOf s)) (i : Nat) (hi : i < s.length) : ∃ p cap, w.cell? ⟨ob, i, none⟩ = some (.slice p (onAt s i).length cap) ∧ (onAt s i).length ≤ cap ∧
    (0 < (onAt s i).length → ∃ b, p = some ⟨b, 0, none⟩ ∧ CellsAt w b 0 (intCells (onAt s i)) ∧ b < w.heap.size) ∧ ob < w.heap.size := by
  obtain ⟨vs, h1, h2, h3, _⟩ := h
  have hi' : i < (onOf s).length := by rw [onOf_len]; exact hi
  obtain ⟨v, hv, hs, _⟩ := h3 i hi' hi'
  obtain ⟨p, cap, rfl, hc, hp⟩ := hs.form
  have he : (onOf s)[i] = onAt s i := by unfold onAt; rw [List.getElem?_eq_getElem hi']; rfl
  rw [he] at hv hc hp
  exact ⟨p, cap, by rw [cell_of_heap h1]; exact hv, hc, hp, lt_of_heap h1⟩

theorem ownsRow_snoc {w : World} {base gg cap n : Nat} {T : List Nat} {i : Nat} (h : w.ownsRow base 3 1 (.slice (some ⟨gg, 0, none⟩) (n + 1) cap) (n + 1) (intCells T ++ [.int .i64 (i : Int)])) (hn : T.length = n) :
    w.ownsRow base 3 1 (.slice (some ⟨gg, 0, none⟩) (n + 1) cap) (T ++ [i]).length (intCells (T ++ [i])) := by
  have hd : intCells (T ++ [i]) = intCells T ++ [.int .i64 (i : Int)] := by simp [intCells]
  rw [hd, List.length_append, hn]
  exact h

def boolCells (l : List Bool) : Array Value := (l.map Value.bool).toArray

def KeptPost (P : Dot → Bool) (l : List Inst) (w : World) (e : Ending) (w' : World) : Prop :=
  ∃ v s L, e = .returned v ∧ IsSorted l s ∧ KeptSet s P L ∧ Sl0 w' v (keepBy s L s.length).length (instsCells (keepBy s L s.length)) ∧ Below w.heap.size w w'

set_option maxRecDepth 100000 in
set_option maxHeartbeats 4000000 in
theorem kept_any (lv : Value) (g : Nat) (cb : Array Value) (P : Dot → Bool) (l : List Inst) (w : World) (eg : ∀ args w, (callFunc g args).run Try.prog w = .ok (.enter g args) w) (hl : Sl0 w lv l.length (instsCells l)) (hnd : NodupDots l)
    (hsm : ∀ x ∈ l, x.small) (hlen : l.length ≤ 1000) (ht : Tells w g cb P) :
    Calls Try.prog 31 #[lv, .func (.func g) #[] cb] w (KeptPost P l w) := by
  obtain ⟨p0, cap0, rfl, hcap0, _⟩ := hl.form
  have HL := Lib.hid hl
  have HND := Lib.hid hnd
  have HSM := Lib.hid hsm
  have HT := Lib.hid ht
  have hmk1 := mk_intss l.length (by omega)
  have hmk2 := mk_bools l.length (by omega)
  have hmf : ∀ (fn : Fn) (first cap : Array Value) (w : World), (Instr.makeFunc fn first cap).run Try.prog w = .ok (.func fn first cap) w := fun _ _ _ _ => rfl
  clear hl hnd hsm ht
  go_enter Try.func31, Try.ntmps31
  go_wp2_with fail
  refine (weave_any _ l _ (HL.out.below ((Below.refl _ _).alloc (Nat.le_refl _) _)) (by omega) HND.out).mono ?_
  rintro e w1 ⟨wb, s, rfl, hs, hweb, hwb, hb1⟩
  have hsl : s.length = l.length := hs.1.length_eq
  have hnds : NodupDots s := HND.out.perm hs.1
  have hsms : ∀ x ∈ s, x.small := fun x hx => HSM.out x (hs.1.subset hx)
  have HS := Lib.hid hs
  clear hs
  rw [← hsl] at hmk1 hmk2 hlen
  have hmk1' := hmk1
  rw [hsl] at hmk1 hmk2
  go_wp2_with fail
  refine (on_any wb s _ (hweb.below ((Below.refl _ _).alloc (Nat.le_refl _) _)) hnds hsms (by omega)).mono ?_
  rintro e w2 ⟨ob, rfl, hon, hob, hb2⟩
  obtain ⟨lv1, mb, es, clk, hwb2, hsl2, hmb2, hE2⟩ := hweb
  obtain ⟨p1, cap1, rfl, hcap1, hp1⟩ := hsl2.form
  have hB2 : Below w1.heap.size w1 w2 := ((Below.refl _ _).alloc (Nat.le_refl _) _).trans (hb2.mono (by simp))
  have hsz2 := hB2.size
  have HWEB := Lib.hid (show WebAt w1 wb s from ⟨_, mb, es, clk, hwb2, hsl2, hmb2, hE2⟩)
  have c5 : w2.cell? ⟨w1.heap.size, 0, none⟩ = some (.pointer (some ⟨wb, 0, none⟩)) := by rw [hb2.cell (by simp)]; exact cell_new _ _ _ 0
  have c3 : w2.cell? ⟨w.heap.size, 0, none⟩ = some (.func (.func g) #[] cb) := by rw [hB2.cell (by have := hb1.size; simp at this ⊢; omega), hb1.cell (by simp)]; exact cell_new _ _ _ 0
  have HC3 := Lib.hid c3
  have HC5 := Lib.hid c5
  have HT2 := Lib.hid (HT.out.below (((Below.refl _ _).alloc (Nat.le_refl _) _).trans ((hb1.trans (hB2.mono hb1.size)).mono (by simp))))
  have HWEB2 := Lib.hid (HWEB.out.below hB2)
  have HCW0 := Lib.hid (show w2.cell? ⟨wb, 0, none⟩ = some (.slice p1 l.length cap1) by rw [hB2.cell (lt_of_heap hwb2), cell_of_heap hwb2, ← hsl]; rfl)
  have HB2 := Lib.hid hB2
  have HON := Lib.hid hon
  have HSMS := Lib.hid hsms
  have HNDS := Lib.hid hnds
  have cw := fun (a b : Obj) => cell_alloc (cell_alloc (show w2.cell? ⟨wb, 0, none⟩ = some (.slice p1 s.length cap1) by rw [hB2.cell (lt_of_heap hwb2), cell_of_heap hwb2]; rfl) a) b
  have c5' := fun (a b : Obj) => cell_alloc (cell_alloc c5 a) b
  clear hwb2 hsl2 hmb2 hE2 hb2 hB2 hon hsms hnds hp1 c3 c5
  go_wp2
  have g1 : Grid ((w2.alloc (.cells (Array.replicate l.length (.slice none 0 0)) 72)).alloc (.cells (Array.replicate l.length (.bool false)) 4)) w2.heap.size w2.heap.size none (Array.replicate l.length (.slice none 0 0)) (List.replicate l.length []) :=
    (Grid.made l.length none).frame (S := fun _ => False) ((Mod.refl _ _).alloc _) (fun h => h) (fun _ _ h => h.elim)
  have g2 : ((w2.alloc (.cells (Array.replicate l.length (.slice none 0 0)) 72)).alloc (.cells (Array.replicate l.length (.bool false)) 4)).heap[w2.heap.size + 1]? = some (.cells (boolCells (List.replicate l.length false)) 4 (0, 0)) := by
    rw [heap_new2]; simp [boolCells]
  have g3 : Below w2.heap.size w2 ((w2.alloc (.cells (Array.replicate l.length (.slice none 0 0)) 72)).alloc (.cells (Array.replicate l.length (.bool false)) 4)) := ((Below.refl _ _).alloc (Nat.le_refl _) _).alloc (by simp) _
  generalize ((w2.alloc (.cells (Array.replicate l.length (.slice none 0 0)) 72)).alloc (.cells (Array.replicate l.length (.bool false)) 4)) = w3 at g1 g2 g3 ⊢
  have HG := Lib.hid (And.intro g1 (And.intro g2 g3))
  have HLEN := Lib.hid hlen
  have hll : l.length ≤ 1000 := by omega
  clear g1 g2 g3 cw c5' hmk1 hmk2 hlen
  go_loopw [9, 35] (fun v9 v35 wr => ∃ (i : Nat) (T : List Nat) (vs : Array Value) (R : List (List Nat)) (L : List Bool), i ≤ l.length ∧ v35 = .int .i64 i ∧ Grid wr w2.heap.size w2.heap.size v9.ownBlock vs R ∧ wr.ownsRow w2.heap.size 3 1 v9 T.length (intCells T) ∧
      wr.heap[w2.heap.size + 1]? = some (.cells (boolCells L) 4 (0, 0)) ∧ Kept1 s P i R T L ∧ Below w2.heap.size w2 wr)
    (fun _ v _ => l.length - (intOf v).toNat)
  case atStart =>
    obtain ⟨g1, g2, g3⟩ := HG.out
    refine ⟨0, [], _, _, _, by omega, rfl, g1, ⟨by simp [intCells], .inl ⟨rfl, rfl⟩⟩, g2, ?_, g3⟩
    rw [← hsl]; exact Kept1.start s P
  case round =>
    obtain ⟨i, T, vs, R, L, hi, rfl, hgrid, hT, hkb, hK, hbel⟩ := hrel
    have HGRID := Lib.hid hgrid
    have HTO := Lib.hid hT
    have HKB := Lib.hid hkb
    have HK := Lib.hid hK
    have HBEL := Lib.hid hbel
    clear hgrid hT hkb hK hbel HG
    by_cases hlt : i < l.length
    · obtain ⟨pr, capr, hcr, hcapr, hpr, hobl⟩ := HON.out.row i (by omega)
      have hcr' : wr.cell? ⟨ob, i, none⟩ = _ := (HBEL.out.cell hobl).trans hcr
      have HRL := Lib.hid (onAt_len s HSMS.out i)
      have HPR := Lib.hid hpr
      obtain ⟨nr, hnr⟩ : ∃ nr, (onAt s i).length = nr := ⟨_, rfl⟩
      rw [hnr] at hcr' hcapr
      have HNR := Lib.hid hnr
      have hnr7 : nr ≤ 7000 := by have := HRL.out; omega
      have hi0 : (0 : Int) ≤ (i : Int) := Int.natCast_nonneg _
      have hi1 : (i : Int) < (l.length : Int) := by omega
      clear hcr hpr hobl hnr
      go_wp2
      go_loopw [43] (fun v43 wi => ∃ (q : Nat) (vs : Array Value) (R : List (List Nat)), q ≤ nr ∧ v43 = .int .i64 q ∧ Grid wi w2.heap.size w2.heap.size u9.ownBlock vs R ∧ wi.ownsRow w2.heap.size 3 1 u9 T.length (intCells T) ∧
        wi.heap[w2.heap.size + 1]? = some (.cells (boolCells L) 4 (0, 0)) ∧ Kept2 s i q R ∧ Below w2.heap.size w2 wi)
        (fun v _ => nr - (intOf v).toNat)
      case atStart =>
        exact ⟨0, _, _, by omega, rfl, HGRID.out, HTO.out, HKB.out, HK.out.in2, HBEL.out⟩
      case round =>
        obtain ⟨q, vs, R, hq, rfl, hgrid, hT, hkb, hK2, hbel⟩ := hrel
        have HGRID2 := Lib.hid hgrid
        have HTO2 := Lib.hid hT
        have HKB2 := Lib.hid hkb
        have HK2 := Lib.hid hK2
        have HBEL2 := Lib.hid hbel
        clear hgrid hT hkb hK2 hbel hcr'
        by_cases hqlt : q < nr
        · have hqo : q < (onAt s i).length := by rw [HNR.out]; exact hqlt
          obtain ⟨b, rfl, hcb, hbl⟩ := HPR.out (by omega)
          have hkc := (hcb.int q hqo)
          rw [← HBEL2.out.cell hbl] at hkc
          have hkn : (onAt s i)[q] < l.length := by have := onAt_lt s i _ (List.getElem_mem hqo); omega
          obtain ⟨k, hk⟩ : ∃ k, (onAt s i)[q] = k := ⟨_, rfl⟩
          rw [hk] at hkc hkn
          have HKQ := Lib.hid hk
          have hk0 : (0 : Int) ≤ (k : Int) := Int.natCast_nonneg _
          have hk1 : (k : Int) < (l.length : Int) := by omega
          have hRl : k < R.length := by rw [HK2.out.rlen]; omega
          obtain ⟨cur, hcv, hcown, hcex, hcc⟩ := HGRID2.out.row k hRl
          have HC := Lib.hid (And.intro hcv (And.intro hcown hcex))
          clear hk hcb hcv hcown hcex
          obtain ⟨i0, hi0', hz0, hz1, hz2⟩ := info_parts intInfo
          have hlenr : R[k].length ≤ 7007000 := by
            have := HK2.out.rl _ (List.getElem_mem hRl)
            have := HLEN.out
            have := HRL.out
            omega
          go_wp2_with ((with_reducible show wpList _ _ _ (Oper.mk (some 55) _ _ _ _ _ :: _) _ _); refine wpList_append_lies _ rfl _ _ _ rfl w2.heap.size 3 i0 _ 1 8 Try.underlying72 hi0' hz0 hz1 hz2 rfl (by omega) cur R[k].length (intCells R[k]) (by rfl) (HC.out.2.1.alloc _) ⟨wr.heap.size, 0, none⟩ 1 1 [.int .i64 (i : Int)] (by rfl) (by rfl) (World.news_of_block (cs := #[.int .i64 (i : Int)]) (t := 3) (fr := (0, 0)) (heap_alloc_new wr _)) (by simp [Value.oneCell']) (by omega) (by unfold maxLen; omega) (by omega) (by have := HBEL2.out.size; simp; omega) (wr.heap.size + 1) (by simp) ?_; intro gg cap4 w4 hown4 hgrow4 hat hltg; have hx4 := HGRID2.out.grown HC.out.2.1 hgrow4; have x4 : w4.cell? ⟨w2.heap.size, k, none⟩ = some cur := (by rw [cell_of_heap hx4]; exact HC.out.1); have f4 : w4.frozen? ⟨w2.heap.size, k, none⟩ = false := free_of_heap hx4 k; clear hx4; have HOWN4 := Lib.hid hown4; have HGROW4 := Lib.hid hgrow4; clear hown4 hgrow4)
          go_roundw
          case rel =>
            have hm4 : Mod (fun j => cur.ownBlock = some j) wr w4 := Mod.grown (Mod.alloc (Mod.refl _ _) _) HGROW4.out (fun _ h _ => h)
            obtain ⟨hG, hM⟩ := HGRID2.out.push hRl HC.out.1 HOWN4.out hm4 (hat.imp id (fun h => by omega)) (fun b hb => (HTO2.out.lt b hb).2)
            have hkq : k = (onAt s i)[q] := HKQ.out.symm
            refine ⟨q + 1, _, _, by omega, by go_num, hG, ownsRow_mono HTO2.out fun j hj => hM.block j (HTO2.out.lt j hj).2 ?_, hM.heap HKB2.out ?_, ?_, HBEL2.out.trans (below_of_mod hM ?_ HBEL2.out.size)⟩
            · rintro (rfl | h)
              · exact ownsRow_ne HTO2.out HGRID2.out.1 (by decide) hj
              · exact HC.out.2.2 j h hj
            · rintro (h | h)
              · have h' : w2.heap.size + 1 = w2.heap.size := h
                omega
              · exact ownsRow_ne HC.out.2.1 HKB2.out (by decide) h
            · have := HK2.out.next hqo (by rw [← hkq]; exact hRl)
              subst hkq
              exact this
            · rintro j (h | h)
              · have h' : j = w2.heap.size := h
                omega
              · exact (HC.out.2.1.lt j h).1
          case measure => simp [intOf]; omega
        · have hqe : q = nr := by omega
          have HQE := Lib.hid hqe
          clear hqe
          have c5w : wr.cell? ⟨w1.heap.size, 0, none⟩ = _ := (HBEL2.out.cell (World.block_lt_of_cell? _ _ HC5.out)).trans HC5.out
          have c3w : wr.cell? ⟨w.heap.size, 0, none⟩ = _ := (HBEL2.out.cell (World.block_lt_of_cell? _ _ HC3.out)).trans HC3.out
          have HC3W := Lib.hid c3w
          clear c3w
          go_wp2_with fail
          have hil : i < s.length := by omega
          refine (there_each w1.heap.size w.heap.size wb i g cb P s s[i] hil rfl wr eg c5w (HWEB2.out.below HBEL2.out) HNDS.out (HSMS.out _ (List.getElem_mem hil)) (by have := HLEN.out; omega) HC3W.out (HT2.out.below HBEL2.out)).mono ?_
          rintro e w5 ⟨rfl, hb5⟩
          obtain ⟨yes, hyes⟩ : ∃ yes, s[i].depDots.all (thereIn s P) = yes := ⟨_, rfl⟩
          rw [hyes]
          have HYES := Lib.hid hyes
          have HB5 := Lib.hid hb5
          clear hyes hb5
          cases yes with
          | true =>
            go_wp2_with fail
            go_roundw
            case rel =>
              have hno : ¬ lacks0 s P i := by
                rintro ⟨h, hf⟩
                rw [HYES.out] at hf
                cases hf
              have hb5 := HB5.out
              have hK2 := HK2.out
              rw [HQE.out, ← HNR.out] at hK2
              exact ⟨i + 1, T, vs, R, L, by omega, by go_num, HGRID2.out.frame (Mod.of_below (S := fun _ => False) hb5) (fun h => h) (fun _ _ h => h.elim), ownsRow_mono HTO2.out (fun j hj => hb5.block j (HTO2.out.lt j hj).2), Below.heap hb5 HKB2.out (lt_of_heap HKB2.out), hK2.out HK.out HRL.out hno, HBEL2.out.trans (hb5.mono HBEL2.out.size)⟩
            case measure => simp [intOf]; omega
          | false =>
            have hkb5 := Below.heap HB5.out HKB2.out (lt_of_heap HKB2.out)
            have hiL : i < L.length := by rw [HK.out.llen]; exact hil
            have k5 : w5.cell? ⟨w2.heap.size + 1, i, none⟩ = some (.bool L[i]) := by rw [cell_bool hkb5]; simp [hiL]
            have f5 : w5.frozen? ⟨w2.heap.size + 1, i, none⟩ = false := free_of_heap hkb5 i
            have HKB5 := Lib.hid hkb5
            clear hkb5
            have hT5 : w5.ownsRow w2.heap.size 3 1 u9 T.length (intCells T) := ownsRow_mono HTO2.out (fun j hj => HB5.out.block j (HTO2.out.lt j hj).2)
            have hG5 : Grid w5 w2.heap.size w2.heap.size u9.ownBlock vs R := HGRID2.out.frame (Mod.of_below (S := fun _ => False) HB5.out) (fun h => h) (fun _ _ h => h.elim)
            have hT6 : (w5.setCell ⟨w2.heap.size + 1, i, none⟩ (.bool true)).ownsRow w2.heap.size 3 1 u9 T.length (intCells T) := ownsRow_mono hT5 fun j hj => Below.heap_setCell _ _ _ _ (by rintro rfl; exact ownsRow_ne hT5 HKB5.out (by decide) hj)
            have hs6 : w2.heap.size + 1 < w5.heap.size := lt_of_heap HKB5.out
            have hs6' : w2.heap.size ≤ (w5.setCell ⟨w2.heap.size + 1, i, none⟩ (.bool true)).heap.size := by rw [World.size_setCell]; omega
            have HT5 := Lib.hid (And.intro hT5 (And.intro hG5 hT6))
            have hTl : T.length ≤ 1000 := by
              have := HK.out.tl
              have h2 : L.count true ≤ L.length := List.count_le_length
              have := HK.out.llen
              have := HLEN.out
              omega
            clear hT5 hG5 hT6
            obtain ⟨i0, hi0', hz0, hz1, hz2⟩ := info_parts intInfo
            obtain ⟨nT, hnT⟩ : ∃ nT, T.length = nT := ⟨_, rfl⟩
            rw [hnT] at hTl
            have HNT := Lib.hid hnT
            clear hnT
            go_wp2_with ((with_reducible show wpList _ _ _ (Oper.mk (some 70) _ _ _ _ _ :: _) _ _); refine stays ?_)
            refine Stays.go ?_
            refine wpList_append_lies _ rfl _ _ _ rfl w2.heap.size 3 i0 _ 1 8 Try.underlying72 hi0' hz0 hz1 hz2 rfl (by omega) u9 nT (intCells T) (by rfl) ((HNT.out ▸ HT5.out.2.2).alloc _) ⟨w5.heap.size, 0, none⟩ 1 1 [.int .i64 (i : Int)] (by rfl) (by rfl) (World.news_of_block (cs := #[.int .i64 (i : Int)]) (t := 3) (fr := (0, 0)) (heap_new_at (World.size_setCell ..) _)) (by simp [Value.oneCell']) (by omega) (by unfold maxLen; omega) (by omega) (by rw [World.size_alloc]; omega) (w5.heap.size + 1) (by simp) ?_
            intro gg cap4 w6 hown6 hgrow6 hat hltg
            have HOWN6 := Lib.hid hown6
            have HGROW6 := Lib.hid hgrow6
            clear hown6 hgrow6
            go_wp2
            go_roundw
            case rel =>
              obtain ⟨hT5, hG5, hT6⟩ := HT5.out
              have hM : Mod (fun j => j = w2.heap.size + 1 ∨ u9.ownBlock = some j) w5 w6 := Mod.grown (Mod.alloc (Mod.setCell (Mod.refl _ _) _ _ (fun _ => .inl rfl)) _) HGROW6.out (fun _ h _ => .inr h)
              have hob' : ¬ (w2.heap.size = w2.heap.size + 1 ∨ u9.ownBlock = some w2.heap.size) := by
                rintro (h | h)
                · omega
                · exact ownsRow_ne hT5 hG5.1 (by decide) h
              have hlk : lacks0 s P i := ⟨hil, HYES.out⟩
              have hK2 := HK2.out
              rw [HQE.out, ← HNR.out] at hK2
              have hkb6 : w6.heap[w2.heap.size + 1]? = some (.cells (boolCells (L.set i true)) 4 (0, 0)) := by
                rw [HGROW6.out.block _ (by rw [World.size_alloc, World.size_setCell]; omega) (by
                  intro h
                  exact ownsRow_ne hT5 HKB5.out (by decide) h.symm)]
                refine heap_alloc_keeps ?_ _
                have := heap_setCell_same HKB5.out i (.bool true)
                rw [this]
                simp [boolCells]
              refine ⟨i + 1, T ++ [i], vs, R, L.set i true, by omega, by go_num, hG5.other hM hob' ?_ ?_, ?_, hkb6, hK2.lack HK.out HRL.out hlk, (HBEL2.out.trans (HB5.out.mono HBEL2.out.size)).trans (below_of_mod hM ?_ (by omega))⟩
              · rintro b c (h | h) hb
                · subst h
                  rw [HKB5.out] at hb
                  simp at hb
                · exact h
              · rcases hat with h | h
                · left; rw [h]; rfl
                · right
                  intro b hb
                  simp [Value.ownBlock] at hb
                  omega
              · exact ownsRow_snoc HOWN6.out HNT.out
              · rintro j (h | h)
                · omega
                · exact (hT5.lt j h).1
            case measure => simp [intOf]; omega
    · have hie : i = l.length := by omega
      have HR := Lib.hid (show ∀ k j, k < s.length → (j ∈ R[k]?.getD [] ↔ j < s.length ∧ k ∈ onAt s j) from fun k j hk => by
        have := HK.out.mem k j hk
        rwa [hie, ← hsl] at this)
      have HK3 := Lib.hid (show Kept3 s P R T L from Kept1.in3 (by have := HK.out; rwa [hie, ← hsl] at this))
      have HRlen := Lib.hid HK.out.rlen
      have HRR := Lib.hid (show ∀ r ∈ R, r.length ≤ 7000000 from fun r hr => by have := HK.out.rl r hr; omega)
      clear hie
      go_wp2
      go_loopw [9, 14] (fun v9 v14 wi => ∃ (a : Nat) (T : List Nat) (L : List Bool), a ≤ T.length ∧ v14 = .int .i64 a ∧ Grid wi w2.heap.size w2.heap.size v9.ownBlock vs R ∧ wi.ownsRow w2.heap.size 3 1 v9 T.length (intCells T) ∧
          wi.heap[w2.heap.size + 1]? = some (.cells (boolCells L) 4 (0, 0)) ∧ Kept3 s P R T L ∧ Kept3.upTo R T L a ∧ Below w2.heap.size w2 wi)
        (fun _ v _ => l.length - (intOf v).toNat)
      case atStart =>
        exact ⟨0, T, L, by omega, rfl, HGRID.out, HTO.out, HKB.out, HK3.out, fun p hp => by omega, HBEL.out⟩
      case round =>
        clear HGRID HTO HKB HK HBEL HK3
        clear T L
        obtain ⟨a, T, L, ha, rfl, hgrid, hT, hkb, hK, hup, hbel⟩ := hrel
        obtain ⟨nT, hnT⟩ : ∃ nT, T.length = nT := ⟨_, rfl⟩
        have hTn : nT ≤ l.length := by rw [← hnT, ← hsl]; exact hK.tlen
        rw [hnT] at ha hT
        obtain ⟨pT, capT, rfl, hcapT, hpT⟩ := own_form hT hnT
        have HGRID := Lib.hid hgrid
        have HTO := Lib.hid hT
        have HKB := Lib.hid hkb
        have HK := Lib.hid hK
        have HUP := Lib.hid hup
        have HBEL := Lib.hid hbel
        have HNT := Lib.hid hnT
        have HPT := Lib.hid hpT
        clear hgrid hT hkb hK hup hbel hnT hpT
        by_cases hlt : a < nT
        · have haT : a < T.length := by rw [HNT.out]; exact hlt
          obtain ⟨bT, rfl, hcT⟩ := HPT.out (by omega)
          have hct := hcT a haT
          obtain ⟨t, ht⟩ : ∃ t, T[a] = t := ⟨_, rfl⟩
          rw [ht] at hct
          have hta : T[a]? = some t := by rw [List.getElem?_eq_getElem haT, ht]
          have htL : L[t]? = some true := (HK.out.tm t).1 (List.mem_of_getElem? hta)
          have htn : t < l.length := by rw [← hsl, ← HK.out.llen]; exact (List.getElem?_eq_some_iff.1 htL).1
          have htR : t < R.length := by rw [HRlen.out, hsl]; exact htn
          obtain ⟨cur, hcv, hcown, hcex, hcc⟩ := HGRID.out.row t htR
          obtain ⟨nr, hnr⟩ : ∃ nr, R[t].length = nr := ⟨_, rfl⟩
          rw [hnr] at hcown
          obtain ⟨pc, capc, rfl, hcapc, hpc⟩ := own_form hcown hnr
          have ht0 : (0 : Int) ≤ (t : Int) := Int.natCast_nonneg _
          have ht1 : (t : Int) < (l.length : Int) := by omega
          have ha0 : (0 : Int) ≤ (a : Int) := Int.natCast_nonneg _
          have ha1 : (a : Int) < (nT : Int) := by omega
          have HTA := Lib.hid hta
          have HCV := Lib.hid hcv
          have HNR := Lib.hid hnr
          have HRT := Lib.hid (show R[t]?.getD [] = R[t] by rw [List.getElem?_eq_getElem htR]; rfl)
          clear ht hta htL hcv hcown hcex hpc hcT HPT hnr
          go_wp2
          go_loopw [9, 86] (fun v9 v86 wi => ∃ (q : Nat) (T : List Nat) (L : List Bool), q ≤ nr ∧ v86 = .int .i64 q ∧ Grid wi w2.heap.size w2.heap.size v9.ownBlock vs R ∧ wi.ownsRow w2.heap.size 3 1 v9 T.length (intCells T) ∧
              wi.heap[w2.heap.size + 1]? = some (.cells (boolCells L) 4 (0, 0)) ∧ Kept3 s P R T L ∧ Kept3.upTo R T L a ∧ T[a]? = some t ∧ (∀ j ∈ R[t].take q, L[j]? = some true) ∧ Below w2.heap.size w2 wi)
            (fun _ v _ => nr - (intOf v).toNat)
          case atStart =>
            exact ⟨0, T, L, by omega, rfl, HGRID.out, by rw [HNT.out]; exact HTO.out, HKB.out, HK.out, HUP.out, HTA.out, fun j hj => by simp at hj, HBEL.out⟩
          case round =>
            clear HGRID HTO HKB HK HBEL HUP HTA hct haT HNT hcc
            clear T L
            obtain ⟨q, T, L, hq, rfl, hgrid, hT, hkb, hK, hup, hta, hdone, hbel⟩ := hrel
            have HGRID := Lib.hid hgrid
            have HTO := Lib.hid hT
            have HKB := Lib.hid hkb
            have HK := Lib.hid hK
            have HUP := Lib.hid hup
            have HBEL := Lib.hid hbel
            have HTA := Lib.hid hta
            have HDONE := Lib.hid hdone
            clear hgrid hT hkb hK hup hbel hta hdone
            by_cases hql : q < nr
            · have hqR : q < R[t].length := by rw [HNR.out]; exact hql
              obtain ⟨cur, hcv, hcown, hcex, _⟩ := HGRID.out.row t htR
              have hce : cur = .slice pc nr capc := by
                rw [HCV.out] at hcv
                simpa using hcv.symm
              subst hce
              rw [HNR.out] at hcown
              obtain ⟨pc', capc', he, _, hpc⟩ := own_form hcown HNR.out
              simp only [Value.slice.injEq, true_and] at he
              obtain ⟨rfl, rfl⟩ := he
              obtain ⟨bc, rfl, hcc⟩ := hpc (by omega)
              have hcj := hcc q hqR
              obtain ⟨j, hj⟩ : ∃ j, R[t][q] = j := ⟨_, rfl⟩
              rw [hj] at hcj
              have hjR : j ∈ R[t]?.getD [] := by rw [HRT.out, ← hj]; exact List.getElem_mem hqR
              have hjn : j < l.length := by rw [← hsl]; exact ((HR.out t j (by omega)).1 hjR).1
              have hjL : j < L.length := by rw [HK.out.llen, hsl]; exact hjn
              have kj : wr.cell? ⟨w2.heap.size + 1, j, none⟩ = some (.bool L[j]) := by rw [cell_bool HKB.out]; simp [hjL]
              have fj : wr.frozen? ⟨w2.heap.size + 1, j, none⟩ = false := free_of_heap HKB.out j
              have hj0 : (0 : Int) ≤ (j : Int) := Int.natCast_nonneg _
              have hj1 : (j : Int) < (l.length : Int) := by omega
              have hnr7 : nr ≤ 7000000 := by
                rw [← HNR.out]; exact HRR.out _ (List.getElem_mem htR)
              have HJ := Lib.hid hj
              have HJR := Lib.hid hjR
              obtain ⟨yes, hyes⟩ : ∃ yes, L[j] = yes := ⟨_, rfl⟩
              rw [hyes] at kj
              have HYES := Lib.hid hyes
              clear hj hjR hcv hcown hcex hpc hcc hyes
              cases yes with
              | true =>
                go_wp2
                go_roundw
                case rel =>
                  refine ⟨q + 1, T, L, by omega, by go_num, HGRID.out, HTO.out, HKB.out, HK.out, HUP.out, HTA.out, ?_, HBEL.out⟩
                  intro j' hj'
                  rw [List.take_succ_eq_append_getElem hqR, List.mem_append, List.mem_singleton] at hj'
                  rcases hj' with h | h
                  · exact HDONE.out j' h
                  · rw [h, HJ.out, List.getElem?_eq_getElem hjL, HYES.out]
                case measure => simp [intOf]; omega
              | false =>
                have hT6 : (wr.setCell ⟨w2.heap.size + 1, j, none⟩ (.bool true)).ownsRow w2.heap.size 3 1 u9 T.length (intCells T) := ownsRow_mono HTO.out fun b hb => Below.heap_setCell _ _ _ _ (by rintro rfl; exact ownsRow_ne HTO.out HKB.out (by decide) hb)
                have hs6 : w2.heap.size + 1 < wr.heap.size := lt_of_heap HKB.out
                have hs6' : w2.heap.size ≤ (wr.setCell ⟨w2.heap.size + 1, j, none⟩ (.bool true)).heap.size := by rw [World.size_setCell]; omega
                have HT6 := Lib.hid hT6
                obtain ⟨nT, hnT⟩ : ∃ nT, T.length = nT := ⟨_, rfl⟩
                have hTn : nT ≤ l.length := by rw [← hnT, ← hsl]; exact HK.out.tlen
                have HNT := Lib.hid hnT
                clear hnT hT6
                obtain ⟨i0, hi0', hz0, hz1, hz2⟩ := info_parts intInfo
                go_wp2_with ((with_reducible show wpList _ _ _ (Oper.mk (some 101) _ _ _ _ _ :: _) _ _); refine stays ?_)
                refine Stays.go ?_
                refine wpList_append_lies _ rfl _ _ _ rfl w2.heap.size 3 i0 _ 1 8 Try.underlying72 hi0' hz0 hz1 hz2 rfl (by omega) u9 nT (intCells T) (by rfl) ((HNT.out ▸ HT6.out).alloc _) ⟨wr.heap.size, 0, none⟩ 1 1 [.int .i64 (j : Int)] (by rfl) (by rfl) (World.news_of_block (cs := #[.int .i64 (j : Int)]) (t := 3) (fr := (0, 0)) (heap_new_at (World.size_setCell ..) _)) (by simp [Value.oneCell']) (by omega) (by unfold maxLen; omega) (by omega) (by rw [World.size_alloc]; omega) (wr.heap.size + 1) (by simp) ?_
                intro gg cap4 w6 hown6 hgrow6 hat hltg
                have HOWN6 := Lib.hid hown6
                have HGROW6 := Lib.hid hgrow6
                clear hown6 hgrow6
                go_wp2
                go_roundw
                case rel =>
                  have hM : Mod (fun b => b = w2.heap.size + 1 ∨ u9.ownBlock = some b) wr w6 := Mod.grown (Mod.alloc (Mod.setCell (Mod.refl _ _) _ _ (fun _ => .inl rfl)) _) HGROW6.out (fun _ h _ => .inr h)
                  have hob' : ¬ (w2.heap.size = w2.heap.size + 1 ∨ u9.ownBlock = some w2.heap.size) := by
                    rintro (h | h)
                    · omega
                    · exact ownsRow_ne HTO.out HGRID.out.1 (by decide) h
                  have hkb6 : w6.heap[w2.heap.size + 1]? = some (.cells (boolCells (L.set j true)) 4 (0, 0)) := by
                    rw [HGROW6.out.block _ (by rw [World.size_alloc, World.size_setCell]; omega) (by
                      intro h
                      exact ownsRow_ne HTO.out HKB.out (by decide) h.symm)]
                    refine heap_alloc_keeps ?_ _
                    have := heap_setCell_same HKB.out j (.bool true)
                    rw [this]
                    simp [boolCells]
                  have hLj : L[j]? = some false := by rw [List.getElem?_eq_getElem hjL, HYES.out]
                  have haT : a < T.length := (List.getElem?_eq_some_iff.1 HTA.out).1
                  refine ⟨q + 1, T ++ [j], L.set j true, by omega, by go_num, HGRID.out.other hM hob' ?_ ?_, ownsRow_snoc HOWN6.out HNT.out, hkb6, HK.out.more HTA.out HJR.out (fun k j' hk => HR.out k j' hk) hLj, Kept3.upTo_more HUP.out (by omega), ?_, ?_, HBEL.out.trans (below_of_mod hM ?_ (by omega))⟩
                  · rintro b c (h | h) hb
                    · subst h
                      rw [HKB.out] at hb
                      simp at hb
                    · exact h
                  · rcases hat with h | h
                    · left; rw [h]; rfl
                    · right
                      intro b hb
                      simp [Value.ownBlock] at hb
                      omega
                  · rw [List.getElem?_append_left haT]; exact HTA.out
                  · intro j' hj'
                    rw [List.take_succ_eq_append_getElem hqR, List.mem_append, List.mem_singleton] at hj'
                    rcases hj' with h | h
                    · exact set_true_mono (HDONE.out j' h)
                    · rw [h, HJ.out]; simp [hjL]
                  · rintro b (h | h)
                    · omega
                    · exact (HTO.out.lt b h).1
                case measure => simp [intOf]; omega
            · have hqe : q = nr := by omega
              have HQE := Lib.hid hqe
              clear hqe
              have hnT' : T.length ≤ l.length := by rw [← hsl]; exact HK.out.tlen
              go_wp2
              go_roundw
              case rel =>
                have haT : a < T.length := (List.getElem?_eq_some_iff.1 HTA.out).1
                refine ⟨a + 1, T, L, by omega, by go_num, HGRID.out, HTO.out, HKB.out, HK.out, ?_, HBEL.out⟩
                intro p hp t' ht' j hj
                rcases Nat.lt_succ_iff_lt_or_eq.1 hp with h | h
                · exact HUP.out p h t' ht' j hj
                · subst h
                  rw [HTA.out] at ht'
                  simp only [Option.some.injEq] at ht'
                  subst ht'
                  rw [HRT.out] at hj
                  have := HDONE.out
                  rw [HQE.out, ← HNR.out, List.take_length] at this
                  exact this j hj
              case measure => simp [intOf]; omega
        · have hae : a = nT := by omega
          have HAE := Lib.hid hae
          clear hae
          have HSET := Lib.hid (show KeptSet s P L from HK.out.set (by have := HUP.out; rwa [HAE.out, ← HNT.out] at this) HR.out)
          have c5w : wr.cell? ⟨w1.heap.size, 0, none⟩ = _ := (HBEL.out.cell (World.block_lt_of_cell? _ _ HC5.out)).trans HC5.out
          have hcw0 : wr.cell? ⟨wb, 0, none⟩ = some (.slice p1 l.length cap1) := (HBEL.out.cell (World.block_lt_of_cell? _ _ HCW0.out)).trans HCW0.out
          go_wp2
          have hbase5 : w2.heap.size ≤ wr.heap.size := HBEL.out.size
          obtain ⟨w9, rfl⟩ : ∃ w9 : World, w9 = wr := ⟨_, rfl⟩
          have hb9 : Below w2.heap.size w2 w9 := HBEL.out
          have HKB9 := Lib.hid HKB.out
          have HB9 := Lib.hid hb9
          have HCW9 := Lib.hid hcw0
          have hLl : L.length = l.length := by rw [HK.out.llen, hsl]
          clear hb9 HKB HK HUP HBEL HGRID HTO HPT HNT HAE c5w hcw0
          go_loopw [17, 108] (fun v17 v108 wi => ∃ i : Nat, i ≤ l.length ∧ v108 = .int .i64 i ∧ wi.ownsRow w9.heap.size 31 10 v17 (keepBy s L i).length (instsCells (keepBy s L i)) ∧ Below w9.heap.size w9 wi)
            (fun _ v _ => l.length - (intOf v).toNat)
          case atStart =>
            exact ⟨0, by omega, rfl, ⟨by simp [keepBy, instsCells], .inl ⟨rfl, by simp [keepBy]⟩⟩, Below.refl _ _⟩
          case round =>
            obtain ⟨i, hi, rfl, hown, hbel⟩ := hrel
            have HOWN := Lib.hid hown
            have HBEL := Lib.hid hbel
            clear hown hbel
            by_cases hlt : i < l.length
            · have his : i < s.length := by omega
              have hiL : i < L.length := by omega
              obtain ⟨lb, capb, hc0, hcs, hlb, hwbl⟩ := (HWEB2.out.below HB9.out).read i his
              rw [HCW9.out] at hc0
              simp only [Option.some.injEq, Value.slice.injEq] at hc0
              obtain ⟨rfl, -, rfl⟩ := hc0
              have hcx : CellsAt wr lb (i * 10) (instCells s[i]) := by
                have := (hcs.inst i his).below hlb HBEL.out
                rwa [Nat.zero_add] at this
              have kj : wr.cell? ⟨w2.heap.size + 1, i, none⟩ = some (.bool L[i]) := by
                rw [HBEL.out.cell (lt_of_heap HKB9.out), cell_bool HKB9.out]; simp [hiL]
              obtain ⟨yes, hyes⟩ : ∃ yes, L[i] = yes := ⟨_, rfl⟩
              rw [hyes] at kj
              have HYES := Lib.hid hyes
              obtain ⟨x, hx⟩ : ∃ x, s[i] = x := ⟨_, rfl⟩
              rw [hx] at hcx
              obtain ⟨cl, hcl, hI⟩ := inst_opaque x
              rw [hcl] at hcx
              have hst := store_inst wr cl hI.len hI.one
              have hsz := hI.len
              have hszi : (Try.prog.info? 31).map (·.size) = some cl.length := by rw [instSize, hsz]
              have HX := Lib.hid hx
              have HCL := Lib.hid hcl
              have HCX := Lib.hid hcx
              have HSZ := Lib.hid hszi
              have HI := Lib.hid hI
              have kj2 := fun o => cell_alloc kj o
              clear hcl hx hcx hszi hI hyes hcs kj
              go_wp2_with ((with_reducible show wpList _ _ _ (Oper.mk (some 112) _ _ _ _ _ :: _) _ _); refine stays ?_)
              refine Stays.go ?_
              refine wpList_load_mid (op := ⟨some 112, _, _, _, _, _⟩) rfl 31 (.tmp 111) rfl lb (i * 10) rfl cl _ HCX.out instDesc rfl HSZ.out ?_
              cases yes with
              | true =>
                go_wp2
                go_roundw
                case rel =>
                  have hk : keepBy s L (i + 1) = keepBy s L i := by rw [keepBy_succ s L i his, if_pos (by rw [List.getElem?_eq_getElem hiL, HYES.out]), List.append_nil]
                  exact ⟨i + 1, by omega, by go_num, by rw [hk]; exact ownsRow_mono HOWN.out (fun b hb => Below.heap_alloc _ _ _ (HOWN.out.lt b hb).2), HBEL.out.alloc HBEL.out.size _⟩
                case measure => simp [intOf]; omega
              | false =>
                have hcn : CellsAt (wr.alloc (.cells cl.toArray 31)) wr.heap.size 0 cl := fun j u hj => by
                  rw [cell_new, Nat.zero_add]; simpa using hj
                have HCN := Lib.hid hcn
                clear hcn
                go_wp2_with ((with_reducible show wpList _ _ _ (Oper.mk (some 119) _ _ _ _ _ :: _) _ _); refine stays ?_)
                refine Stays.go ?_
                refine wpList_load_mid (op := ⟨some 119, _, _, _, _, _⟩) rfl 31 (.tmp 19) rfl wr.heap.size 0 rfl cl _ HCN.out instDesc rfl HSZ.out ?_
                have hfold := fold_inst cl HI.out.len
                obtain ⟨i0, hi0', hz0, hz1, hz2⟩ := info_parts instInfo
                obtain ⟨nK, hnK⟩ : ∃ nK, (keepBy s L i).length = nK := ⟨_, rfl⟩
                have hnK1 : nK ≤ 1000 := by have := keepBy_len s L i; omega
                have HNK := Lib.hid hnK
                clear hnK
                go_wp2_with ((with_reducible show wpList _ _ _ (Oper.mk (some 121) _ _ _ _ _ :: _) _ _); refine stays ?_)
                refine Stays.go ?_
                refine wpList_append_lies _ rfl _ _ _ rfl w9.heap.size 31 i0 _ 10 80 Try.underlying41 hi0' hz0 hz1 hz2 rfl (by omega) u17 nK (instsCells (keepBy s L i)) (by rfl) (((HNK.out ▸ HOWN.out).alloc _).alloc _) ⟨wr.heap.size + 1, 0, none⟩ 1 1 cl (by rfl) (by rw [HI.out.len]) (World.news_of_block (cs := cl.toArray) (t := 31) (fr := (0, 0)) (heap_new2 _ _ _)) HI.out.one (by omega) (by unfold maxLen; omega) (by omega) (by have := HBEL.out.size; simp; omega) (wr.heap.size + 2) (by simp) ?_
                intro gg cap4 w6 hown6 hgrow6 hat hltg
                have HOWN6 := Lib.hid hown6
                have HGROW6 := Lib.hid hgrow6
                clear hown6 hgrow6
                go_wp2
                go_roundw
                case rel =>
                  have hk : keepBy s L (i + 1) = keepBy s L i ++ [x] := by rw [keepBy_succ s L i his, if_neg (by rw [List.getElem?_eq_getElem hiL, HYES.out]; simp), HX.out]
                  have hM : Mod (fun b => u17.ownBlock = some b) wr w6 := Mod.grown (Mod.alloc (Mod.alloc (Mod.refl _ _) _) _) HGROW6.out (fun _ h _ => h)
                  refine ⟨i + 1, by omega, by go_num, ?_, HBEL.out.trans (below_of_mod hM (fun b hb => (HOWN.out.lt b hb).1) HBEL.out.size)⟩
                  have h6 := HOWN6.out
                  have hcs : instsCells (keepBy s L i ++ [x]) = instsCells (keepBy s L i) ++ cl := by simp [instsCells, HCL.out]
                  rw [hk, List.length_append, HNK.out, hcs]
                  exact h6
                case measure => simp [intOf]; omega
            · have hie : i = l.length := by omega
              have HIE := Lib.hid hie
              clear hie
              go_wp2
              go_ret
              have hown := HOWN.out
              rw [HIE.out, ← hsl] at hown
              have hb2 := HB2.out
              exact ⟨_, s, L, rfl, HS.out, HSET.out, Sl0.of_own hown (by omega), ((Below.refl _ _).alloc (Nat.le_refl _) _).trans (((hb1.mono (by simp)).trans ((hb2.mono (by have := hb1.size; simp at this ⊢; omega)).trans ((HB9.out.mono (by have := hb1.size; simp at this ⊢; omega)).trans (HBEL.out.mono (by have := hb1.size; simp at this ⊢; omega))))))⟩
end Go.Proofs.Ytibnnhdpaccpfaa
