import Derived.Test.YtibnnhdpaccpfaaMade
namespace Go.Proofs.Ytibnnhdpaccpfaa
open Go.RowKit

def posns (s : List Inst) (p : List Dot) : List Nat := p.filterMap (posOf s)
theorem posns_snoc (s : List Inst) (p : List Dot) (d : Dot) : posns s (p ++ [d]) = posns s p ++ posList s d := by
  unfold posns posList
  rw [List.filterMap_append]
  cases h : posOf s d <;> simp [h]
theorem onOf_len (s : List Inst) : (onOf s).length = s.length := by simp [onOf]
theorem onOf_get (s : List Inst) (k : Nat) (h : k < (onOf s).length) (h' : k < s.length) : (onOf s)[k] = posns s s[k].depDots := by simp [onOf, posns]

/-- rows of numbers, of which the first k are laid -/
def RowsTo (w : World) (ob : Nat) (vs : Array Value) (rows : List (List Nat)) (k : Nat) : Prop :=
  vs.size = rows.length ∧ (∀ i, (h : i < rows.length) → i < k → ∃ v, vs[i]? = some v ∧ Sl0 w v rows[i].length (intCells rows[i]) ∧ v.ownBlock ≠ some ob) ∧
  (∀ i, i < rows.length → k ≤ i → vs[i]? = some (.slice none 0 0))
def RowsAt (w : World) (ob : Nat) (rows : List (List Nat)) : Prop := ∃ vs, w.heap[ob]? = some (.cells vs 72 (0, 0)) ∧ RowsTo w ob vs rows rows.length

theorem RowsTo.next {w w' : World} {ob k : Nat} {vs : Array Value} {rows : List (List Nat)} {v : Value} (h : RowsTo w ob vs rows k) (hk : k < rows.length) (hm : Mod (fun i => i = ob) w w')
    (hv : Sl0 w' v rows[k].length (intCells rows[k])) (hne : v.ownBlock ≠ some ob) : RowsTo w' ob (vs.setIfInBounds k v) rows (k + 1) := by
  obtain ⟨hs, h1, h2⟩ := h
  refine ⟨by simpa using hs, fun i hi hik => ?_, fun i hi hik => ?_⟩
  · by_cases he : i = k
    · subst he
      exact ⟨v, by simp [hs, hi], hv, hne⟩
    · obtain ⟨u, hu, hsl, hn⟩ := h1 i hi (by omega)
      refine ⟨u, by rw [Array.getElem?_setIfInBounds_ne (Ne.symm he)]; exact hu, hsl.mod hm (fun b hb hbo => hn (hbo ▸ hb)), hn⟩
  · rw [Array.getElem?_setIfInBounds_ne (by omega)]
    exact h2 i hi (by omega)

def OnInv (s : List Inst) (ob i : Nat) (vs0 : Array Value) (wi : World) (p : List Dot) (W : World) : Prop :=
  ∃ cur, W.heap[ob]? = some (.cells (vs0.setIfInBounds i cur) 72 (0, 0)) ∧ W.ownsRow wi.heap.size 3 1 cur (posns s p).length (intCells (posns s p)) ∧ Mod (fun k => k = ob) wi W

theorem OnInv.step {s : List Inst} {ob i : Nat} {vs0 : Array Value} {wi W W' : World} {p : List Dot} {d : Dot} {cur : Value} (_hi : i < vs0.size)
    (hown : W.ownsRow wi.heap.size 3 1 cur (posns s p).length (intCells (posns s p))) (hm : Mod (fun k => k = ob) wi W)
    (h : OnStep ob i wi.heap.size (vs0.setIfInBounds i cur) cur (posns s p) (posns s p ++ posList s d) W W') : OnInv s ob i vs0 wi (p ++ [d]) W' := by
  obtain ⟨cur', h1, h2, h3, _⟩ := h
  refine ⟨cur', ?_, by rw [posns_snoc]; exact h2, ?_⟩
  · have : (vs0.setIfInBounds i cur).setIfInBounds i cur' = vs0.setIfInBounds i cur' := by
      apply Array.ext'
      simp
    rw [this] at h1; exact h1
  · refine hm.then h3 ?_
    rintro k (hk | hk) hlt
    · exact hk
    · have := (hown.lt k hk).1; omega

set_option maxRecDepth 100000 in
set_option maxHeartbeats 1000000 in
theorem on_each (wb lb cap ob bw bo bi i : Nat) (s : List Inst) (x : Inst) (hi : i < s.length) (hx : s[i] = x) (vs0 : Array Value) (w wi : World) (hweb : WebAt w wb s) (hlv : w.cell? ⟨wb, 0, none⟩ = some (.slice (some ⟨lb, 0, none⟩) s.length cap))
    (hc : CellsAt w lb 0 (instsCells s)) (hlb : lb < w.heap.size) (hbel : Below w.heap.size w wi) (hB : w.heap.size ≤ ob) (hbwo : bw ≠ ob) (hboo : bo ≠ ob) (hbio : bi ≠ ob)
    (hbw : wi.cell? ⟨bw, 0, none⟩ = some (.pointer (some ⟨wb, 0, none⟩))) (hbo : wi.cell? ⟨bo, 0, none⟩ = some (.slice (some ⟨ob, 0, none⟩) s.length s.length)) (hbi : wi.cell? ⟨bi, 0, none⟩ = some (.int .i64 (i : Int)))
    (hob : wi.heap[ob]? = some (.cells vs0 72 (0, 0))) (hv0 : vs0[i]? = some (.slice none 0 0)) (hnd : NodupDots s) (hsm : x.small) (hlen : s.length ≤ 1000000) :
    Calls Try.prog 39 #[.pointer (some ⟨wb, 0, none⟩), .int .i64 i, .func (.func 42) #[] #[.pointer (some ⟨bw, 0, none⟩), .pointer (some ⟨bo, 0, none⟩), .pointer (some ⟨bi, 0, none⟩)]] wi fun e w' =>
      e = .returned (.bool true) ∧ OnInv s ob i vs0 wi x.depDots w' := by
  have hi0 : i < vs0.size := (Array.getElem?_eq_some_iff.1 hv0).1
  have lbw := World.block_lt_of_cell? _ _ hbw
  have lbo := World.block_lt_of_cell? _ _ hbo
  have lbi := World.block_lt_of_cell? _ _ hbi
  simp only at lbw lbo lbi
  have hall : x.depDots.all (fun _ => true) = true := by simp
  have hB2 : ∀ p W, OnInv s ob i vs0 wi p W → Below w.heap.size w W := by
    rintro p W ⟨cur, _, _, hm⟩
    exact hbel.trans (below_of_mod hm (by rintro k rfl; exact hB) hbel.size)
  refine (each_any wb lb s.length cap i x hi hlen 42 _ (fun _ => true) (OnInv s ob i vs0 wi) (fun r hr => by have := hsm r hr; omega) ?_ ?_ ?_ ?_ wi ?_).mono ?_
  · intro p W hI
    have hb := hB2 p W hI
    refine ⟨by rw [hb.cell (World.block_lt_of_cell? _ _ hlv)]; exact hlv, ?_⟩
    have := (hc.inst i hi).below hlb hb
    rwa [Nat.zero_add, hx] at this
  · rintro p W W' ⟨cur, h1, h2, h3⟩ hb
    exact ⟨cur, Below.heap hb h1 (lt_of_heap h1), ownsRow_mono h2 (fun k hk => hb.block k (h2.lt k hk).2), h3.then (Mod.of_below (S := fun _ => False) hb) (fun _ h => h.elim)⟩
  · intro args w; rfl
  · intro p d W hp hI
    have hb := hB2 p W hI
    obtain ⟨cur, h1, h2, h3⟩ := hI
    obtain ⟨lv', mb, es, clk, hwb', hsl', hm', hE'⟩ := hweb.below hb
    have hpl : p.length ≤ 7000 := by
      have h1 := hp.length_le
      have h2 := depDots_len x hsm
      simp at h1; omega
    have hbase := h3.size
    have hrl : (posns s p).length ≤ 1000000 := Nat.le_trans (List.length_filterMap_le _ _) (by omega)
    refine (on1_any bw bo bi wb ob mb i s.length s.length wi.heap.size lv' es clk s d (vs0.setIfInBounds i cur) cur (posns s p) W ?_ hwb' hm' hE' hnd ?_ h1 ?_ hi hlen ?_ h2 hrl hbase lbo lbi (Ne.symm hboo) (Ne.symm hbio)).mono ?_
    · rw [h3.cell lbw hbwo]; exact hbw
    · rw [h3.cell lbo hboo]; exact hbo
    · simp [hi0]
    · rw [h3.cell lbi hbio]; exact hbi
    · rintro e w' ⟨rfl, hst⟩
      exact ⟨rfl, OnInv.step hi0 h2 h3 hst⟩
  · refine ⟨.slice none 0 0, ?_, ⟨by simp [posns, intCells], .inl ⟨rfl, by simp [posns]⟩⟩, Mod.refl _ _⟩
    have : vs0.setIfInBounds i (.slice none 0 0) = vs0 := by
      apply Array.ext_getElem?
      intro j
      rw [Array.getElem?_setIfInBounds]
      by_cases hj : i = j
      · subst hj
        rw [Array.getElem?_eq_getElem hi0] at hv0
        simp [hi0]; simpa using hv0.symm
      · simp [hj]
    rw [this]; exact hob
  · rintro e w' ⟨rfl, p, hI, hp⟩
    rw [hp hall] at hI
    exact ⟨by rw [hall], hI⟩

def OnPost (s : List Inst) (w : World) (e : Ending) (w' : World) : Prop :=
  ∃ ob, e = .returned (.slice (some ⟨ob, 0, none⟩) s.length s.length) ∧ RowsAt w' ob (onOf s) ∧ w.heap.size ≤ ob ∧ Below w.heap.size w w'

set_option maxRecDepth 100000 in
set_option maxHeartbeats 1000000 in
theorem on_any (wb : Nat) (s : List Inst) (w : World) (hweb : WebAt w wb s) (hnd : NodupDots s) (hsm : ∀ x ∈ s, x.small) (hlen : s.length ≤ 1000000) :
    Calls Try.prog 34 #[.pointer (some ⟨wb, 0, none⟩)] w (OnPost s w) := by
  have HW := Lib.hid hweb
  obtain ⟨lv, mb, es, clk, hwb, hsl, hm, hE⟩ := hweb
  have cw0 : w.cell? ⟨wb, 0, none⟩ = some lv := by rw [cell_of_heap hwb]; rfl
  have hlb := lt_of_heap hwb
  have HSL := Lib.hid hsl
  have HND := Lib.hid hnd
  have HSM := Lib.hid hsm
  clear hwb hm hE hsl hnd hsm
  have hmk := mk_intss s.length hlen
  have hmf : ∀ (fn : Fn) (first cap : Array Value) (w : World), (Instr.makeFunc fn first cap).run Try.prog w = .ok (.func fn first cap) w := fun _ _ _ _ => rfl
  have c1 := fun a b c => cell_alloc (cell_alloc (cell_alloc cw0 a) b) c
  rcases HSL.out with ⟨rfl, hn0, _⟩ | ⟨lb, cap, rfl, hcap, hc, hl⟩
  · have hmk0 : ∀ w : World, (Instr.makeSlice 74 (.int .i64 0) (.int .i64 0)).run Try.prog w = .ok (.slice (some ⟨w.heap.size, 0, none⟩) 0 0) (w.alloc (.cells #[] 72)) := fun w => mk_intss 0 (by omega) w
    clear hmk
    go_enter Try.func34, Try.ntmps34
    go_wp2
    refine wp_loop_rounds 1 ?_
    rw [rounds_succ]
    go_wp2
    go_ret
    have hs0 : s = [] := List.length_eq_zero_iff.1 hn0
    refine ⟨w.heap.size + 1, by rw [hn0]; rfl, ⟨#[], heap_alloc_keeps (heap_new2 w _ _) _, ?_⟩, by simp, (((Below.refl _ _).alloc (Nat.le_refl _) _).alloc (by simp) _).alloc (by simp; omega) _⟩
    subst hs0
    exact ⟨rfl, fun i h => absurd h (by simp [onOf]), fun i h => absurd h (by simp [onOf])⟩
  · have HC := Lib.hid hc
    clear hc HSL
    go_enter Try.func34, Try.ntmps34
    go_wp2
    have g1 : (((w.alloc (.cells #[.pointer (some ⟨wb, 0, none⟩)] 68)).alloc (.cells (Array.replicate s.length (.slice none 0 0)) 72)).alloc (.cells #[.slice (some ⟨w.heap.size + 1, 0, none⟩) s.length s.length] 74)).cell? ⟨w.heap.size, 0, none⟩ = some (.pointer (some ⟨wb, 0, none⟩)) :=
      cell_alloc (cell_alloc (cell_new w _ _ 0) _) _
    have g2 : (((w.alloc (.cells #[.pointer (some ⟨wb, 0, none⟩)] 68)).alloc (.cells (Array.replicate s.length (.slice none 0 0)) 72)).alloc (.cells #[.slice (some ⟨w.heap.size + 1, 0, none⟩) s.length s.length] 74)).cell? ⟨w.heap.size + 1 + 1, 0, none⟩ = some (.slice (some ⟨w.heap.size + 1, 0, none⟩) s.length s.length) := by
      have := cell_new ((w.alloc (.cells #[.pointer (some ⟨wb, 0, none⟩)] 68)).alloc (.cells (Array.replicate s.length (.slice none 0 0)) 72)) #[.slice (some ⟨w.heap.size + 1, 0, none⟩) s.length s.length] 74 0
      simpa using this
    have g3 : (((w.alloc (.cells #[.pointer (some ⟨wb, 0, none⟩)] 68)).alloc (.cells (Array.replicate s.length (.slice none 0 0)) 72)).alloc (.cells #[.slice (some ⟨w.heap.size + 1, 0, none⟩) s.length s.length] 74)).heap[w.heap.size + 1]? = some (.cells (Array.replicate s.length (.slice none 0 0)) 72 (0, 0)) := by
      refine heap_alloc_keeps ?_ _
      have := heap_alloc_new (w.alloc (.cells #[.pointer (some ⟨wb, 0, none⟩)] 68)) (.cells (Array.replicate s.length (.slice none 0 0)) 72)
      rwa [World.size_alloc] at this
    have g4 : Below w.heap.size w (((w.alloc (.cells #[.pointer (some ⟨wb, 0, none⟩)] 68)).alloc (.cells (Array.replicate s.length (.slice none 0 0)) 72)).alloc (.cells #[.slice (some ⟨w.heap.size + 1, 0, none⟩) s.length s.length] 74)) :=
      (((Below.refl _ _).alloc (Nat.le_refl _) _).alloc (by simp) _).alloc (by simp; omega) _
    generalize (((w.alloc (.cells #[.pointer (some ⟨wb, 0, none⟩)] 68)).alloc (.cells (Array.replicate s.length (.slice none 0 0)) 72)).alloc (.cells #[.slice (some ⟨w.heap.size + 1, 0, none⟩) s.length s.length] 74)) = w1 at g1 g2 g3 g4 ⊢
    have HG := Lib.hid (And.intro g1 (And.intro g2 (And.intro g3 g4)))
    have HCW := Lib.hid cw0
    clear g1 g2 g3 g4 c1 hmk cw0
    go_loopw [16] (fun v wr => ∃ (k : Nat) (vs : Array Value), k ≤ s.length ∧ v = .int .i64 k ∧ wr.heap[w.heap.size + 1]? = some (.cells vs 72 (0, 0)) ∧ RowsTo wr (w.heap.size + 1) vs (onOf s) k ∧
        wr.cell? ⟨w.heap.size, 0, none⟩ = some (.pointer (some ⟨wb, 0, none⟩)) ∧ wr.cell? ⟨w.heap.size + 1 + 1, 0, none⟩ = some (.slice (some ⟨w.heap.size + 1, 0, none⟩) s.length s.length) ∧ Below w.heap.size w wr)
      (fun v _ => s.length - (intOf v).toNat)
    case atStart =>
      obtain ⟨g1, g2, g3, g4⟩ := HG.out
      exact ⟨0, _, by omega, rfl, g3, ⟨by simp [onOf], fun i _ h => absurd h (by omega), fun i hi _ => by rw [onOf_len] at hi; simp [hi]⟩, g1, g2, g4⟩
    case round =>
      obtain ⟨k, vs, hk, rfl, hob, hrows, hbw, hbo, hbel⟩ := hrel
      have HOB := Lib.hid hob
      have HROWS := Lib.hid hrows
      have HBEL := Lib.hid hbel
      have lbw := World.block_lt_of_cell? _ _ hbw
      have lbo := World.block_lt_of_cell? _ _ hbo
      simp only at lbw lbo
      clear hob hrows hbel HG
      by_cases hlt : k < s.length
      · go_wp2_with fail
        obtain ⟨vs1, hv1⟩ : ∃ u : Array Value, u = vs := ⟨_, rfl⟩
        refine (on_each wb lb cap (w.heap.size + 1) w.heap.size (w.heap.size + 1 + 1) wr.heap.size k s s[k] hlt rfl vs w _ HW.out HCW.out HC.out hl (HBEL.out.alloc (by omega) _) (by omega) (by omega) (by omega) (by omega)
          (cell_alloc hbw _) (cell_alloc hbo _) (cell_new _ _ _ 0) (heap_alloc_keeps HOB.out _) (HROWS.out.2.2 k (by rw [onOf_len]; exact hlt) (Nat.le_refl _)) HND.out (HSM.out _ (List.getElem_mem hlt)) hlen).mono ?_
        rintro e w2 ⟨rfl, hI⟩
        have HI := Lib.hid hI
        clear hI
        go_wp2_with fail
        go_roundw
        case rel =>
          obtain ⟨cur, h1, h2, h3⟩ := HI.out
          have hm : Mod (fun i => i = w.heap.size + 1) wr w2 := ((Mod.refl _ wr).alloc _).then h3 (fun i hi _ => hi)
          refine ⟨k + 1, _, by omega, by go_num, h1, HROWS.out.next (by rw [onOf_len]; exact hlt) hm ?_ ?_, ?_, ?_, HBEL.out.trans (below_of_mod hm (by rintro i rfl; omega) HBEL.out.size)⟩
          · rw [onOf_get s k _ hlt]; exact Sl0.of_own h2 (by omega)
          · exact ownsRow_ne h2 h1 (by decide)
          · rw [hm.cell lbw (show w.heap.size ≠ w.heap.size + 1 from by omega)]; exact hbw
          · rw [hm.cell lbo (show w.heap.size + 1 + 1 ≠ w.heap.size + 1 from by omega)]; exact hbo
        case measure => simp [intOf]; omega
      · have hkl : k = s.length := by omega
        have HKL := Lib.hid hkl
        clear hkl
        go_wp2
        go_ret
        refine ⟨_, rfl, ⟨vs, HOB.out, ?_⟩, by omega, HBEL.out⟩
        have := HROWS.out
        rw [HKL.out] at this
        rw [onOf_len]; exact this
end Go.Proofs.Ytibnnhdpaccpfaa
