import Derived.Test.YtibnnhdpaccpfaaReg
namespace Go.Proofs.Ytibnnhdpaccpfaa
open Go.RowKit

theorem getAt_place {s : List Inst} (h : NodupDots s) (d : Dot) : getAt (placeOf s s.length) d = (posOf s d).map fun (k : Nat) => Value.int .i64 (k : Int) := by
  cases hp : posOf s d with
  | none =>
    rw [Option.map_none, getAt_none]
    intro p hm
    obtain ⟨i, hi, _, rfl⟩ := mem_placeOf hm
    exact posOf_none hp s[i] (List.getElem_mem hi)
  | some k =>
    obtain ⟨hk, he⟩ := posOf_some hp
    cases hg : getAt (placeOf s s.length) d with
    | none => exact absurd he (getAt_none.1 hg _ (mem_placeOf_all hk))
    | some v =>
      obtain ⟨i, hi, _, hpe⟩ := mem_placeOf (getAt_mem hg)
      simp only [Prod.mk.injEq] at hpe
      have : i = k := nodup_idx h hi hk (by rw [← hpe.1, he])
      subst this
      simp [hpe.2]

def intCells (l : List Nat) : List Value := l.map fun (i : Nat) => Value.int .i64 (i : Int)
def posList (s : List Inst) (d : Dot) : List Nat := match posOf s d with | some k => [k] | none => []

theorem zeroInt : ∀ w, (zeroValue 3).run Try.prog w = .ok (.int .i64 0) w := fun _ => by kernel_rfl
theorem intInfo : (Try.prog.info? 3).map (fun i => (i.zero, i.size, i.bytes)) = some (some (.int .i64 0), 1, 8) := by kernel_rfl
theorem intsInfo : (Try.prog.info? 72).map (fun i => (i.zero, i.size, i.bytes)) = some (some (.slice none 0 0), 1, 24) := by kernel_rfl

theorem grown_cell {w w4 : World} {b o : Nat} {v : Value} {z : Obj} {row : Option Nat} (h : w.cell? ⟨b, o, none⟩ = some v) (hg : ((w.alloc z).drew).grownBy w4 row) (hne : row ≠ some b) : w4.cell? ⟨b, o, none⟩ = some v := by
  have hlt : b < w.heap.size := World.block_lt_of_cell? _ _ h
  rw [World.cell?_of_block (w := (w.alloc z).drew) (hg.block b (by simp; omega) (Ne.symm hne))]
  rw [World.cell?_drew, World.cell?_alloc_lt _ _ _ hlt]; exact h

/-- what a step of 'on' leaves -/
def OnStep (ob i base : Nat) (vs : Array Value) (cur : Value) (_ints ints' : List Nat) (w w' : World) : Prop :=
  ∃ cur', w'.heap[ob]? = some (.cells (vs.setIfInBounds i cur') 72 (0, 0)) ∧ w'.ownsRow base 3 1 cur' ints'.length (intCells ints') ∧ Mod (fun k => k = ob ∨ cur.ownBlock = some k) w w' ∧ (∀ k, cur'.ownBlock = some k → cur.ownBlock = some k ∨ w.heap.size ≤ k)

theorem OnStep.yes {ob i base k gg cap : Nat} {vs : Array Value} {cur : Value} {ints : List Nat} {w w2 w4 : World} (hob : w.heap[ob]? = some (.cells vs 72 (0, 0))) (_hvi : vs[i]? = some cur)
    (hb2 : Below w.heap.size w w2) (hx4 : w4.heap[ob]? = some (.cells vs 72 (0, 0)))
    (hown4 : w4.ownsRow base 3 1 (.slice (some ⟨gg, 0, none⟩) (ints.length + 1) cap) (ints.length + 1) (intCells ints ++ [.int .i64 (k : Int)]))
    (hgrow4 : (w2.alloc (.cells #[.int .i64 (k : Int)] 3)).drew.grownBy w4 cur.ownBlock) (hat : cur.ownBlock = some gg ∨ gg = w2.heap.size + 1) (hne : cur.ownBlock ≠ some ob) :
    OnStep ob i base vs cur ints (ints ++ [k]) w (w4.setCell ⟨ob, i, none⟩ (.slice (some ⟨gg, 0, none⟩) (ints.length + 1) cap)) := by
  have hs := hb2.size
  have hl := lt_of_heap hob
  refine ⟨_, heap_setCell_same hx4 i _, ?_, ?_, ?_⟩
  · have hd : intCells (ints ++ [k]) = intCells ints ++ [.int .i64 (k : Int)] := by simp [intCells]
    rw [hd, List.length_append]
    refine ownsRow_mono hown4 fun j hj => ?_
    refine Below.heap_setCell _ _ _ _ ?_
    rintro rfl
    simp [Value.ownBlock] at hj
    subst hj
    rcases hat with h | h
    · exact hne h
    · omega
  · refine Mod.setCell (Mod.grown (Mod.drew (Mod.alloc (Mod.of_below hb2) _)) hgrow4 ?_) _ _ (fun _ => .inl rfl)
    intro k hk _; exact .inr hk
  · intro j hj
    simp [Value.ownBlock] at hj
    subst hj
    rcases hat with h | h
    · exact .inl h
    · right; omega

set_option maxRecDepth 100000 in
set_option maxHeartbeats 1000000 in
theorem on1_any (bw bo bi wb ob mb i n cap base : Nat) (lv : Value) (es : Array MapEntry) (clk : Nat) (s : List Inst) (d : Dot) (vs : Array Value) (cur : Value) (ints : List Nat) (w : World)
    (hbw : w.cell? ⟨bw, 0, none⟩ = some (.pointer (some ⟨wb, 0, none⟩))) (hwb : w.heap[wb]? = some (.cells #[lv, .map (some mb)] 81 (0, 0))) (hm : w.heap[mb]? = some (.map es clk)) (hE : Entries es (placeOf s s.length)) (hnd : NodupDots s)
    (hbo : w.cell? ⟨bo, 0, none⟩ = some (.slice (some ⟨ob, 0, none⟩) n cap)) (hob : w.heap[ob]? = some (.cells vs 72 (0, 0))) (hvi : vs[i]? = some cur) (hin : i < n) (_hn : n ≤ 1000000)
    (hbi : w.cell? ⟨bi, 0, none⟩ = some (.int .i64 (i : Int))) (hown : w.ownsRow base 3 1 cur ints.length (intCells ints)) (hil : ints.length ≤ 1000000) (hbase : base ≤ w.heap.size) (hbob : bo < base) (hbib : bi < base) (_hn1 : ob ≠ bo) (_hn2 : ob ≠ bi) :
    Calls Try.prog 42 #[.agg #[.int .i64 d.1, .int .i64 d.2], .pointer (some ⟨bw, 0, none⟩), .pointer (some ⟨bo, 0, none⟩), .pointer (some ⟨bi, 0, none⟩)] w fun e w' =>
      e = .returned (.bool true) ∧ OnStep ob i base vs cur ints (ints ++ posList s d) w w' := by
  have cw1 : w.cell? ⟨wb, 1, none⟩ = some (.map (some mb)) := by rw [cell_of_heap hwb]; rfl
  have l1 := World.block_lt_of_cell? _ _ hbw
  have l2 := World.block_lt_of_cell? _ _ hbo
  have l3 := World.block_lt_of_cell? _ _ hbi
  have l4 := lt_of_heap hwb
  have l5 := lt_of_heap hob
  simp only at l1 l2 l3
  have m1 := fun o => heap_drew_keeps (heap_alloc_keeps hm o)
  have m2 := fun o => heap_alloc_keeps hm o
  have hlk := run_lookup_ok 79 3 mapIntDesc _ zeroInt mb es clk _ hE d
  rw [getAt_place hnd] at hlk
  have HOB := Lib.hid hob
  have HOWN := Lib.hid hown
  have HVI := Lib.hid hvi
  clear hE hm hwb hob hown hvi hnd
  have cob : w.cell? ⟨ob, i, none⟩ = some cur := by rw [cell_of_heap HOB.out]; exact HVI.out
  have hin0 : (0 : Int) ≤ (i : Int) := Int.natCast_nonneg _
  have hin1 : (i : Int) < (n : Int) := by omega
  unfold posList
  cases hp : posOf s d with
  | none =>
    rw [hp] at hlk
    simp only [Option.map_none, Option.getD_none, Option.isSome_none] at hlk
    simp only [List.append_nil]
    clear hp
    go_enter Try.func42, Try.ntmps42
    go_wp2
    go_quiet (fail)
    go_wp2
    go_ret
    refine ⟨rfl, cur, ?_, ?_, ((Mod.refl _ w).alloc _).drewN _, fun k hk => .inl hk⟩
    · have : vs.setIfInBounds i cur = vs := by
        apply Array.ext_getElem?
        intro j
        rw [Array.getElem?_setIfInBounds]
        by_cases hj : i = j
        · subst hj
          have hlt := (Array.getElem?_eq_some_iff.1 HVI.out).1
          have hv := HVI.out
          rw [Array.getElem?_eq_getElem hlt] at hv
          simp [hlt]; simpa using hv.symm
        · simp [hj]
      rw [this]
      exact heap_alloc_keeps HOB.out _
    · exact ownsRow_mono HOWN.out fun k hk => Below.heap_alloc _ _ _ (HOWN.out.lt k hk).2
  | some k =>
    rw [hp] at hlk
    simp only [Option.map_some, Option.getD_some, Option.isSome_some] at hlk
    clear hp
    obtain ⟨i0, hi0, hz0, hz1, hz2⟩ := info_parts intInfo
    go_enter Try.func42, Try.ntmps42
    go_wp2
    go_quiet (fail)
    go_wp2
    have hb2 : Below w.heap.size w ((w.alloc (.cells #[.int .i64 d.1, .int .i64 d.2] 28)).drewN nq) := below_drewN ((Below.refl _ _).alloc (Nat.le_refl _) _) _
    generalize (w.alloc (.cells #[.int .i64 d.1, .int .i64 d.2] 28)).drewN nq = w2 at hb2 ⊢
    have d1 : w2.cell? ⟨bo, 0, none⟩ = some (.slice (some ⟨ob, 0, none⟩) n cap) := by rw [hb2.cell l2]; exact hbo
    have d2 : w2.cell? ⟨bi, 0, none⟩ = some (.int .i64 (i : Int)) := by rw [hb2.cell l3]; exact hbi
    have d3 : w2.cell? ⟨ob, i, none⟩ = some cur := by rw [hb2.cell l5]; exact cob
    have hob2 := Below.heap hb2 HOB.out l5
    have hown2 := ownsRow_mono HOWN.out (w' := w2) fun k hk => hb2.block k (HOWN.out.lt k hk).2
    have hsz2 := hb2.size
    have HB2 := Lib.hid hb2
    have HOB2 := Lib.hid hob2
    have HOWN2 := Lib.hid hown2
    have q1 : bo < w2.heap.size := by omega
    have q2 : bi < w2.heap.size := by omega
    have q3 : ob < w2.heap.size := by omega
    clear hb2 hob2 hown2 hbo hbi cob hbw cw1 m1 m2 hlk l1 l2 l3 l4 l5
    refine wp_region_F (fun j => Nat.blt j 9) (fun w' => w'.cell? ⟨bo, 0, none⟩ = some (.slice (some ⟨ob, 0, none⟩) n cap) ∧ w'.cell? ⟨bi, 0, none⟩ = some (.int .i64 (i : Int)) ∧ w'.cell? ⟨ob, i, none⟩ = some cur) (by rfl) ?_
    have HS : (fun w' : World => w'.cell? ⟨bo, 0, none⟩ = some (.slice (some ⟨ob, 0, none⟩) n cap) ∧ w'.cell? ⟨bi, 0, none⟩ = some (.int .i64 (i : Int)) ∧ w'.cell? ⟨ob, i, none⟩ = some cur) (World.drew w2) := ⟨d1, d2, d3⟩
    change wpAnyF _ _ _ _ _ _ _ _ _ (World.drew w2)
    refine wpAnyF_take (i := 0) (oi := ⟨_, _, _, _, _, _⟩) (v := ?_) rfl (by kernel_rfl) (fun _ _ _ h => h) (Or.inl ⟨by rfl, ?_⟩) HS ?_
    rotate_left
    · intro wS hSw; (try dsimp only at hSw); go_simp; (try with_reducible rfl)
    simp only [Act.put, List.setIfInBounds_toArray, List.set_cons_zero, List.set_cons_succ]
    refine wpAnyF_take (i := 1) (oi := ⟨_, _, _, _, _, _⟩) (v := ?_) rfl (by kernel_rfl) (fun _ _ _ h => h) (Or.inl ⟨by rfl, ?_⟩) HS ?_
    rotate_left
    · intro wS hSw; (try dsimp only at hSw); go_simp; (try with_reducible rfl)
    simp only [Act.put, List.setIfInBounds_toArray, List.set_cons_zero, List.set_cons_succ]
    refine wpAnyF_take (i := 2) (oi := ⟨_, _, _, _, _, _⟩) (v := ?_) rfl (by kernel_rfl) (fun _ _ _ h => h) (Or.inl ⟨by rfl, ?_⟩) HS ?_
    rotate_left
    · intro wS hSw; (try dsimp only at hSw); go_simp; (try with_reducible rfl)
    simp only [Act.put, List.setIfInBounds_toArray, List.set_cons_zero, List.set_cons_succ]
    refine wpAnyF_take (i := 3) (oi := ⟨_, _, _, _, _, _⟩) (v := ?_) rfl (by kernel_rfl) (fun _ _ _ h => h) (Or.inl ⟨by rfl, ?_⟩) HS ?_
    rotate_left
    · intro wS hSw; (try dsimp only at hSw); go_simp; (try with_reducible rfl)
    simp only [Act.put, List.setIfInBounds_toArray, List.set_cons_zero, List.set_cons_succ]
    refine wpAnyF_take (i := 4) (oi := ⟨_, _, _, _, _, _⟩) (v := ?_) rfl (by kernel_rfl) (fun _ _ _ h => h) (Or.inl ⟨by rfl, ?_⟩) HS ?_
    rotate_left
    · intro wS hSw; (try dsimp only at hSw); go_simp; (try with_reducible rfl)
    simp only [Act.put, List.setIfInBounds_toArray, List.set_cons_zero, List.set_cons_succ]
    refine wpAnyF_take (i := 5) (oi := ⟨_, _, _, _, _, _⟩) (v := ?_) rfl (by kernel_rfl) (fun _ _ _ h => h) (Or.inl ⟨by rfl, ?_⟩) HS ?_
    rotate_left
    · intro wS hSw; (try dsimp only at hSw); go_simp; (try with_reducible rfl)
    simp only [Act.put, List.setIfInBounds_toArray, List.set_cons_zero, List.set_cons_succ]
    refine wpAnyF_take (i := 6) (oi := ⟨_, _, _, _, _, _⟩) (v := ?_) rfl (by kernel_rfl) (fun _ _ _ h => h) (Or.inl ⟨by rfl, ?_⟩) HS ?_
    rotate_left
    · intro wS hSw; (try dsimp only at hSw); go_simp; (try with_reducible rfl)
    simp only [Act.put, List.setIfInBounds_toArray, List.set_cons_zero, List.set_cons_succ]
    refine wpAnyF_step (i := 7) (o := ⟨_, _, _, _, _, _⟩) rfl (by kernel_rfl) ?_
    go_wp2
    refine onEnd_normal ⟨⟨?_, ?_, ?_⟩, ?_⟩
    · rw [World.cell?_drew, World.cell?_alloc_lt _ _ _ q1]; exact d1
    · rw [World.cell?_drew, World.cell?_alloc_lt _ _ _ q2]; exact d2
    · rw [World.cell?_drew, World.cell?_alloc_lt _ _ _ q3]; exact d3
    refine wpAnyF_step (i := 8) (o := ⟨_, _, _, _, _, _⟩) rfl (by kernel_rfl) ?_
    refine wpList_append_lies _ rfl _ _ _ rfl base 3 i0 _ 1 8 Try.underlying72 hi0 hz0 hz1 hz2 rfl (by omega) cur ints.length (intCells ints) (by rfl) (HOWN2.out.alloc _).drew ⟨w2.heap.size, 0, none⟩ 1 1 [.int .i64 (k : Int)] (by rfl) (by rfl) (World.news_of_block (cs := #[.int .i64 (k : Int)]) (t := 3) (fr := (0, 0)) (heap_alloc_new w2 _)) (by simp [Value.oneCell']) (by omega) (by unfold maxLen; omega) (by omega) (by simp; omega) (w2.heap.size + 1) (by simp) ?_
    intro gg cap4 w4 hown4 hgrow4 hat hlt
    have hx4 := grown_heap HOB2.out hgrow4 (ownsRow_ne HOWN2.out HOB2.out (by decide))
    have x4 : w4.cell? ⟨ob, i, none⟩ = some cur := by rw [cell_of_heap hx4]; exact HVI.out
    have f4 : w4.frozen? ⟨ob, i, none⟩ = false := free_of_heap hx4 i
    have y1 : w4.cell? ⟨bo, 0, none⟩ = some (.slice (some ⟨ob, 0, none⟩) n cap) := grown_cell d1 hgrow4 (fun h => by have := (HOWN2.out.lt bo h).1; omega)
    have y2 : w4.cell? ⟨bi, 0, none⟩ = some (.int .i64 (i : Int)) := grown_cell d2 hgrow4 (fun h => by have := (HOWN2.out.lt bi h).1; omega)
    have HX4 := Lib.hid hx4
    clear hx4
    refine onEnd_normal ⟨fun _ => ⟨y1, y2, x4⟩, ?_⟩
    refine wpAnyF_chain [9,10] [⟨_, _, _, _, _, _⟩, ⟨_, _, _, _, _, _⟩] rfl (by kernel_rfl) ?_
    go_wp2
    go_ret
    exact ⟨rfl, OnStep.yes HOB.out HVI.out HB2.out HX4.out hown4 hgrow4 hat (ownsRow_ne HOWN2.out HOB2.out (by decide))⟩
end Go.Proofs.Ytibnnhdpaccpfaa
