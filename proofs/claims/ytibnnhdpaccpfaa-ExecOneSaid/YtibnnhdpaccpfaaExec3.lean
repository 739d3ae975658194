import Derived.Test.YtibnnhdpaccpfaaExec2
import Derived.Test.YtibnnhdpaccpfaaLine
import Derived.Deep.CutBlock
namespace Go.Proofs.Ytibnnhdpaccpfaa
open Go.RowKit

def XS.wait (x : XS) (d : Dot) : V7 := match x.find d with | some c => c.v | none => V7.zero
/-- what can be executed now -/
def nowOf (x : XS) (D : List Dot) : List Dot := (D.takeWhile fun d => decide (d ∈ x.done) || V7.le (x.wait d) x.has).filter fun d => !decide (d ∈ x.done)
def XS.setHas (x : XS) (v : V7) : XS := { x with has := if V7.good v = true then V7.merge x.has v else x.has }
def XS.run (x : XS) (D : List Dot) : XS := { x with done := x.done ++ nowOf x D }

theorem XRaw.mark {base : Nat} {w w' : World} {xb : Nat} {F : Nat → Prop} {x : XS} {ma mr : Nat} {lv dv : Value} {es : Array MapEntry} {clk : Nat} {es2 : Array MapEntry} {clk2 : Nat} {d : Dot}
    (h : XRaw base w xb F x ma mr lv dv es clk es2 clk2) (hm : MarkPost xb ma mr (.int .i64 x.has.a0) (.int .i64 x.has.a1) (.int .i64 x.has.a2) (.int .i64 x.has.a3) (.int .i64 x.has.a4) (.int .i64 x.has.a5) (.int .i64 x.has.a6) lv dv x.done d (ranVals x.done) true w w') :
    XAt base w' xb (fun k => F k ∨ w.heap.size ≤ k ∧ k < w'.heap.size) { x with done := x.done ++ [d] } ∧ Mod F w w' := by
  obtain ⟨es2', clk2', dv', hx, hr, hE, hown, hat, hmod⟩ := hm
  have nxa : xb ≠ ma := cells_ne_map h.blk h.all
  have nxr : xb ≠ mr := cells_ne_map h.blk h.ran
  have hM : Mod F w w' := hmod.weaken fun k hk => by
    rcases hk with rfl | rfl | hk
    · exact h.fx
    · exact h.fr
    · exact h.fd k hk
  have hbase : base ≤ w.heap.size := by have := h.low xb h.fx; omega
  refine ⟨⟨ma, mr, lv, dv', es, clk, es2', clk2', hx, hmod.heap h.all ?_, h.alls, hr, ?_, h.ne, ownsRow_mod h.l hmod ?_, hown, fun c hc => ?_, .inl h.fx, .inl h.fa, .inl h.fr, fun k hk => .inl (h.fl k hk), fun k hk => ?_, fun k hk => ?_⟩, hM⟩
  · rintro (he | he | he)
    · exact nxa he.symm
    · exact h.ne he
    · exact own_ne_map h.dn h.all he
  · have : ranVals (x.done ++ [d]) = ranVals x.done ++ [(d, .bool true)] := by simp [ranVals]
    show Entries es2' (ranVals (x.done ++ [d]))
    rw [this]; exact hE
  · intro k hk
    rintro (he | he | he)
    · rw [he] at hk; exact ownsRow_ne h.l h.blk (by decide) hk
    · rw [he] at hk; exact own_ne_map h.l h.ran hk
    · exact own_ne_own h.l h.dn (by decide) hk he
  · obtain ⟨h1, h2⟩ := h.bod c hc
    have n1 : ∀ k, c.b.ownBlock = some k → ¬ (k = xb ∨ k = mr ∨ dv.ownBlock = some k) := fun k hk => by
      obtain ⟨_, cs, hcs⟩ := h2 k hk
      rintro (he | he | he)
      · exact cells_ne hcs h.blk (by decide) he
      · exact cells_ne_map hcs h.ran he
      · exact ownsRow_ne h.dn hcs (by decide) he
    refine ⟨h1.mod hmod n1, fun k hk => ?_⟩
    obtain ⟨hF, cs, hcs⟩ := h2 k hk
    exact ⟨.inl hF, cs, hmod.heap hcs (n1 k hk)⟩
  · rcases hat k hk with h1 | h1
    · exact .inl (h.fd k h1)
    · exact .inr ⟨h1, (hown.lt k hk).2⟩
  · rcases hk with hk | hk
    · have := h.low k hk
      have := hmod.size
      omega
    · omega

/-- what is had -/
theorem setCells7 {w : World} {b : Nat} {v : V7} {r : List Value} {t : TypeId} {a0 a1 a2 a3 a4 a5 a6 : Value} (h : w.heap[b]? = some (.cells ([a0, a1, a2, a3, a4, a5, a6] ++ r).toArray t (0, 0))) :
    (w.setCells b 0 v.cells).heap[b]? = some (.cells (v.cells ++ r).toArray t (0, 0)) ∧ Mod (fun k => k = b) w (w.setCells b 0 v.cells) := by
  have step : ∀ {w : World} {l : List Value} (o : Nat) (u : Value), w.heap[b]? = some (.cells l.toArray t (0, 0)) → (w.setCell ⟨b, o, none⟩ u).heap[b]? = some (.cells (l.set o u).toArray t (0, 0)) := fun o u h => by
    rw [heap_setCell_same h o u]; simp
  unfold V7.cells
  simp only [World.setCells]
  refine ⟨step _ _ (step _ _ (step _ _ (step _ _ (step _ _ (step _ _ (step _ _ h)))))), ?_⟩
  exact (((((((Mod.refl (fun k => k = b) w).setCell _ _ (fun _ => rfl)).setCell _ _ (fun _ => rfl)).setCell _ _ (fun _ => rfl)).setCell _ _ (fun _ => rfl)).setCell _ _ (fun _ => rfl)).setCell _ _ (fun _ => rfl)).setCell _ _ (fun _ => rfl)
theorem XRaw.setHas {base : Nat} {w : World} {xb : Nat} {F : Nat → Prop} {x : XS} {ma mr : Nat} {lv dv : Value} {es : Array MapEntry} {clk : Nat} {es2 : Array MapEntry} {clk2 : Nat} (h : XRaw base w xb F x ma mr lv dv es clk es2 clk2) (v : V7) :
    XRaw base (w.setCells xb 0 v.cells) xb F { x with has := v } ma mr lv dv es clk es2 clk2 ∧ Mod (fun k => k = xb) w (w.setCells xb 0 v.cells) := by
  obtain ⟨h1, hm⟩ := setCells7 (v := v) (r := [.map (some ma), lv, .map (some mr), dv]) h.blk
  refine ⟨⟨h1, hm.heap h.all (cells_ne_map h.blk h.all).symm, h.alls, hm.heap h.ran (cells_ne_map h.blk h.ran).symm, h.rans, h.ne, ownsRow_mod h.l hm ?_, ownsRow_mod h.dn hm ?_, fun c hc => ?_, h.fx, h.fa, h.fr, h.fl, h.fd, fun k hk => ?_⟩, hm⟩
  · intro k hk he
    rw [he] at hk; exact ownsRow_ne h.l h.blk (by decide) hk
  · intro k hk he
    rw [he] at hk; exact ownsRow_ne h.dn h.blk (by decide) hk
  · obtain ⟨h2, h3⟩ := h.bod c hc
    have n1 : ∀ k, c.b.ownBlock = some k → ¬ k = xb := fun k hk he => by
      obtain ⟨_, cs, hcs⟩ := h3 k hk
      exact cells_ne hcs h.blk (by decide) he
    refine ⟨h2.mod hm n1, fun k hk => ?_⟩
    obtain ⟨hF, cs, hcs⟩ := h3 k hk
    exact ⟨hF, cs, hm.heap hcs (n1 k hk)⟩
  · have := h.low k hk
    have := hm.size
    omega

def nowTo (x : XS) (D : List Dot) (k : Nat) : List Dot := (D.take k).filter fun d => !decide (d ∈ x.done)
def okTo (x : XS) (D : List Dot) (k : Nat) : Prop := ∀ d ∈ D.take k, (decide (d ∈ x.done) || V7.le (x.wait d) x.has) = true
theorem takeWhile_of {α : Type} {p : α → Bool} : ∀ (l : List α) (k : Nat), (∀ d ∈ l.take k, p d = true) → (∀ d, l[k]? = some d → p d = false) → l.takeWhile p = l.take k
  | [], k, _, _ => by simp
  | a :: l, 0, _, h => by simp [h a rfl]
  | a :: l, k + 1, h, h' => by
    rw [List.take_succ_cons, List.takeWhile_cons, if_pos (h a (by simp))]
    rw [takeWhile_of l k (fun d hd => h d (by simp [hd])) (fun d hd => h' d (by simpa using hd))]
theorem nowOf_end {x : XS} {D : List Dot} {k : Nat} (h : okTo x D k) (hk : D.length ≤ k) : nowOf x D = nowTo x D k := by
  unfold nowOf nowTo
  rw [takeWhile_of D k h (fun d hd => by rw [List.getElem?_eq_none hk] at hd; cases hd)]
theorem nowOf_break {x : XS} {D : List Dot} {k : Nat} {d : Dot} (h : okTo x D k) (hd : D[k]? = some d) (h1 : d ∉ x.done) (h2 : V7.le (x.wait d) x.has = false) : nowOf x D = nowTo x D k := by
  unfold nowOf nowTo
  rw [takeWhile_of D k h (fun d' hd' => by rw [hd] at hd'; cases hd'; simp [h1, h2])]
theorem nowTo_ran {x : XS} {D : List Dot} {k : Nat} {d : Dot} (hd : D[k]? = some d) (h1 : d ∈ x.done) : nowTo x D (k + 1) = nowTo x D k := by
  obtain ⟨hk, rfl⟩ := List.getElem?_eq_some_iff.1 hd
  unfold nowTo
  rw [List.take_succ_eq_append_getElem hk, List.filter_append]
  simp [h1]
theorem nowTo_new {x : XS} {D : List Dot} {k : Nat} {d : Dot} (hd : D[k]? = some d) (h1 : d ∉ x.done) : nowTo x D (k + 1) = nowTo x D k ++ [d] := by
  obtain ⟨hk, rfl⟩ := List.getElem?_eq_some_iff.1 hd
  unfold nowTo
  rw [List.take_succ_eq_append_getElem hk, List.filter_append]
  simp [h1]
theorem okTo_next {x : XS} {D : List Dot} {k : Nat} {d : Dot} (h : okTo x D k) (hd : D[k]? = some d) (h1 : d ∈ x.done ∨ V7.le (x.wait d) x.has = true) : okTo x D (k + 1) := by
  obtain ⟨hk, rfl⟩ := List.getElem?_eq_some_iff.1 hd
  intro e he
  rw [List.take_succ_eq_append_getElem hk, List.mem_append, List.mem_singleton] at he
  rcases he with he | rfl
  · exact h e he
  · rcases h1 with h1 | h1 <;> simp [h1]
theorem nowTo_len (x : XS) (D : List Dot) (k : Nat) : (nowTo x D k).length ≤ D.length := by
  unfold nowTo
  exact Nat.le_trans (List.length_filter_le _ _) (List.length_take_le' _ _)

theorem XS.Ok.more {x : XS} (h : x.Ok) {N : List Dot} (hN : ∀ d ∈ N, ∃ c ∈ x.coms, c.i.dot = d) (hnd : (x.done ++ N).Nodup) : ({ x with done := x.done ++ N } : XS).Ok :=
  ⟨h.good, fun d hd => by
    rcases List.mem_append.1 hd with hd | hd
    · exact h.sub d hd
    · exact hN d hd, hnd, h.blen⟩
theorem nowOf_mem {x : XS} {D : List Dot} {d : Dot} (h : d ∈ nowOf x D) : d ∈ D ∧ d ∉ x.done := by
  unfold nowOf at h
  obtain ⟨h1, h2⟩ := List.mem_filter.1 h
  exact ⟨(List.takeWhile_sublist _).subset h1, by simpa using h2⟩
theorem nowOf_nodup {x : XS} {D : List Dot} (h : D.Nodup) (hx : x.done.Nodup) : (x.done ++ nowOf x D).Nodup := by
  rw [List.nodup_append]
  refine ⟨hx, ?_, fun a ha b hb he => (nowOf_mem hb).2 (he ▸ ha)⟩
  exact ((List.filter_sublist).trans (List.takeWhile_sublist _)).nodup h
theorem LineSpec.coms {x : XS} {K : List Inst} {D : List Dot} (h : LineSpec x.insts K D) {d : Dot} (hd : d ∈ D) : ∃ c ∈ x.coms, c.i.dot = d := by
  obtain ⟨y, hy, hyd⟩ := (h.mem d).1 hd
  obtain ⟨c, hc, rfl⟩ := List.mem_map.1 (h.kept.sub y hy)
  exact ⟨c, hc, hyd⟩
theorem XS.Ok.run {x : XS} (h : x.Ok) {D : List Dot} (hD : LineOf x.insts D) : (x.run D).Ok := by
  obtain ⟨K, hs⟩ := LineOf.spec h.good hD
  exact h.more (fun d hd => hs.coms (nowOf_mem hd).1) (nowOf_nodup hs.nodup h.nodup)
theorem XS.Ok.setHas {x : XS} (h : x.Ok) (v : V7) : (x.setHas v).Ok := ⟨h.good, h.sub, h.nodup, h.blen⟩

def HavePost (base : Nat) (w : World) (xb : Nat) (F : Nat → Prop) (x : XS) (v : V7) (e : Ending) (w' : World) : Prop :=
  ∃ D nv F', e = .returned nv ∧ LineOf x.insts D ∧ Sl0 w' nv (nowOf (x.setHas v) D).length (dotCells (nowOf (x.setHas v) D)) ∧ XAt base w' xb F' ((x.setHas v).run D) ∧ (∀ k, F' k → F k ∨ w.heap.size ≤ k) ∧ Mod F w w'

theorem vecSize : (Try.prog.info? 32).map (·.size) = some 7 := by kernel_rfl

set_option maxRecDepth 100000 in
set_option maxHeartbeats 4000000 in
theorem xhave_any (base : Nat) (w : World) (xb : Nat) (F : Nat → Prop) (x : XS) (h : XAt base w xb F x) (hok : x.Ok) (v : V7) :
    Calls Try.prog 9 #[.pointer (some ⟨xb, 0, none⟩), .agg #[.int .i64 v.a0, .int .i64 v.a1, .int .i64 v.a2, .int .i64 v.a3, .int .i64 v.a4, .int .i64 v.a5, .int .i64 v.a6]] w (HavePost base w xb F x v) := by
  have HX := Lib.hid h
  have HOK := Lib.hid hok
  clear h hok
  go_enter Try.func9, Try.ntmps9
  go_wp2_with fail
  refine (vGood_any v _).mono ?_
  rintro e w1 ⟨rfl, hb1⟩
  have hb1' : Below w.heap.size w w1 := ((Below.refl _ _).alloc (Nat.le_refl _) _).trans (hb1.mono (by simp))
  have hbox : w1.heap[w.heap.size]? = some (.cells #[.int .i64 v.a0, .int .i64 v.a1, .int .i64 v.a2, .int .i64 v.a3, .int .i64 v.a4, .int .i64 v.a5, .int .i64 v.a6] 32 (0, 0)) := Below.heap hb1 (heap_alloc_new w _) (by simp)
  clear hb1
  go_upto_if 11 with (fail)
  go_cut [] (fun wx => XAt base wx xb F (x.setHas v) ∧ Mod F w wx)
  case first =>
    cases hgv : V7.good v with
    | false =>
      have hs : x.setHas v = x := by unfold XS.setHas; rw [hgv]; rfl
      have HSE := Lib.hid hs
      clear hs
      go_wp2_with fail
      go_meet
      rw [HSE.out]
      exact ⟨HX.out.below hb1', Mod.of_below hb1'⟩
    | true =>
      have hs : x.setHas v = { x with has := V7.merge x.has v } := by unfold XS.setHas; rw [hgv]; rfl
      have HSE := Lib.hid hs
      have HB1 := Lib.hid hb1'
      obtain ⟨ma, mr, lv, dv, es, clk, es2, clk2, hx⟩ := HX.out.below hb1'
      have r1 : w1.rangeAt xb 0 x.has.cells := fun j u hj => by
        rw [cell_of_heap hx.blk, Nat.zero_add]
        have hjl := (List.getElem?_eq_some_iff.1 hj).1
        have h7 : (j : Nat) < 7 := hjl
        rw [← hj]
        match j, h7 with
        | 0, _ | 1, _ | 2, _ | 3, _ | 4, _ | 5, _ | 6, _ => rfl
      have r2 : w1.rangeAt w.heap.size 0 v.cells := fun j u hj => by rw [cell_of_heap hbox, Nat.zero_add, ← Array.getElem?_toList]; exact hj
      have lx := lt_of_heap hx.blk
      have lb := lt_of_heap hbox
      have HXR := Lib.hid hx
      clear hs hb1' hbox hx
      go_wp2_with fail
      refine wp_region_F (fun j => Nat.blt j 7) (fun w' => w'.rangeAt xb 0 x.has.cells ∧ w'.rangeAt w.heap.size 0 v.cells) (by rfl) ?_
      have HSS : (fun w' : World => w'.rangeAt xb 0 x.has.cells ∧ w'.rangeAt w.heap.size 0 v.cells) (World.drew w1) := ⟨r1, r2⟩
      change wpAnyF _ _ _ _ _ _ _ _ _ (World.drew w1)
      refine wpAnyF_take (i := 0) (oi := ⟨_, _, _, _, _, _⟩) (v := ?_) rfl (by kernel_rfl) (fun _ _ _ h => h) (Or.inl ⟨by rfl, ?_⟩) HSS ?_
      rotate_left
      · intro wS hSw; (try dsimp only at hSw); go_simp; (try with_reducible rfl)
      simp only [Act.put, List.setIfInBounds_toArray, List.set_cons_zero, List.set_cons_succ]
      refine wpAnyF_take (i := 1) (oi := ⟨_, _, _, _, _, _⟩) (v := ?_) rfl (by kernel_rfl) (fun _ _ _ h => h) (Or.inl ⟨by rfl, ?_⟩) HSS ?_
      rotate_left
      · intro wS hSw; (try dsimp only at hSw); go_simp; (try with_reducible rfl)
      simp only [Act.put, List.setIfInBounds_toArray, List.set_cons_zero, List.set_cons_succ]
      refine wpAnyF_take (i := 2) (oi := ⟨_, _, _, _, _, _⟩) (v := ?_) rfl (by kernel_rfl) (fun _ _ _ h => h) (Or.inl ⟨by rfl, ?_⟩) HSS ?_
      rotate_left
      · intro wS hSw; (try dsimp only at hSw); go_simp; (try with_reducible rfl)
      simp only [Act.put, List.setIfInBounds_toArray, List.set_cons_zero, List.set_cons_succ]
      refine wpAnyF_take (i := 3) (oi := ⟨_, _, _, _, _, _⟩) (v := ?_) rfl (by kernel_rfl) (fun _ _ _ h => h) (Or.inl ⟨by rfl, ?_⟩) HSS ?_
      rotate_left
      · intro wS hSw; (try dsimp only at hSw); go_simp; (try with_reducible rfl)
      simp only [Act.put, List.setIfInBounds_toArray, List.set_cons_zero, List.set_cons_succ]
      refine wpAnyF_take (i := 4) (oi := ⟨_, _, _, _, _, _⟩) (v := .agg (x.has.cells).toArray) rfl (by kernel_rfl) (fun _ _ _ h => h) (yieldsIf_load_mid (by rfl) 32 (.tmp 15) rfl xb 0 rfl x.has.cells _ (fun _ hS => hS.1) Try.underlying32 rfl vecSize) HSS ?_
      simp only [Act.put, List.setIfInBounds_toArray, List.set_cons_zero, List.set_cons_succ]
      refine wpAnyF_take (i := 5) (oi := ⟨_, _, _, _, _, _⟩) (v := .agg (v.cells).toArray) rfl (by kernel_rfl) (fun _ _ _ h => h) (yieldsIf_load_mid (by rfl) 32 (.tmp 3) rfl w.heap.size 0 rfl v.cells _ (fun _ hS => hS.2) Try.underlying32 rfl vecSize) HSS ?_
      simp only [Act.put, List.setIfInBounds_toArray, List.set_cons_zero, List.set_cons_succ]
      refine wpAnyF_step (i := 6) (o := ⟨_, _, _, _, _, _⟩) rfl (by kernel_rfl) ?_
      go_wp2_with fail
      refine (vMerge_any x.has v _).mono ?_
      rintro e w2 ⟨rfl, hb2⟩
      have hxr2 := HXR.out.frame (S := fun _ => False) (w' := w2) (Mod.of_below ((Below.refl _ _).drew.trans (hb2.mono (by simp)))) (fun _ _ h => h)
      have hthere : w2.there xb 0 7 := fun j hj => ⟨by
        rw [cell_of_heap hxr2.blk]
        match j, hj with
        | 0, _ | 1, _ | 2, _ | 3, _ | 4, _ | 5, _ | 6, _ => rfl, free_of_heap hxr2.blk _⟩
      have HXR2 := Lib.hid (And.intro hxr2 hthere)
      have HB2 := Lib.hid (show Below w1.heap.size w1 w2 from (Below.refl _ _).drew.trans (hb2.mono (by simp)))
      have r1' : w2.rangeAt xb 0 x.has.cells := fun j u hj => (HB2.out.cell lx).trans (r1 j u hj)
      have r2' : w2.rangeAt w.heap.size 0 v.cells := fun j u hj => (HB2.out.cell lb).trans (r2 j u hj)
      have HR12 := Lib.hid (And.intro r1' r2')
      clear hxr2 hthere hb2 HXR r1' r2' r1 r2 HSS
      go_wp2_with fail
      refine onEnd_normal ⟨fun _ => HR12.out, ?_⟩
      refine wpAnyF_chain [7,8,9] [⟨_, _, _, _, _, _⟩, ⟨_, _, _, _, _, _⟩, ⟨_, _, _, _, _, _⟩] rfl (by kernel_rfl) ?_
      go_wp2_with ((with_reducible show wpList _ _ _ (Oper.mk none _ _ _ _ _ :: _) _ _); refine wpList_store_mid (op := ⟨none, _, _, _, _, _⟩) rfl 32 (.tmp 20) (.tmp 18) rfl xb 0 (V7.merge x.has v).cells.toArray rfl rfl HXR2.out.2 vecSize (by simp [V7.cells, Value.oneCell']) ?_)
      go_meet
      rw [HSE.out]
      obtain ⟨hxf, hmf⟩ := HXR2.out.1.setHas (V7.merge x.has v)
      exact ⟨⟨ma, mr, lv, dv, es, clk, es2, clk2, hxf⟩, ((Mod.of_below (HB1.out.trans (HB2.out.mono HB1.out.size))).trans (hmf.weaken fun k hk => by rw [hk]; exact HXR2.out.1.fx))⟩
  case rest =>
    obtain ⟨hxc, hmc⟩ := hcut
    have hok1 : (x.setHas v).Ok := ⟨HOK.out.good, HOK.out.sub, HOK.out.nodup, HOK.out.blen⟩
    have hins : (x.setHas v).insts = x.insts := rfl
    obtain ⟨x1, hx1⟩ : ∃ x1, x.setHas v = x1 := ⟨_, rfl⟩
    rw [hx1] at hok1 hxc hins
    have HX1 := Lib.hid hx1
    have HOK1 := Lib.hid hok1
    have HINS := Lib.hid hins
    have HMC := Lib.hid hmc
    obtain ⟨ma, mr, lv, dv, es, clk, es2, clk2, hxr⟩ := hxc
    have hl8 : wc.cell? ⟨xb, 8, none⟩ = some lv := by rw [cell_of_heap hxr.blk]; rfl
    have hlen : x1.coms.length = x1.insts.length := by simp [XS.insts]
    have hlv := Sl0.of_own hxr.l (by omega)
    rw [hlen] at hlv
    have HLINE := Lib.hid (line_any lv x1.insts wc hlv hok1.good)
    have HXR := Lib.hid hxr
    have lx := lt_of_heap hxr.blk
    clear hx1 hok1 hins hmc hxr hlen hlv hbox hb1'
    go_wp2_with fail
    refine HLINE.out.mono ?_
    rintro e w3 ⟨v8, D, rfl, hD, hDl, hv8, hb3⟩
    obtain ⟨K, hspec⟩ := LineOf.spec HOK1.out.good hD
    have HD := Lib.hid hD
    have HSPEC := Lib.hid hspec
    have HXR3 := Lib.hid (HXR.out.frame (Mod.of_below (S := fun _ => False) hb3) (fun _ _ h => h))
    have HB3 := Lib.hid hb3
    obtain ⟨p8, cap8, rfl, hcap8, hp8⟩ := hv8.form
    have HP8 := Lib.hid hp8
    clear hD hspec hb3 hv8 hp8 hl8
    obtain ⟨dl, hdl⟩ : ∃ dl, D.length = dl := ⟨_, rfl⟩
    rw [hdl] at hDl hcap8 ⊢
    have HDL := Lib.hid hdl
    clear hdl
    go_upto_block 0 with fail
    go_cut [5] (fun s5 wx => wx.ownsRow w3.heap.size 28 2 s5 (nowOf x1 D).length (dotCells (nowOf x1 D)) ∧ Below w3.heap.size w3 wx)
    case first =>
      go_wp2_with fail
      go_loopw [5, 28] (fun v5 v28 wr => ∃ k : Nat, k ≤ dl ∧ v28 = .int .i64 k ∧ okTo x1 D k ∧ wr.ownsRow w3.heap.size 28 2 v5 (nowTo x1 D k).length (dotCells (nowTo x1 D k)) ∧ Below w3.heap.size w3 wr) (fun _ v _ => dl - (intOf v).toNat)
      case atStart => exact ⟨0, by omega, rfl, fun d hd => by simp at hd, ⟨by simp [nowTo, dotCells], .inl ⟨rfl, by simp [nowTo]⟩⟩, Below.refl _ _⟩
      case round =>
        obtain ⟨k, hk, rfl, hokk, hown, hbel⟩ := hrel
        have HOKK := Lib.hid hokk
        have HOWN := Lib.hid hown
        have HBEL := Lib.hid hbel
        clear hokk hown hbel
        by_cases hlt : k < dl
        · obtain ⟨b8, rfl, hcb, hbl⟩ := HP8.out (by have := HDL.out; omega)
          have hkd : k < D.length := by have := HDL.out; omega
          obtain ⟨a1, a2⟩ := dotCells_at D k hkd
          have c1 := hcb _ _ a1
          have c2 := hcb _ _ a2
          rw [Nat.zero_add] at c1 c2
          rw [← HBEL.out.cell hbl] at c1 c2
          have hdk : D[k]? = some D[k] := List.getElem?_eq_getElem hkd
          generalize D[k] = d at c1 c2 hdk
          have hkn := nowTo_len x1 D k
          obtain ⟨c, hfind⟩ : ∃ c, x1.coms.find? (fun c => c.i.dot == d) = some c := by
            obtain ⟨y, hy, hyd⟩ := (HSPEC.out.mem d).1 (List.mem_of_getElem? hdk)
            have hy2 := HSPEC.out.kept.sub y hy
            obtain ⟨c0, hc0, rfl⟩ := List.mem_map.1 hy2
            have hsome : (x1.coms.find? (fun c => c.i.dot == d)).isSome = true := List.find?_isSome.2 ⟨c0, hc0, by simp [hyd]⟩
            exact Option.isSome_iff_exists.1 hsome
          have hwait : x1.wait d = c.v := by unfold XS.wait XS.find; rw [hfind]
          have hxw := HXR3.out.frame (Mod.of_below (S := fun _ => False) HBEL.out) (fun _ _ h => h)
          have g7 : wr.cell? ⟨xb, 7, none⟩ = some (.map (some ma)) := by rw [cell_of_heap hxw.blk]; rfl
          have g9 : wr.cell? ⟨xb, 9, none⟩ = some (.map (some mr)) := by rw [cell_of_heap hxw.blk]; rfl
          have lxw := lt_of_heap hxw.blk
          have hmr := hxw.ran
          have hmr1 := fun o => heap_drew_keeps (heap_alloc_keeps hmr o)
          have hmr2 := fun o => heap_alloc_keeps hmr o
          have hlk2 := run_lookup 53 4 mapBoolDesc _ zeroBool mr es2 clk2 _ hxw.rans d
          rw [(ranVals_bool _).get, getAt_ran] at hlk2
          have HXW := Lib.hid hxw
          have HDK := Lib.hid hdk
          have HFIND := Lib.hid hfind
          have HWAIT := Lib.hid hwait
          clear hcb hbl a1 a2 hdk hfind hwait hxw hkd
          by_cases hdn : d ∈ x1.done
          · simp only [hdn, decide_true] at hlk2
            have HDN := Lib.hid hdn
            clear hdn
            go_wp2_with fail
            go_quiet (fail)
            go_wp2_with fail
            go_roundw
            case rel =>
              refine ⟨k + 1, by omega, by go_num, okTo_next HOKK.out HDK.out (.inl HDN.out), ?_, HBEL.out.trans ((below_drewN ((Below.refl _ _).alloc (Nat.le_refl _) _) _).mono HBEL.out.size)⟩
              rw [nowTo_ran HDK.out HDN.out]
              exact ownsRow_mono HOWN.out fun j hj => (below_drewN ((Below.refl wr.heap.size wr).alloc (Nat.le_refl _) _) _).block j (HOWN.out.lt j hj).2
            case measure => simp [intOf]; omega
          · simp only [hdn, decide_false] at hlk2
            have HDN := Lib.hid hdn
            clear hdn
            go_wp2_with fail
            go_quiet (fail)
            go_wp2_with fail
            have hb5 : Below wr.heap.size wr ((wr.alloc (.cells #[.int .i64 d.1, .int .i64 d.2] 28)).drewN nq) := below_drewN ((Below.refl _ _).alloc (Nat.le_refl _) _) _
            have hbx5 : ((wr.alloc (.cells #[.int .i64 d.1, .int .i64 d.2] 28)).drewN nq).heap[wr.heap.size]? = some (.cells #[.int .i64 d.1, .int .i64 d.2] 28 (0, 0)) := heap_alloc_new wr _
            generalize (wr.alloc (.cells #[.int .i64 d.1, .int .i64 d.2] 28)).drewN nq = w5 at hb5 hbx5 ⊢
            have hx5 := HXW.out.frame (Mod.of_below (S := fun _ => False) hb5) (fun _ _ h => h)
            have s1 : w5.cell? ⟨xb, 7, none⟩ = some (.map (some ma)) := by rw [cell_of_heap hx5.blk]; rfl
            have s2 := hx5.all
            have s3 : w5.cell? ⟨wr.heap.size, 0, none⟩ = some (.int .i64 d.1) := by rw [cell_of_heap hbx5]; rfl
            have s4 : w5.cell? ⟨wr.heap.size, 1, none⟩ = some (.int .i64 d.2) := by rw [cell_of_heap hbx5]; rfl
            have s5 : w5.rangeAt xb 0 x1.has.cells := fun j u hj => by
              rw [cell_of_heap hx5.blk, Nat.zero_add]
              have h7 : (j : Nat) < 7 := (List.getElem?_eq_some_iff.1 hj).1
              rw [← hj]
              match j, h7 with
              | 0, _ | 1, _ | 2, _ | 3, _ | 4, _ | 5, _ | 6, _ => rfl
            have hlk := run_lookup 52 57 mapCmdDesc _ zeroCmd ma es clk _ hx5.alls d
            rw [getAt_com, HFIND.out] at hlk
            simp only [Option.map_some, Option.getD_some, Com.val] at hlk
            have hfl : ∀ w, (Instr.field 57 (.agg c.cells) 1).run Try.prog w = .ok (.agg #[.int .i64 c.v.a0, .int .i64 c.v.a1, .int .i64 c.v.a2, .int .i64 c.v.a3, .int .i64 c.v.a4, .int .i64 c.v.a5, .int .i64 c.v.a6]) w := fun _ => by kernel_rfl
            have lx5 := lt_of_heap hx5.blk
            have lma5 := lt_of_heap hx5.all
            have lbx5 := lt_of_heap hbx5
            have HB5 := Lib.hid hb5
            have HX5 := Lib.hid hx5
            generalize c.cells = ccs at hlk hfl
            clear hb5 hbx5 hx5 hlk2 hmr hmr1 hmr2 g7 g9 c1 c2
            refine wp_region_F (fun j => Nat.blt j 13) (fun w' => w'.cell? ⟨xb, 7, none⟩ = some (.map (some ma)) ∧ w'.heap[ma]? = some (.map es clk) ∧ w'.cell? ⟨wr.heap.size, 0, none⟩ = some (.int .i64 d.1) ∧ w'.cell? ⟨wr.heap.size, 1, none⟩ = some (.int .i64 d.2) ∧ w'.rangeAt xb 0 x1.has.cells) (by rfl) ?_
            have HSS : (fun w' : World => w'.cell? ⟨xb, 7, none⟩ = some (.map (some ma)) ∧ w'.heap[ma]? = some (.map es clk) ∧ w'.cell? ⟨wr.heap.size, 0, none⟩ = some (.int .i64 d.1) ∧ w'.cell? ⟨wr.heap.size, 1, none⟩ = some (.int .i64 d.2) ∧ w'.rangeAt xb 0 x1.has.cells) (World.drew w5) := ⟨s1, s2, s3, s4, s5⟩
            change wpAnyF _ _ _ _ _ _ _ _ _ (World.drew w5)
            refine wpAnyF_take (i := 0) (oi := ⟨_, _, _, _, _, _⟩) (v := ?_) rfl (by kernel_rfl) (fun _ _ _ h => h) (Or.inl ⟨by rfl, ?_⟩) HSS ?_
            rotate_left
            · intro wS hSw; (try dsimp only at hSw); go_simp; (try with_reducible rfl)
            simp only [Act.put, List.setIfInBounds_toArray, List.set_cons_zero, List.set_cons_succ]
            refine wpAnyF_take (i := 1) (oi := ⟨_, _, _, _, _, _⟩) (v := ?_) rfl (by kernel_rfl) (fun _ _ _ h => h) (Or.inl ⟨by rfl, ?_⟩) HSS ?_
            rotate_left
            · intro wS hSw; (try dsimp only at hSw); go_simp; (try with_reducible rfl)
            simp only [Act.put, List.setIfInBounds_toArray, List.set_cons_zero, List.set_cons_succ]
            refine wpAnyF_take (i := 2) (oi := ⟨_, _, _, _, _, _⟩) (v := ?_) rfl (by kernel_rfl) (fun _ _ _ h => h) (Or.inl ⟨by rfl, ?_⟩) HSS ?_
            rotate_left
            · intro wS hSw; (try dsimp only at hSw); go_simp; (try with_reducible rfl)
            simp only [Act.put, List.setIfInBounds_toArray, List.set_cons_zero, List.set_cons_succ]
            refine wpAnyF_take (i := 3) (oi := ⟨_, _, _, _, _, _⟩) (v := ?_) rfl (by kernel_rfl) (fun _ _ _ h => h) (Or.inl ⟨by rfl, ?_⟩) HSS ?_
            rotate_left
            · intro wS hSw; (try dsimp only at hSw); go_simp; (try with_reducible rfl)
            simp only [Act.put, List.setIfInBounds_toArray, List.set_cons_zero, List.set_cons_succ]
            refine wpAnyF_take (i := 4) (oi := ⟨_, _, _, _, _, _⟩) (v := ?_) rfl (by kernel_rfl) (fun _ _ _ h => h) (Or.inl ⟨by rfl, ?_⟩) HSS ?_
            rotate_left
            · intro wS hSw; (try dsimp only at hSw); go_simp; (try with_reducible rfl)
            simp only [Act.put, List.setIfInBounds_toArray, List.set_cons_zero, List.set_cons_succ]
            refine wpAnyF_take (i := 5) (oi := ⟨_, _, _, _, _, _⟩) (v := ?_) rfl (by kernel_rfl) (fun _ _ _ h => h) (Or.inl ⟨by rfl, ?_⟩) HSS ?_
            rotate_left
            · intro wS hSw; (try dsimp only at hSw); go_simp; (try with_reducible rfl)
            simp only [Act.put, List.setIfInBounds_toArray, List.set_cons_zero, List.set_cons_succ]
            refine wpAnyF_take (i := 6) (oi := ⟨_, _, _, _, _, _⟩) (v := ?_) rfl (by kernel_rfl) (fun _ _ _ h => h) (Or.inl ⟨by rfl, ?_⟩) HSS ?_
            rotate_left
            · intro wS hSw; (try dsimp only at hSw); go_simp; (try with_reducible rfl)
            simp only [Act.put, List.setIfInBounds_toArray, List.set_cons_zero, List.set_cons_succ]
            refine wpAnyF_take (i := 7) (oi := ⟨_, _, _, _, _, _⟩) (v := ?_) rfl (by kernel_rfl) (fun _ _ _ h => h) (Or.inl ⟨by rfl, ?_⟩) HSS ?_
            rotate_left
            · intro wS hSw; (try dsimp only at hSw); go_simp; (try with_reducible rfl)
            simp only [Act.put, List.setIfInBounds_toArray, List.set_cons_zero, List.set_cons_succ]
            refine wpAnyF_take (i := 8) (oi := ⟨_, _, _, _, _, _⟩) (v := ?_) rfl (by kernel_rfl) (fun _ _ _ h => h) (Or.inl ⟨by rfl, ?_⟩) HSS ?_
            rotate_left
            · intro wS hSw; (try dsimp only at hSw); go_simp; (try with_reducible rfl)
            simp only [Act.put, List.setIfInBounds_toArray, List.set_cons_zero, List.set_cons_succ]
            refine wpAnyF_take (i := 9) (oi := ⟨_, _, _, _, _, _⟩) (v := ?_) rfl (by kernel_rfl) (fun _ _ _ h => h) (Or.inl ⟨by rfl, ?_⟩) HSS ?_
            rotate_left
            · intro wS hSw; (try dsimp only at hSw); go_simp; (try with_reducible rfl)
            simp only [Act.put, List.setIfInBounds_toArray, List.set_cons_zero, List.set_cons_succ]
            refine wpAnyF_take (i := 10) (oi := ⟨_, _, _, _, _, _⟩) (v := .agg (x1.has.cells).toArray) rfl (by kernel_rfl) (fun _ _ _ h => h) (yieldsIf_load_mid (by rfl) 32 (.tmp 47) rfl xb 0 rfl x1.has.cells _ (fun _ hS => hS.2.2.2.2) Try.underlying32 rfl vecSize) HSS ?_
            simp only [Act.put, List.setIfInBounds_toArray, List.set_cons_zero, List.set_cons_succ]
            refine wpAnyF_step (i := 11) (o := ⟨_, _, _, _, _, _⟩) rfl (by kernel_rfl) ?_
            go_wp2_with fail
            refine (vLe_any c.v x1.has _).mono ?_
            rintro e w6 ⟨rfl, hb6⟩
            have hb56 : Below w5.heap.size w5 w6 := (Below.refl _ _).drew.trans (hb6.mono (by simp))
            have t1 := (hb56.cell (p := ⟨xb, 7, none⟩) lx5).trans s1
            have t2 := Below.heap hb56 s2 lma5
            have t3 := (hb56.cell (p := ⟨wr.heap.size, 0, none⟩) lbx5).trans s3
            have t4 := (hb56.cell (p := ⟨wr.heap.size, 1, none⟩) lbx5).trans s4
            have t5 : w6.rangeAt xb 0 x1.has.cells := fun j u hj => (hb56.cell lx5).trans (s5 j u hj)
            have HTT := Lib.hid (And.intro t1 (And.intro t2 (And.intro t3 (And.intro t4 t5))))
            have HB6 := Lib.hid (HB5.out.trans (hb56.mono HB5.out.size))
            clear hb56 hb6 t1 t2 t5 s1 s2 s3 s4 s5 HSS hlk hfl
            cases hle : V7.le c.v x1.has with
            | false =>
              have HLE := Lib.hid hle
              clear hle
              go_wp2_with fail
              refine onEnd_normal ⟨fun _ => HTT.out, ?_⟩
              refine wpAnyF_step (i := 12) (o := ⟨_, _, _, _, _, _⟩) rfl (by kernel_rfl) ?_
              go_wp2_with fail
              refine onEnd_normal ⟨fun _ => HTT.out, ?_⟩
              refine wpAnyF_chain [] [] rfl (by kernel_rfl) ?_
              go_wp2_with fail
              go_meet
              rw [nowOf_break HOKK.out HDK.out HDN.out (by rw [HWAIT.out]; exact HLE.out)]
              exact ⟨ownsRow_mono HOWN.out fun j hj => HB6.out.block j (HOWN.out.lt j hj).2, HBEL.out.trans (HB6.out.mono HBEL.out.size)⟩
            | true =>
              have HLE := Lib.hid hle
              clear hle
              go_wp2_with fail
              refine onEnd_normal ⟨fun _ => HTT.out, ?_⟩
              refine wpAnyF_step (i := 12) (o := ⟨_, _, _, _, _, _⟩) rfl (by kernel_rfl) ?_
              go_wp2_with fail
              refine onEnd_normal ⟨fun _ => HTT.out, ?_⟩
              refine wpAnyF_chain [] [] rfl (by kernel_rfl) ?_
              obtain ⟨i0, hi0', hz0, hz1, hz2⟩ := info_parts dotInfo
              obtain ⟨nK, hnK⟩ : ∃ nK, (nowTo x1 D k).length = nK := ⟨_, rfl⟩
              rw [hnK] at hkn
              have hkn1 : nK ≤ 1000000 := by have := HDL.out; omega
              have HNK := Lib.hid hnK
              have hsz6 := HB6.out.size
              have hsz3 := HBEL.out.size
              have HO6 := Lib.hid (show w6.ownsRow w3.heap.size 28 2 u5 nK (dotCells (nowTo x1 D k)) from by
                have := HOWN.out
                rw [hnK] at this
                exact ownsRow_mono this fun j hj => HB6.out.block j (this.lt j hj).2)
              clear hnK
              go_wp2_with ((with_reducible show wpList _ _ _ (Oper.mk (some 54) _ _ _ _ _ :: _) _ _); refine stays ?_)
              refine Stays.go ?_
              refine wpList_append_lies _ rfl _ _ _ rfl w3.heap.size 28 i0 _ 2 16 Try.underlying33 hi0' hz0 hz1 hz2 rfl (by omega) u5 nK (dotCells (nowTo x1 D k)) (by rfl) (HO6.out.alloc _) ⟨w6.heap.size, 0, none⟩ 1 1 [.int .i64 d.1, .int .i64 d.2] (by rfl) (by rfl) (World.news_of_block (cs := #[.int .i64 d.1, .int .i64 d.2]) (t := 28) (fr := (0, 0)) (heap_alloc_new _ _)) (by simp [Value.oneCell']) (by omega) (by unfold maxLen; omega) (by omega) (by simp; omega) (w6.heap.size + 1) (by simp) ?_
              intro gg cap4 w7 hown7 hgrow7 hat hltg
              have HOWN7 := Lib.hid hown7
              have HGROW7 := Lib.hid hgrow7
              clear hown7 hgrow7
              go_wp2_with fail
              go_roundw
              case rel =>
                have hM : Mod (fun b => u5.ownBlock = some b) w6 w7 := Mod.grown (Mod.alloc (Mod.refl _ _) _) HGROW7.out (fun _ h _ => h)
                refine ⟨k + 1, by omega, by go_num, okTo_next HOKK.out HDK.out (.inr (by rw [HWAIT.out]; exact HLE.out)), ?_, (HBEL.out.trans (HB6.out.mono HBEL.out.size)).trans (below_of_mod hM (fun j hj => (HO6.out.lt j hj).1) (by omega))⟩
                rw [nowTo_new HDK.out HDN.out, List.length_append, HNK.out]
                have hd : dotCells (nowTo x1 D k ++ [d]) = dotCells (nowTo x1 D k) ++ [.int .i64 d.1, .int .i64 d.2] := by simp [dotCells]
                rw [hd]
                exact HOWN7.out
              case measure => simp [intOf]; omega
        · have hke : D.length ≤ k := by have := HDL.out; omega
          have HKE := Lib.hid hke
          clear hke
          go_wp2_with fail
          go_meet
          rw [nowOf_end HOKK.out HKE.out]
          exact ⟨HOWN.out, HBEL.out⟩
    case rest =>
      obtain ⟨hown, hbel⟩ := hcut
      have HOWN := Lib.hid hown
      have HBEL := Lib.hid hbel
      clear hown hbel
      obtain ⟨p5, cap5, rfl, hcap5, _, _⟩ := own_slice HOWN.out
      have HS5 := Lib.hid (Sl0.of_own HOWN.out (by omega))
      have HLT5 := Lib.hid (fun k hk => HOWN.out.lt k hk)
      have HNM := Lib.hid (fun (d : Dot) (hd : d ∈ nowOf x1 D) => HSPEC.out.coms (nowOf_mem hd).1)
      have HNN := Lib.hid (nowOf_nodup (x := x1) HSPEC.out.nodup HOK1.out.nodup)
      have hnl : (nowOf x1 D).length ≤ 1000 := by
        have h1 := (HOK1.out.more HNM.out HNN.out)
        have h2 := h1.dlen
        have h3 := h1.clen
        simp only [List.length_append] at h2 h3
        omega
      have HX9 := Lib.hid (show XAt base wc xb F x1 from ⟨ma, mr, lv, dv, es, clk, es2, clk2, HXR3.out.frame (Mod.of_below (S := fun _ => False) HBEL.out) (fun _ _ h => h)⟩)
      have HLOW := Lib.hid HXR3.out.low
      have HRUN := Lib.hid (show ({ x1 with done := x1.done ++ nowOf x1 D } : XS) = x1.run D from rfl)
      generalize hNE : nowOf x1 D = N at *
      have HNE := Lib.hid hNE
      clear hNE
      obtain ⟨nl, hnle⟩ : ∃ nl, N.length = nl := ⟨_, rfl⟩
      rw [hnle] at hnl hcap5 ⊢
      have HNL := Lib.hid hnle
      have HW9 := Lib.hid HBEL.out.size
      clear hnle HOWN
      obtain ⟨w9, hw9⟩ : ∃ w9 : World, w9 = wc := ⟨_, rfl⟩
      subst hw9
      obtain ⟨p5', cap5', he5, _, hp5⟩ := HS5.out.form
      simp only [Value.slice.injEq, true_and] at he5
      obtain ⟨rfl, rfl⟩ := he5
      have HP5 := Lib.hid hp5
      clear hp5
      go_wp2_with fail
      go_loopw [58] (fun v58 wj => ∃ (r : Nat) (F' : Nat → Prop), r ≤ nl ∧ v58 = .int .i64 r ∧ XAt base wj xb F' { x1 with done := x1.done ++ N.take r } ∧ (∀ k, F' k → F k ∨ w9.heap.size ≤ k) ∧ Mod F w9 wj) (fun v _ => nl - (intOf v).toNat)
      case atStart =>
        refine ⟨0, F, by omega, rfl, ?_, fun k hk => .inl hk, Mod.refl _ _⟩
        have h0 : ({ x1 with done := x1.done ++ N.take 0 } : XS) = x1 := by simp
        rw [h0]; exact HX9.out
      case round =>
        obtain ⟨r, F', hr, rfl, hxj, hF', hmj⟩ := hrel
        have HXJ := Lib.hid hxj
        have HF' := Lib.hid hF'
        have HMJ := Lib.hid hmj
        clear hxj hF' hmj
        by_cases hrlt : r < nl
        · have hrn : r < N.length := by have := HNL.out; omega
          obtain ⟨b5, rfl, hcb, hbl⟩ := HP5.out (by omega)
          have hb53 := (HLT5.out b5 rfl).1
          have hnF : ¬ F b5 := fun hF => by have := (HLOW.out b5 hF).2; have := HB3.out.size; omega
          obtain ⟨a1, a2⟩ := dotCells_at N r hrn
          have c1 := (HMJ.out.cell (p := ⟨b5, 0 + r * 2, none⟩) hbl hnF).trans (hcb _ _ a1)
          have c2 := (HMJ.out.cell (p := ⟨b5, 0 + (r * 2 + 1), none⟩) hbl hnF).trans (hcb _ _ a2)
          rw [Nat.zero_add] at c1 c2
          have hdr : N[r]? = some N[r] := List.getElem?_eq_getElem hrn
          have htk : N.take (r + 1) = N.take r ++ [N[r]] := List.take_succ_eq_append_getElem hrn
          have hnin : N[r] ∉ x1.done ++ N.take r := by
            intro hm
            have h1 := HNN.out
            rw [List.nodup_append] at h1
            rcases List.mem_append.1 hm with hm | hm
            · exact h1.2.2 _ hm _ (List.getElem_mem hrn) rfl
            · obtain ⟨j, hj, he⟩ := List.getElem_of_mem hm
              rw [List.getElem_take] at he
              have := (List.getElem_inj h1.2.1).1 he
              simp at hj; omega
          obtain ⟨c0, hc0, hcd⟩ := HNM.out N[r] (List.getElem_mem hrn)
          generalize N[r] = d at c1 c2 hdr htk hnin hcd
          have hokr : ({ x1 with done := x1.done ++ N.take r } : XS).Ok := HOK1.out.more (fun d hd => HNM.out d (List.mem_of_mem_take hd)) (by
            have h1 := HNN.out
            rw [List.nodup_append] at h1 ⊢
            exact ⟨h1.1, (List.take_sublist _ _).nodup h1.2.1, fun a ha b hb => h1.2.2 a ha b (List.mem_of_mem_take hb)⟩)
          have hdl1000 := hokr.dlen
          have hcl1000 := hokr.clen
          obtain ⟨ma', mr', lv', dv', es', clk', es2', clk2', hxr⟩ := HXJ.out
          have hxr2 := hxr.frame (Mod.of_below (S := fun _ => False) ((Below.refl _ _).alloc (Nat.le_refl _) (.cells #[.int .i64 d.1, .int .i64 d.2] 28))) (fun _ _ h => h)
          have hcon := mark_any xb ma' mr' _ _ _ _ _ _ _ lv' dv' es' clk' _ es2' clk2' _ _ d _ hxr2.blk hxr2.all hxr2.alls (comVals_cmd _ fun c hc => (hxr2.bod c hc).1.isSl) hxr2.ran hxr2.rans (ranVals_bool _) hxr2.dn (by omega)
          have htrue : ((getAt (comVals x1.coms) d).isSome && !(getAt (ranVals (x1.done ++ N.take r)) d).isSome) = true := by
            rw [getAt_ran, getAt_com]
            have hs1 : (x1.coms.find? (fun c => c.i.dot == d)).isSome = true := List.find?_isSome.2 ⟨c0, hc0, by simp [hcd]⟩
            simp only [Option.isSome_map, hs1, Bool.true_and, hnin, decide_false, Bool.not_false]
          rw [htrue] at hcon
          have HCON := Lib.hid hcon
          have HXR2 := Lib.hid hxr2
          have HTK := Lib.hid htk
          clear hcon hxr hxr2 htk hdr hnin hcb a1 a2 htrue hokr hdl1000 hcl1000 hcd hc0
          go_wp2_with fail
          refine HCON.out.mono ?_
          rintro e w10 ⟨rfl, hmp⟩
          have HMP := Lib.hid hmp
          clear hmp
          go_wp2_with fail
          go_roundw
          case rel =>
            obtain ⟨hxa, hma⟩ := HXR2.out.mark HMP.out
            have hMa : Mod F' wr w10 := (Mod.of_below (S := F') ((Below.refl wr.heap.size wr).alloc (Nat.le_refl _) _)).trans hma
            have hsz := HMJ.out.size
            have h1 : ({ x1 with done := (x1.done ++ N.take r) ++ [d] } : XS) = { x1 with done := x1.done ++ N.take (r + 1) } := by rw [HTK.out, List.append_assoc]
            have hxa' := hxa
            simp only [h1] at hxa'
            refine ⟨r + 1, _, by omega, by go_num, hxa', fun k hk => ?_, HMJ.out.then hMa fun k hk hlt => ?_⟩
            · rcases hk with hk | ⟨hk, _⟩
              · exact HF'.out k hk
              · simp at hk
                right; omega
            · rcases HF'.out k hk with h1 | h1
              · exact h1
              · omega
          case measure => simp [intOf]; omega
        · have hre : nl ≤ r := by omega
          have HRE := Lib.hid hre
          clear hre
          go_wp2_with fail
          go_ret
          have hall : N.take r = N := List.take_of_length_le (by have := HNL.out; have := HRE.out; omega)
          have hxe := HXJ.out
          rw [hall] at hxe
          have h1 := HMC.out
          have hnow : nowOf (x.setHas v) D = N := by rw [HX1.out]; exact HNE.out
          refine ⟨D, _, F', rfl, by rw [← HINS.out]; exact HD.out, ?_, ?_, fun k hk => ?_, ?_⟩
          · rw [hnow, HNL.out]
            have hs := HS5.out
            rw [HNL.out] at hs
            refine hs.mod HMJ.out fun k hk hF => ?_
            have h2 := (HLT5.out k (by rw [HNL.out]; exact hk)).1
            have h3 := (HLOW.out k hF).2
            have h4 := HB3.out.size
            omega
          · rw [HX1.out]
            have h5 : x1.run D = { x1 with done := x1.done ++ N } := by unfold XS.run; rw [HNE.out]
            rw [h5]; exact hxe
          · rcases HF'.out k hk with h2 | h2
            · exact .inl h2
            · right
              have h3 := h1.size
              have h4 := HB3.out.size
              have h5 := HW9.out
              omega
          · refine h1.trans ((Mod.of_below (S := F) HB3.out).trans ((Mod.of_below (S := F) HBEL.out).trans HMJ.out))
end Go.Proofs.Ytibnnhdpaccpfaa
