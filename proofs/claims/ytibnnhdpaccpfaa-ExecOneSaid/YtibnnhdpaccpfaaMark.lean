import Derived.Test.YtibnnhdpaccpfaaMap
import Derived.Deep.WholeRow
namespace Go.Proofs.Ytibnnhdpaccpfaa
open Go.RowKit

theorem mapCmdDesc : Try.prog.underlying 52 = some (.map 28 57) := by kernel_rfl
theorem mapBoolDesc : Try.prog.underlying 53 = some (.map 28 4) := by kernel_rfl
abbrev cmdZeroCells : Array Value := #[.int .i64 0, .int .i64 0, .int .i64 0, .int .i64 0, .int .i64 0, .int .i64 0, .int .i64 0, .int .i64 0, .int .i64 0, .int .i64 0, .int .i64 0, .int .i64 0, .int .i64 0, .int .i64 0, .int .i64 0, .int .i64 0, .int .i64 0, .slice none 0 0]
theorem zeroCmd : ∀ w, (zeroValue 57).run Try.prog w = .ok (.agg cmdZeroCells) w := fun _ => by kernel_rfl
theorem zeroBool : ∀ w, (zeroValue 4).run Try.prog w = .ok (.bool false) w := fun _ => by kernel_rfl
theorem cmdSize : (Try.prog.info? 57).map (·.size) = some 18 := by kernel_rfl

/-- what a map of commands holds: aggregates of 18 cells -/
def CmdVals (L : List (Dot × Value)) : Prop := ∀ p ∈ L, ∃ cs : Array Value, p.2 = .agg cs ∧ cs.size = 18 ∧ cs.all (·.oneCell') = true
theorem getAt_mem {L : List (Dot × Value)} {d : Dot} {v : Value} (h : getAt L d = some v) : (d, v) ∈ L := by
  induction L with
  | nil => simp [getAt_nil] at h
  | cons p r ih =>
    rw [getAt_cons] at h
    by_cases e : d = p.1
    · rw [if_pos e] at h
      have : p.2 = v := by simpa using h
      subst e; subst this
      exact List.mem_cons_self
    · rw [if_neg e] at h
      exact List.mem_cons_of_mem _ (ih h)
theorem CmdVals.get {L : List (Dot × Value)} (h : CmdVals L) (d : Dot) : ∃ cs : Array Value, (getAt L d).getD (.agg cmdZeroCells) = .agg cs ∧ cs.size = 18 ∧ cs.all (·.oneCell') = true := by
  cases hg : getAt L d with
  | none => exact ⟨cmdZeroCells, rfl, rfl, by decide +kernel⟩
  | some v => exact h _ (getAt_mem hg)
theorem store_new2 (w : World) (A : Obj) (cs : Array Value) (hs : cs.size = 18) (h1 : cs.all (·.oneCell') = true) :
    (storeCells ⟨w.heap.size + 1, 0, none⟩ cs.toList 0).run Try.prog ((w.alloc A).alloc (.cells cmdZeroCells 57)).drew = .ok () ((w.alloc A).alloc (.cells cs 57)).drew := by
  have := run_storeCells_new (P := Try.prog) (w.alloc A).drew 57 cmdZeroCells cs (by rw [cmdSize, hs]) (by rw [hs]; rfl) h1
  simp only [World.size_drew, World.size_alloc] at this
  exact this

/-- what a map of bools holds -/
def BoolVals (R : List (Dot × Value)) : Prop := ∀ p ∈ R, p.2 = .bool true
theorem BoolVals.get {R : List (Dot × Value)} (h : BoolVals R) (d : Dot) : (getAt R d).getD (.bool false) = .bool (getAt R d).isSome := by
  cases hg : getAt R d with
  | none => rfl
  | some v => have := h _ (getAt_mem hg); simp at this; simp [this]

theorem dotInfo : (Try.prog.info? 28).map (fun i => (i.zero, i.size, i.bytes)) = some (some (.agg #[.int .i64 0, .int .i64 0]), 2, 16) := by kernel_rfl

theorem ownsRow_mono {w w' : World} {base : Nat} {e : TypeId} {size : Nat} {v : Value} {n : Nat} {xs : List Value} (h : w.ownsRow base e size v n xs) (hb : ∀ k, v.ownBlock = some k → w'.heap[k]? = w.heap[k]?) : w'.ownsRow base e size v n xs := by
  refine ⟨h.1, ?_⟩
  rcases h.2 with h2 | ⟨g, cap, cur, rfl, hg, hh, r⟩
  · exact .inl h2
  · exact .inr ⟨g, cap, cur, rfl, hg, by rw [hb g rfl]; exact hh, r⟩

theorem ownsRow_ne {w : World} {base : Nat} {e : TypeId} {size : Nat} {v : Value} {n : Nat} {xs : List Value} (h : w.ownsRow base e size v n xs) {b : Nat} {c : Array Value} {t : TypeId} {f : Nat × Nat} (hb : w.heap[b]? = some (.cells c t f)) (ht : t ≠ e) : v.ownBlock ≠ some b := by
  intro hk
  rcases h.2 with ⟨rfl, _⟩ | ⟨g, cap, cur, rfl, _, hg, _⟩
  · simp [Value.ownBlock] at hk
  · simp [Value.ownBlock] at hk
    subst hk
    rw [hg] at hb
    simp at hb
    exact ht hb.2.1.symm
theorem grown_heap {w w4 : World} {b : Nat} {o z : Obj} {row : Option Nat} (h : w.heap[b]? = some o) (hg : ((w.alloc z).drew).grownBy w4 row) (hne : row ≠ some b) : w4.heap[b]? = some o := by
  rw [hg.block b (by have := lt_of_heap h; simp; omega) (Ne.symm hne)]
  exact heap_drew_keeps (heap_alloc_keeps h z)

theorem mark_world (xb ma mr : Nat) (t : TypeId) (h0 h1 h2 h3 h4 h5 h6 lv dv : Value) (es2 : Array MapEntry) (clk2 : Nat) (ds : List Dot) (d : Dot) (w : World) (cs : Array Value) (n : Nat) (M : Obj)
    (hx : w.heap[xb]? = some (.cells #[h0, h1, h2, h3, h4, h5, h6, .map (some ma), lv, .map (some mr), dv] t (0, 0)))
    (hm2 : w.heap[mr]? = some (.map es2 clk2)) (hown : w.ownsRow 0 28 2 dv ds.length (dotCells ds)) :
    let W := (((w.alloc (.cells #[.int .i64 d.1, .int .i64 d.2] 28)).alloc (.cells cs 57)).drewN n).setMap mr M
    W.heap[xb]? = some (.cells #[h0, h1, h2, h3, h4, h5, h6, .map (some ma), lv, .map (some mr), dv] t (0, 0)) ∧
    W.heap[w.heap.size]? = some (.cells #[.int .i64 d.1, .int .i64 d.2] 28 (0, 0)) ∧ W.heap[mr]? = some M ∧ W.ownsRow 0 28 2 dv ds.length (dotCells ds) ∧ Mod (fun k => k = mr) w W ∧ W.heap.size = w.heap.size + 2 := by
  have hne : xb ≠ mr := by rintro rfl; rw [hx] at hm2; cases hm2
  have hl := lt_of_heap hx
  have hl2 := lt_of_heap hm2
  have hM : Mod (fun k => k = mr) w ((((w.alloc (.cells #[.int .i64 d.1, .int .i64 d.2] 28)).alloc (.cells cs 57)).drewN n).setMap mr M) :=
    ((((Mod.refl _ w).alloc _).alloc _).drewN _).setMap _ _ (fun _ => rfl)
  refine ⟨hM.heap hx hne, ?_, ?_, ?_, hM, ?_⟩
  · rw [heap_setMap_other _ _ _ _ (by omega)]
    exact heap_alloc_keeps (heap_alloc_new w _) _
  · exact heap_setMap_same _ _ _ (by simp; omega)
  · refine ownsRow_mono hown fun k hk => ?_
    have hlt := (hown.lt k hk).2
    refine hM.block k hlt ?_
    rintro rfl
    rcases hown.2 with ⟨rfl, _⟩ | ⟨g, cap, cur, rfl, _, hg, _⟩
    · simp [Value.ownBlock] at hk
    · simp [Value.ownBlock] at hk
      subst hk
      rw [hg] at hm2; cases hm2
  · rw [size_setMap]; simp

def MarkPost (xb ma mr : Nat) (h0 h1 h2 h3 h4 h5 h6 lv dv : Value) (ds : List Dot) (d : Dot) (R : List (Dot × Value)) (b : Bool) (w w' : World) : Prop :=
  if b then
    ∃ es2' clk2' dv', w'.heap[xb]? = some (.cells #[h0, h1, h2, h3, h4, h5, h6, .map (some ma), lv, .map (some mr), dv'] 55 (0, 0)) ∧ w'.heap[mr]? = some (.map es2' clk2') ∧ Entries es2' (R ++ [(d, .bool true)]) ∧
      w'.ownsRow 0 28 2 dv' (ds ++ [d]).length (dotCells (ds ++ [d])) ∧ (∀ k, dv'.ownBlock = some k → dv.ownBlock = some k ∨ w.heap.size ≤ k) ∧ Mod (fun k => k = xb ∨ k = mr ∨ dv.ownBlock = some k) w w'
  else Below w.heap.size w w'
theorem MarkPost.no {xb ma mr : Nat} {h0 h1 h2 h3 h4 h5 h6 lv dv : Value} {ds : List Dot} {d : Dot} {R : List (Dot × Value)} {w w' : World} (h : Below w.heap.size w w') : MarkPost xb ma mr h0 h1 h2 h3 h4 h5 h6 lv dv ds d R false w w' := h

theorem MarkPost.yes {xb ma mr : Nat} {h0 h1 h2 h3 h4 h5 h6 lv dv : Value} {es2 : Array MapEntry} {clk2 : Nat} {ds : List Dot} {d : Dot} {R : List (Dot × Value)} {w w3 w4 : World} {gg cap : Nat} (hE : Entries es2 R)
    (hx4 : w4.heap[xb]? = some (.cells #[h0, h1, h2, h3, h4, h5, h6, .map (some ma), lv, .map (some mr), dv] 55 (0, 0)))
    (hr3 : w3.heap[mr]? = some (.map (es2.push { key := dotV d, val := Value.bool true, born := clk2 }) (clk2 + 1)))
    (ho3 : w3.ownsRow 0 28 2 dv ds.length (dotCells ds)) (hm3 : Mod (fun k => k = mr) w w3) (hs3 : w3.heap.size = w.heap.size + 2)
    (hown4 : w4.ownsRow 0 28 2 (.slice (some ⟨gg, 0, none⟩) (ds.length + 1) cap) (ds.length + 1) (dotCells ds ++ [.int .i64 d.1, .int .i64 d.2]))
    (hgrow4 : (w3.alloc (.cells #[.int .i64 d.1, .int .i64 d.2] 28)).drew.grownBy w4 dv.ownBlock) (hat : dv.ownBlock = some gg ∨ gg = w3.heap.size + 1) :
    MarkPost xb ma mr h0 h1 h2 h3 h4 h5 h6 lv dv ds d R true w (w4.setCell ⟨xb, 10, none⟩ (.slice (some ⟨gg, 0, none⟩) (ds.length + 1) cap)) := by
  have hxm : mr ≠ xb := by
    rintro rfl
    have h1 := hgrow4.block mr (by have := lt_of_heap hr3; simp; omega) (Ne.symm (by
      intro hk
      rcases ho3.2 with ⟨rfl, _⟩ | ⟨g, cap, cur, rfl, _, hg, _⟩
      · simp [Value.ownBlock] at hk
      · simp [Value.ownBlock] at hk
        subst hk
        rw [hg] at hr3; cases hr3))
    rw [hx4, heap_drew_keeps (heap_alloc_keeps hr3 _)] at h1
    cases h1
  have hr4 : w4.heap[mr]? = some (.map (es2.push { key := dotV d, val := Value.bool true, born := clk2 }) (clk2 + 1)) := grown_heap hr3 hgrow4 (by
      intro hk
      rcases ho3.2 with ⟨rfl, _⟩ | ⟨g, cap, cur, rfl, _, hg, _⟩
      · simp [Value.ownBlock] at hk
      · simp [Value.ownBlock] at hk
        subst hk
        rw [hg] at hr3; cases hr3)
  refine ⟨_, clk2 + 1, _, heap_setCell_same hx4 10 _, ?_, hE.push d (.bool true) clk2, ?_, ?_, ?_⟩
  · rw [Below.heap_setCell _ _ _ _ hxm]; exact hr4
  · have hd : dotCells (ds ++ [d]) = dotCells ds ++ [.int .i64 d.1, .int .i64 d.2] := by simp [dotCells]
    rw [hd, List.length_append]
    refine ownsRow_mono hown4 fun k hk => ?_
    refine Below.heap_setCell _ _ _ _ ?_
    rintro rfl
    exact ownsRow_ne hown4 hx4 (by decide) hk
  · intro k hk
    simp [Value.ownBlock] at hk
    subst hk
    rcases hat with h | h
    · exact .inl h
    · right; omega
  · refine Mod.setCell (Mod.grown (Mod.drew (Mod.alloc (hm3.weaken ?_) _)) hgrow4 ?_) _ _ (fun _ => .inl rfl)
    · intro i hi; exact .inr (.inl hi)
    · intro k hk _; exact .inr (.inr hk)

set_option maxRecDepth 100000 in
set_option maxHeartbeats 1000000 in
theorem mark_any (xb ma mr : Nat) (h0 h1 h2 h3 h4 h5 h6 lv dv : Value) (es : Array MapEntry) (clk : Nat) (L : List (Dot × Value)) (es2 : Array MapEntry) (clk2 : Nat) (R : List (Dot × Value)) (ds : List Dot) (d : Dot) (w : World)
    (hx : w.heap[xb]? = some (.cells #[h0, h1, h2, h3, h4, h5, h6, .map (some ma), lv, .map (some mr), dv] 55 (0, 0)))
    (hm : w.heap[ma]? = some (.map es clk)) (hE : Entries es L) (hV : CmdVals L)
    (hm2 : w.heap[mr]? = some (.map es2 clk2)) (hE2 : Entries es2 R) (hV2 : BoolVals R)
    (hown : w.ownsRow 0 28 2 dv ds.length (dotCells ds)) (hlen : ds.length ≤ 1000000) :
    Calls Try.prog 21 #[.pointer (some ⟨xb, 0, none⟩), .agg #[.int .i64 d.1, .int .i64 d.2]] w fun e w' =>
      e = .returned (.bool ((getAt L d).isSome && !(getAt R d).isSome)) ∧ MarkPost xb ma mr h0 h1 h2 h3 h4 h5 h6 lv dv ds d R ((getAt L d).isSome && !(getAt R d).isSome) w w' := by
  have c7 : w.cell? ⟨xb, 7, none⟩ = some (.map (some ma)) := by simp [World.cell?, hx]
  have c9 : w.cell? ⟨xb, 9, none⟩ = some (.map (some mr)) := by simp [World.cell?, hx]
  have hlx := lt_of_heap hx
  have k1 := fun o => heap_drew_keeps (heap_alloc_keeps hm o)
  have k2 := fun o o' => heap_drew_keeps (heap_alloc_keeps (heap_alloc_keeps hm o) o')
  have hlk := run_lookup_ok 52 57 mapCmdDesc _ zeroCmd ma es clk L hE d
  have hlk2 := run_lookup 53 4 mapBoolDesc _ zeroBool mr es2 clk2 R hE2 d
  rw [hV2.get] at hlk2
  have r2 := fun o o' => heap_alloc_keeps (heap_alloc_keeps hm2 o) o'
  have r2d := fun o o' => heap_drew_keeps (heap_alloc_keeps (heap_alloc_keeps hm2 o) o')
  obtain ⟨cs, hv, hsz, ho⟩ := hV.get d
  rw [hv] at hlk
  have hst := fun A => store_new2 w A cs hsz ho
  have HX := Lib.hid hx
  have HM2 := Lib.hid hm2
  have HE2 := Lib.hid hE2
  have HOWN := Lib.hid hown
  clear hx hE hV hV2 hv ho hm2 hE2 hown
  generalize (getAt L d).isSome = ok at *
  generalize hran : (getAt R d).isSome = ran at *
  have Hran := Lib.hid hran
  clear hran
  go_enter Try.func21, Try.ntmps21
  go_wp2
  go_region
  go_wp2
  cases ok with
  | false =>
    go_quiet (fail)
    go_wp2
    go_ret
    exact ⟨rfl, MarkPost.no (below_drewN (by repeat (first | exact Below.refl _ _ | refine Below.drew ?_ | refine Below.alloc ?_ (by simp; try omega) _)) _)⟩
  | true =>
    cases ran with
    | true =>
      go_quiet (fail)
      go_wp2
      go_ret
      exact ⟨rfl, MarkPost.no (below_drewN (by repeat (first | exact Below.refl _ _ | refine Below.drew ?_ | refine Below.alloc ?_ (by simp; try omega) _)) _)⟩
    | false =>
      go_quiet (fail)
      go_wp2
      have hn : getAt R d = none := by have := Hran.out; simpa using this
      have hup := run_update_new 53 4 mapBoolDesc mr es2 clk2 R HE2.out d hn (.bool true)
      clear hn
      go_region
      go_wp2
      have hw3 := mark_world xb ma mr _ h0 h1 h2 h3 h4 h5 h6 lv dv es2 clk2 ds d w cs (1 + nq + 1) (.map (es2.push { key := dotV d, val := Value.bool true, born := clk2 }) (clk2 + 1)) HX.out HM2.out HOWN.out
      generalize (((w.alloc (.cells #[.int .i64 d.1, .int .i64 d.2] 28)).alloc (.cells cs 57)).drewN (1 + nq + 1)).setMap mr (.map (es2.push { key := dotV d, val := Value.bool true, born := clk2 }) (clk2 + 1)) = w3 at hw3 ⊢
      obtain ⟨hx3, hb3, hr3, ho3, hm3, hs3⟩ := hw3
      clear hup hlk hlk2 hst hsz r2 r2d k1 k2 c7 c9 hm
      have c10 : w3.cell? ⟨xb, 10, none⟩ = some dv := by rw [cell_of_heap hx3]; rfl
      have f10 : w3.frozen? ⟨xb, 10, none⟩ = false := free_of_heap hx3 10
      have cb0 : w3.cell? ⟨w.heap.size, 0, none⟩ = some (.int .i64 d.1) := by rw [cell_of_heap hb3]; rfl
      have cb1 : w3.cell? ⟨w.heap.size, 1, none⟩ = some (.int .i64 d.2) := by rw [cell_of_heap hb3]; rfl
      have HX3 := Lib.hid hx3
      have HB3 := Lib.hid hb3
      have HR3 := Lib.hid hr3
      have HO3 := Lib.hid ho3
      have HM3 := Lib.hid hm3
      have HS3 := Lib.hid hs3
      have hlx3 : xb < w3.heap.size := lt_of_heap hx3
      clear hx3 hb3 hr3 ho3 hm3 hs3
      obtain ⟨i0, hi0, hz0, hz1, hz2⟩ := info_parts dotInfo
      go_region_law ((refine step_append_lies _ (by rfl) _ _ _ (by rfl) 0 28 i0 _ 2 16 Try.underlying33 hi0 hz0 hz1 hz2 rfl (by omega) dv ds.length (dotCells ds) (by rfl) (HO3.out.alloc _).drew ⟨w3.heap.size, 0, none⟩ 1 1 [.int .i64 d.1, .int .i64 d.2] (by rfl) (by rfl) (World.news_of_block (cs := #[.int .i64 d.1, .int .i64 d.2]) (t := 28) (fr := (0, 0)) (heap_alloc_new w3 _)) (by simp [Value.oneCell']) (by omega) (by unfold maxLen; omega) (by omega) (by omega) (w3.heap.size + 1) (by simp) ?_; intro gg cap w4 hown4 hgrow4 hat hlt; have hx4 := grown_heap HX3.out hgrow4 (ownsRow_ne HO3.out HX3.out (by decide)); have x4 : w4.cell? ⟨xb, 10, none⟩ = some dv := (by rw [cell_of_heap hx4]; rfl); have f4 : w4.frozen? ⟨xb, 10, none⟩ = false := free_of_heap hx4 10; have HX4 := Lib.hid hx4; clear hx4))
      all_goals
        go_wp2
        go_ret
        exact ⟨rfl, MarkPost.yes HE2.out HX4.out HR3.out HO3.out HM3.out HS3.out hown4 hgrow4 hat⟩
end Go.Proofs.Ytibnnhdpaccpfaa
