import Derived.Test.YtibnnhdpaccpfaaExec1
namespace Go.Proofs.Ytibnnhdpaccpfaa
open Go.RowKit

theorem XS.new_ok : XS.new.Ok := ⟨by decide, by simp [XS.new], by simp [XS.new], by simp [XS.new]⟩

set_option maxRecDepth 100000 in
set_option maxHeartbeats 1000000 in
theorem xnew_any (base : Nat) (w : World) (hb : base ≤ w.heap.size) :
    Calls Try.prog 7 #[] w fun e w' => ∃ xb, e = .returned (.pointer (some ⟨xb, 0, none⟩)) ∧ XAt base w' xb (fun k => w.heap.size ≤ k ∧ k < w'.heap.size) XS.new ∧ Below w.heap.size w w' := by
  have hmm := @run_makeMap Try.prog
  go_enter Try.func7, Try.ntmps7
  go_wp2
  go_ret
  refine ⟨w.heap.size + 1 + 1, rfl, ⟨w.heap.size, w.heap.size + 1, .slice none 0 0, .slice none 0 0, #[], 0, #[], 0, ?_⟩, (((Below.refl _ _).alloc (Nat.le_refl _) _).alloc (by simp) _).alloc (by simp; omega) _⟩
  have h2 := heap_new2 w (.map #[] 0) (.map #[] 0)
  have h3 := heap_new2 (w.alloc (.map #[] 0)) (.map #[] 0) (.cells #[.int .i64 0, .int .i64 0, .int .i64 0, .int .i64 0, .int .i64 0, .int .i64 0, .int .i64 0, .map (some w.heap.size), .slice none 0 0, .map (some (w.heap.size + 1)), .slice none 0 0] 55)
  rw [World.size_alloc] at h3
  refine ⟨h3, heap_alloc_keeps (heap_alloc_keeps (heap_alloc_new _ _) _) _, rfl, heap_alloc_keeps h2 _, rfl, by omega, ⟨rfl, .inl ⟨rfl, rfl⟩⟩, ⟨rfl, .inl ⟨rfl, rfl⟩⟩, by simp [XS.new], ?_, ?_, ?_, fun k hk => by simp [Value.ownBlock] at hk, fun k hk => by simp [Value.ownBlock] at hk, fun k hk => ⟨by omega, hk.2⟩⟩
  · exact ⟨by omega, by simp⟩
  · exact ⟨by omega, by simp; omega⟩
  · exact ⟨by omega, by simp⟩

/-- one command more -/
theorem XRaw.commit {base : Nat} {w w6 w7 : World} {xb : Nat} {F : Nat → Prop} {x : XS} {ma mr : Nat} {lv dv lv' : Value} {es es' : Array MapEntry} {clk clk' : Nat} {es2 : Array MapEntry} {clk2 : Nat}
    (h : XRaw base w xb F x ma mr lv dv es clk es2 clk2) (c : Com) (hm6 : Mod (fun k => k = ma) w w6) (ha6 : w6.heap[ma]? = some (.map es' clk')) (hE : Entries es' (comVals (x.coms ++ [c])))
    (hb6 : Sl0 w6 c.b c.bs.length (bCells c.bs)) (hbk : ∀ k, c.b.ownBlock = some k → w.heap.size ≤ k ∧ ∃ cs, w6.heap[k]? = some (.cells cs 5 (0, 0))) (hm7 : Mod (fun k => lv.ownBlock = some k) w6 w7)
    (hown : w7.ownsRow 0 31 10 lv' (x.coms.length + 1) (instsCells x.insts ++ instCells c.i)) (hat : ∀ k, lv'.ownBlock = some k → lv.ownBlock = some k ∨ w.heap.size ≤ k) :
    XRaw base (w7.setCell ⟨xb, 8, none⟩ lv') xb (fun k => F k ∨ w.heap.size ≤ k ∧ k < w7.heap.size) { x with coms := x.coms ++ [c] } ma mr lv' dv es' clk' es2 clk2 ∧ Mod F w (w7.setCell ⟨xb, 8, none⟩ lv') := by
  have nxa : xb ≠ ma := cells_ne_map h.blk h.all
  have nxr : xb ≠ mr := cells_ne_map h.blk h.ran
  have hl6 : w6.ownsRow 0 31 10 lv x.coms.length (instsCells x.insts) := ownsRow_mod h.l hm6 fun k hk he => own_ne_map h.l h.all (he ▸ hk)
  have hd6 : w6.ownsRow 0 28 2 dv x.done.length (dotCells x.done) := ownsRow_mod h.dn hm6 fun k hk he => own_ne_map h.dn h.all (he ▸ hk)
  have hx6 := hm6.heap h.blk nxa
  have hr6 := hm6.heap h.ran h.ne.symm
  have hx7 := hm7.heap hx6 (ownsRow_ne hl6 hx6 (by decide))
  have ha7 := hm7.heap ha6 (own_ne_map hl6 ha6)
  have hr7 := hm7.heap hr6 (own_ne_map hl6 hr6)
  have hd7 := ownsRow_mod hd6 hm7 fun k hk => own_ne_own hd6 hl6 (by decide) hk
  have hbase : base ≤ w.heap.size := by have := h.low xb h.fx; omega
  have hsz : w.heap.size ≤ w7.heap.size := Nat.le_trans hm6.size hm7.size
  have hM : Mod F w (w7.setCell ⟨xb, 8, none⟩ lv') := by
    refine Mod.setCell ((hm6.weaken (fun k hk => hk ▸ h.fa)).then hm7 fun k hk hlt => h.fl k hk) _ _ fun _ => h.fx
  have fr8 : ∀ {k : Nat} {o : Obj}, w7.heap[k]? = some o → k ≠ xb → (w7.setCell ⟨xb, 8, none⟩ lv').heap[k]? = some o := fun hk hne => by rw [Below.heap_setCell _ _ _ _ hne]; exact hk
  refine ⟨⟨?_, fr8 ha7 nxa.symm, hE, fr8 hr7 nxr.symm, h.rans, h.ne, ?_, ?_, ?_, .inl h.fx, .inl h.fa, .inl h.fr, fun k hk => ?_, fun k hk => .inl (h.fd k hk), fun k hk => ?_⟩, hM⟩
  · rw [heap_setCell_same hx7 8 _]; rfl
  · have : instsCells ({ x with coms := x.coms ++ [c] } : XS).insts = instsCells x.insts ++ instCells c.i := by simp [XS.insts, instsCells]
    rw [this, List.length_append]
    exact ownsRow_mono hown fun k hk => Below.heap_setCell _ _ _ _ (fun he => ownsRow_ne hown hx7 (by decide) (show lv'.ownBlock = some xb from (show k = xb from he) ▸ hk))
  · exact ownsRow_mono hd7 fun k hk => Below.heap_setCell _ _ _ _ (fun he => ownsRow_ne hd7 hx7 (by decide) (show dv.ownBlock = some xb from (show k = xb from he) ▸ hk))
  · intro c' hc'
    rcases List.mem_append.1 hc' with hc' | hc'
    · obtain ⟨h1, h2⟩ := h.bod c' hc'
      have n1 : ∀ k, c'.b.ownBlock = some k → k ≠ ma ∧ lv.ownBlock ≠ some k ∧ k ≠ xb := fun k hk => by
        obtain ⟨_, cs, hcs⟩ := h2 k hk
        exact ⟨cells_ne_map hcs h.all, ownsRow_ne h.l hcs (by decide), cells_ne hcs h.blk (by decide)⟩
      have h3 : Sl0 w7 c'.b c'.bs.length (bCells c'.bs) := (h1.mod hm6 (fun k hk => (n1 k hk).1)).mod hm7 fun k hk => (n1 k hk).2.1
      refine ⟨h3.mod (S := fun j => j = xb) ((Mod.refl _ w7).setCell _ _ (fun _ => rfl)) (fun k hk => (n1 k hk).2.2), fun k hk => ?_⟩
      obtain ⟨hF, cs, hcs⟩ := h2 k hk
      exact ⟨.inl hF, cs, fr8 (hm7.heap (hm6.heap hcs (n1 k hk).1) (n1 k hk).2.1) (n1 k hk).2.2⟩
    · rw [List.mem_singleton] at hc'
      subst hc'
      have n1 : ∀ k, c'.b.ownBlock = some k → lv.ownBlock ≠ some k ∧ k ≠ xb := fun k hk => by
        obtain ⟨_, cs, hcs⟩ := hbk k hk
        exact ⟨ownsRow_ne hl6 hcs (by decide), cells_ne hcs hx6 (by decide)⟩
      refine ⟨(hb6.mod hm7 fun k hk => (n1 k hk).1).mod (S := fun j => j = xb) ((Mod.refl _ w7).setCell _ _ (fun _ => rfl)) (fun k hk => (n1 k hk).2), fun k hk => ?_⟩
      obtain ⟨hge, cs, hcs⟩ := hbk k hk
      have h7 := hm7.heap hcs (n1 k hk).1
      exact ⟨.inr ⟨hge, lt_of_heap h7⟩, cs, fr8 h7 (n1 k hk).2⟩
  · rcases hat k hk with h1 | h1
    · exact .inl (h.fl k h1)
    · exact .inr ⟨h1, (hown.lt k hk).2⟩
  · rw [World.size_setCell]
    rcases hk with hk | hk
    · have := h.low k hk; omega
    · omega
end Go.Proofs.Ytibnnhdpaccpfaa
