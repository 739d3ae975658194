import Derived.Test.YtibnnhdpaccpfaaIndex
namespace Go.Proofs.Ytibnnhdpaccpfaa
open Go.RowKit

/-- the rows 'on', to be read -/
def RowsOn (w0 : World) (ob : Nat) (on : List (List Nat)) : Prop :=
  ∀ i, (h : i < on.length) → ∃ p cap, w0.cell? ⟨ob, i, none⟩ = some (.slice p on[i].length cap) ∧ on[i].length ≤ cap ∧ (0 < on[i].length → ∃ b, p = some ⟨b, 0, none⟩ ∧ CellsAt w0 b 0 (intCells on[i]) ∧ b < w0.heap.size)

section
variable {w0 : World} {ob fb nb lb kb : Nat} {on : List (List Nat)} {w : World} {st : St} {sv gv : Value} {vs : List Value}
theorem FAt.numCell (h : FAt w0 ob fb nb lb kb on w st sv gv vs) (x : Nat) (hx : x < st.num.length) : w.cell? ⟨nb, x, none⟩ = some (.int .i64 (st.nm x : Int)) := by
  rw [cell_of_heap h.num]; exact natCells_at st.num x hx
theorem FAt.lowCell (h : FAt w0 ob fb nb lb kb on w st sv gv vs) (x : Nat) (hx : x < st.low.length) : w.cell? ⟨lb, x, none⟩ = some (.int .i64 (st.lw x : Int)) := by
  rw [cell_of_heap h.low]; exact natCells_at st.low x hx
theorem FAt.opnCell (h : FAt w0 ob fb nb lb kb on w st sv gv vs) (x : Nat) (hx : x < st.opn.length) : w.cell? ⟨kb, x, none⟩ = some (.bool (st.op x)) := by
  rw [cell_of_heap h.opn]
  simp [boolCells, St.op, hx]
theorem FAt.finCell (h : FAt w0 ob fb nb lb kb on w st sv gv vs) (k : Nat) : w.cell? ⟨fb, k, none⟩ = (#[.slice (some ⟨ob, 0, none⟩) on.length on.length, .slice (some ⟨nb, 0, none⟩) on.length on.length, .slice (some ⟨lb, 0, none⟩) on.length on.length, sv, .slice (some ⟨kb, 0, none⟩) on.length on.length, .int .i64 (st.next : Int), gv] : Array Value)[k]? :=
  cell_of_heap h.fin k
end

theorem run_imin {P : Program} (ts : Array TypeId) (t : TypeId) (x y : Nat) (w : World) : (Builtin.min_ ts t #[.int .i64 (x : Int), .int .i64 (y : Int)]).run P w = .ok (.int .i64 ((min x y : Nat) : Int)) w := by
  rw [run_min_int2]; congr 2; omega
theorem ownsRow_cut {w : World} {base g n cap m : Nat} {L : List Nat} (h : w.ownsRow base 3 1 (.slice (some ⟨g, 0, none⟩) n cap) n (intCells L)) (hL : L.length = n) (hm : m ≤ n) : w.ownsRow base 3 1 (.slice (some ⟨g, 0, none⟩) m cap) m (intCells (L.take m)) := by
  obtain ⟨hl, h2⟩ := h
  rcases h2 with ⟨h2, _⟩ | ⟨g', cap', cur, hv, hg, hh, hnc, hcm, hcs, htk⟩
  · cases h2
  · simp only [Value.slice.injEq, Option.some.injEq, Addr.mk.injEq, true_and, and_true] at hv
    obtain ⟨rfl, rfl⟩ := hv
    refine ⟨by simp [intCells]; omega, .inr ⟨g, cap, cur, rfl, hg, hh, by omega, hcm, hcs, ?_⟩⟩
    have : intCells (L.take m) = (intCells L).take m := by simp [intCells, List.map_take]
    rw [this, ← htk, List.take_take]
    congr 1
    omega
theorem sorted_nat (L : List Nat) : ((L.map fun (i : Nat) => (i : Int)).mergeSort fun x y => decide (x ≤ y)).map (Value.int .i64) = intCells (L.mergeSort fun x y => decide (x ≤ y)) := by
  have : (L.map fun (i : Nat) => (i : Int)).mergeSort (fun x y => decide (x ≤ y)) = (L.mergeSort fun x y => decide (x ≤ y)).map fun (i : Nat) => (i : Int) := by
    symm
    exact List.map_mergeSort (fun a _ b _ => by simp)
  rw [this]
  simp [intCells]
def sortNat (L : List Nat) : List Nat := L.mergeSort fun x y => decide (x ≤ y)
theorem sortNat_perm (L : List Nat) : (sortNat L).Perm L := List.mergeSort_perm _ _
theorem sortNat_lt {L : List Nat} (h : L.Nodup) : (sortNat L).Pairwise (· < ·) := by
  have h1 : (sortNat L).Pairwise fun x y => decide (x ≤ y) = true := List.pairwise_mergeSort (fun a b c h1 h2 => by simp at *; omega) (fun a b => by simp; omega) L
  have h2 : (sortNat L).Nodup := (sortNat_perm L).nodup_iff.2 h
  exact (h1.and h2).imp fun ⟨h3, h4⟩ => by simp at h3; omega
theorem firstIdx_stack {S T : List Nat} {v : Nat} (hv : v ∉ S) : firstIdx ((S ++ v :: T).map fun (i : Nat) => (i : Int)) (v : Int) = (S.length : Int) := by
  refine firstIdx_some (by simp) (by simp) fun j hj hjk he => ?_
  simp only [List.getElem_map] at he
  rw [List.getElem_append_left hjk] at he
  have : S[j] = v := by omega
  exact hv (this ▸ List.getElem_mem hjk)
theorem cell_setCell_ne {w : World} {b o pb po : Nat} {v u : Value} (h : w.cell? ⟨b, o, none⟩ = some v) (hne : b ≠ pb) : (w.setCell ⟨pb, po, none⟩ u).cell? ⟨b, o, none⟩ = some v := by
  rw [World.cell?_of_block (w := w) (Below.heap_setCell _ _ _ _ hne)]; exact h

set_option maxRecDepth 100000 in
set_option maxHeartbeats 4000000 in
theorem visit_any (w0 : World) (ob fb nb lb kb : Nat) (on : List (List Nat)) (hrows : RowsOn w0 ob on) (hon : ∀ r ∈ on, ∀ y ∈ r, y < on.length) (hn : on.length ≤ 1000) (hrl : ∀ r ∈ on, r.length ≤ 7000) : ∀ (fuel : Nat) (st : St) (v : Nat) (w : World) (sv gv : Value) (vs : List Value),
    FAt w0 ob fb nb lb kb on w st sv gv vs → Inv on st → v < on.length → st.nm v = 0 → on.length ≤ fuel + st.next →
    Calls Try.prog 63 #[.pointer (some ⟨fb, 0, none⟩), .int .i64 (v : Int)] w fun e w' => e = .returned (.tuple #[]) ∧ ∃ st' sv' gv' vs', FAt w0 ob fb nb lb kb on w' st' sv' gv' vs' ∧ Visited on st v st' := by
  have HROWS := Lib.hid hrows
  have HON := Lib.hid hon
  have HRL := Lib.hid hrl
  clear hrows hon hrl
  intro fuel
  induction fuel with
  | zero =>
    intro st v w sv gv vs _ hI hv hz hf
    have h1 := hI.cnt
    have : 0 < st.num.count 0 := List.count_pos_iff.2 (by
      have hvn : v < st.num.length := by rw [hI.ln]; exact hv
      unfold St.nm at hz
      rw [List.getElem?_eq_getElem hvn] at hz
      have hz' : st.num[v] = 0 := by simpa using hz
      rw [← hz']; exact List.getElem_mem hvn)
    omega
  | succ fuel ih =>
    intro st v w sv gv vs hF hI hv hz hf
    have IH := Lib.hid ih
    clear ih
    have hnx : st.next ≤ 1000 := by have := hI.cnt; omega
    have hv0 : (0 : Int) ≤ (v : Int) := Int.natCast_nonneg _
    have hv1 : (v : Int) < (on.length : Int) := by omega
    have f5 : w.cell? ⟨fb, 5, none⟩ = some (.int .i64 (st.next : Int)) := hF.finCell 5
    have z5 : w.frozen? ⟨fb, 5, none⟩ = false := free_of_heap hF.fin 5
    have HF := Lib.hid hF
    have HI := Lib.hid hI
    clear hF hI
    go_enter Try.func63, Try.ntmps63
    go_wp2_with fail
    have hF1 := HF.out.setNext (st.next + 1)
    have e1 : ((st.next + 1 : Nat) : Int) = (st.next : Int) + 1 := by omega
    rw [e1] at hF1
    generalize w.setCell ⟨fb, 5, none⟩ (.int .i64 ((st.next : Int) + 1)) = w1 at hF1 ⊢
    have g1 : w1.cell? ⟨fb, 1, none⟩ = some (.slice (some ⟨nb, 0, none⟩) on.length on.length) := hF1.finCell 1
    have g2 : w1.cell? ⟨fb, 2, none⟩ = some (.slice (some ⟨lb, 0, none⟩) on.length on.length) := hF1.finCell 2
    have g5 : w1.cell? ⟨fb, 5, none⟩ = some (.int .i64 ((st.next + 1 : Nat) : Int)) := hF1.finCell 5
    have gn : w1.cell? ⟨nb, v, none⟩ = some (.int .i64 (st.nm v : Int)) := hF1.numCell v (by show v < st.num.length; rw [HI.out.ln]; exact hv)
    have gl : w1.cell? ⟨lb, v, none⟩ = some (.int .i64 (st.lw v : Int)) := hF1.lowCell v (by show v < st.low.length; rw [HI.out.ll]; exact hv)
    have zn : w1.frozen? ⟨nb, v, none⟩ = false := free_of_heap hF1.num v
    have zl : w1.frozen? ⟨lb, v, none⟩ = false := free_of_heap hF1.low v
    have hF2 := ((hF1.setNum v (st.next + 1)).setLow v (st.next + 1)).fresh ((Below.refl _ _).drew)
    have q1 : fb ≠ nb := hF1.ne_fn
    have q2 : fb ≠ lb := hF1.ne_fl
    have q3 : lb ≠ nb := hF1.nl.symm
    have HF2 := Lib.hid hF2
    clear f5 z5 hF1 hF2
    obtain ⟨nx, hnx'⟩ : ∃ nx, st.next + 1 = nx := ⟨_, rfl⟩
    rw [hnx'] at g5
    have HNX := Lib.hid hnx'
    have hF2' := HF2.out
    rw [hnx'] at hF2'
    have HF2 := Lib.hid hF2'
    clear hF2'
    clear hnx' e1
    refine wp_region_F (fun j => Nat.blt j 20) (fun w' => w'.cell? ⟨fb, 1, none⟩ = some (.slice (some ⟨nb, 0, none⟩) on.length on.length) ∧ w'.cell? ⟨fb, 2, none⟩ = some (.slice (some ⟨lb, 0, none⟩) on.length on.length) ∧ w'.cell? ⟨fb, 5, none⟩ = some (.int .i64 (nx : Int))) (by rfl) ?_
    have HS : (fun w' : World => w'.cell? ⟨fb, 1, none⟩ = some (.slice (some ⟨nb, 0, none⟩) on.length on.length) ∧ w'.cell? ⟨fb, 2, none⟩ = some (.slice (some ⟨lb, 0, none⟩) on.length on.length) ∧ w'.cell? ⟨fb, 5, none⟩ = some (.int .i64 (nx : Int))) (World.drew w1) := ⟨g1, g2, g5⟩
    change wpAnyF _ _ _ _ _ _ _ _ _ (World.drew w1)
    refine wpAnyF_take (i := 0) (oi := ⟨_, _, _, _, _, _⟩) (v := ?_) rfl (by kernel_rfl) (fun _ _ _ h => h) (Or.inl ⟨by rfl, ?_⟩) HS ?_
    rotate_left
    · intro wS hSw; (try dsimp only at hSw); go_simp; (try with_reducible rfl)
    simp only [Act.put, List.setIfInBounds_toArray, List.set_cons_zero, List.set_cons_succ]
    refine wpAnyF_take (i := 1) (oi := ⟨_, _, _, _, _, _⟩) (v := ?_) rfl (by kernel_rfl) (fun _ _ _ h => h) (Or.inl ⟨by rfl, ?_⟩) HS ?_
    rotate_left
    · intro wS hSw; (try dsimp only at hSw); go_simp; (try with_reducible rfl)
    simp only [Act.put, List.setIfInBounds_toArray, List.set_cons_zero, List.set_cons_succ]
    refine wpAnyF_take (i := 2) (oi := ⟨_, _, _, _, _, _⟩) (v := ?_) rfl (by kernel_rfl) (fun _ _ _ h => h) (Or.inl ⟨by rfl, ?_⟩) HS ?_
    rotate_left
    · intro wS hSw; (try dsimp only at hSw); go_simp; (try with_reducible rfl)
    simp only [Act.put, List.setIfInBounds_toArray, List.set_cons_zero, List.set_cons_succ]
    refine wpAnyF_take (i := 3) (oi := ⟨_, _, _, _, _, _⟩) (v := ?_) rfl (by kernel_rfl) (fun _ _ _ h => h) (Or.inl ⟨by rfl, ?_⟩) HS ?_
    rotate_left
    · intro wS hSw; (try dsimp only at hSw); go_simp; (try with_reducible rfl)
    simp only [Act.put, List.setIfInBounds_toArray, List.set_cons_zero, List.set_cons_succ]
    refine wpAnyF_take (i := 4) (oi := ⟨_, _, _, _, _, _⟩) (v := ?_) rfl (by kernel_rfl) (fun _ _ _ h => h) (Or.inl ⟨by rfl, ?_⟩) HS ?_
    rotate_left
    · intro wS hSw; (try dsimp only at hSw); go_simp; (try with_reducible rfl)
    simp only [Act.put, List.setIfInBounds_toArray, List.set_cons_zero, List.set_cons_succ]
    refine wpAnyF_take (i := 5) (oi := ⟨_, _, _, _, _, _⟩) (v := ?_) rfl (by kernel_rfl) (fun _ _ _ h => h) (Or.inl ⟨by rfl, ?_⟩) HS ?_
    rotate_left
    · intro wS hSw; (try dsimp only at hSw); go_simp; (try with_reducible rfl)
    simp only [Act.put, List.setIfInBounds_toArray, List.set_cons_zero, List.set_cons_succ]
    refine wpAnyF_take (i := 6) (oi := ⟨_, _, _, _, _, _⟩) (v := ?_) rfl (by kernel_rfl) (fun _ _ _ h => h) (Or.inl ⟨by rfl, ?_⟩) HS ?_
    rotate_left
    · intro wS hSw; (try dsimp only at hSw); go_simp; (try with_reducible rfl)
    simp only [Act.put, List.setIfInBounds_toArray, List.set_cons_zero, List.set_cons_succ]
    refine wpAnyF_take (i := 7) (oi := ⟨_, _, _, _, _, _⟩) (v := ?_) rfl (by kernel_rfl) (fun _ _ _ h => h) (Or.inl ⟨by rfl, ?_⟩) HS ?_
    rotate_left
    · intro wS hSw; (try dsimp only at hSw); go_simp; (try with_reducible rfl)
    simp only [Act.put, List.setIfInBounds_toArray, List.set_cons_zero, List.set_cons_succ]
    refine wpAnyF_take (i := 8) (oi := ⟨_, _, _, _, _, _⟩) (v := ?_) rfl (by kernel_rfl) (fun _ _ _ h => h) (Or.inl ⟨by rfl, ?_⟩) HS ?_
    rotate_left
    · intro wS hSw; (try dsimp only at hSw); go_simp; (try with_reducible rfl)
    simp only [Act.put, List.setIfInBounds_toArray, List.set_cons_zero, List.set_cons_succ]
    refine wpAnyF_take (i := 9) (oi := ⟨_, _, _, _, _, _⟩) (v := ?_) rfl (by kernel_rfl) (fun _ _ _ h => h) (Or.inl ⟨by rfl, ?_⟩) HS ?_
    rotate_left
    · intro wS hSw; (try dsimp only at hSw); go_simp; (try with_reducible rfl)
    simp only [Act.put, List.setIfInBounds_toArray, List.set_cons_zero, List.set_cons_succ]
    refine wpAnyF_take (i := 10) (oi := ⟨_, _, _, _, _, _⟩) (v := ?_) rfl (by kernel_rfl) (fun _ _ _ h => h) (Or.inl ⟨by rfl, ?_⟩) HS ?_
    rotate_left
    · intro wS hSw; (try dsimp only at hSw); go_simp; (try with_reducible rfl)
    simp only [Act.put, List.setIfInBounds_toArray, List.set_cons_zero, List.set_cons_succ]
    refine wpAnyF_take (i := 11) (oi := ⟨_, _, _, _, _, _⟩) (v := ?_) rfl (by kernel_rfl) (fun _ _ _ h => h) (Or.inl ⟨by rfl, ?_⟩) HS ?_
    rotate_left
    · intro wS hSw; (try dsimp only at hSw); go_simp; (try with_reducible rfl)
    simp only [Act.put, List.setIfInBounds_toArray, List.set_cons_zero, List.set_cons_succ]
    refine wpAnyF_take (i := 12) (oi := ⟨_, _, _, _, _, _⟩) (v := ?_) rfl (by kernel_rfl) (fun _ _ _ h => h) (Or.inl ⟨by rfl, ?_⟩) HS ?_
    rotate_left
    · intro wS hSw; (try dsimp only at hSw); go_simp; (try with_reducible rfl)
    simp only [Act.put, List.setIfInBounds_toArray, List.set_cons_zero, List.set_cons_succ]
    refine wpAnyF_take (i := 13) (oi := ⟨_, _, _, _, _, _⟩) (v := ?_) rfl (by kernel_rfl) (fun _ _ _ h => h) (Or.inl ⟨by rfl, ?_⟩) HS ?_
    rotate_left
    · intro wS hSw; (try dsimp only at hSw); go_simp; (try with_reducible rfl)
    simp only [Act.put, List.setIfInBounds_toArray, List.set_cons_zero, List.set_cons_succ]
    refine wpAnyF_take (i := 14) (oi := ⟨_, _, _, _, _, _⟩) (v := ?_) rfl (by kernel_rfl) (fun _ _ _ h => h) (Or.inl ⟨by rfl, ?_⟩) HS ?_
    rotate_left
    · intro wS hSw; (try dsimp only at hSw); go_simp; (try with_reducible rfl)
    simp only [Act.put, List.setIfInBounds_toArray, List.set_cons_zero, List.set_cons_succ]
    refine wpAnyF_take (i := 15) (oi := ⟨_, _, _, _, _, _⟩) (v := ?_) rfl (by kernel_rfl) (fun _ _ _ h => h) (Or.inl ⟨by rfl, ?_⟩) HS ?_
    rotate_left
    · intro wS hSw; (try dsimp only at hSw); go_simp; (try with_reducible rfl)
    simp only [Act.put, List.setIfInBounds_toArray, List.set_cons_zero, List.set_cons_succ]
    refine wpAnyF_take (i := 16) (oi := ⟨_, _, _, _, _, _⟩) (v := ?_) rfl (by kernel_rfl) (fun _ _ _ h => h) (Or.inl ⟨by rfl, ?_⟩) HS ?_
    rotate_left
    · intro wS hSw; (try dsimp only at hSw); go_simp; (try with_reducible rfl)
    simp only [Act.put, List.setIfInBounds_toArray, List.set_cons_zero, List.set_cons_succ]
    refine wpAnyF_take (i := 17) (oi := ⟨_, _, _, _, _, _⟩) (v := ?_) rfl (by kernel_rfl) (fun _ _ _ h => h) (Or.inl ⟨by rfl, ?_⟩) HS ?_
    rotate_left
    · intro wS hSw; (try dsimp only at hSw); go_simp; (try with_reducible rfl)
    simp only [Act.put, List.setIfInBounds_toArray, List.set_cons_zero, List.set_cons_succ]
    refine wpAnyF_step (i := 18) (o := ⟨_, _, _, _, _, _⟩) rfl (by kernel_rfl) ?_
    go_wp2_with fail
    refine onEnd_normal ⟨HS, ?_⟩
    refine wpAnyF_step (i := 19) (o := ⟨_, _, _, _, _, _⟩) rfl (by kernel_rfl) ?_
    go_wp2_with fail
    refine onEnd_normal ⟨fun _ => ⟨cell_setCell_ne g1 q1, cell_setCell_ne g2 q1, cell_setCell_ne g5 q1⟩, ?_⟩
    refine wpAnyF_chain [20,21] [⟨_, _, _, _, _, _⟩, ⟨_, _, _, _, _, _⟩] rfl (by kernel_rfl) ?_
    go_wp2_with ((with_reducible show wpList _ _ _ (Oper.mk (some 41) _ _ _ _ _ :: _) _ _); refine stays ?_)
    refine Stays.go ?_
    have hF2 : FAt w0 ob fb nb lb kb on _ { num := st.num.set v nx, low := st.low.set v nx, stack := st.stack, opn := st.opn, next := nx, groups := st.groups } sv gv vs := HF2.out
    generalize ((w1.setCell ⟨nb, v, none⟩ (.int .i64 (nx : Int))).setCell ⟨lb, v, none⟩ (.int .i64 (nx : Int))).drew = w2 at hF2 ⊢
    clear g1 g2 g5 gn gl zn zl HS HF2 q1 q2 q3
    have g3 : w2.cell? ⟨fb, 3, none⟩ = some sv := hF2.finCell 3
    have HF2 := Lib.hid hF2
    have hstk := hF2.stk
    have HSTK := Lib.hid hstk
    have hsl : st.stack.length ≤ 1000 := by have := HI.out.siz; omega
    have hb2 := hF2.bel.size
    clear hF2 hstk
    obtain ⟨i0, hi0, hz0, hz1, hz2⟩ := info_parts intInfo
    go_wp2_with ((with_reducible show wpList _ _ _ (Oper.mk (some 44) _ _ _ _ _ :: _) _ _); refine stays ?_)
    refine Stays.go ?_
    refine wpList_append_lies _ rfl _ _ _ rfl w0.heap.size 3 i0 _ 1 8 Try.underlying72 hi0 hz0 hz1 hz2 rfl (by omega) sv st.stack.length (intCells st.stack) (by rfl) (HSTK.out.alloc _) ⟨w2.heap.size, 0, none⟩ 1 1 [.int .i64 (v : Int)] (by rfl) (by rfl) (World.news_of_block (cs := #[.int .i64 (v : Int)]) (t := 3) (fr := (0, 0)) (heap_alloc_new _ _)) (by simp [Value.oneCell']) (by omega) (by unfold maxLen; omega) (by omega) (by simp; omega) (w2.heap.size + 1) (by simp) ?_
    intro gg cap4 w3 hown3 hgrow3 hat hltg
    have hm3 : Mod (fun j => sv.ownBlock = some j) w2 w3 := Mod.grown (Mod.alloc (Mod.refl _ _) _) hgrow3 (fun _ h _ => h)
    have hd : intCells (st.stack ++ [v]) = intCells st.stack ++ [.int .i64 (v : Int)] := by simp [intCells]
    have hF3 := HF2.out.setStack (st.stack ++ [v]) (.slice (some ⟨gg, 0, none⟩) (st.stack.length + 1) cap4) hm3 (by rw [List.length_append, hd]; exact hown3) (by
      rcases hat with h | h
      · left; rw [h]; rfl
      · right
        intro b hb
        simp [Value.ownBlock] at hb
        omega)
    have x3 : w3.cell? ⟨fb, 3, none⟩ = some sv := by rw [hm3.cell (World.block_lt_of_cell? _ _ g3) HF2.out.sf]; exact g3
    have z3 : w3.frozen? ⟨fb, 3, none⟩ = false := free_of_heap (hm3.heap HF2.out.fin HF2.out.sf) 3
    have HF3 := Lib.hid hF3
    clear hF3 hown3 hgrow3 hat hm3 hd
    go_wp2_with ((with_reducible show wpList _ _ _ (Oper.mk (some 50) _ _ _ _ _ :: _) _ _); refine stays ?_)
    refine Stays.go ?_
    have hF3 := HF3.out
    generalize w3.setCell ⟨fb, 3, none⟩ (.slice (some ⟨gg, 0, none⟩) (st.stack.length + 1) cap4) = w4 at hF3 ⊢
    clear x3 z3 HF3 HSTK HF2 g3
    have g4 : w4.cell? ⟨fb, 4, none⟩ = some (.slice (some ⟨kb, 0, none⟩) on.length on.length) := hF3.finCell 4
    have gk : w4.cell? ⟨kb, v, none⟩ = some (.bool (st.op v)) := hF3.opnCell v (by show v < st.opn.length; rw [HI.out.lo]; exact hv)
    have zk : w4.frozen? ⟨kb, v, none⟩ = false := free_of_heap hF3.opn v
    have HF4 := Lib.hid (hF3.setOpn v true)
    clear hF3
    go_wp2_with ((with_reducible show wpList _ _ _ (Oper.mk (some 56) _ _ _ _ _ :: _) _ _); refine stays ?_)
    refine Stays.go ?_
    have hF4 : FAt w0 ob fb nb lb kb on (w4.setCell ⟨kb, v, none⟩ (.bool true)) (st.enter v) (.slice (some ⟨gg, 0, none⟩) (st.stack.length + 1) cap4) gv vs := by
      have := HF4.out
      rw [← HNX.out] at this
      exact this
    generalize w4.setCell ⟨kb, v, none⟩ (.bool true) = w5 at hF4 ⊢
    clear HF4 g4 gk zk
    have g0 : w5.cell? ⟨fb, 0, none⟩ = some (.slice (some ⟨ob, 0, none⟩) on.length on.length) := hF4.finCell 0
    obtain ⟨pr, capr, hcr, hcapr, hpr⟩ := HROWS.out v hv
    have hcr' : w5.cell? ⟨ob, v, none⟩ = _ := (hF4.bel.cell (World.block_lt_of_cell? _ _ hcr)).trans hcr
    have HPR := Lib.hid hpr
    have hrl7 := HRL.out _ (List.getElem_mem hv)
    have hrow : on[v]?.getD [] = on[v] := by rw [List.getElem?_eq_getElem hv]; rfl
    have HROW := Lib.hid hrow
    have HELT := Lib.hid (HON.out _ (List.getElem_mem hv))
    obtain ⟨row, hrw⟩ : ∃ row, on[v] = row := ⟨_, rfl⟩
    have HRW := Lib.hid hrw
    rw [hrw] at hcr' hcapr hrl7
    have hL0 := Loop.start HI.out hv hz
    have HF4 := Lib.hid hF4
    have HL0 := Lib.hid hL0
    clear hF4 hpr hcr hrow hrw hL0
    go_wp2_with fail
    go_loopw [61] (fun v61 wr => ∃ (k : Nat) (st1 : St) (sv1 gv1 : Value) (vs1 : List Value), k ≤ row.length ∧ v61 = .int .i64 k ∧ FAt w0 ob fb nb lb kb on wr st1 sv1 gv1 vs1 ∧ Loop on st v k st1)
      (fun v _ => row.length - (intOf v).toNat)
    case atStart => exact ⟨0, _, _, _, _, by omega, rfl, HF4.out, HL0.out⟩
    case round =>
      obtain ⟨k, st1, sv1, gv1, vs1, hk, rfl, hF, hL⟩ := hrel
      have n1 := hL.inv.ln
      have n2 := hL.inv.ll
      have n3 := hL.inv.lo
      have hvv := hL.inv.visLt hL.new
      by_cases hlt : k < row.length
      · have hkr : k < row.length := hlt
        obtain ⟨b, rfl, hcb, hbl⟩ := HPR.out (by rw [HRW.out]; omega)
        rw [HRW.out] at hcb
        have huc := hcb.int k hkr
        rw [← hF.bel.cell hbl] at huc
        obtain ⟨u, hu⟩ : ∃ u, row[k] = u := ⟨_, rfl⟩
        rw [hu] at huc
        have hun : u < on.length := HELT.out u (by rw [HRW.out, ← hu]; exact List.getElem_mem hkr)
        have huk : (on[v]?.getD [])[k]? = some u := by rw [HROW.out, HRW.out, List.getElem?_eq_getElem hkr, hu]
        have HUK := Lib.hid huk
        have hu0 : (0 : Int) ≤ (u : Int) := Int.natCast_nonneg _
        have hu1 : (u : Int) < (on.length : Int) := by omega
        have g1 : wr.cell? ⟨fb, 1, none⟩ = some (.slice (some ⟨nb, 0, none⟩) on.length on.length) := hF.finCell 1
        have gnu : wr.cell? ⟨nb, u, none⟩ = some (.int .i64 (st1.nm u : Int)) := hF.numCell u (by rw [n1]; exact hun)
        have HF := Lib.hid hF
        have HL := Lib.hid hL
        clear hcb hu huk hF hL
        obtain ⟨m, hm⟩ : ∃ m, st1.nm u = m := ⟨_, rfl⟩
        rw [hm] at gnu
        have HM := Lib.hid hm
        clear hm
        cases m with
        | zero =>
          have gnu0 : wr.cell? ⟨nb, u, none⟩ = some (.int .i64 0) := gnu
          clear gnu
          go_wp2_with fail
          have hfu : on.length ≤ fuel + st1.next := by
            have h1 := HL.out.late v hz HL.out.new
            have h2 := HL.out.inv.nb v
            omega
          refine (IH.out st1 u wr sv1 gv1 vs1 HF.out HL.out.inv hun HM.out hfu).mono ?_
          rintro e w6 ⟨rfl, st2, sv2, gv2, vs2, hF2, hV⟩
          have hL2 := HL.out.calls HUK.out HM.out hV
          have n1' := hV.inv.ln
          have n2' := hV.inv.ll
          have g2 : w6.cell? ⟨fb, 2, none⟩ = some (.slice (some ⟨lb, 0, none⟩) on.length on.length) := hF2.finCell 2
          have glv : w6.cell? ⟨lb, v, none⟩ = some (.int .i64 (st2.lw v : Int)) := hF2.lowCell v (by rw [n2']; exact hvv)
          have glu : w6.cell? ⟨lb, u, none⟩ = some (.int .i64 (st2.lw u : Int)) := hF2.lowCell u (by rw [n2']; exact hun)
          have zlv : w6.frozen? ⟨lb, v, none⟩ = false := free_of_heap hF2.low v
          have HFN := Lib.hid ((hF2.setLow v (min (st2.lw v) (st2.lw u))).fresh ((Below.refl _ _).drew))
          have HLN := Lib.hid hL2
          clear hF2 hV hL2 g1 gnu0 HF HL HM huc
          have hmin := @run_imin Try.prog
          go_wp2_with fail
          generalize st2.lw v = mv at *
          generalize st2.lw u = mu at *
          refine wp_region_F (fun j => Nat.blt j 20) (fun w' => w'.cell? ⟨fb, 2, none⟩ = some (.slice (some ⟨lb, 0, none⟩) on.length on.length) ∧ w'.cell? ⟨lb, v, none⟩ = some (.int .i64 (mv : Int)) ∧ w'.cell? ⟨lb, u, none⟩ = some (.int .i64 (mu : Int))) (by rfl) ?_
          have HS : (fun w' : World => w'.cell? ⟨fb, 2, none⟩ = some (.slice (some ⟨lb, 0, none⟩) on.length on.length) ∧ w'.cell? ⟨lb, v, none⟩ = some (.int .i64 (mv : Int)) ∧ w'.cell? ⟨lb, u, none⟩ = some (.int .i64 (mu : Int))) (World.drew w6) := ⟨g2, glv, glu⟩
          change wpAnyF _ _ _ _ _ _ _ _ _ (World.drew w6)
          refine wpAnyF_take (i := 0) (oi := ⟨_, _, _, _, _, _⟩) (v := ?_) rfl (by kernel_rfl) (fun _ _ _ h => h) (Or.inl ⟨by rfl, ?_⟩) HS ?_
          rotate_left
          · intro wS hSw; (try dsimp only at hSw); go_simp; (try with_reducible rfl)
          simp only [Act.put, List.setIfInBounds_toArray, List.set_cons_zero, List.set_cons_succ]
          refine wpAnyF_take (i := 1) (oi := ⟨_, _, _, _, _, _⟩) (v := ?_) rfl (by kernel_rfl) (fun _ _ _ h => h) (Or.inl ⟨by rfl, ?_⟩) HS ?_
          rotate_left
          · intro wS hSw; (try dsimp only at hSw); go_simp; (try with_reducible rfl)
          simp only [Act.put, List.setIfInBounds_toArray, List.set_cons_zero, List.set_cons_succ]
          refine wpAnyF_take (i := 2) (oi := ⟨_, _, _, _, _, _⟩) (v := ?_) rfl (by kernel_rfl) (fun _ _ _ h => h) (Or.inl ⟨by rfl, ?_⟩) HS ?_
          rotate_left
          · intro wS hSw; (try dsimp only at hSw); go_simp; (try with_reducible rfl)
          simp only [Act.put, List.setIfInBounds_toArray, List.set_cons_zero, List.set_cons_succ]
          refine wpAnyF_take (i := 3) (oi := ⟨_, _, _, _, _, _⟩) (v := ?_) rfl (by kernel_rfl) (fun _ _ _ h => h) (Or.inl ⟨by rfl, ?_⟩) HS ?_
          rotate_left
          · intro wS hSw; (try dsimp only at hSw); go_simp; (try with_reducible rfl)
          simp only [Act.put, List.setIfInBounds_toArray, List.set_cons_zero, List.set_cons_succ]
          refine wpAnyF_take (i := 4) (oi := ⟨_, _, _, _, _, _⟩) (v := ?_) rfl (by kernel_rfl) (fun _ _ _ h => h) (Or.inl ⟨by rfl, ?_⟩) HS ?_
          rotate_left
          · intro wS hSw; (try dsimp only at hSw); go_simp; (try with_reducible rfl)
          simp only [Act.put, List.setIfInBounds_toArray, List.set_cons_zero, List.set_cons_succ]
          refine wpAnyF_take (i := 5) (oi := ⟨_, _, _, _, _, _⟩) (v := ?_) rfl (by kernel_rfl) (fun _ _ _ h => h) (Or.inl ⟨by rfl, ?_⟩) HS ?_
          rotate_left
          · intro wS hSw; (try dsimp only at hSw); go_simp; (try with_reducible rfl)
          simp only [Act.put, List.setIfInBounds_toArray, List.set_cons_zero, List.set_cons_succ]
          refine wpAnyF_take (i := 6) (oi := ⟨_, _, _, _, _, _⟩) (v := ?_) rfl (by kernel_rfl) (fun _ _ _ h => h) (Or.inl ⟨by rfl, ?_⟩) HS ?_
          rotate_left
          · intro wS hSw; (try dsimp only at hSw); go_simp; (try with_reducible rfl)
          simp only [Act.put, List.setIfInBounds_toArray, List.set_cons_zero, List.set_cons_succ]
          refine wpAnyF_take (i := 7) (oi := ⟨_, _, _, _, _, _⟩) (v := ?_) rfl (by kernel_rfl) (fun _ _ _ h => h) (Or.inl ⟨by rfl, ?_⟩) HS ?_
          rotate_left
          · intro wS hSw; (try dsimp only at hSw); go_simp; (try with_reducible rfl)
          simp only [Act.put, List.setIfInBounds_toArray, List.set_cons_zero, List.set_cons_succ]
          refine wpAnyF_take (i := 8) (oi := ⟨_, _, _, _, _, _⟩) (v := ?_) rfl (by kernel_rfl) (fun _ _ _ h => h) (Or.inl ⟨by rfl, ?_⟩) HS ?_
          rotate_left
          · intro wS hSw; (try dsimp only at hSw); go_simp; (try with_reducible rfl)
          simp only [Act.put, List.setIfInBounds_toArray, List.set_cons_zero, List.set_cons_succ]
          refine wpAnyF_take (i := 9) (oi := ⟨_, _, _, _, _, _⟩) (v := ?_) rfl (by kernel_rfl) (fun _ _ _ h => h) (Or.inl ⟨by rfl, ?_⟩) HS ?_
          rotate_left
          · intro wS hSw; (try dsimp only at hSw); go_simp; (try with_reducible rfl)
          simp only [Act.put, List.setIfInBounds_toArray, List.set_cons_zero, List.set_cons_succ]
          refine wpAnyF_take (i := 10) (oi := ⟨_, _, _, _, _, _⟩) (v := ?_) rfl (by kernel_rfl) (fun _ _ _ h => h) (Or.inl ⟨by rfl, ?_⟩) HS ?_
          rotate_left
          · intro wS hSw; (try dsimp only at hSw); go_simp; (try with_reducible rfl)
          simp only [Act.put, List.setIfInBounds_toArray, List.set_cons_zero, List.set_cons_succ]
          refine wpAnyF_take (i := 11) (oi := ⟨_, _, _, _, _, _⟩) (v := ?_) rfl (by kernel_rfl) (fun _ _ _ h => h) (Or.inl ⟨by rfl, ?_⟩) HS ?_
          rotate_left
          · intro wS hSw; (try dsimp only at hSw); go_simp; (try with_reducible rfl)
          simp only [Act.put, List.setIfInBounds_toArray, List.set_cons_zero, List.set_cons_succ]
          refine wpAnyF_take (i := 12) (oi := ⟨_, _, _, _, _, _⟩) (v := ?_) rfl (by kernel_rfl) (fun _ _ _ h => h) (Or.inl ⟨by rfl, ?_⟩) HS ?_
          rotate_left
          · intro wS hSw; (try dsimp only at hSw); go_simp; (try with_reducible rfl)
          simp only [Act.put, List.setIfInBounds_toArray, List.set_cons_zero, List.set_cons_succ]
          refine wpAnyF_take (i := 13) (oi := ⟨_, _, _, _, _, _⟩) (v := ?_) rfl (by kernel_rfl) (fun _ _ _ h => h) (Or.inl ⟨by rfl, ?_⟩) HS ?_
          rotate_left
          · intro wS hSw; (try dsimp only at hSw); go_simp; (try with_reducible rfl)
          simp only [Act.put, List.setIfInBounds_toArray, List.set_cons_zero, List.set_cons_succ]
          refine wpAnyF_take (i := 14) (oi := ⟨_, _, _, _, _, _⟩) (v := ?_) rfl (by kernel_rfl) (fun _ _ _ h => h) (Or.inl ⟨by rfl, ?_⟩) HS ?_
          rotate_left
          · intro wS hSw; (try dsimp only at hSw); go_simp; (try with_reducible rfl)
          simp only [Act.put, List.setIfInBounds_toArray, List.set_cons_zero, List.set_cons_succ]
          refine wpAnyF_take (i := 15) (oi := ⟨_, _, _, _, _, _⟩) (v := ?_) rfl (by kernel_rfl) (fun _ _ _ h => h) (Or.inl ⟨by rfl, ?_⟩) HS ?_
          rotate_left
          · intro wS hSw; (try dsimp only at hSw); go_simp; (try with_reducible rfl)
          simp only [Act.put, List.setIfInBounds_toArray, List.set_cons_zero, List.set_cons_succ]
          refine wpAnyF_take (i := 16) (oi := ⟨_, _, _, _, _, _⟩) (v := ?_) rfl (by kernel_rfl) (fun _ _ _ h => h) (Or.inl ⟨by rfl, ?_⟩) HS ?_
          rotate_left
          · intro wS hSw; (try dsimp only at hSw); go_simp; (try with_reducible rfl)
          simp only [Act.put, List.setIfInBounds_toArray, List.set_cons_zero, List.set_cons_succ]
          refine wpAnyF_take (i := 17) (oi := ⟨_, _, _, _, _, _⟩) (v := ?_) rfl (by kernel_rfl) (fun _ _ _ h => h) (Or.inl ⟨by rfl, ?_⟩) HS ?_
          rotate_left
          · intro wS hSw; (try dsimp only at hSw); go_simp; (try with_reducible rfl)
          simp only [Act.put, List.setIfInBounds_toArray, List.set_cons_zero, List.set_cons_succ]
          refine wpAnyF_take (i := 18) (oi := ⟨_, _, _, _, _, _⟩) (v := ?_) rfl (by kernel_rfl) (fun _ _ _ h => h) (Or.inl ⟨by rfl, ?_⟩) HS ?_
          rotate_left
          · intro wS hSw; (try dsimp only at hSw); go_simp; (try with_reducible rfl)
          simp only [Act.put, List.setIfInBounds_toArray, List.set_cons_zero, List.set_cons_succ]
          refine wpAnyF_step (i := 19) (o := ⟨_, _, _, _, _, _⟩) rfl (by kernel_rfl) ?_
          go_wp2_with fail
          refine onEnd_normal ⟨HS, ?_⟩
          refine wpAnyF_chain [20,21] [⟨_, _, _, _, _, _⟩, ⟨_, _, _, _, _, _⟩] rfl (by kernel_rfl) ?_
          go_wp2_with fail
          go_roundw
          case rel => exact ⟨k + 1, _, _, _, _, by omega, by go_num, HFN.out, HLN.out⟩
          case measure => simp [intOf]; omega
        | succ m =>
          have hne : ((((m + 1 : Nat) : Int)) == 0) = false := by simp; omega
          have hvis : 0 < st1.nm u := by rw [HM.out]; omega
          have g4 : wr.cell? ⟨fb, 4, none⟩ = some (.slice (some ⟨kb, 0, none⟩) on.length on.length) := HF.out.finCell 4
          have gku : wr.cell? ⟨kb, u, none⟩ = some (.bool (st1.op u)) := HF.out.opnCell u (by rw [n3]; exact hun)
          obtain ⟨o, ho⟩ : ∃ o, st1.op u = o := ⟨_, rfl⟩
          rw [ho] at gku
          have HO := Lib.hid ho
          obtain ⟨mu, hmu⟩ : ∃ mu, m + 1 = mu := ⟨_, rfl⟩
          rw [hmu] at hne gnu
          have HMU := Lib.hid (HM.out.trans hmu)
          clear ho hmu
          cases o with
          | false =>
            go_wp2_with fail
            go_roundw
            case rel => exact ⟨k + 1, _, _, _, _, by omega, by go_num, HF.out, HL.out.past HUK.out hvis HO.out⟩
            case measure => simp [intOf]; omega
          | true =>
            have g2 : wr.cell? ⟨fb, 2, none⟩ = some (.slice (some ⟨lb, 0, none⟩) on.length on.length) := HF.out.finCell 2
            have glv : wr.cell? ⟨lb, v, none⟩ = some (.int .i64 (st1.lw v : Int)) := HF.out.lowCell v (by rw [n2]; exact hvv)
            have zlv : wr.frozen? ⟨lb, v, none⟩ = false := free_of_heap HF.out.low v
            have HFN := Lib.hid ((HF.out.setLow v (min (st1.lw v) (st1.nm u))).fresh ((Below.refl _ _).drew))
            have HLN := Lib.hid (HL.out.seen HUK.out hvis HO.out)
            have hFN := HFN.out
            rw [HMU.out] at hFN
            have HFN := Lib.hid hFN
            have hLN := HLN.out
            rw [HMU.out] at hLN
            have HLN := Lib.hid hLN
            clear hFN hLN
            have hmin := @run_imin Try.prog
            generalize st1.lw v = mv at *
            go_wp2_with fail
            refine wp_region_F (fun j => Nat.blt j 20) (fun w' => w'.cell? ⟨fb, 2, none⟩ = some (.slice (some ⟨lb, 0, none⟩) on.length on.length) ∧ w'.cell? ⟨lb, v, none⟩ = some (.int .i64 (mv : Int)) ∧ w'.cell? ⟨fb, 1, none⟩ = some (.slice (some ⟨nb, 0, none⟩) on.length on.length) ∧ w'.cell? ⟨nb, u, none⟩ = some (.int .i64 (mu : Int))) (by rfl) ?_
            have HS : (fun w' : World => w'.cell? ⟨fb, 2, none⟩ = some (.slice (some ⟨lb, 0, none⟩) on.length on.length) ∧ w'.cell? ⟨lb, v, none⟩ = some (.int .i64 (mv : Int)) ∧ w'.cell? ⟨fb, 1, none⟩ = some (.slice (some ⟨nb, 0, none⟩) on.length on.length) ∧ w'.cell? ⟨nb, u, none⟩ = some (.int .i64 (mu : Int))) (World.drew wr) := ⟨g2, glv, g1, gnu⟩
            change wpAnyF _ _ _ _ _ _ _ _ _ (World.drew wr)
            refine wpAnyF_take (i := 0) (oi := ⟨_, _, _, _, _, _⟩) (v := ?_) rfl (by kernel_rfl) (fun _ _ _ h => h) (Or.inl ⟨by rfl, ?_⟩) HS ?_
            rotate_left
            · intro wS hSw; (try dsimp only at hSw); go_simp; (try with_reducible rfl)
            simp only [Act.put, List.setIfInBounds_toArray, List.set_cons_zero, List.set_cons_succ]
            refine wpAnyF_take (i := 1) (oi := ⟨_, _, _, _, _, _⟩) (v := ?_) rfl (by kernel_rfl) (fun _ _ _ h => h) (Or.inl ⟨by rfl, ?_⟩) HS ?_
            rotate_left
            · intro wS hSw; (try dsimp only at hSw); go_simp; (try with_reducible rfl)
            simp only [Act.put, List.setIfInBounds_toArray, List.set_cons_zero, List.set_cons_succ]
            refine wpAnyF_take (i := 2) (oi := ⟨_, _, _, _, _, _⟩) (v := ?_) rfl (by kernel_rfl) (fun _ _ _ h => h) (Or.inl ⟨by rfl, ?_⟩) HS ?_
            rotate_left
            · intro wS hSw; (try dsimp only at hSw); go_simp; (try with_reducible rfl)
            simp only [Act.put, List.setIfInBounds_toArray, List.set_cons_zero, List.set_cons_succ]
            refine wpAnyF_take (i := 3) (oi := ⟨_, _, _, _, _, _⟩) (v := ?_) rfl (by kernel_rfl) (fun _ _ _ h => h) (Or.inl ⟨by rfl, ?_⟩) HS ?_
            rotate_left
            · intro wS hSw; (try dsimp only at hSw); go_simp; (try with_reducible rfl)
            simp only [Act.put, List.setIfInBounds_toArray, List.set_cons_zero, List.set_cons_succ]
            refine wpAnyF_take (i := 4) (oi := ⟨_, _, _, _, _, _⟩) (v := ?_) rfl (by kernel_rfl) (fun _ _ _ h => h) (Or.inl ⟨by rfl, ?_⟩) HS ?_
            rotate_left
            · intro wS hSw; (try dsimp only at hSw); go_simp; (try with_reducible rfl)
            simp only [Act.put, List.setIfInBounds_toArray, List.set_cons_zero, List.set_cons_succ]
            refine wpAnyF_take (i := 5) (oi := ⟨_, _, _, _, _, _⟩) (v := ?_) rfl (by kernel_rfl) (fun _ _ _ h => h) (Or.inl ⟨by rfl, ?_⟩) HS ?_
            rotate_left
            · intro wS hSw; (try dsimp only at hSw); go_simp; (try with_reducible rfl)
            simp only [Act.put, List.setIfInBounds_toArray, List.set_cons_zero, List.set_cons_succ]
            refine wpAnyF_take (i := 6) (oi := ⟨_, _, _, _, _, _⟩) (v := ?_) rfl (by kernel_rfl) (fun _ _ _ h => h) (Or.inl ⟨by rfl, ?_⟩) HS ?_
            rotate_left
            · intro wS hSw; (try dsimp only at hSw); go_simp; (try with_reducible rfl)
            simp only [Act.put, List.setIfInBounds_toArray, List.set_cons_zero, List.set_cons_succ]
            refine wpAnyF_take (i := 7) (oi := ⟨_, _, _, _, _, _⟩) (v := ?_) rfl (by kernel_rfl) (fun _ _ _ h => h) (Or.inl ⟨by rfl, ?_⟩) HS ?_
            rotate_left
            · intro wS hSw; (try dsimp only at hSw); go_simp; (try with_reducible rfl)
            simp only [Act.put, List.setIfInBounds_toArray, List.set_cons_zero, List.set_cons_succ]
            refine wpAnyF_take (i := 8) (oi := ⟨_, _, _, _, _, _⟩) (v := ?_) rfl (by kernel_rfl) (fun _ _ _ h => h) (Or.inl ⟨by rfl, ?_⟩) HS ?_
            rotate_left
            · intro wS hSw; (try dsimp only at hSw); go_simp; (try with_reducible rfl)
            simp only [Act.put, List.setIfInBounds_toArray, List.set_cons_zero, List.set_cons_succ]
            refine wpAnyF_take (i := 9) (oi := ⟨_, _, _, _, _, _⟩) (v := ?_) rfl (by kernel_rfl) (fun _ _ _ h => h) (Or.inl ⟨by rfl, ?_⟩) HS ?_
            rotate_left
            · intro wS hSw; (try dsimp only at hSw); go_simp; (try with_reducible rfl)
            simp only [Act.put, List.setIfInBounds_toArray, List.set_cons_zero, List.set_cons_succ]
            refine wpAnyF_take (i := 10) (oi := ⟨_, _, _, _, _, _⟩) (v := ?_) rfl (by kernel_rfl) (fun _ _ _ h => h) (Or.inl ⟨by rfl, ?_⟩) HS ?_
            rotate_left
            · intro wS hSw; (try dsimp only at hSw); go_simp; (try with_reducible rfl)
            simp only [Act.put, List.setIfInBounds_toArray, List.set_cons_zero, List.set_cons_succ]
            refine wpAnyF_take (i := 11) (oi := ⟨_, _, _, _, _, _⟩) (v := ?_) rfl (by kernel_rfl) (fun _ _ _ h => h) (Or.inl ⟨by rfl, ?_⟩) HS ?_
            rotate_left
            · intro wS hSw; (try dsimp only at hSw); go_simp; (try with_reducible rfl)
            simp only [Act.put, List.setIfInBounds_toArray, List.set_cons_zero, List.set_cons_succ]
            refine wpAnyF_take (i := 12) (oi := ⟨_, _, _, _, _, _⟩) (v := ?_) rfl (by kernel_rfl) (fun _ _ _ h => h) (Or.inl ⟨by rfl, ?_⟩) HS ?_
            rotate_left
            · intro wS hSw; (try dsimp only at hSw); go_simp; (try with_reducible rfl)
            simp only [Act.put, List.setIfInBounds_toArray, List.set_cons_zero, List.set_cons_succ]
            refine wpAnyF_take (i := 13) (oi := ⟨_, _, _, _, _, _⟩) (v := ?_) rfl (by kernel_rfl) (fun _ _ _ h => h) (Or.inl ⟨by rfl, ?_⟩) HS ?_
            rotate_left
            · intro wS hSw; (try dsimp only at hSw); go_simp; (try with_reducible rfl)
            simp only [Act.put, List.setIfInBounds_toArray, List.set_cons_zero, List.set_cons_succ]
            refine wpAnyF_take (i := 14) (oi := ⟨_, _, _, _, _, _⟩) (v := ?_) rfl (by kernel_rfl) (fun _ _ _ h => h) (Or.inl ⟨by rfl, ?_⟩) HS ?_
            rotate_left
            · intro wS hSw; (try dsimp only at hSw); go_simp; (try with_reducible rfl)
            simp only [Act.put, List.setIfInBounds_toArray, List.set_cons_zero, List.set_cons_succ]
            refine wpAnyF_take (i := 15) (oi := ⟨_, _, _, _, _, _⟩) (v := ?_) rfl (by kernel_rfl) (fun _ _ _ h => h) (Or.inl ⟨by rfl, ?_⟩) HS ?_
            rotate_left
            · intro wS hSw; (try dsimp only at hSw); go_simp; (try with_reducible rfl)
            simp only [Act.put, List.setIfInBounds_toArray, List.set_cons_zero, List.set_cons_succ]
            refine wpAnyF_take (i := 16) (oi := ⟨_, _, _, _, _, _⟩) (v := ?_) rfl (by kernel_rfl) (fun _ _ _ h => h) (Or.inl ⟨by rfl, ?_⟩) HS ?_
            rotate_left
            · intro wS hSw; (try dsimp only at hSw); go_simp; (try with_reducible rfl)
            simp only [Act.put, List.setIfInBounds_toArray, List.set_cons_zero, List.set_cons_succ]
            refine wpAnyF_take (i := 17) (oi := ⟨_, _, _, _, _, _⟩) (v := ?_) rfl (by kernel_rfl) (fun _ _ _ h => h) (Or.inl ⟨by rfl, ?_⟩) HS ?_
            rotate_left
            · intro wS hSw; (try dsimp only at hSw); go_simp; (try with_reducible rfl)
            simp only [Act.put, List.setIfInBounds_toArray, List.set_cons_zero, List.set_cons_succ]
            refine wpAnyF_take (i := 18) (oi := ⟨_, _, _, _, _, _⟩) (v := ?_) rfl (by kernel_rfl) (fun _ _ _ h => h) (Or.inl ⟨by rfl, ?_⟩) HS ?_
            rotate_left
            · intro wS hSw; (try dsimp only at hSw); go_simp; (try with_reducible rfl)
            simp only [Act.put, List.setIfInBounds_toArray, List.set_cons_zero, List.set_cons_succ]
            refine wpAnyF_step (i := 19) (o := ⟨_, _, _, _, _, _⟩) rfl (by kernel_rfl) ?_
            go_wp2_with fail
            refine onEnd_normal ⟨HS, ?_⟩
            refine wpAnyF_chain [20,21] [⟨_, _, _, _, _, _⟩, ⟨_, _, _, _, _, _⟩] rfl (by kernel_rfl) ?_
            go_wp2_with fail
            go_roundw
            case rel => exact ⟨k + 1, _, _, _, _, by omega, by go_num, HFN.out, HLN.out⟩
            case measure => simp [intOf]; omega
      · have hke : k = row.length := by omega
        have HKE := Lib.hid hke
        have hkl : (on[v]?.getD []).length ≤ k := by rw [HROW.out, HRW.out]; omega
        have HKL := Lib.hid hkl
        clear hke hkl
        have g1 : wr.cell? ⟨fb, 1, none⟩ = some (.slice (some ⟨nb, 0, none⟩) on.length on.length) := hF.finCell 1
        have g2 : wr.cell? ⟨fb, 2, none⟩ = some (.slice (some ⟨lb, 0, none⟩) on.length on.length) := hF.finCell 2
        have gnv : wr.cell? ⟨nb, v, none⟩ = some (.int .i64 (st1.nm v : Int)) := hF.numCell v (by rw [n1]; exact hvv)
        have glv : wr.cell? ⟨lb, v, none⟩ = some (.int .i64 (st1.lw v : Int)) := hF.lowCell v (by rw [n2]; exact hvv)
        have HF := Lib.hid hF
        have HL := Lib.hid hL
        clear hF hL
        by_cases hne : st1.lw v = st1.nm v
        · have hdec : ((st1.lw v : Int) == (st1.nm v : Int)) = true := by simp; omega
          have hdec2 : ((st1.lw v : Int) != (st1.nm v : Int)) = false := by simp; omega
          have HNE := Lib.hid hne
          clear hne
          have hb6 : ∀ nq, FAt w0 ob fb nb lb kb on (wr.drewN nq) st1 sv1 gv1 vs1 := fun nq => HF.out.fresh (below_drewN (Below.refl _ _) _)
          obtain ⟨nmv, hnmv⟩ : ∃ nmv, st1.nm v = nmv := ⟨_, rfl⟩
          obtain ⟨lwv, hlwv⟩ : ∃ lwv, st1.lw v = lwv := ⟨_, rfl⟩
          rw [hnmv] at gnv hdec hdec2
          rw [hlwv] at glv hdec hdec2
          clear hnmv hlwv
          go_wp2_with fail
          go_quiet (fail)
          go_wp2_with ((with_reducible show wpList _ _ _ (Oper.mk (some 144) _ _ _ _ _ :: _) _ _); refine stays ?_)
          refine Stays.go ?_
          have hF6 := hb6 nq
          generalize wr.drewN nq = w6 at hF6 ⊢
          clear hb6 HF g1 g2 gnv glv hdec hdec2
          obtain ⟨T, hT, _⟩ := HL.out.stk
          have hnd := HL.out.inv.snodup
          obtain ⟨nS, hnS⟩ : ∃ nS, st1.stack.length = nS := ⟨_, rfl⟩
          have hstk := hF6.stk
          rw [hnS] at hstk
          obtain ⟨pS, capS, hsv, hcapS, hpS⟩ := own_form hstk hnS
          have hnSle : nS ≤ 1000 := by have := HL.out.inv.siz; have := HL.out.inv.cnt; omega
          have hnSpos : st.stack.length < nS := by rw [← hnS, hT]; simp
          obtain ⟨bS, rfl, hcS⟩ := hpS (by omega)
          subst hsv
          have g3 : w6.cell? ⟨fb, 3, none⟩ = some (.slice (some ⟨bS, 0, none⟩) nS capS) := hF6.finCell 3
          have hvS : v ∉ st.stack := fun hm => by have := HI.out.svis v hm; omega
          have hix := index_any (some ⟨bS, 0, none⟩) capS (st1.stack.map fun (i : Nat) => (i : Int)) (v : Int) w6 (by simp; omega) (fun _ => ⟨bS, rfl, fun j hj => by
            have hj' : j < st1.stack.length := by simpa using hj
            rw [hcS j hj']; simp⟩)
          rw [List.length_map, hnS] at hix
          rw [show firstIdx (st1.stack.map fun (i : Nat) => (i : Int)) (v : Int) = (st.stack.length : Int) by rw [hT]; exact firstIdx_stack hvS] at hix
          have HIX := Lib.hid hix
          have HF6 := Lib.hid hF6
          have HT := Lib.hid hT
          have HNS := Lib.hid hnS
          have HCS := Lib.hid hcS
          have HSTK := Lib.hid hstk
          obtain ⟨at0, hat0⟩ : ∃ at0, st.stack.length = at0 := ⟨_, rfl⟩
          have HAT := Lib.hid hat0
          have ha0 : (0 : Int) ≤ (at0 : Int) := Int.natCast_nonneg _
          have ha1 : (at0 : Int) ≤ (nS : Int) := by omega
          have ha2 : (nS : Int) ≤ (capS : Int) := by omega
          clear hix hF6 hT hnS hcS hstk hnd
          go_wp2_with fail
          refine HIX.out.mono ?_
          rintro e w7 ⟨rfl, rfl⟩
          rw [HAT.out]
          go_wp2_with fail
          refine (values_any _ _ _ _).mono ?_
          rintro e w8 ⟨rfl, rfl⟩
          have hlenT : ((v :: T).map fun (i : Nat) => (i : Int)).length = nS - at0 := by
            rw [← HNS.out, HT.out, ← HAT.out]; simp
          have hints : Ints (w7.alloc (.cells #[.slice (some ⟨bS, at0, none⟩) (nS - at0) (capS - at0)] 72)).heap.size (w7.alloc (.cells #[.slice (some ⟨bS, at0, none⟩) (nS - at0) (capS - at0)] 72)) (.slice (some ⟨bS, at0, none⟩) (nS - at0) (capS - at0)) ((v :: T).map fun (i : Nat) => (i : Int)) := by
            refine ⟨bS, at0, capS - at0, by rw [hlenT], ?_, fun j hj => ?_⟩
            · have := (HSTK.out.lt bS rfl).2
              rw [World.size_alloc]; omega
            · have hj' : j < (v :: T).length := by simpa using hj
              have hq : at0 + j < st1.stack.length := by rw [HT.out, ← HAT.out]; simp at hj' ⊢; omega
              have hc := HCS.out (at0 + j) hq
              have he : st1.stack[at0 + j] = (v :: T)[j] := by
                simp only [HT.out, ← HAT.out]
                rw [List.getElem_append_right (by omega)]
                congr 1
                omega
              rw [he] at hc
              have := cell_alloc hc (.cells #[.slice (some ⟨bS, at0, none⟩) (nS - at0) (capS - at0)] 72)
              rw [this, List.getElem?_map, List.getElem?_eq_getElem hj']
              rfl
          have hsrt := sorted_any w7.heap.size _ ((v :: T).map fun (i : Nat) => (i : Int)) (by rw [hlenT]; omega) (by rw [hlenT]; omega) _ (cell_new w7 _ _ 0) hints
          rw [sorted_nat] at hsrt
          have HSRT := Lib.hid hsrt
          clear hsrt hints
          go_wp2_with fail
          refine HSRT.out.mono ?_
          rintro e w9 ⟨v9, rfl, hown9, hb9⟩
          have hb79 : Below w7.heap.size w7 w9 := ((Below.refl _ _).alloc (Nat.le_refl _) _).trans (hb9.mono (by simp))
          have hF9 := HF6.out.fresh hb79
          obtain ⟨g, hg⟩ : ∃ g, sortNat (v :: T) = g := ⟨_, rfl⟩
          have hgl : g.length = nS - at0 := by rw [← hg, (sortNat_perm _).length_eq, ← HNS.out, HT.out, ← HAT.out]; simp
          have hown9' : w9.ownsRow (w7.heap.size + 1) 3 1 v9 (nS - at0) (intCells g) := by
            rw [hlenT, World.size_alloc] at hown9
            rw [← hg]; exact hown9
          obtain ⟨p9, cap9, rfl, hcap9, hp9⟩ := own_form hown9' hgl
          obtain ⟨b9, rfl, hc9⟩ := hp9 (by omega)
          have hb9s : w7.heap.size + 1 ≤ b9 ∧ b9 < w9.heap.size := hown9'.lt b9 rfl
          have g3' : w9.cell? ⟨fb, 3, none⟩ = some (.slice (some ⟨bS, 0, none⟩) nS capS) := hF9.finCell 3
          have z3' : w9.frozen? ⟨fb, 3, none⟩ = false := free_of_heap hF9.fin 3
          have hF10 := hF9.setStack st.stack (.slice (some ⟨bS, 0, none⟩) at0 capS) (Mod.refl _ _) (by
            have h1 := hF9.stk
            rw [HNS.out] at h1
            have h2 := ownsRow_cut h1 HNS.out (m := at0) (by omega)
            rw [HT.out, ← HAT.out, List.take_left] at h2
            rw [HAT.out] at h2 ⊢
            exact h2) (.inl rfl)
          have ha3 : (at0 : Int) ≤ (capS : Int) := by omega
          have hgm : ∀ x ∈ g, x < on.length := fun x hx => by
            have hx' : x ∈ v :: T := (sortNat_perm _).mem_iff.1 (hg ▸ hx)
            exact HL.out.inv.visLt (HL.out.inv.svis x (by rw [HT.out, List.mem_append]; exact .inr hx'))
          have hkf : kb < w7.heap.size := lt_of_heap HF6.out.opn
          have hff : fb < w7.heap.size := lt_of_heap HF6.out.fin
          have hnf : nb < w7.heap.size := lt_of_heap HF6.out.num
          have hlf : lb < w7.heap.size := lt_of_heap HF6.out.low
          have hgvb : ∀ b, gv1.ownBlock = some b → b < w7.heap.size := fun b hb => (HF6.out.grp.lt b hb).2
          have hsvb : bS < w7.heap.size := (HSTK.out.lt bS rfl).2
          have hw0 : w0.heap.size ≤ w7.heap.size := HF6.out.bel.size
          have hc10 : ∀ q, (hq : q < g.length) → (w9.setCell ⟨fb, 3, none⟩ (.slice (some ⟨bS, 0, none⟩) at0 capS)).cell? ⟨b9, q, none⟩ = some (.int .i64 (g[q] : Int)) := fun q hq => cell_setCell_ne (hc9 q hq) (by omega)
          have HGM := Lib.hid hgm
          have HG := Lib.hid hg
          have HGL := Lib.hid hgl
          clear hgm hg hown9 hown9' hp9 hc9 hF9 hb9 hb79 HSRT HCS HSTK HF6
          obtain ⟨m, hm⟩ : ∃ m, nS - at0 = m := ⟨_, rfl⟩
          rw [hm] at hcap9
          have HM := Lib.hid hm
          go_wp2_with fail
          have hs10 : (w9.setCell ⟨fb, 3, none⟩ (.slice (some ⟨bS, 0, none⟩) at0 capS)).heap.size = w9.heap.size := World.size_setCell ..
          generalize w9.setCell ⟨fb, 3, none⟩ (.slice (some ⟨bS, 0, none⟩) at0 capS) = w10 at hF10 hc10 hs10 ⊢
          have HF10 := Lib.hid hF10
          have HC10 := Lib.hid hc10
          clear hF10 hc10 g3' z3'
          go_loopw [166] (fun v166 wr => ∃ (k : Nat) (o : List Bool), k ≤ m ∧ v166 = .int .i64 k ∧ FAt w0 ob fb nb lb kb on wr { st1 with stack := st.stack, opn := o } (.slice (some ⟨bS, 0, none⟩) at0 capS) gv1 vs1 ∧ o.length = on.length ∧
              (∀ x, o[x]?.getD false = (st1.op x && !(g.take k).contains x)) ∧ (∀ q, (hq : q < g.length) → wr.cell? ⟨b9, q, none⟩ = some (.int .i64 (g[q] : Int))))
            (fun v _ => m - (intOf v).toNat)
          case atStart => exact ⟨0, st1.opn, by omega, rfl, HF10.out, n3, fun x => by simp [St.op], HC10.out⟩
          case round =>
            obtain ⟨k, o, hk, rfl, hF, hol, hoc, hcells⟩ := hrel
            have HF := Lib.hid hF
            have HOC := Lib.hid hoc
            have HCELLS := Lib.hid hcells
            clear hF hoc hcells
            by_cases hlt : k < m
            · have hkg : k < g.length := by rw [HGL.out, HM.out]; exact hlt
              have huc := HCELLS.out k hkg
              obtain ⟨x, hx⟩ : ∃ x, g[k] = x := ⟨_, rfl⟩
              rw [hx] at huc
              have hxn : x < on.length := by rw [← hx]; exact HGM.out _ (List.getElem_mem hkg)
              have HX := Lib.hid hx
              have hx0 : (0 : Int) ≤ (x : Int) := Int.natCast_nonneg _
              have hx1 : (x : Int) < (on.length : Int) := by omega
              have g4 : wr.cell? ⟨fb, 4, none⟩ = some (.slice (some ⟨kb, 0, none⟩) on.length on.length) := HF.out.finCell 4
              have gkx : wr.cell? ⟨kb, x, none⟩ = some (.bool _) := HF.out.opnCell x (by show x < o.length; rw [hol]; exact hxn)
              have zkx : wr.frozen? ⟨kb, x, none⟩ = false := free_of_heap HF.out.opn x
              clear hx
              go_wp2_with fail
              go_roundw
              case rel =>
                refine ⟨k + 1, o.set x false, by omega, by go_num, HF.out.setOpn x false, by simp [hol], fun y => ?_, fun q hq => cell_setCell_ne (HCELLS.out q hq) (by omega)⟩
                rw [set_getDb, HOC.out y, List.take_succ_eq_append_getElem hkg, HX.out]
                by_cases hy : y = x
                · rw [if_pos ⟨hy, by rw [hol]; exact hxn⟩, hy]; simp
                · rw [if_neg (fun h => hy h.1)]; simp [hy]
              case measure => simp [intOf]; omega
            · have hke : k = m := by omega
              have HKE := Lib.hid hke
              clear hke
              have g6 : wr.cell? ⟨fb, 6, none⟩ = some gv1 := HF.out.finCell 6
              have hgl1 : st1.groups.length ≤ 1000 := by have := HL.out.inv.siz; have := HL.out.inv.cnt; omega
              obtain ⟨i1, hi1, hy0, hy1, hy2⟩ := info_parts intsInfo
              have hgrp : wr.ownsRow w0.heap.size 72 1 gv1 st1.groups.length vs1 := HF.out.grp
              have HGRP := Lib.hid hgrp
              have hszr : w0.heap.size ≤ wr.heap.size := HF.out.bel.size
              clear hgrp
              go_wp2_with ((with_reducible show wpList _ _ _ (Oper.mk (some 184) _ _ _ _ _ :: _) _ _); refine stays ?_)
              refine Stays.go ?_
              refine wpList_append_lies _ rfl _ _ _ rfl w0.heap.size 72 i1 _ 1 24 Try.underlying74 hi1 hy0 hy1 hy2 rfl (by omega) gv1 st1.groups.length vs1 (by rfl) (HGRP.out.alloc _) ⟨wr.heap.size, 0, none⟩ 1 1 [.slice (some ⟨b9, 0, none⟩) m cap9] (by rfl) (by rfl) (World.news_of_block (cs := #[.slice (some ⟨b9, 0, none⟩) m cap9]) (t := 72) (fr := (0, 0)) (heap_alloc_new _ _)) (by simp [Value.oneCell']) (by omega) (by unfold maxLen; omega) (by omega) (by simp; omega) (wr.heap.size + 1) (by simp) ?_
              intro g11 cap11 w11 hown11 hgrow11 hat11 hltg11
              have hgm : g.length = m := by rw [HGL.out, HM.out]
              have hb9w : b9 < wr.heap.size := World.block_lt_of_cell? _ _ (HCELLS.out 0 (by omega))
              have hm11 : Mod (fun j => gv1.ownBlock = some j) wr w11 := Mod.grown (Mod.alloc (Mod.refl _ _) _) hgrow11 (fun _ h _ => h)
              have hF12 := HF.out.addGroup g (.slice (some ⟨b9, 0, none⟩) m cap9) (.slice (some ⟨g11, 0, none⟩) (st1.groups.length + 1) cap11) hm11 hown11 (by
                rcases hat11 with h | h
                · left; rw [h]; rfl
                · right
                  intro b hb
                  simp [Value.ownBlock] at hb
                  omega) (.inr ⟨b9, cap9, by rw [hgm], by omega, fun q u hu => by
                    have hq : q < g.length := by have := (List.getElem?_eq_some_iff.1 hu).1; simpa [intCells] using this
                    rw [intCells_at g q hq] at hu
                    have := HCELLS.out q hq
                    rw [Nat.zero_add, this]; exact hu, hb9w⟩) (fun b hb => by
                    simp [Value.ownBlock] at hb
                    subst hb
                    refine ⟨by omega, by omega, by omega, by omega, by omega, ?_, fun he => ?_, hb9w⟩
                    · simp [Value.ownBlock]; omega
                    · have := hgvb _ he; omega)
              have x11 : w11.cell? ⟨fb, 6, none⟩ = some gv1 := by rw [hm11.cell (World.block_lt_of_cell? _ _ g6) HF.out.gf]; exact g6
              have z11 : w11.frozen? ⟨fb, 6, none⟩ = false := free_of_heap (hm11.heap HF.out.fin HF.out.gf) 6
              have hperm : g.Perm (v :: T) := HG.out ▸ sortNat_perm _
              have hsrt : g.Pairwise (· < ·) := by
                have hnd := HL.out.inv.snodup
                rw [HT.out] at hnd
                have := sortNat_lt (List.nodup_append.1 hnd).2.1
                rw [HG.out] at this; exact this
              have hoc := HOC.out
              rw [HKE.out, ← hgm, List.take_length] at hoc
              have hVis := HL.out.tells HKL.out HNE.out T HT.out g hperm hsrt o hol hoc
              have HFF := Lib.hid hF12
              have HVV := Lib.hid hVis
              clear hF12 hVis hoc hsrt hperm hown11 hgrow11 hat11 hm11
              go_wp2_with fail
              refine bodyPost_end (results_none rfl _ _ _) rfl ?_
              exact ⟨rfl, st1.tell st.stack o g, ⟨_, _, _, HFF.out⟩, HVV.out⟩
        · have hdec : ((st1.lw v : Int) == (st1.nm v : Int)) = false := by simp; omega
          have hdec2 : ((st1.lw v : Int) != (st1.nm v : Int)) = true := by simp; omega
          have HNE := Lib.hid hne
          clear hne
          have HV := Lib.hid (HL.out.stays HKL.out HNE.out)
          have hb6 : ∀ nq, FAt w0 ob fb nb lb kb on (wr.drewN nq) st1 sv1 gv1 vs1 := fun nq => HF.out.fresh (below_drewN (Below.refl _ _) _)
          go_wp2_with fail
          go_quiet (fail)
          go_wp2_with fail
          refine bodyPost_ret (results_none rfl _ _ _) rfl ?_
          exact ⟨rfl, st1, sv1, gv1, vs1, hb6 nq, HV.out⟩
end Go.Proofs.Ytibnnhdpaccpfaa
