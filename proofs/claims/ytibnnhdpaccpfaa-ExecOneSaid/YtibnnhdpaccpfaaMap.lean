import Derived.Test.YtibnnhdpaccpfaaSl
import Derived.Deep.AppendLies
import Derived.Deep.RegionHeld3
import Derived.Deep.RegionLaw
import Derived.BigRegion
import Derived.Deep.Cut
import Derived.Deep.DeepCutAuto
namespace Go.Proofs.Ytibnnhdpaccpfaa
open Go.RowKit

def dotV (d : Dot) : Value := .agg #[.int .i64 d.1, .int .i64 d.2]

/-- a map's entries, as pairs -/
def Entries (es : Array MapEntry) (L : List (Dot × Value)) : Prop := es.toList.map (fun e => (e.key, e.val)) = L.map (fun p => (dotV p.1, p.2))

def findAt (L : List (Dot × Value)) (d : Dot) (i : Nat) : Option (Nat × Value) :=
  match L with
  | [] => none
  | p :: r => if d == p.1 then some (i, p.2) else findAt r d (i + 1)

theorem run_findAsking (d : Dot) (w : World) : ∀ (es : List MapEntry) (L : List (Dot × Value)) (i : Nat), es.map (fun e => (e.key, e.val)) = L.map (fun p => (dotV p.1, p.2)) →
    (Instr.findAsking 28 (dotV d) es i).run Try.prog w = .ok (findAt L d i) w
  | [], [], i, _ => by simp [Instr.findAsking, findAt]
  | [], _ :: _, i, h => by simp at h
  | _ :: _, [], i, h => by simp at h
  | e :: es, p :: r, i, h => by
    simp only [List.map_cons, List.cons.injEq, Prod.mk.injEq] at h
    obtain ⟨⟨h1, h2⟩, h3⟩ := h
    have he : (Op.equal 28 (dotV d) (dotV p.1)).run Try.prog w = .ok (d == p.1) w := dotEqIn 9998 d p.1 w
    simp only [Instr.findAsking, findAt, h1, h2, Sem.run_bind, he, Result.andThen_ok]
    cases hd : (d == p.1) with
    | true => simp
    | false => simpa using run_findAsking d w es r (i + 1) h3

theorem findNow_struct (fs : Array Field) (d : Dot) (es : List MapEntry) (i : Nat) : Instr.findNow (.struct fs) (dotV d) es i = none ∨ (es = [] ∧ Instr.findNow (.struct fs) (dotV d) es i = some none) := by
  cases es with
  | nil => right; simp [Instr.findNow]
  | cons e es => left; simp [Instr.findNow, Instr.sameNow]

theorem run_findKey (d : Dot) (w : World) (es : Array MapEntry) (L : List (Dot × Value)) (h : Entries es L) :
    (Instr.findKey 28 (dotV d) es.toList).run Try.prog w = .ok (findAt L d 0) w := by
  unfold Instr.findKey
  rw [Sem.run_bind, run_underlying dotDesc]
  simp only [Result.andThen_ok]
  rcases findNow_struct (Try.prog.fieldsOf 28) d es.toList 0 with h1 | ⟨h0, h1⟩
  · rw [h1]; exact run_findAsking d w _ _ 0 h
  · rw [h1]
    have hL : L = [] := by
      have h' := h
      unfold Entries at h'
      rw [h0] at h'
      cases L with
      | nil => rfl
      | cons a b => simp at h'
    subst hL
    simp [findAt]

theorem run_checkKey (b : Bool) (d : Dot) (w : World) : (Instr.checkKey b 10000 28 (dotV d)).run Try.prog w = .ok () w := by kernel_rfl

/-- a map that lies in block r -/
def MapAt (w : World) (r : Nat) (es : Array MapEntry) (clk : Nat) : Prop := w.heap[r]? = some (.map es clk)

def getAt (L : List (Dot × Value)) (d : Dot) : Option Value := (findAt L d 0).map (·.2)
theorem getAt_nil (d : Dot) : getAt [] d = none := rfl
theorem findAt_shift (L : List (Dot × Value)) (d : Dot) (i : Nat) : (findAt L d i).map (·.2) = (findAt L d 0).map (·.2) := by
  induction L generalizing i with
  | nil => rfl
  | cons p r ih =>
    unfold findAt
    split
    · rfl
    · rw [ih (i + 1), ih (0 + 1)]
theorem getAt_cons (p : Dot × Value) (L : List (Dot × Value)) (d : Dot) : getAt (p :: L) d = if d = p.1 then some p.2 else getAt L d := by
  unfold getAt
  rw [findAt]
  by_cases h : d = p.1
  · simp [h]
  · simp only [h, if_false, beq_iff_eq]
    exact findAt_shift L d 1
theorem getAt_append (L M : List (Dot × Value)) (d : Dot) : getAt (L ++ M) d = (getAt L d).or (getAt M d) := by
  induction L with
  | nil => simp [getAt_nil]
  | cons p r ih =>
    rw [List.cons_append, getAt_cons, getAt_cons, ih]
    split <;> simp
theorem getAt_none {L : List (Dot × Value)} {d : Dot} : getAt L d = none ↔ ∀ p ∈ L, p.1 ≠ d := by
  induction L with
  | nil => simp [getAt_nil]
  | cons p r ih =>
    rw [getAt_cons]
    by_cases h : d = p.1
    · simp [h]
    · simp [h, ih]; exact fun _ h' => h h'.symm
theorem findAt_none {L : List (Dot × Value)} {d : Dot} (h : getAt L d = none) : findAt L d 0 = none := by
  simpa [getAt] using h

/-- THE LOOK-UP, without ok -/
theorem run_lookup (T E : TypeId) (hT : Try.prog.underlying T = some (.map 28 E)) (z : Value) (hz : ∀ w, (zeroValue E).run Try.prog w = .ok z w) (r : Nat) (es : Array MapEntry) (clk : Nat) (L : List (Dot × Value)) (hE : Entries es L) (d : Dot)
    (W : World) (hW : W.heap[r]? = some (.map es clk)) :
    (Instr.lookup T (.map (some r)) (.agg #[.int .i64 d.1, .int .i64 d.2]) false).run Try.prog W = .ok ((getAt L d).getD z) W := by
  have h1 := fun b => run_checkKey b d W
  have h2 := run_findKey d W es L hE
  unfold dotV at h1 h2
  simp only [Instr.lookup, Sem.run_bind, run_underlying hT, Result.andThen_ok, getObj, Sem.run, hW, Sem.run_pure]
  rw [h1, Result.andThen_ok, h2, Result.andThen_ok]
  unfold getAt
  cases findAt L d 0 with
  | none => simp [hz]
  | some x => simp
theorem run_lookup_ok (T E : TypeId) (hT : Try.prog.underlying T = some (.map 28 E)) (z : Value) (hz : ∀ w, (zeroValue E).run Try.prog w = .ok z w) (r : Nat) (es : Array MapEntry) (clk : Nat) (L : List (Dot × Value)) (hE : Entries es L) (d : Dot)
    (W : World) (hW : W.heap[r]? = some (.map es clk)) :
    (Instr.lookup T (.map (some r)) (.agg #[.int .i64 d.1, .int .i64 d.2]) true).run Try.prog W = .ok (.tuple #[(getAt L d).getD z, .bool (getAt L d).isSome]) W := by
  have h1 := fun b => run_checkKey b d W
  have h2 := run_findKey d W es L hE
  unfold dotV at h1 h2
  simp only [Instr.lookup, Sem.run_bind, run_underlying hT, Result.andThen_ok, getObj, Sem.run, hW, Sem.run_pure]
  rw [h1, Result.andThen_ok, h2, Result.andThen_ok]
  unfold getAt
  cases findAt L d 0 with
  | none => simp [hz, Result.andThen]
  | some x => simp

def _root_.Go.World.setMap (w : World) (r : Nat) (o : Obj) : World := { w with heap := w.heap.setIfInBounds r o }

/-- A STORE OF A NEW KEY -/
theorem run_update_new (T E : TypeId) (hT : Try.prog.underlying T = some (.map 28 E)) (r : Nat) (es : Array MapEntry) (clk : Nat) (L : List (Dot × Value)) (hE : Entries es L) (d : Dot) (hn : getAt L d = none) (v : Value)
    (W : World) (hW : W.heap[r]? = some (.map es clk)) :
    (Instr.mapUpdate T (.map (some r)) (.agg #[.int .i64 d.1, .int .i64 d.2]) v).run Try.prog W = .ok () (W.setMap r (.map (es.push { key := dotV d, val := v, born := clk }) (clk + 1))) := by
  have h1 := fun b => run_checkKey b d W
  have h2 := run_findKey d W es L hE
  rw [findAt_none hn] at h2
  unfold dotV at h1 h2
  simp only [Instr.mapUpdate, Sem.run_bind, run_underlying hT, Result.andThen_ok, getObj, Sem.run, hW]
  rw [h1, Result.andThen_ok, h2, Result.andThen_ok]
  simp [setObj, Sem.run, hW, World.setMap, dotV]
theorem Entries.push {es : Array MapEntry} {L : List (Dot × Value)} (h : Entries es L) (d : Dot) (v : Value) (k : Nat) : Entries (es.push { key := dotV d, val := v, born := k }) (L ++ [(d, v)]) := by
  unfold Entries at *
  simp [h]
theorem Entries.nil : Entries #[] [] := rfl
theorem Entries.size {es : Array MapEntry} {L : List (Dot × Value)} (h : Entries es L) : es.size = L.length := by
  have := congrArg List.length h
  simpa using this

section
variable (w : World) (r : Nat) (o : Obj)
theorem size_setMap : (w.setMap r o).heap.size = w.heap.size := by simp [World.setMap]
theorem heap_setMap_same (h : r < w.heap.size) : (w.setMap r o).heap[r]? = some o := by simp [World.setMap, h]
theorem heap_setMap_other (k : Nat) (h : k ≠ r) : (w.setMap r o).heap[k]? = w.heap[k]? := by simp [World.setMap, Ne.symm h]
end
theorem lt_of_heap {w : World} {r : Nat} {o : Obj} (h : w.heap[r]? = some o) : r < w.heap.size := by
  rcases Nat.lt_or_ge r w.heap.size with h' | h'
  · exact h'
  · simp [Array.getElem?_eq_none h'] at h
theorem heap_alloc_keeps {w : World} {r : Nat} {x : Obj} (h : w.heap[r]? = some x) (o : Obj) : (w.alloc o).heap[r]? = some x := by
  rw [Below.heap_alloc w o r (lt_of_heap h)]; exact h
theorem heap_setCell_keeps_map {w : World} {r : Nat} {es : Array MapEntry} {c : Nat} (h : w.heap[r]? = some (.map es c)) (a : Addr) (v : Value) : (w.setCell a v).heap[r]? = some (.map es c) := by
  simp only [World.setCell, Array.getElem?_modify]
  split
  · simp [h]
  · exact h
/-- w' is w, with new blocks, and with the blocks of S turned -/
structure Mod (S : Nat → Prop) (w w' : World) : Prop where
  os : w'.os = w.os
  tape : w'.tape = w.tape
  output : w'.output = w.output
  size : w.heap.size ≤ w'.heap.size
  block : ∀ k, k < w.heap.size → ¬ S k → w'.heap[k]? = w.heap[k]?

section
variable {S : Nat → Prop} {a w w' : World}
theorem Mod.refl (S : Nat → Prop) (w : World) : Mod S w w := ⟨rfl, rfl, rfl, Nat.le_refl _, fun _ _ _ => rfl⟩
theorem Mod.trans {b c : World} (h : Mod S a b) (k : Mod S b c) : Mod S a c :=
  ⟨k.os.trans h.os, k.tape.trans h.tape, k.output.trans h.output, Nat.le_trans h.size k.size, fun i hi hs => (k.block i (Nat.lt_of_lt_of_le hi h.size) hs).trans (h.block i hi hs)⟩
/-- what turns behind a: blocks of S, or blocks that a had not -/
theorem Mod.then {b c : World} {T : Nat → Prop} (h : Mod S a b) (k : Mod T b c) (hT : ∀ i, T i → i < a.heap.size → S i) : Mod S a c :=
  ⟨k.os.trans h.os, k.tape.trans h.tape, k.output.trans h.output, Nat.le_trans h.size k.size, fun i hi hs => (k.block i (Nat.lt_of_lt_of_le hi h.size) (fun t => hs (hT i t hi))).trans (h.block i hi hs)⟩
theorem Mod.weaken {T : Nat → Prop} (h : Mod S a w) (hT : ∀ i, S i → T i) : Mod T a w := ⟨h.os, h.tape, h.output, h.size, fun i hi hs => h.block i hi (fun s => hs (hT i s))⟩
theorem Mod.of_below (h : Below a.heap.size a w) : Mod S a w := ⟨h.os, h.tape, h.output, h.size, fun i hi _ => h.block i hi⟩
theorem Mod.below (h : Mod (fun _ => False) a w) : Below a.heap.size a w := ⟨h.os, h.tape, h.output, h.size, fun i hi => h.block i hi (fun x => x)⟩
theorem Mod.drew (h : Mod S a w) : Mod S a w.drew := ⟨h.os, h.tape, h.output, h.size, h.block⟩
theorem Mod.drewN (h : Mod S a w) (n : Nat) : Mod S a (w.drewN n) := ⟨h.os, h.tape, h.output, h.size, h.block⟩
theorem Mod.alloc (h : Mod S a w) (o : Obj) : Mod S a (w.alloc o) :=
  ⟨h.os, h.tape, h.output, by have := h.size; simp; omega, fun i hi hs => by have := h.size; rw [Below.heap_alloc w o i (by omega)]; exact h.block i hi hs⟩
theorem Mod.setCell (h : Mod S a w) (p : Addr) (u : Value) (hp : p.block < a.heap.size → S p.block) : Mod S a (w.setCell p u) :=
  ⟨h.os, h.tape, h.output, by have := h.size; simp; omega, fun i hi hs => by
    rw [Below.heap_setCell w p u i (fun e => hs (e ▸ hp (e ▸ hi)))]; exact h.block i hi hs⟩
theorem Mod.setMap (h : Mod S a w) (r : Nat) (o : Obj) (hp : r < a.heap.size → S r) : Mod S a (w.setMap r o) :=
  ⟨h.os, h.tape, h.output, by have := h.size; rw [size_setMap]; omega, fun i hi hs => by
    rw [heap_setMap_other w r o i (fun e => hs (e ▸ hp (e ▸ hi)))]; exact h.block i hi hs⟩
theorem Mod.grown (h : Mod S a w) {row : Option Nat} (hg : w.grownBy w' row) (hr : ∀ k, row = some k → k < a.heap.size → S k) : Mod S a w' :=
  ⟨hg.os.trans h.os, hg.tape.trans h.tape, hg.output.trans h.output, Nat.le_trans h.size hg.size, fun i hi hs =>
    (hg.block i (Nat.lt_of_lt_of_le hi h.size) (fun e => hs (hr i e.symm hi))).trans (h.block i hi hs)⟩
theorem Mod.cell (h : Mod S a w) {p : Addr} (hp : p.block < a.heap.size) (hs : ¬ S p.block) : w.cell? p = a.cell? p := World.cell?_of_block (w := a) (h.block p.block hp hs)
theorem Mod.heap (h : Mod S a w) {r : Nat} {o : Obj} (ho : a.heap[r]? = some o) (hs : ¬ S r) : w.heap[r]? = some o := by
  rcases Nat.lt_or_ge r a.heap.size with h' | h'
  · rw [h.block r h' hs]; exact ho
  · simp [Array.getElem?_eq_none h'] at ho
end

theorem cell_of_heap {w : World} {b : Nat} {c : Array Value} {t : TypeId} {f : Nat × Nat} (h : w.heap[b]? = some (.cells c t f)) (o : Nat) : w.cell? ⟨b, o, none⟩ = c[o]? := by simp [World.cell?, h]
theorem free_of_heap {w : World} {b : Nat} {c : Array Value} {t : TypeId} (h : w.heap[b]? = some (.cells c t (0, 0))) (o : Nat) : w.frozen? ⟨b, o, none⟩ = false := by simp [World.frozen?, h]
theorem heap_setCell_same {w : World} {b : Nat} {c : Array Value} {t : TypeId} {f : Nat × Nat} (h : w.heap[b]? = some (.cells c t f)) (o : Nat) (v : Value) : (w.setCell ⟨b, o, none⟩ v).heap[b]? = some (.cells (c.setIfInBounds o v) t f) := by
  simp [World.setCell, Array.getElem?_modify, h]
theorem heap_drew_keeps {w : World} {r : Nat} {x : Obj} (h : w.heap[r]? = some x) : w.drew.heap[r]? = some x := h
end Go.Proofs.Ytibnnhdpaccpfaa
