/-
  AN EXEC, AS PLAIN DATA AND IN MEMORY.
-/
import Derived.Test.YtibnnhdpaccpfaaMem
namespace Go.Proofs.Ytibnnhdpaccpfaa
open Go.RowKit

def V7.cells (v : V7) : List Value := [.int .i64 v.a0, .int .i64 v.a1, .int .i64 v.a2, .int .i64 v.a3, .int .i64 v.a4, .int .i64 v.a5, .int .i64 v.a6]
/-- a command that was committed: the instance, what it waits for, the body's slice and its cells -/
structure Com where
  i : Inst
  v : V7
  b : Value
  bs : List UInt8
def bCells (l : List UInt8) : List Value := l.map fun b => .int .u8 (b.toNat : Int)
theorem bCells_one (l : List UInt8) : ∀ v ∈ bCells l, v.oneCell' = true := by
  intro v hv
  obtain ⟨b, _, rfl⟩ := List.mem_map.1 hv
  rfl
theorem bCells_len (l : List UInt8) : (bCells l).length = l.length := by simp [bCells]
structure XS where
  has : V7
  coms : List Com
  done : List Dot
def XS.new : XS := ⟨V7.zero, [], []⟩
def Com.cells (c : Com) : Array Value := (instCells c.i ++ c.v.cells ++ [c.b]).toArray
def Com.val (c : Com) : Value := .agg c.cells
def XS.insts (x : XS) : List Inst := x.coms.map Com.i
def comVals (l : List Com) : List (Dot × Value) := l.map fun c => (c.i.dot, c.val)
def ranVals (l : List Dot) : List (Dot × Value) := l.map fun d => (d, .bool true)
def XS.find (x : XS) (d : Dot) : Option Com := x.coms.find? fun c => c.i.dot == d
structure XS.Ok (x : XS) : Prop where
  good : goodL x.insts = true
  sub : ∀ d ∈ x.done, ∃ c ∈ x.coms, c.i.dot = d
  nodup : x.done.Nodup
  blen : ∀ c ∈ x.coms, c.bs.length ≤ 65536

/-- the exec in block xb; F: blocks of its own -/
structure XRaw (base : Nat) (w : World) (xb : Nat) (F : Nat → Prop) (x : XS) (ma mr : Nat) (lv dv : Value) (es : Array MapEntry) (clk : Nat) (es2 : Array MapEntry) (clk2 : Nat) : Prop where
  blk : w.heap[xb]? = some (.cells #[.int .i64 x.has.a0, .int .i64 x.has.a1, .int .i64 x.has.a2, .int .i64 x.has.a3, .int .i64 x.has.a4, .int .i64 x.has.a5, .int .i64 x.has.a6, .map (some ma), lv, .map (some mr), dv] 55 (0, 0))
  all : w.heap[ma]? = some (.map es clk)
  alls : Entries es (comVals x.coms)
  ran : w.heap[mr]? = some (.map es2 clk2)
  rans : Entries es2 (ranVals x.done)
  ne : ma ≠ mr
  l : w.ownsRow 0 31 10 lv x.coms.length (instsCells x.insts)
  dn : w.ownsRow 0 28 2 dv x.done.length (dotCells x.done)
  bod : ∀ c ∈ x.coms, Sl0 w c.b c.bs.length (bCells c.bs) ∧ ∀ k, c.b.ownBlock = some k → F k ∧ ∃ cs, w.heap[k]? = some (.cells cs 5 (0, 0))
  fx : F xb
  fa : F ma
  fr : F mr
  fl : ∀ k, lv.ownBlock = some k → F k
  fd : ∀ k, dv.ownBlock = some k → F k
  low : ∀ k, F k → base ≤ k ∧ k < w.heap.size
def XAt (base : Nat) (w : World) (xb : Nat) (F : Nat → Prop) (x : XS) : Prop := ∃ ma mr lv dv es clk es2 clk2, XRaw base w xb F x ma mr lv dv es clk es2 clk2

theorem ownsRow_mod {S : Nat → Prop} {w w' : World} {base : Nat} {e : TypeId} {size n : Nat} {v : Value} {xs : List Value} (h : w.ownsRow base e size v n xs) (hm : Mod S w w') (hS : ∀ k, v.ownBlock = some k → ¬ S k) : w'.ownsRow base e size v n xs :=
  ownsRow_mono h fun k hk => hm.block k (h.lt k hk).2 (hS k hk)
/-- whatever else turns -/
theorem XRaw.frame {S : Nat → Prop} {base : Nat} {w w' : World} {xb : Nat} {F : Nat → Prop} {x : XS} {ma mr : Nat} {lv dv : Value} {es : Array MapEntry} {clk : Nat} {es2 : Array MapEntry} {clk2 : Nat}
    (h : XRaw base w xb F x ma mr lv dv es clk es2 clk2) (hm : Mod S w w') (hS : ∀ k, F k → ¬ S k) : XRaw base w' xb F x ma mr lv dv es clk es2 clk2 :=
  ⟨hm.heap h.blk (hS _ h.fx), hm.heap h.all (hS _ h.fa), h.alls, hm.heap h.ran (hS _ h.fr), h.rans, h.ne, ownsRow_mod h.l hm (fun k hk => hS k (h.fl k hk)), ownsRow_mod h.dn hm (fun k hk => hS k (h.fd k hk)),
   fun c hc => ⟨(h.bod c hc).1.mod hm (fun k hk => hS k ((h.bod c hc).2 k hk).1), fun k hk => ⟨((h.bod c hc).2 k hk).1, by obtain ⟨hF, cs, hcs⟩ := (h.bod c hc).2 k hk; exact ⟨cs, hm.heap hcs (hS k hF)⟩⟩⟩,
   h.fx, h.fa, h.fr, h.fl, h.fd, fun k hk => ⟨(h.low k hk).1, Nat.lt_of_lt_of_le (h.low k hk).2 hm.size⟩⟩
theorem XAt.frame {S : Nat → Prop} {base : Nat} {w w' : World} {xb : Nat} {F : Nat → Prop} {x : XS} (h : XAt base w xb F x) (hm : Mod S w w') (hS : ∀ k, F k → ¬ S k) : XAt base w' xb F x := by
  obtain ⟨ma, mr, lv, dv, es, clk, es2, clk2, h⟩ := h
  exact ⟨ma, mr, lv, dv, es, clk, es2, clk2, h.frame hm hS⟩
theorem XAt.below {base : Nat} {w w' : World} {xb : Nat} {F : Nat → Prop} {x : XS} (h : XAt base w xb F x) (hb : Below w.heap.size w w') : XAt base w' xb F x :=
  h.frame (S := fun _ => False) (Mod.of_below hb) (fun _ _ h => h)
theorem XAt.low {base : Nat} {w : World} {xb : Nat} {F : Nat → Prop} {x : XS} (h : XAt base w xb F x) : ∀ k, F k → base ≤ k ∧ k < w.heap.size := by
  obtain ⟨ma, mr, lv, dv, es, clk, es2, clk2, h⟩ := h
  exact h.low

def isSl : Value → Bool
  | .slice _ _ _ => true
  | _ => false
theorem comVals_cmd (l : List Com) (hl : ∀ c ∈ l, isSl c.b = true) : CmdVals (comVals l) := by
  intro p hp
  obtain ⟨c, hc, rfl⟩ := List.mem_map.1 hp
  have h := hl c hc
  obtain ⟨i, v, b, bs⟩ := c
  simp only at h
  cases b with
  | slice a n k => exact ⟨_, rfl, rfl, by simp [Com.cells, instCells, V7.cells, Value.oneCell']⟩
  | _ => cases h
theorem Sl0.isSl {w : World} {v : Value} {n : Nat} {cs : List Value} (h : Sl0 w v n cs) : isSl v = true := by
  rcases h with ⟨rfl, _⟩ | ⟨b, cap, rfl, _⟩ <;> rfl
theorem ranVals_bool (l : List Dot) : BoolVals (ranVals l) := by
  intro p hp
  obtain ⟨d, _, rfl⟩ := List.mem_map.1 hp
  rfl
theorem getAt_ran (l : List Dot) (d : Dot) : (getAt (ranVals l) d).isSome = decide (d ∈ l) := by
  induction l with
  | nil => rfl
  | cons a l ih =>
    unfold ranVals at ih ⊢
    rw [List.map_cons, getAt_cons]
    by_cases h : d = a
    · simp [h]
    · simp [h, ih]
theorem getAt_com (l : List Com) (d : Dot) : getAt (comVals l) d = (l.find? fun c => c.i.dot == d).map Com.val := by
  induction l with
  | nil => rfl
  | cons a l ih =>
    unfold comVals at ih ⊢
    rw [List.map_cons, getAt_cons, ih, List.find?_cons]
    by_cases h : d = a.i.dot
    · subst h; simp
    · have : (a.i.dot == d) = false := by simp; exact fun h' => h h'.symm
      simp [h, this]
end Go.Proofs.Ytibnnhdpaccpfaa
