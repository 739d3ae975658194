/-
  PLAIN WORDS of the exec seat: clocks of seven numbers, dots, instances, as Lean data and as cells.
-/
import Derived.Test.YtibnnhdpaccpfaaRows
import Derived.WalkKit
import Derived.WalkSpells
import Derived.WalkLawsBesides
import Derived.Deep.QuietTactic
import Derived.BigQuiet
import Derived.Lib.Hide
namespace Go.Proofs.Ytibnnhdpaccpfaa
open Go.RowKit

structure V7 where
  a0 : Int
  a1 : Int
  a2 : Int
  a3 : Int
  a4 : Int
  a5 : Int
  a6 : Int

def V7.l (v : V7) : List Int := [v.a0, v.a1, v.a2, v.a3, v.a4, v.a5, v.a6]
def V7.get (v : V7) (k : Nat) : Int := v.l.getD k 0
def V7.val (v : V7) : Value := .agg #[.int .i64 v.a0, .int .i64 v.a1, .int .i64 v.a2, .int .i64 v.a3, .int .i64 v.a4, .int .i64 v.a5, .int .i64 v.a6]
def V7.zero : V7 := ⟨0, 0, 0, 0, 0, 0, 0⟩

theorem V7.cellAt (v : V7) (k : Nat) (h : k < 7) : #[.int .i64 v.a0, .int .i64 v.a1, .int .i64 v.a2, .int .i64 v.a3, .int .i64 v.a4, .int .i64 v.a5, .int .i64 v.a6][k]? = some (Value.int .i64 (v.get k)) := by
  match k, h with
  | 0, _ => rfl
  | 1, _ => rfl
  | 2, _ => rfl
  | 3, _ => rfl
  | 4, _ => rfl
  | 5, _ => rfl
  | 6, _ => rfl

/-- every number is one of Go's int64 -/
def I64 (n : Int) : Prop := -9223372036854775808 ≤ n ∧ n ≤ 9223372036854775807

def V7.leTo (k : Nat) (a b : V7) : Bool := (List.range k).all fun i => decide (a.get i ≤ b.get i)
def V7.le (a b : V7) : Bool := V7.leTo 7 a b
theorem V7.leTo_succ (k : Nat) (a b : V7) : V7.leTo (k + 1) a b = (V7.leTo k a b && decide (a.get k ≤ b.get k)) := by
  simp [V7.leTo, List.range_succ]
theorem V7.leTo_false {k : Nat} {a b : V7} (hk : k < 7) (h : b.get k < a.get k) : V7.le a b = false := by
  unfold V7.le V7.leTo
  rw [List.all_eq_false]
  exact ⟨k, by simpa using hk, by simpa using h⟩

/-- vec.Good: each number from 0 to 2^40 -/
def V7.goodTo (k : Nat) (a : V7) : Bool := (List.range k).all fun i => decide (0 ≤ a.get i ∧ a.get i ≤ 1099511627776)
def V7.good (a : V7) : Bool := V7.goodTo 7 a
theorem V7.goodTo_succ (k : Nat) (a : V7) : V7.goodTo (k + 1) a = (V7.goodTo k a && decide (0 ≤ a.get k ∧ a.get k ≤ 1099511627776)) := by
  simp [V7.goodTo, List.range_succ]
theorem V7.goodTo_false {k : Nat} {a : V7} (hk : k < 7) (h : a.get k < 0 ∨ 1099511627776 < a.get k) : V7.good a = false := by
  unfold V7.good V7.goodTo
  rw [List.all_eq_false]
  exact ⟨k, by simpa using hk, by simp; omega⟩

def V7.merge (a b : V7) : V7 := ⟨max a.a0 b.a0, max a.a1 b.a1, max a.a2 b.a2, max a.a3 b.a3, max a.a4 b.a4, max a.a5 b.a5, max a.a6 b.a6⟩

structure Inst where
  rep : Int
  n : Int
  seq : Int
  deps : V7
def Inst.val (i : Inst) : Value := .agg #[.int .i64 i.rep, .int .i64 i.n, .int .i64 i.seq, .int .i64 i.deps.a0, .int .i64 i.deps.a1, .int .i64 i.deps.a2, .int .i64 i.deps.a3, .int .i64 i.deps.a4, .int .i64 i.deps.a5, .int .i64 i.deps.a6]

/-- dots -/
abbrev Dot := Int × Int
def dotOk (d : Dot) : Bool := decide (0 ≤ d.1 ∧ d.1 < 7 ∧ 1 ≤ d.2 ∧ d.2 ≤ 1000)

theorem bool_ret {b c : Bool} (h : b = c) : Ending.returned (.bool b) = .returned (.bool c) := by rw [h]
theorem below_drewN {B : Nat} {w w' : World} (h : Below B w w') (n : Nat) : Below B w (w'.drewN n) := ⟨h.os, h.tape, h.output, h.size, h.block⟩
end Go.Proofs.Ytibnnhdpaccpfaa
