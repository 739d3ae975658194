import Derived.Test.YtibnnhdpaccpfaaCmp
namespace Go.Proofs.Ytibnnhdpaccpfaa
open Go.RowKit

/-- these cells lie there, one behind the other -/
def CellsAt (w : World) (b off : Nat) (cs : List Value) : Prop := ∀ j u, cs[j]? = some u → w.cell? ⟨b, off + j, none⟩ = some u
/-- a slice value of n elements whose cells are cs -/
def SlAt (w : World) (v : Value) (n : Nat) (cs : List Value) : Prop :=
  (v = .slice none 0 0 ∧ n = 0 ∧ cs = []) ∨ ∃ b off cap, v = .slice (some ⟨b, off, none⟩) n cap ∧ n ≤ cap ∧ CellsAt w b off cs ∧ (0 < cs.length → b < w.heap.size)

def dotCells (ds : List Dot) : List Value := ds.flatMap fun d => [.int .i64 d.1, .int .i64 d.2]
theorem dotCells_len (ds : List Dot) : (dotCells ds).length = ds.length * 2 := by
  induction ds with
  | nil => rfl
  | cons d r ih => simp [dotCells] at ih ⊢; omega
theorem dotCells_at (ds : List Dot) (k : Nat) (h : k < ds.length) : (dotCells ds)[k * 2]? = some (.int .i64 (ds[k].1)) ∧ (dotCells ds)[k * 2 + 1]? = some (.int .i64 (ds[k].2)) := by
  induction ds generalizing k with
  | nil => simp at h
  | cons d r ih =>
    cases k with
    | zero => simp [dotCells]
    | succ k =>
      have := ih k (by simpa using h)
      simp only [dotCells, List.flatMap_cons, List.getElem_cons_succ] at this ⊢
      rw [show (k + 1) * 2 = (k * 2) + 2 from by omega, show k * 2 + 2 + 1 = (k * 2 + 1) + 2 from by omega]
      simpa [List.getElem?_append_right] using this

theorem dotGuardT : Try.prog.eqGuardType Try.prog.depth 28 = false := by kernel_rfl
theorem dotStood : Try.prog.stoodInHeld 28 = false := by kernel_rfl
theorem dotFields : Try.prog.fieldsOf 28 = #[⟨"Rep", 3, 0, false, "", "", 0⟩, ⟨"N", 2, 1, false, "", "", 8⟩] := by kernel_rfl
theorem dotDesc : Try.prog.underlying 28 = some (.struct (Try.prog.fieldsOf 28)) := by kernel_rfl
theorem intDesc : Try.prog.underlying 3 = some (.int .i64) := by kernel_rfl
theorem int64Desc : Try.prog.underlying 2 = some (.int .i64) := by kernel_rfl
theorem dotEqIn (d : Nat) (a b : Dot) (w : World) : (Op.equalIn (d + 2) 28 (.agg #[.int .i64 a.1, .int .i64 a.2]) (.agg #[.int .i64 b.1, .int .i64 b.2])).run Try.prog w = .ok (a == b) w := by
  rw [run_equalIn_agg w (d + 1) _ _ _ dotDesc dotStood, dotFields]
  have e1 := fun w => run_equalIn_int (P := Try.prog) w d 3 .i64 .i64 a.1 b.1 intDesc
  have e2 := fun w => run_equalIn_int (P := Try.prog) w d 2 .i64 .i64 a.2 b.2 int64Desc
  simp [Op.eqFields, part, e1, e2, Result.andThen]
  obtain ⟨a1, a2⟩ := a
  obtain ⟨b1, b2⟩ := b
  by_cases h1 : a1 = b1 <;> by_cases h2 : a2 = b2 <;> simp [h1, h2]
theorem dotNeq (a b : Dot) (w : World) : (binOp .neq 28 (.agg #[.int .i64 a.1, .int .i64 a.2]) (.agg #[.int .i64 b.1, .int .i64 b.2])).run Try.prog w = .ok (.bool (a != b)) w := by
  rw [run_neq_struct, dotEqIn]; rfl
theorem dotEql (a b : Dot) (w : World) : (binOp .eql 28 (.agg #[.int .i64 a.1, .int .i64 a.2]) (.agg #[.int .i64 b.1, .int .i64 b.2])).run Try.prog w = .ok (.bool (a == b)) w := by
  rw [run_eql_struct, dotEqIn]; rfl
theorem dotGuard (op : BinOp) (x y : Operand) (xs ys : Array Value) (w : World) : (eqGuard op 28 x y (.agg xs) (.agg ys)).run Try.prog w = .ok () w := run_eqGuard_agg w op 28 x y xs ys dotGuardT

set_option maxHeartbeats 400000 in
theorem sameDots_some (ab ao ac bb bo bc : Nat) (a b : List Dot) (w : World) (hl : a.length = b.length) (hlen : a.length ≤ 1000000)
    (ha : CellsAt w ab ao (dotCells a)) (hb : CellsAt w bb bo (dotCells b)) :
    Calls Try.prog 22 #[.slice (some ⟨ab, ao, none⟩) a.length ac, .slice (some ⟨bb, bo, none⟩) a.length bc] w fun e w' => e = .returned (.bool (a == b)) ∧ ∃ n, w' = w.drewN n := by
  have HL := Lib.hid hl
  have HA := Lib.hid ha
  have HB := Lib.hid hb
  clear hl ha hb
  go_enter Try.func22, Try.ntmps22
  go_wp2
  go_loopw [5] (fun i wr => ∃ k n : Nat, k ≤ a.length ∧ i = .int .i64 k ∧ a.take k = b.take k ∧ wr = w.drewN n) (fun i _ => a.length - (intOf i).toNat)
  case atStart => exact ⟨0, 0, by omega, rfl, rfl, rfl⟩
  case round =>
    obtain ⟨k, n, hk, rfl, hle, rfl⟩ := hrel
    have Hle := Lib.hid hle
    clear hle
    by_cases hlt : k < a.length
    · have hltb : k < b.length := by have := HL.out; omega
      obtain ⟨a1, a2⟩ := dotCells_at a k hlt
      obtain ⟨b1, b2⟩ := dotCells_at b k hltb
      have ca1 := HA.out _ _ a1
      have ca2 := HA.out _ _ a2
      have cb1 := HB.out _ _ b1
      have cb2 := HB.out _ _ b2
      rw [← Nat.add_assoc] at ca2 cb2
      have hdn := dotNeq a[k] b[k]
      have hdg := dotGuard
      clear a1 a2 b1 b2
      go_wp2
      go_quiet (fail)
      go_wp2
      · go_ret
        refine ⟨bool_ret ?_, n + nq, World.drewN_drewN _ _ _⟩
        have hne : (a[k] != b[k]) = true := by assumption
        rw [bne_iff_ne] at hne
        symm
        rw [beq_eq_false_iff_ne]
        intro h
        subst h
        exact hne rfl
      · go_roundw
        case rel => exact ⟨k + 1, n + nq, by omega, by go_num, by rw [List.take_succ_eq_append_getElem hlt, List.take_succ_eq_append_getElem hltb, Hle.out]; congr 2; simpa using (show (a[k] != b[k]) = false by assumption), rfl⟩
        case measure => simp [intOf]; omega
    · obtain rfl : k = a.length := by omega
      go_wp2
      go_ret
      refine ⟨bool_ret ?_, n, rfl⟩
      have h1 := Hle.out
      have h2 := HL.out
      rw [List.take_length, h2, List.take_length] at h1
      simpa using h1
end Go.Proofs.Ytibnnhdpaccpfaa
