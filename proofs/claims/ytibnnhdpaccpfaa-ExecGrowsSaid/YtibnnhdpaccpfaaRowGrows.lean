/-
  What Commit and Have do, grows: whatever acts come in, the law returns true, and what was there reads as it did. No condition.
-/
import Derived.Test.YtibnnhdpaccpfaaGrow3
import Derived.Test.YtibnnhdpaccpfaaRowPost
namespace Go.Proofs.Ytibnnhdpaccpfaa
open Go.RowKit Go.WideShapes Go.ChangeShapes

section
variable {H : Type} {enc : TypeId × Value → H} {w : World} {base : Nat} {spare : Nat → Bool} {held : Bool}
theorem actDesc : Try.prog.underlying 47 = some (.struct (Try.prog.fieldsOf 47)) := by kernel_rfl
theorem cellsAct : Try.prog.cellsOf 47 = 19 := by kernel_rfl
theorem cellsBytes : Try.prog.cellsOf 35 = 1 := by kernel_rfl
theorem open_act {fuel : Nat} {cs : List Value} {x : DataW H × List MemPlace} (hsp : ∀ k, spare k = true) (h : DataW.trod enc Try.prog w base spare held fuel 47 cs = some x) : ∃ a : ActD, cs = a.cells ∧ BodyAt w a.b a.bs := by
  obtain ⟨hl, n0, y0, h0⟩ := open_field actDesc h (j := 0) (t := 3) (o := 0) (by kernel_rfl)
  obtain ⟨_, n1, y1, h1⟩ := open_field actDesc h (j := 1) (t := 31) (o := 1) (by kernel_rfl)
  obtain ⟨_, n2, y2, h2⟩ := open_field actDesc h (j := 2) (t := 32) (o := 11) (by kernel_rfl)
  obtain ⟨_, n3, y3, h3⟩ := open_field actDesc h (j := 3) (t := 35) (o := 18) (by kernel_rfl)
  rw [cellsAct] at hl
  rw [cellsInt] at h0
  rw [cellsInst] at h1
  rw [cellsVec] at h2
  rw [cellsBytes] at h3
  obtain ⟨i, e1⟩ := open_inst h1
  obtain ⟨v, e2⟩ := open_vec h2
  have h18 : (cs.drop 18).take 1 = [cs[18]'(by omega)] := by
    rw [List.drop_eq_getElem_cons (by omega)]
    rfl
  have h00 : (cs.drop 0).take 1 = [cs[0]'(by omega)] := by
    rw [List.drop_eq_getElem_cons (by omega)]
    rfl
  rw [h18] at h3
  rw [h00] at h0
  obtain ⟨op, e0⟩ := int_cell intDesc h0
  obtain ⟨bs, hb⟩ := open_body hsp h3
  refine ⟨⟨op, i, v, _, bs⟩, ?_, hb⟩
  have key : cs = (cs.drop 0).take 1 ++ ((cs.drop 1).take 10 ++ ((cs.drop 11).take 7 ++ (cs.drop 18).take 1)) := by
    have a1 : cs = cs.take 1 ++ cs.drop 1 := (List.take_append_drop 1 cs).symm
    have a2 : cs.drop 1 = (cs.drop 1).take 10 ++ cs.drop 11 := by
      conv => lhs; rw [← List.take_append_drop 10 (cs.drop 1), List.drop_drop]
    have a3 : cs.drop 11 = (cs.drop 11).take 7 ++ cs.drop 18 := by
      conv => lhs; rw [← List.take_append_drop 7 (cs.drop 11), List.drop_drop]
    have a4 : cs.drop 18 = (cs.drop 18).take 1 := by
      rw [List.take_of_length_le]
      rw [List.length_drop]
      omega
    rw [← a4, ← a3, ← a2]
    exact a1
  rw [h00, h18, e1, e2, e0] at key
  exact key
theorem actsIn_of {fuel : Nat} {v : Value} {x : DataW H × List MemPlace} (hsp : ∀ k, spare k = true) (h : DataW.trod enc Try.prog w base spare held fuel 45 [v] = some x) : ∃ l, ActsIn w v l := by
  obtain ⟨p, len, cap, rfl, hlc, hmx, hrun⟩ := open_run Try.underlying45 cellsAct (by omega) hsp h
  by_cases h0 : 0 < len
  · obtain ⟨b, o, rfl, hbl, hall⟩ := hrun h0
    obtain ⟨l, hl, hp⟩ := choose_list (p := fun k (a : ActD) => w.rangeAt b (o + k * 19) a.cells ∧ BodyAt w a.b a.bs ∧ b < w.heap.size) fun k hk => by
      obtain ⟨cs, n, y, _, hr, ht⟩ := hall k hk
      obtain ⟨a, rfl, hb⟩ := open_act hsp ht
      exact ⟨a, hr, hb, hbl⟩
    exact ⟨l, _, cap, by rw [hl], by omega, hmx, fun _ => ⟨b, o, rfl, hp⟩⟩
  · obtain rfl : len = 0 := by omega
    exact ⟨[], p, cap, rfl, by simp, hmx, fun h => absurd h (by simp)⟩
end
end Go.Proofs.Ytibnnhdpaccpfaa
namespace Go.Proofs.Ytibnnhdpaccpfaa.execGrows
open Go.ChangeShapes Go.WideShapes Go.ChangeAt Go.RowKit

set_option maxRecDepth 100000 in
theorem lifted (os : Os) (started : os.Started) (H : Type) (enc : TypeId × Value → H) :
    ReturnsInHanded {} Try.checked os 5 .any (Rows.execGrowsSpec.pre6 enc Try.prog Try.f5 Rows.execGrowsRow.domain false) (Rows.execGrowsSpec.post enc Try.prog Try.f5 false true false false) := by
  refine returnsInHanded_of_change (C := Try.checked) ownKnob0 started (by kernel_rfl) Try.func5
    (ChangeSpec.witness6 (enc := enc) (C := Try.checked) false ⟨#[], #[.slice none 0 0], []⟩ 8 (by kernel_rfl) (by kernel_rfl) (by kernel_rfl) (by kernel_rfl)) ?_
  intro W base args ds gs before hval0 hW hcnd _
  have hval : ∀ (j : Nat) t v, Try.f5.params[j]? = some t → args[j]? = some v → Value.okWide Try.prog W .any base t v := hval0
  have hW' := hW
  obtain ⟨p, q, hA0, hV, rfl, hfz, hnd⟩ := hW
  have hA : DataW.TrodAll enc Try.prog W 0 (fun _ => true) true Try.f5.params.toList args.toList ds p := hA0
  rw [Try.params5] at hA hval
  obtain ⟨v0, d0, rfl, rfl, h0⟩ := trodAll_one hA
  obtain ⟨rfl, rfl⟩ := trodVars_none hV
  clear hA0 hval0
  simp only [List.append_nil] at hW'
  have hlt : ∀ x ∈ p, x.block < W.heap.size := fun x hx => hW'.lt x hx
  obtain ⟨fuel, h0'⟩ := h0
  obtain ⟨pp, nn, cc, rfl⟩ := okWide_slice Try.underlying45 (hval 0 _ _ rfl rfl)
  obtain ⟨l, hl⟩ := actsIn_of (fun _ => rfl) (show DataW.trod enc Try.prog W 0 (fun _ => true) true fuel 45 [.slice pp nn cc] = some (d0, p) from h0')
  refine (grows_any _ l W hl).mono fun e W' ⟨he, hg⟩ => ?_
  subst he
  exact ⟨_, rfl, row_post (pa := p) (pv := []) hW' hg (List.append_nil _).symm (fun _ _ _ => (trodAll_cons_mk (shut_bool Try.underlying4 _) trodAll_mk0))
    (fun sp hsp => trodAll_mk1 (below_trod laid (by kernel_rfl) (of_decide_eq_true (by kernel_rfl)) ⟨fuel, h0'⟩ hg hlt hsp)) (fun _ _ => rfl)
    (ok_one (by kernel_rfl) rfl (okWide_bool_mk Try.underlying4 _))⟩

theorem over : Rows.execGrowsRow.holds Try.pinned (OpenSpec.ofChange Rows.execGrowsSpec) :=
  OpenClaim.holds_of_wide 5 Try.f5 rfl rfl rfl rfl rfl rfl rfl ⟨rfl, rfl, rfl, rfl, rfl⟩ rfl rfl rfl rfl rfl (by kernel_rfl) Try.func5 (by kernel_rfl)
    (of_decide_eq_true (by kernel_rfl)) (by unfold Func.isWrapper; first | (rw [if_pos (by decide +kernel)]; kernel_rfl) | (rw [if_neg (by decide +kernel)]; exact ⟨rfl, rfl⟩))
    (fun os started H enc _ => lifted os started H enc)
end Go.Proofs.Ytibnnhdpaccpfaa.execGrows
namespace Go.Proofs.Ytibnnhdpaccpfaa
theorem execGrows_holds : Rows.ExecGrowsSaid := execGrows.over
#print axioms execGrows_holds
end Go.Proofs.Ytibnnhdpaccpfaa
