/-
  One order for all: whatever comes in, the law returns true, and what was there reads as it did. No condition.
-/
import Derived.Test.YtibnnhdpaccpfaaOne
import Derived.Test.YtibnnhdpaccpfaaRowPost
namespace Go.Proofs.Ytibnnhdpaccpfaa
open Go.RowKit Go.WideShapes Go.ChangeShapes

section
variable {H : Type} {enc : TypeId × Value → H} {w : World} {base : Nat} {spare : Nat → Bool} {held : Bool}
theorem instsIn_of {fuel : Nat} {v : Value} {x : DataW H × List MemPlace} (hsp : ∀ k, spare k = true) (h : DataW.trod enc Try.prog w base spare held fuel 41 [v] = some x) : ∃ l, InstsIn w v l := by
  obtain ⟨p, len, cap, rfl, hlc, hmx, hrun⟩ := open_run Try.underlying41 cellsInst (by omega) hsp h
  by_cases h0 : 0 < len
  · obtain ⟨b, o, rfl, hbl, hall⟩ := hrun h0
    obtain ⟨l, hl, hp⟩ := choose_list (p := fun k (i : Inst) => w.rangeAt b (o + k * 10) (instCells i)) fun k hk => by
      obtain ⟨cs, n, y, _, hr, ht⟩ := hall k hk
      obtain ⟨i, rfl⟩ := open_inst ht
      exact ⟨i, hr⟩
    exact ⟨l, _, cap, by rw [hl], by omega, hmx, fun _ => ⟨b, o, rfl, hbl, hp⟩⟩
  · obtain rfl : len = 0 := by omega
    exact ⟨[], p, cap, rfl, by simp, hmx, fun h => absurd h (by simp)⟩
theorem vecsIn_of {fuel : Nat} {v : Value} {x : DataW H × List MemPlace} (hsp : ∀ k, spare k = true) (h : DataW.trod enc Try.prog w base spare held fuel 42 [v] = some x) : ∃ l, VecsIn w v l := by
  obtain ⟨p, len, cap, rfl, hlc, hmx, hrun⟩ := open_run Try.underlying42 cellsVec (by omega) hsp h
  by_cases h0 : 0 < len
  · obtain ⟨b, o, rfl, hbl, hall⟩ := hrun h0
    obtain ⟨l, hl, hp⟩ := choose_list (p := fun k (x : V7) => w.rangeAt b (o + k * 7) x.cells) fun k hk => by
      obtain ⟨cs, n, y, _, hr, ht⟩ := hall k hk
      obtain ⟨i, rfl⟩ := open_vec ht
      exact ⟨i, hr⟩
    exact ⟨l, _, cap, by rw [hl], by omega, hmx, fun _ => ⟨b, o, rfl, hbl, hp⟩⟩
  · obtain rfl : len = 0 := by omega
    exact ⟨[], p, cap, rfl, by simp, hmx, fun h => absurd h (by simp)⟩
end
end Go.Proofs.Ytibnnhdpaccpfaa
namespace Go.Proofs.Ytibnnhdpaccpfaa.execOne
open Go.ChangeShapes Go.WideShapes Go.ChangeAt Go.RowKit

set_option maxRecDepth 100000 in
theorem lifted (os : Os) (started : os.Started) (H : Type) (enc : TypeId × Value → H) :
    ReturnsInHanded {} Try.checked os 4 .any (Rows.execOneSpec.pre6 enc Try.prog Try.f4 Rows.execOneRow.domain false) (Rows.execOneSpec.post enc Try.prog Try.f4 false true false false) := by
  refine returnsInHanded_of_change (C := Try.checked) ownKnob0 started (by kernel_rfl) Try.func4
    (ChangeSpec.witness6 (enc := enc) (C := Try.checked) false ⟨#[], #[.slice none 0 0, .slice none 0 0, .int .i64 0, .slice none 0 0], []⟩ 8 (by kernel_rfl) (by kernel_rfl) (by kernel_rfl) (by kernel_rfl)) ?_
  intro W base args ds gs before hval0 hW hcnd _
  have hval : ∀ (j : Nat) t v, Try.f4.params[j]? = some t → args[j]? = some v → Value.okWide Try.prog W .any base t v := hval0
  have hW' := hW
  obtain ⟨p, q, hA0, hV, rfl, hfz, hnd⟩ := hW
  have hA : DataW.TrodAll enc Try.prog W 0 (fun _ => true) true Try.f4.params.toList args.toList ds p := hA0
  rw [Try.params4] at hA hval
  obtain ⟨v0, v1, v2, v3, d0, d1, d2, d3, p0, p1, p2, p3, rfl, rfl, rfl, h0, h1, h2, h3⟩ := trodAll_four hA
  obtain ⟨rfl, rfl⟩ := trodVars_none hV
  clear hA0 hval0
  simp only [List.append_nil] at hW'
  have hlt : ∀ x ∈ p0 ++ p1 ++ p2 ++ p3, x.block < W.heap.size := fun x hx => hW'.lt x hx
  obtain ⟨pp, nn, cc, rfl⟩ := okWide_slice Try.underlying41 (hval 0 _ _ rfl rfl)
  obtain ⟨pp', nn', cc', rfl⟩ := okWide_slice Try.underlying42 (hval 1 _ _ rfl rfl)
  obtain ⟨t, rfl⟩ := okWide_int intDesc (hval 2 _ _ rfl rfl)
  obtain ⟨pp3, nn3, cc3, rfl⟩ := okWide_slice Try.underlying42 (hval 3 _ _ rfl rfl)
  have h0k := h0
  have h1k := h1
  have h2k := h2
  have h3k := h3
  obtain ⟨fuel, h0⟩ := h0
  obtain ⟨fuel', h1⟩ := h1
  obtain ⟨fuel3, h3⟩ := h3
  obtain ⟨l, hl⟩ := instsIn_of (fun _ => rfl) (show DataW.trod enc Try.prog W 0 (fun _ => true) true fuel 41 [.slice pp nn cc] = some (d0, p0) from h0)
  obtain ⟨ws, hw⟩ := vecsIn_of (fun _ => rfl) (show DataW.trod enc Try.prog W 0 (fun _ => true) true fuel' 42 [.slice pp' nn' cc'] = some (d1, p1) from h1)
  obtain ⟨hs, hh⟩ := vecsIn_of (fun _ => rfl) (show DataW.trod enc Try.prog W 0 (fun _ => true) true fuel3 42 [.slice pp3 nn3 cc3] = some (d3, p3) from h3)
  refine (one_any _ _ _ l ws t hs W hl hw hh).mono fun e W' ⟨he, hg⟩ => ?_
  subst he
  refine ⟨_, rfl, row_post (pa := p0 ++ p1 ++ p2 ++ p3) (pv := []) hW' hg (List.append_nil _).symm (fun _ _ _ => (trodAll_cons_mk (shut_bool Try.underlying4 _) trodAll_mk0))
    (fun sp hsp => ?_) (fun _ _ => rfl)
    (ok_one (by kernel_rfl) rfl (okWide_bool_mk Try.underlying4 _))⟩
  rw [List.append_assoc, List.append_assoc] at hlt hsp ⊢
  have m0 : ∀ x ∈ p0, x ∈ p0 ++ (p1 ++ (p2 ++ p3)) := fun x hx => by simp [hx]
  have m1 : ∀ x ∈ p1, x ∈ p0 ++ (p1 ++ (p2 ++ p3)) := fun x hx => by simp [hx]
  have m2 : ∀ x ∈ p2, x ∈ p0 ++ (p1 ++ (p2 ++ p3)) := fun x hx => by simp [hx]
  have m3 : ∀ x ∈ p3, x ∈ p0 ++ (p1 ++ (p2 ++ p3)) := fun x hx => by simp [hx]
  exact trodAll_mk4 (below_trod laid (by kernel_rfl) (of_decide_eq_true (by kernel_rfl)) h0k hg (fun x hx => hlt x (m0 x hx)) (fun x hx => hsp x (m0 x hx)))
    (below_trod laid (by kernel_rfl) (of_decide_eq_true (by kernel_rfl)) h1k hg (fun x hx => hlt x (m1 x hx)) (fun x hx => hsp x (m1 x hx)))
    (below_trod laid (by kernel_rfl) (of_decide_eq_true (by kernel_rfl)) h2k hg (fun x hx => hlt x (m2 x hx)) (fun x hx => hsp x (m2 x hx)))
    (below_trod laid (by kernel_rfl) (of_decide_eq_true (by kernel_rfl)) h3k hg (fun x hx => hlt x (m3 x hx)) (fun x hx => hsp x (m3 x hx)))

theorem over : Rows.execOneRow.holds Try.pinned (OpenSpec.ofChange Rows.execOneSpec) :=
  OpenClaim.holds_of_wide 4 Try.f4 rfl rfl rfl rfl rfl rfl rfl ⟨rfl, rfl, rfl, rfl, rfl⟩ rfl rfl rfl rfl rfl (by kernel_rfl) Try.func4 (by kernel_rfl)
    (of_decide_eq_true (by kernel_rfl)) (by unfold Func.isWrapper; first | (rw [if_pos (by decide +kernel)]; kernel_rfl) | (rw [if_neg (by decide +kernel)]; exact ⟨rfl, rfl⟩))
    (fun os started H enc _ => lifted os started H enc)
end Go.Proofs.Ytibnnhdpaccpfaa.execOne
namespace Go.Proofs.Ytibnnhdpaccpfaa
theorem execOne_holds : Rows.ExecOneSaid := execOne.over
#print axioms execOne_holds
end Go.Proofs.Ytibnnhdpaccpfaa
