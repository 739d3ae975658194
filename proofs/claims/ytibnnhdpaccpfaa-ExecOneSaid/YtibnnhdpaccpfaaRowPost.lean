/-
  A ROW'S POST, where all that was there lies as it lay.
-/
import Derived.Below
import Derived.ChangeSame
import Derived.Carry
import Derived.Test.YtibnnhdpaccpfaaOpen
namespace Go.Proofs.Ytibnnhdpaccpfaa
open Go.RowKit Go.WideShapes Go.ChangeShapes

section
variable {H : Type} {enc : TypeId × Value → H} {P : Program}
/-- the row's post, where all that was there lies as it lay -/
theorem row_post {f : Func} {s : ChangeSpec} {apart fresh handsOn again : Bool} {W W' : World} {args : Array Value} {v : Value} {ds gs : List (DataW H)} {before pa pv : List MemPlace}
    (hW : DataW.Whole enc P f.params.toList s.vars apart W args.toList ds gs before) (hb : Below W.heap.size W W') (hps : before = pa ++ pv)
    (hres : ∀ (b : Nat) (sp : Nat → Bool) (hd : Bool), DataW.TrodAll enc P W' b sp hd f.resultTypes.toList (v.resultList f.resultTypes.size) (s.fn H (ds ++ gs)).results [])
    (hargs : ∀ sp : Nat → Bool, (∀ p ∈ before, sp p.block = true) → DataW.TrodAll enc P W' 0 sp true f.params.toList args.toList (s.fn H (ds ++ gs)).args pa)
    (hvars : ∀ sp : Nat → Bool, (∀ p ∈ before, sp p.block = true) → DataW.TrodVars enc P W' sp s.vars (s.fn H (ds ++ gs)).vars pv)
    (hok : ∀ (j : Nat) (t : TypeId) (r : Value), f.resultTypes[j]? = some t → (v.resultList f.resultTypes.size)[j]? = some r → Value.okWide P W' .any 0 t r) :
    s.post enc P f apart fresh handsOn again W args v W' := by
  have hin : ∀ p ∈ before, p.block < W.heap.size := fun p hp => hW.lt p hp
  have hsp : ∀ p ∈ before, (fun b => decide (b < W.heap.size)) p.block = true := fun p hp => by simpa using hin p hp
  refine ⟨ds, gs, before, [], pa, pv, hW, hres _ _ _, hargs _ hsp, hvars _ hsp, World.keptBut_mono (fun p hp => ⟨hp, ?_⟩) (hb.frame (· ∈ before)), fun _ => ?_⟩
  · rw [hps, List.mem_append] at hp
    exact .inr hp
  obtain ⟨_, _, _, _, _, hz, hn⟩ := hW
  refine ⟨hok, _, _, ([] ++ pa) ++ pv, ⟨[] ++ pa, pv, trodAll_append (hargs _ (fun _ _ => rfl)) (hres _ _ _), hvars _ (fun _ _ => rfl), rfl, fun b off hp => ?_, fun ha => ?_⟩, fun p hp _ => ?_⟩
  · have hm : MemPlace.cell b off ∈ before := by rw [hps]; simpa using hp
    rw [hb.frozen (hin _ hm)]
    exact hz b off hm
  · have h1 := hn ha
    rw [hps] at h1
    simpa using h1
  · rw [hps]
    simpa using hp
/-- an argument behind the call, whatever of the spare is read of what was there -/
theorem below_trod {t : TypeId} (hl : laidOutB P = true) (hr : P.readableRec t = true) (hrow : t < P.types.size) {W W' : World} {v : Value} {d : DataW H} {ps : List MemPlace} {sp : Nat → Bool}
    (h : DataW.Trod enc P W 0 (fun _ => true) true t v d ps) (hb : Below W.heap.size W W') (hlt : ∀ x ∈ ps, x.block < W.heap.size) (hsp : ∀ x ∈ ps, sp x.block = true) :
    DataW.Trod enc P W' 0 sp true t v d ps :=
  WideElems.Trod_stays hl hr hrow h (fun x hx => hb.same (hlt x hx)) hsp
/-- a run of elements that came in -/
theorem open_run {w : World} {base : Nat} {spare : Nat → Bool} {held : Bool} {t e : TypeId} {fuel : Nat} {v : Value} {x : DataW H × List MemPlace} {c : Nat} (ht : P.underlying t = some (.slice e)) (hc : P.cellsOf e = c) (hc0 : 0 < c) (hsp : ∀ k, spare k = true)
    (h : DataW.trod enc P w base spare held fuel t [v] = some x) : ∃ p len cap, v = .slice p len cap ∧ len ≤ cap ∧ cap ≤ maxLen ∧ (0 < len → ∃ b o, p = some ⟨b, o, none⟩ ∧ b < w.heap.size ∧ ∀ k, k < len → ∃ cs n y, cs.length = c ∧ w.rangeAt b (o + k * c) cs ∧ DataW.trod enc P w base spare held n e cs = some y) := by
  rcases Go.Deep.open_slice ht h with ⟨h1, _⟩ | ⟨a, len, cap, m, n, D, Pl, h1, _, hlc, hmx, hm, _, hx⟩
  · simp only [List.cons.injEq, and_true] at h1
    exact ⟨none, 0, 0, h1, Nat.le_refl _, Nat.zero_le _, fun h => absurd h (Nat.lt_irrefl _)⟩
  · simp only [List.cons.injEq, and_true] at h1
    refine ⟨some a, len, cap, h1, hlc, hmx, fun h0 => ?_⟩
    rw [if_pos (hsp _)] at hm
    subst hm
    obtain ⟨cs0, h2, _⟩ := hx 0 (by omega)
    obtain ⟨_, hl0, hcell0⟩ := World.cells?_some h2
    rw [hc] at hcell0
    have hc1 := hcell0 0 hc0
    have hsome : cs0[0]? = some (cs0[0]'(by omega)) := List.getElem?_eq_getElem (by omega)
    rw [hsome] at hc1
    have hspot : a.spot = none := by simpa [Addr.add] using World.cell?_spot hc1
    obtain ⟨blk, off, spot⟩ := a
    simp only at hspot
    subst hspot
    have hadd : ∀ j, (⟨blk, off, none⟩ : Addr).add j = ⟨blk, off + j, none⟩ := fun j => by unfold Addr.add; split <;> simp_all
    have hadd2 : ∀ i j, ((⟨blk, off, none⟩ : Addr).add i).add j = ⟨blk, off + i + j, none⟩ := fun i j => by rw [Go.Deep.add_add, hadd, Nat.add_assoc]
    refine ⟨blk, off, rfl, World.block_lt_of_cell? _ _ (by rw [hadd2] at hc1; exact hc1), fun k hk => ?_⟩
    obtain ⟨cs, h3, h4⟩ := hx k (by omega)
    obtain ⟨_, hl, hcell⟩ := World.cells?_some h3
    rw [hc] at hl hcell
    refine ⟨cs, n, _, hl, fun j u hj => ?_, h4⟩
    have hjc : j < c := by
      have := (List.getElem?_eq_some_iff.1 hj).1
      omega
    rw [← hj, ← hcell j hjc, hadd2]
end
theorem choose_list {α : Type} {n : Nat} {p : Nat → α → Prop} (h : ∀ k, k < n → ∃ a, p k a) : ∃ l : List α, l.length = n ∧ ∀ k a, l[k]? = some a → p k a := by
  induction n with
  | zero => exact ⟨[], rfl, fun k a h => by simp at h⟩
  | succ n ih =>
    obtain ⟨l, hl, hp⟩ := ih fun k hk => h k (by omega)
    obtain ⟨a, ha⟩ := h n (by omega)
    refine ⟨l ++ [a], by simp [hl], fun k b hb => ?_⟩
    by_cases hk : k < n
    · rw [List.getElem?_append_left (by omega)] at hb
      exact hp k b hb
    · rw [List.getElem?_append_right (by omega)] at hb
      have hk2 : k = n := by
        have := (List.getElem?_eq_some_iff.1 hb).1
        simp at this
        omega
      subst hk2
      rw [hl, Nat.sub_self] at hb
      obtain rfl : a = b := by simpa using hb
      exact ha
theorem ownKnob0 : ownKnob Try.prog.godebug = none := by kernel_rfl
theorem laid : laidOutB Try.prog = true := by kernel_rfl
end Go.Proofs.Ytibnnhdpaccpfaa
