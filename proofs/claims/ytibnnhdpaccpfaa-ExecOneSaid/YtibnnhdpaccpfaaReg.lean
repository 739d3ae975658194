import Derived.Test.YtibnnhdpaccpfaaWeave
import Derived.OrdersHeld
namespace Go.Proofs.Ytibnnhdpaccpfaa
open Go.RowKit

/-- a place where the walk stands still -/
def Stays (p : Prop) : Prop := p
theorem stays {p : Prop} (h : Stays p) : p := h
theorem Stays.go {p : Prop} (h : p) : Stays p := h

section
variable {P : Program} {ops : Array Oper} {Q : Exit → Act → World → Prop} {md : Region.Mode} {S : World → Prop} {N : Nat → Bool}

/-- whatever comes up, in whatever order; behind a number that 'N' names, S holds -/
def wpAnyF (P : Program) (md : Region.Mode) (ops : Array Oper) (Q : Exit → Act → World → Prop) (N : Nat → Bool) (S : World → Prop) : Nat → Array Bool → Act → World → Prop
  | 0, listed, a, w => Region.ready md ops listed = [] ∧ Q .normal a w
  | fuel + 1, listed, a, w =>
    (Region.ready md ops listed = [] → Q .normal a w) ∧
    ∀ i ∈ Region.ready md ops listed, wpOp P ops Q i (fun a' w' => (N i = true → S w') ∧ wpAnyF P md ops Q N S fuel (listed.setIfInBounds i true) a' w') a w

theorem wpAny_of_F : ∀ (fuel : Nat) (listed : Array Bool) (a : Act) (w : World), wpAnyF P md ops Q N S fuel listed a w → wpAny P md ops Q fuel listed a w
  | 0, _, _, _, h => h
  | fuel + 1, _, _, _, h => ⟨h.1, fun i hi => wpOp_mono (fun a' w' h' => wpAny_of_F fuel _ a' w' h'.2) (h.2 i hi)⟩

/-- what has not come up, and is not named by N, waits for number i -/
def waitsOn (md : Region.Mode) (ops : Array Oper) (N : Nat → Bool) (listed : Array Bool) (i : Nat) : Bool :=
  (List.range ops.size).all fun j => j == i || listed.getD j true || N j || match ops[j]? with
    | some o => o.after.any fun e => Region.binds md e && e.on == i
    | none => true

theorem waitsOn_spec {listed : Array Bool} {i : Nat} (h : waitsOn md ops N listed i = true) (j : Nat) (oj : Oper) (hj : ops[j]? = some oj) (hne : j ≠ i)
    (hun : listed.getD j true = false) (hno : ∀ e ∈ oj.after, Region.binds md e = true → e.on ≠ i) : N j = true := by
  simp only [waitsOn, List.all_eq_true, List.mem_range] at h
  have h1 := h j (Array.getElem?_eq_some_iff.1 hj).1
  simp only [hj, Bool.or_eq_true, beq_iff_eq, hne, false_or, hun, Bool.false_eq_true] at h1
  rcases h1 with h1 | h1
  · exact h1
  · obtain ⟨e, he, hb⟩ := Array.any_eq_true'.1 h1
    simp only [Bool.and_eq_true, beq_iff_eq] at hb
    exact absurd hb.2 (hno e he hb.1)

theorem wpAnyF_first {i : Nat} {oi : Oper} {v : Value} (hi : ops[i]? = some oi) (hsel : ∀ (j : Nat) (o : Oper) cs b, ops[j]? = some o → o.op ≠ .select cs b)
    (hQ : ∀ c a w, Q (.panic c) (a.put oi.dst v) w → Q (.panic c) a w) :
    ∀ (fuel : Nat) (listed : Array Bool) (a : Act) (w : World),
      (∀ j oj, ops[j]? = some oj → j ≠ i → listed.getD j true = false → (∀ e ∈ oj.after, Region.binds md e = true → e.on ≠ i) → oi.apart ops oj = true ∧ N j = true) →
      i ∈ Region.ready md ops listed → YieldsIf P ops S oi v a → S w →
      wpAnyF P md ops Q N S fuel (listed.setIfInBounds i true) (a.put oi.dst v) w → wpAnyF P md ops Q N S (fuel + 1) listed a w := by
  intro fuel
  induction fuel with
  | zero =>
    intro listed a w _ hr hy hS H
    refine ⟨fun h => (by rw [h] at hr; cases hr), fun j hj => ?_⟩
    by_cases hji : j = i
    · subst hji; exact hy.wpOp hi hS ⟨fun _ => hS, H⟩
    · have := ready_mono hj hji
      rw [H.1] at this
      cases this
  | succ fuel ih =>
    intro listed a w hfree hr hy hS H
    refine ⟨fun h => (by rw [h] at hr; cases hr), fun j hj => ?_⟩
    by_cases hji : j = i
    · subst hji; exact hy.wpOp hi hS ⟨fun _ => hS, H⟩
    · have h1 := H.2 j (ready_mono hj hji)
      obtain ⟨hjun, oj, hoj, hall⟩ := mem_ready.1 hj
      have hnot : ∀ e ∈ oj.after, Region.binds md e = true → e.on ≠ i := fun e he hb heq => by
        have h1 := hall e he hb
        have h0 := (mem_ready.1 hr).1
        rw [heq] at h1
        rcases Nat.lt_or_ge i listed.size with h' | h'
        · simp [h'] at h0 h1; rw [h0] at h1; cases h1
        · simp [Array.getElem?_eq_none h'] at h1
      obtain ⟨hap, hN⟩ := hfree j oj hoj hji hjun hnot
      have h2 := wpOp_putIf hoj hap (fun cs b => hsel i oi cs b hi) (fun cs b => hsel j oj cs b hoj) hQ hy h1
      have hfree' : ∀ k ok, ops[k]? = some ok → k ≠ i → (listed.setIfInBounds j true).getD k true = false →
          (∀ e ∈ ok.after, Region.binds md e = true → e.on ≠ i) → oi.apart ops ok = true ∧ N k = true := fun k ok hk hki hun hno => by
        refine hfree k ok hk hki ?_ hno
        by_cases hjk : j = k
        · subst hjk; exact hjun
        · rw [getD_set_ne true hjk] at hun; exact hun
      refine wpOp_mono (fun a' w' h3 => ⟨h3.2.1, ih (listed.setIfInBounds j true) a' w' hfree' (ready_mono hr (Ne.symm hji)) h3.1 (h3.2.1 hN) ?_⟩) h2
      rw [Array.setIfInBounds_comm _ _ hji]
      exact h3.2.2

/-- take number i first -/
theorem wpAnyF_take {i : Nat} {oi : Oper} {v : Value} {fuel : Nat} {listed : Array Bool} {a : Act} {w : World} (hi : ops[i]? = some oi)
    (hc : (Region.noSelect ops && Region.free md ops listed i && (Region.ready md ops listed).contains i && waitsOn md ops N listed i) = true)
    (hQ : ∀ c a w, Q (.panic c) (a.put oi.dst v) w → Q (.panic c) a w) (hy : YieldsIf P ops S oi v a) (hS : S w)
    (h : wpAnyF P md ops Q N S fuel (listed.setIfInBounds i true) (a.put oi.dst v) w) : wpAnyF P md ops Q N S (fuel + 1) listed a w := by
  simp only [Bool.and_eq_true] at hc
  obtain ⟨⟨⟨hs, hf⟩, hr⟩, hw⟩ := hc
  exact wpAnyF_first hi (Region.noSelect_spec hs) hQ fuel listed a w (fun j oj hj hne hun hno => ⟨Region.free_spec hi hf j oj hj hne hun hno, waitsOn_spec hw j oj hj hne hun hno⟩) (by simpa using hr) hy hS h

/-- what follows at a normal end -/
def onEnd (K : Act → World → Prop) (Q : Exit → Act → World → Prop) : Exit → Act → World → Prop
  | .normal => K
  | e => Q e
theorem onEnd_normal {K : Act → World → Prop} {a : Act} {w : World} (h : K a w) : onEnd K Q .normal a w := h
theorem letsOut_onEnd {K : Act → World → Prop} (h : LetsOut (onEnd K Q)) : LetsOut Q := h

theorem wpOp_of_list {i : Nat} {o : Oper} {K : Act → World → Prop} {a : Act} {w : World} (ho : ops[i]? = some o) (h : wpList P ops (onEnd K Q) [o] a w) : wpOp P ops Q i K a w := by
  unfold wpOp
  simp only [ho]
  simp only [wpList] at h
  split
  · rename_i hw
    simp only [hw, if_true] at h
    rcases h with h | ⟨h1, h2⟩
    · left
      unfold Oper.wp at *
      generalize (execOp a.eval o).run P w = r at *
      cases r with
      | ok n w' => cases n <;> exact h
      | halt x w' => cases x <;> exact h
    · exact .inr ⟨h1, h2⟩
  · rename_i hw
    simp only [hw] at h
    exact h

/-- the one that may come up now -/
theorem wpAnyF_step {i : Nat} {o : Oper} {fuel : Nat} {listed : Array Bool} {a : Act} {w : World} (ho : ops[i]? = some o) (hr : Region.ready md ops listed = [i])
    (h : wpList P ops (onEnd (fun a' w' => (N i = true → S w') ∧ wpAnyF P md ops Q N S fuel (listed.setIfInBounds i true) a' w') Q) [o] a w) : wpAnyF P md ops Q N S (fuel + 1) listed a w := by
  refine ⟨fun h0 => (by rw [hr] at h0; cases h0), fun j hj => ?_⟩
  rw [hr] at hj
  simp only [List.mem_singleton] at hj
  subst hj
  exact wpOp_of_list ho h

theorem wpAnyF_done {listed : Array Bool} {a : Act} {w : World} (hr : Region.ready md ops listed = []) (h : Q .normal a w) :
    ∀ fuel, wpAnyF P md ops Q N S fuel listed a w
  | 0 => ⟨hr, h⟩
  | _ + 1 => ⟨fun _ => h, by rw [hr]; simp⟩

/-- the rest comes up one by one, in the order of l -/
def chains (md : Region.Mode) (ops : Array Oper) (N : Nat → Bool) : List Nat → Array Bool → Bool
  | [], listed => Region.ready md ops listed == []
  | i :: r, listed => Region.ready md ops listed == [i] && !N i && chains md ops N r (listed.setIfInBounds i true)

theorem wpOps_of_list : ∀ (l : List Nat) (os : List Oper) (a : Act) (w : World), l.map (fun i => ops[i]?) = os.map some → wpList P ops Q os a w → wpOps P ops Q l a w
  | [], [], _, _, _, h => h
  | [], _ :: _, _, _, hm, _ => by simp at hm
  | _ :: _, [], _, _, hm, _ => by simp at hm
  | i :: l, o :: os, a, w, hm, h => by
    simp only [List.map_cons, List.cons.injEq] at hm
    simp only [wpOps, hm.1]
    simp only [wpList] at h
    split
    · rename_i hw
      simp only [hw, if_true] at h
      exact h.imp (Oper.wp_mono fun a w => wpOps_of_list l os a w hm.2) id
    · rename_i hw
      simp only [hw] at h
      exact wpOps_of_list l os _ _ hm.2 h

theorem wpAnyF_of_ops : ∀ (l : List Nat) (fuel : Nat) (listed : Array Bool) (a : Act) (w : World), chains md ops N l listed = true → l.length ≤ fuel → wpOps P ops Q l a w → wpAnyF P md ops Q N S fuel listed a w
  | [], fuel, listed, a, w, hc, _, h => wpAnyF_done (by simpa [chains] using hc) h fuel
  | i :: l, 0, _, _, _, _, hf, _ => by simp at hf
  | i :: l, fuel + 1, listed, a, w, hc, hf, h => by
    simp only [chains, Bool.and_eq_true, beq_iff_eq] at hc
    refine ⟨fun h0 => (by rw [hc.1.1] at h0; cases h0), fun j hj => ?_⟩
    rw [hc.1.1] at hj
    simp only [List.mem_singleton] at hj
    subst hj
    rw [wpOps_cons] at h
    refine wpOp_mono (fun a' w' h' => ⟨fun hn => ?_, wpAnyF_of_ops l fuel _ a' w' hc.2 (by simpa using hf) h'⟩) h
    have := hc.1.2
    rw [hn] at this; cases this

theorem wpAnyF_chain (l : List Nat) (os : List Oper) {fuel : Nat} {listed : Array Bool} {a : Act} {w : World} (hm : l.map (fun i => ops[i]?) = os.map some)
    (hc : (chains md ops N l listed && decide (l.length ≤ fuel)) = true) (h : wpList P ops Q os a w) : wpAnyF P md ops Q N S fuel listed a w := by
  simp only [Bool.and_eq_true, decide_eq_true_eq] at hc
  exact wpAnyF_of_ops l fuel listed a w hc.1 hc.2 (wpOps_of_list l os a w hm h)

/-- the beginning -/
theorem wp_region_F (N : Nat → Bool) (S : World → Prop) {id : Nat} {a : Act} {w : World} (hm : P.follows .mixedOrders = true)
    (h : wpAnyF P .any ops Q N S ops.size (Array.replicate ops.size false) a { w with drawn := w.drawn + 1 }) : (Code.region id ops true).wp P Q a w :=
  wp_region_any hm (wpAny_of_F _ _ _ _ h)

end
end Go.Proofs.Ytibnnhdpaccpfaa
