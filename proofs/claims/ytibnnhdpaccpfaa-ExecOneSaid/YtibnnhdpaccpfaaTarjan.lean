/-
  THE PLAIN LAW OF THE SEARCH FOR GROUPS (no program in sight): what 'visit' keeps, and that the groups are the strongly connected ones, told in an order in which each hangs on none but earlier ones.
-/
import Derived.Test.YtibnnhdpaccpfaaIter
namespace Go.Proofs.Ytibnnhdpaccpfaa

structure St where
  num : List Nat
  low : List Nat
  stack : List Nat
  opn : List Bool
  next : Nat
  groups : List (List Nat)

def St.nm (st : St) (x : Nat) : Nat := st.num[x]?.getD 0
def St.lw (st : St) (x : Nat) : Nat := st.low[x]?.getD 0
def St.op (st : St) (x : Nat) : Bool := st.opn[x]?.getD false

/-- x hangs on y -/
def Edge (on : List (List Nat)) (x y : Nat) : Prop := y ∈ on[x]?.getD []
inductive Reach (on : List (List Nat)) : Nat → Nat → Prop
  | refl (x) : Reach on x x
  | step {x y z} : Edge on x y → Reach on y z → Reach on x z
theorem Reach.trans {on : List (List Nat)} {x y z : Nat} (h : Reach on x y) (k : Reach on y z) : Reach on x z := by
  induction h with
  | refl => exact k
  | step e _ ih => exact .step e (ih k)
theorem Reach.one {on : List (List Nat)} {x y : Nat} (h : Edge on x y) : Reach on x y := .step h (.refl _)

structure Inv (on : List (List Nat)) (st : St) : Prop where
  ln : st.num.length = on.length
  ll : st.low.length = on.length
  lo : st.opn.length = on.length
  cnt : st.next + st.num.count 0 = on.length
  siz : st.groups.length + st.stack.length ≤ st.next
  nb : ∀ x, st.nm x ≤ st.next
  inj : ∀ x y, st.nm x = st.nm y → 0 < st.nm x → x = y
  sinc : st.stack.Pairwise fun x y => st.nm x < st.nm y
  svis : ∀ x ∈ st.stack, 0 < st.nm x
  opi : ∀ x, st.op x = true ↔ x ∈ st.stack
  grp : ∀ x, (∃ g ∈ st.groups, x ∈ g) ↔ (0 < st.nm x ∧ x ∉ st.stack)
  gnd : st.groups.flatten.Nodup
  top : ∀ (i : Nat) (g : List Nat), st.groups[i]? = some g → ∀ x ∈ g, ∀ y, Edge on x y → ∃ (j : Nat) (g' : List Nat), j ≤ i ∧ st.groups[j]? = some g' ∧ y ∈ g'
  scc : ∀ g ∈ st.groups, ∀ x ∈ g, ∀ y ∈ g, Reach on x y
  gne : ∀ g ∈ st.groups, g ≠ [] ∧ g.Pairwise (· < ·)

theorem Inv.visLt {on : List (List Nat)} {st : St} (h : Inv on st) {x : Nat} (hx : 0 < st.nm x) : x < on.length := by
  unfold St.nm at hx
  rw [← h.ln]
  cases hg : st.num[x]? with
  | none => rw [hg] at hx; simp at hx
  | some v => exact (List.getElem?_eq_some_iff.1 hg).1
theorem Inv.snodup {on : List (List Nat)} {st : St} (h : Inv on st) : st.stack.Nodup := h.sinc.imp (fun hlt he => by rw [he] at hlt; omega)
/-- what is closed hangs on what is closed -/
theorem Inv.closed {on : List (List Nat)} {st : St} (h : Inv on st) {x y : Nat} (hx : 0 < st.nm x) (hs : x ∉ st.stack) (he : Edge on x y) : 0 < st.nm y ∧ y ∉ st.stack := by
  obtain ⟨g, hg, hxg⟩ := (h.grp x).2 ⟨hx, hs⟩
  obtain ⟨i, hi, rfl⟩ := List.getElem_of_mem hg
  obtain ⟨j, g', _, hg', hy⟩ := h.top i _ (List.getElem?_eq_getElem hi) x hxg y he
  exact (h.grp y).1 ⟨g', List.mem_of_getElem? hg', hy⟩

/-- what holds of one that is done and open: T's words -/
def Hung (on : List (List Nat)) (st : St) (v x : Nat) : Prop :=
  (∀ y, Edge on x y → 0 < st.nm y ∧ (y ∈ st.stack → st.lw v ≤ st.nm y)) ∧ (∃ y ∈ st.stack, Reach on x y ∧ st.nm y = st.lw x) ∧ st.lw x < st.nm x

structure Visited (on : List (List Nat)) (st : St) (v : Nat) (st' : St) : Prop where
  inv : Inv on st'
  old : ∀ x, 0 < st.nm x → st'.nm x = st.nm x ∧ st'.lw x = st.lw x
  stk : ∃ T, st'.stack = st.stack ++ T ∧ (T = [] ∨ ∃ r, T = v :: r) ∧ ∀ x ∈ T, st.nm x = 0 ∧ Hung on st' v x
  new : 0 < st'.nm v
  reach : ∀ x, st.nm x = 0 → 0 < st'.nm x → Reach on v x
  lowle : st'.lw v ≤ st'.nm v
  shut : v ∉ st'.stack → st'.lw v = st'.nm v
  nxt : st.next ≤ st'.next
  late : ∀ x, st.nm x = 0 → 0 < st'.nm x → st.next < st'.nm x

structure Loop (on : List (List Nat)) (st0 : St) (v k : Nat) (st : St) : Prop where
  inv : Inv on st
  inv0 : Inv on st0
  old : ∀ x, 0 < st0.nm x → st.nm x = st0.nm x ∧ st.lw x = st0.lw x
  stk : ∃ T, st.stack = st0.stack ++ v :: T ∧ ∀ x ∈ T, st0.nm x = 0 ∧ Hung on st v x
  edges : ∀ u ∈ (on[v]?.getD []).take k, 0 < st.nm u ∧ (u ∈ st.stack → st.lw v ≤ st.nm u)
  wv : ∃ y ∈ st.stack, Reach on v y ∧ st.nm y = st.lw v
  lowle : st.lw v ≤ st.nm v
  was : st0.nm v = 0
  new : 0 < st.nm v
  reach : ∀ x, st0.nm x = 0 → 0 < st.nm x → Reach on v x
  nxt : st0.next ≤ st.next
  late : ∀ x, st0.nm x = 0 → 0 < st.nm x → st0.next < st.nm x

theorem set_getD (l : List Nat) (v m x : Nat) : (l.set v m)[x]?.getD 0 = if x = v ∧ v < l.length then m else l[x]?.getD 0 := by
  by_cases he : v = x
  · subst he
    by_cases hl : v < l.length
    · simp [hl]
    · simp [hl]
  · rw [List.getElem?_set_ne he, if_neg (fun h => he h.1.symm)]
theorem set_getDb (l : List Bool) (v : Nat) (m : Bool) (x : Nat) : (l.set v m)[x]?.getD false = if x = v ∧ v < l.length then m else l[x]?.getD false := by
  by_cases he : v = x
  · subst he
    by_cases hl : v < l.length
    · simp [hl]
    · simp [hl]
  · rw [List.getElem?_set_ne he, if_neg (fun h => he h.1.symm)]

/-- v is met -/
def St.enter (st : St) (v : Nat) : St := { st with next := st.next + 1, num := st.num.set v (st.next + 1), low := st.low.set v (st.next + 1), stack := st.stack ++ [v], opn := st.opn.set v true }
def St.setLow (st : St) (v m : Nat) : St := { st with low := st.low.set v m }

theorem Loop.start {on : List (List Nat)} {st : St} {v : Nat} (h : Inv on st) (hv : v < on.length) (hz : st.nm v = 0) : Loop on st v 0 (st.enter v) := by
  have hnm : ∀ x, (st.enter v).nm x = if x = v then st.next + 1 else st.nm x := fun x => by
    show (st.num.set v (st.next + 1))[x]?.getD 0 = _
    rw [set_getD, h.ln]; simp [hv, St.nm]
  have hlw : ∀ x, (st.enter v).lw x = if x = v then st.next + 1 else st.lw x := fun x => by
    show (st.low.set v (st.next + 1))[x]?.getD 0 = _
    rw [set_getD, h.ll]; simp [hv, St.lw]
  have hop : ∀ x, (st.enter v).op x = if x = v then true else st.op x := fun x => by
    show (st.opn.set v true)[x]?.getD false = _
    rw [set_getDb, h.lo]; simp [hv, St.op]
  have hvs : v ∉ st.stack := fun hm => by have := h.svis v hm; omega
  have hne : ∀ x ∈ st.stack, x ≠ v := fun x hx he => hvs (he ▸ hx)
  have hinv : Inv on (st.enter v) := by
    have hvn : v < st.num.length := by rw [h.ln]; exact hv
    have hz' : st.num[v] = 0 := by
      unfold St.nm at hz
      rw [List.getElem?_eq_getElem hvn] at hz
      simpa using hz
    refine ⟨by simp [St.enter, h.ln], by simp [St.enter, h.ll], by simp [St.enter, h.lo], ?_, ?_, fun x => ?_, fun x y he hp => ?_, ?_, fun x hx => ?_, fun x => ?_, fun x => ?_, h.gnd, h.top, h.scc, h.gne⟩
    · show st.next + 1 + (st.num.set v (st.next + 1)).count 0 = on.length
      have hc := h.cnt
      rw [List.count_set hvn]
      have hpos : 0 < st.num.count 0 := List.count_pos_iff.2 (by rw [← hz']; exact List.getElem_mem hvn)
      simp [hz']
      omega
    · show st.groups.length + (st.stack ++ [v]).length ≤ st.next + 1
      have := h.siz
      simp
      omega
    · rw [hnm]
      show _ ≤ st.next + 1
      have := h.nb x
      split <;> omega
    · rw [hnm, hnm] at he
      rw [hnm] at hp
      by_cases h1 : x = v
      · by_cases h2 : y = v
        · rw [h1, h2]
        · rw [if_pos h1, if_neg h2] at he
          have := h.nb y
          omega
      · by_cases h2 : y = v
        · rw [if_neg h1, if_pos h2] at he
          have := h.nb x
          omega
        · rw [if_neg h1, if_neg h2] at he
          rw [if_neg h1] at hp
          exact h.inj x y he hp
    · show (st.stack ++ [v]).Pairwise _
      rw [List.pairwise_append]
      refine ⟨?_, List.pairwise_singleton _ _, fun x hx y hy => ?_⟩
      · refine h.sinc.imp_of_mem fun hx hy hlt => ?_
        rw [hnm, hnm, if_neg (hne _ hx), if_neg (hne _ hy)]; exact hlt
      · rw [List.mem_singleton] at hy
        rw [hnm, hnm, if_neg (hne _ hx), if_pos hy]
        have := h.nb x
        omega
    · rw [hnm]
      have hx' : x ∈ st.stack ++ [v] := hx
      rw [List.mem_append, List.mem_singleton] at hx'
      split
      · omega
      · rename_i hxv
        rcases hx' with hx' | hx'
        · exact h.svis x hx'
        · exact absurd hx' hxv
    · rw [hop]
      show _ ↔ x ∈ st.stack ++ [v]
      rw [List.mem_append, List.mem_singleton]
      by_cases hxv : x = v
      · simp [hxv]
      · simp [hxv, h.opi x]
    · show (∃ g ∈ st.groups, x ∈ g) ↔ 0 < (st.enter v).nm x ∧ x ∉ st.stack ++ [v]
      rw [hnm, h.grp x, List.mem_append, List.mem_singleton]
      by_cases hxv : x = v
      · rw [hxv, hz]; simp
      · simp [hxv]
  refine ⟨hinv, h, fun x hx => ?_, ⟨[], rfl, fun x hx => by simp at hx⟩, fun u hu => by simp at hu, ⟨v, by show v ∈ st.stack ++ [v]; simp, .refl _, by rw [hnm, hlw]; simp⟩, by rw [hnm, hlw]; simp, hz, by rw [hnm]; simp, fun x hx hp => ?_, by show st.next ≤ st.next + 1; omega, fun x hx hp => ?_⟩
  · have hxv : x ≠ v := fun he => by rw [he] at hx; omega
    rw [hnm, hlw, if_neg hxv, if_neg hxv]; exact ⟨rfl, rfl⟩
  · rw [hnm] at hp
    by_cases hxv : x = v
    · rw [hxv]; exact .refl _
    · rw [if_neg hxv] at hp; omega
  · rw [hnm] at hp ⊢
    by_cases hxv : x = v
    · rw [if_pos hxv]; omega
    · rw [if_neg hxv] at hp; omega

theorem Inv.setLow {on : List (List Nat)} {st : St} (h : Inv on st) (v m : Nat) : Inv on (st.setLow v m) :=
  ⟨h.ln, by simp [St.setLow, h.ll], h.lo, h.cnt, h.siz, h.nb, h.inj, h.sinc, h.svis, h.opi, h.grp, h.gnd, h.top, h.scc, h.gne⟩
theorem lw_setLow {on : List (List Nat)} {st : St} (h : Inv on st) (v m x : Nat) (hv : v < on.length) : (st.setLow v m).lw x = if x = v then m else st.lw x := by
  show (st.low.set v m)[x]?.getD 0 = _
  rw [set_getD, h.ll]; simp [hv, St.lw]

/-- the low of v falls, to that of one that v reaches and that is open -/
theorem Loop.fall {on : List (List Nat)} {st0 st : St} {v k u m : Nat} (h : Loop on st0 v k st) (hu : (on[v]?.getD [])[k]? = some u) (hm : m ≤ st.lw v) (hvis : 0 < st.nm u) (hmu : u ∈ st.stack → m ≤ st.nm u)
    (hw : m = st.lw v ∨ ∃ y ∈ st.stack, Reach on v y ∧ st.nm y = m) : Loop on st0 v (k + 1) (st.setLow v m) := by
  have hv : v < on.length := h.inv.visLt h.new
  have hlw := fun x => lw_setLow h.inv v m x hv
  obtain ⟨T, hT, hH⟩ := h.stk
  have hvT : v ∉ T := fun hm => by have := (hH v hm).2.2.2; have := h.inv.snodup; rw [hT] at this; have := (List.nodup_append.1 this).2.1; simp at this; exact this.1 hm
  have hv0 : ∀ x, 0 < st0.nm x → x ≠ v := fun x hx he => by rw [he, h.was] at hx; omega
  refine ⟨h.inv.setLow v m, h.inv0, fun x hx => ⟨(h.old x hx).1, by rw [hlw, if_neg (hv0 x hx)]; exact (h.old x hx).2⟩, ⟨T, hT, fun x hx => ⟨(hH x hx).1, ?_⟩⟩, fun u' hu' => ?_, ?_, ?_, h.was, h.new, h.reach, h.nxt, h.late⟩
  · obtain ⟨h1, h2, h3⟩ := (hH x hx).2
    have hxv : x ≠ v := fun he => hvT (he ▸ hx)
    refine ⟨fun y hy => ⟨(h1 y hy).1, fun hs => ?_⟩, ?_, ?_⟩
    · rw [hlw, if_pos rfl]; exact Nat.le_trans hm ((h1 y hy).2 hs)
    · rw [hlw, if_neg hxv]; exact h2
    · rw [hlw, if_neg hxv]; exact h3
  · rw [hlw, if_pos rfl]
    obtain ⟨hk, he⟩ := List.getElem?_eq_some_iff.1 hu
    rw [List.take_succ_eq_append_getElem hk, List.mem_append, List.mem_singleton] at hu'
    rcases hu' with hu' | hu'
    · exact ⟨(h.edges u' hu').1, fun hs => Nat.le_trans hm ((h.edges u' hu').2 hs)⟩
    · rw [hu', he]; exact ⟨hvis, hmu⟩
  · rw [hlw, if_pos rfl]
    rcases hw with hw | hw
    · rw [hw]; exact h.wv
    · exact hw
  · rw [hlw, if_pos rfl]; exact Nat.le_trans hm h.lowle

/-- one that was met already and is open -/
theorem Loop.seen {on : List (List Nat)} {st0 st : St} {v k u : Nat} (h : Loop on st0 v k st) (hu : (on[v]?.getD [])[k]? = some u) (hvis : 0 < st.nm u) (hop : st.op u = true) : Loop on st0 v (k + 1) (st.setLow v (min (st.lw v) (st.nm u))) := by
  refine h.fall hu (Nat.min_le_left _ _) hvis (fun _ => Nat.min_le_right _ _) ?_
  rcases Nat.le_total (st.lw v) (st.nm u) with hle | hle
  · exact .inl (Nat.min_eq_left hle)
  · exact .inr ⟨u, (h.inv.opi u).1 hop, .one (List.mem_of_getElem? hu), (Nat.min_eq_right hle).symm⟩
/-- one that is closed -/
theorem Loop.past {on : List (List Nat)} {st0 st : St} {v k u : Nat} (h : Loop on st0 v k st) (hu : (on[v]?.getD [])[k]? = some u) (hvis : 0 < st.nm u) (hop : st.op u = false) : Loop on st0 v (k + 1) st := by
  refine ⟨h.inv, h.inv0, h.old, h.stk, fun u' hu' => ?_, h.wv, h.lowle, h.was, h.new, h.reach, h.nxt, h.late⟩
  obtain ⟨hk, he⟩ := List.getElem?_eq_some_iff.1 hu
  rw [List.take_succ_eq_append_getElem hk, List.mem_append, List.mem_singleton] at hu'
  rcases hu' with hu' | hu'
  · exact h.edges u' hu'
  · rw [hu', he]
    exact ⟨hvis, fun hs => by rw [(h.inv.opi u).2 hs] at hop; cases hop⟩

/-- one that is met from v -/
theorem Loop.calls {on : List (List Nat)} {st0 st st' : St} {v k u : Nat} (h : Loop on st0 v k st) (hu : (on[v]?.getD [])[k]? = some u) (hz : st.nm u = 0) (hV : Visited on st u st') :
    Loop on st0 v (k + 1) (st'.setLow v (min (st'.lw v) (st'.lw u))) := by
  obtain ⟨T, hT, hH⟩ := h.stk
  obtain ⟨T', hT', hhead, hH'⟩ := hV.stk
  have hnmv := hV.old v h.new
  have huv : Edge on v u := List.mem_of_getElem? hu
  have hold : ∀ x, 0 < st0.nm x → 0 < st.nm x := fun x hx => by rw [(h.old x hx).1]; exact hx
  have hvst : v ∈ st.stack := by rw [hT]; simp
  have hin : ∀ y, 0 < st.nm y → y ∈ st'.stack → y ∈ st.stack := fun y hy hs => by
    rw [hT', List.mem_append] at hs
    rcases hs with hs | hs
    · exact hs
    · have := (hH' y hs).1; omega
  have hv : v < on.length := h.inv.visLt h.new
  obtain ⟨m, hm⟩ : ∃ m, min (st'.lw v) (st'.lw u) = m := ⟨_, rfl⟩
  rw [hm]
  have hlw := fun x => lw_setLow hV.inv v m x hv
  have hmv : m ≤ st.lw v := by rw [← hm, hnmv.2]; exact Nat.min_le_left _ _
  have hmu : m ≤ st'.lw u := by rw [← hm]; exact Nat.min_le_right _ _
  have hv0 : ∀ x, 0 < st0.nm x → x ≠ v := fun x hx he => by rw [he, h.was] at hx; omega
  have hvT : v ∉ T := fun hm => by have := h.inv.snodup; rw [hT] at this; have := (List.nodup_append.1 this).2.1; simp at this; exact this.1 hm
  have hvT' : v ∉ T' := fun hm => by have := (hH' v hm).1; have := h.new; omega
  refine ⟨hV.inv.setLow v m, h.inv0, fun x hx => ?_, ⟨T ++ T', ?_, fun x hx => ?_⟩, fun u' hu' => ?_, ?_, ?_, h.was, ?_, fun x hx hp => ?_, Nat.le_trans h.nxt hV.nxt, fun x hx hp => ?_⟩
  · have h1 := h.old x hx
    have h2 := hV.old x (hold x hx)
    exact ⟨by show st'.nm x = _; rw [h2.1, h1.1], by rw [hlw, if_neg (hv0 x hx), h2.2, h1.2]⟩
  · show st'.stack = _
    rw [hT', hT]; simp
  · rw [List.mem_append] at hx
    rcases hx with hx | hx
    · obtain ⟨h1, h2, h3⟩ := (hH x hx).2
      have hxs : x ∈ st.stack := by rw [hT]; simp [hx]
      have hxv : x ≠ v := fun he => hvT (he ▸ hx)
      have hox := hV.old x (h.inv.svis x hxs)
      refine ⟨(hH x hx).1, fun y hy => ?_, ?_, ?_⟩
      · have hy1 := (h1 y hy).1
        have hyo := hV.old y hy1
        show 0 < st'.nm y ∧ (y ∈ st'.stack → _ ≤ st'.nm y)
        rw [hlw, if_pos rfl, hyo.1]
        exact ⟨hy1, fun hs => Nat.le_trans hmv ((h1 y hy).2 (hin y hy1 hs))⟩
      · obtain ⟨y, hy, hr, he⟩ := h2
        refine ⟨y, ?_, hr, ?_⟩
        · show y ∈ st'.stack
          rw [hT', List.mem_append]; exact .inl hy
        · show st'.nm y = _
          rw [hlw, if_neg hxv, hox.2, (hV.old y (h.inv.svis y hy)).1]; exact he
      · show _ < st'.nm x
        rw [hlw, if_neg hxv, hox.2, hox.1]; exact h3
    · obtain ⟨h0, h1, h2, h3⟩ := hH' x hx
      have hxv : x ≠ v := fun he => hvT' (he ▸ hx)
      have hx0 : st0.nm x = 0 := by
        rcases Nat.eq_zero_or_pos (st0.nm x) with h | h'
        · exact h
        · have := hold x h'; omega
      refine ⟨hx0, fun y hy => ?_, ?_, ?_⟩
      · show 0 < st'.nm y ∧ (y ∈ st'.stack → _ ≤ st'.nm y)
        rw [hlw, if_pos rfl]
        exact ⟨(h1 y hy).1, fun hs => Nat.le_trans hmu ((h1 y hy).2 hs)⟩
      · rw [hlw, if_neg hxv]; exact h2
      · rw [hlw, if_neg hxv]; exact h3
  · show 0 < st'.nm u' ∧ (u' ∈ st'.stack → _ ≤ st'.nm u')
    rw [hlw, if_pos rfl]
    obtain ⟨hk, he⟩ := List.getElem?_eq_some_iff.1 hu
    rw [List.take_succ_eq_append_getElem hk, List.mem_append, List.mem_singleton] at hu'
    rcases hu' with hu' | hu'
    · obtain ⟨h1, h2⟩ := h.edges u' hu'
      rw [(hV.old u' h1).1]
      exact ⟨h1, fun hs => Nat.le_trans hmv (h2 (hin u' h1 hs))⟩
    · rw [hu', he]
      exact ⟨hV.new, fun _ => Nat.le_trans hmu hV.lowle⟩
  · rw [hlw, if_pos rfl]
    show ∃ y ∈ st'.stack, Reach on v y ∧ st'.nm y = m
    have keep : m = st.lw v → ∃ y ∈ st'.stack, Reach on v y ∧ st'.nm y = m := fun hme => by
      obtain ⟨y, hy, hr, he⟩ := h.wv
      exact ⟨y, by rw [hT', List.mem_append]; exact .inl hy, hr, by rw [(hV.old y (h.inv.svis y hy)).1, he, hme]⟩
    rcases Nat.le_total (st'.lw v) (st'.lw u) with hle | hle
    · exact keep (by rw [← hm, Nat.min_eq_left hle, hnmv.2])
    · have hme : m = st'.lw u := by rw [← hm, Nat.min_eq_right hle]
      by_cases hus : u ∈ st'.stack
      · have huT : u ∈ T' := by
          rw [hT', List.mem_append] at hus
          rcases hus with hs | hs
          · have := h.inv.svis u hs; omega
          · exact hs
        obtain ⟨y, hy, hr, he⟩ := (hH' u huT).2.2.1
        exact ⟨y, hy, .step huv hr, by rw [he, hme]⟩
      · have h1 := hV.shut hus
        have h2 := hV.late u hz hV.new
        have h3 := h.inv.nb v
        have h4 := h.lowle
        omega
  · show _ ≤ st'.nm v
    rw [hlw, if_pos rfl, hnmv.1]
    exact Nat.le_trans hmv h.lowle
  · show 0 < st'.nm v
    rw [hnmv.1]; exact h.new
  · by_cases hp0 : 0 < st.nm x
    · exact h.reach x hx hp0
    · exact .step huv (hV.reach x (by omega) hp)
  · show st0.next < st'.nm x
    by_cases hp0 : 0 < st.nm x
    · rw [(hV.old x hp0).1]; exact h.late x hx hp0
    · have := hV.late x (by omega) hp
      have := h.nxt
      omega

/-- v's low is not its number: it stays open -/
theorem Loop.stays {on : List (List Nat)} {st0 st : St} {v k : Nat} (h : Loop on st0 v k st) (hk : (on[v]?.getD []).length ≤ k) (hne : st.lw v ≠ st.nm v) : Visited on st0 v st := by
  obtain ⟨T, hT, hH⟩ := h.stk
  have hvs : v ∈ st.stack := by rw [hT]; simp
  have hlt : st.lw v < st.nm v := by have := h.lowle; omega
  refine ⟨h.inv, h.old, ⟨v :: T, hT, .inr ⟨T, rfl⟩, fun x hx => ?_⟩, h.new, h.reach, h.lowle, fun hn => absurd hvs hn, h.nxt, h.late⟩
  rcases List.mem_cons.1 hx with hx | hx
  · subst hx
    exact ⟨h.was, fun y hy => h.edges y (by rw [List.take_of_length_le hk]; exact hy), h.wv, hlt⟩
  · exact hH x hx

/-- the group of v is told -/
def St.tell (st : St) (s : List Nat) (o : List Bool) (g : List Nat) : St := { st with stack := s, opn := o, groups := st.groups ++ [g] }

theorem Loop.tells {on : List (List Nat)} {st0 st : St} {v k : Nat} (h : Loop on st0 v k st) (hk : (on[v]?.getD []).length ≤ k) (he : st.lw v = st.nm v) (T : List Nat) (hT : st.stack = st0.stack ++ v :: T)
    (g : List Nat) (hg : g.Perm (v :: T)) (hgs : g.Pairwise (· < ·)) (o : List Bool) (hol : o.length = on.length) (ho : ∀ x, o[x]?.getD false = (st.op x && !g.contains x)) : Visited on st0 v (st.tell st0.stack o g) := by
  obtain ⟨T1, hT1, hH⟩ := h.stk
  have : T1 = T := by
    rw [hT] at hT1
    have := List.append_cancel_left hT1
    simpa using this.symm
  subst this
  have hnd := h.inv.snodup
  rw [hT] at hnd
  have hdis : ∀ x ∈ st0.stack, x ∉ v :: T1 := fun x hx hx' => (List.nodup_append.1 hnd).2.2 x hx x hx' rfl
  have hgm : ∀ x, x ∈ g ↔ x ∈ v :: T1 := fun x => hg.mem_iff
  -- an edge out of the group leads to it, or to what is closed
  have hedge : ∀ x ∈ v :: T1, ∀ y, Edge on x y → 0 < st.nm y ∧ (y ∈ st.stack → y ∈ v :: T1) := fun x hx y hy => by
    have h1 : 0 < st.nm y ∧ (y ∈ st.stack → st.lw v ≤ st.nm y) := by
      rcases List.mem_cons.1 hx with hx | hx
      · subst hx; exact h.edges y (by rw [List.take_of_length_le hk]; exact hy)
      · exact (hH x hx).2.1 y hy
    refine ⟨h1.1, fun hs => ?_⟩
    have h2 := h1.2 hs
    rw [he] at h2
    rw [hT, List.mem_append] at hs
    rcases hs with hs | hs
    · have hinc := h.inv.sinc
      rw [hT] at hinc
      have := (List.pairwise_append.1 hinc).2.2 y hs v (by simp)
      omega
    · exact hs
  -- from within the group nothing open below is reached
  have hstay : ∀ x y, Reach on x y → (x ∈ v :: T1 ∨ (0 < st.nm x ∧ x ∉ st.stack)) → (y ∈ v :: T1 ∨ (0 < st.nm y ∧ y ∉ st.stack)) := fun x y hr => by
    induction hr with
    | refl => exact id
    | @step a b c e _ ih =>
      intro ha
      refine ih ?_
      rcases ha with ha | ha
      · have := hedge a ha b e
        by_cases hs : b ∈ st.stack
        · exact .inl (this.2 hs)
        · exact .inr ⟨this.1, hs⟩
      · exact .inr (h.inv.closed ha.1 ha.2 e)
  have hback : ∀ m x, st.nm x ≤ m → x ∈ v :: T1 → Reach on x v := fun m => by
    induction m with
    | zero =>
      intro x hm hx
      have := h.inv.svis x (by rw [hT, List.mem_append]; exact .inr hx)
      omega
    | succ m ih =>
      intro x hm hx
      rcases List.mem_cons.1 hx with hxv | hxT
      · subst hxv; exact .refl _
      · obtain ⟨y, hy, hr, hey⟩ := (hH x hxT).2.2.1
        have hlt := (hH x hxT).2.2.2
        rcases hstay x y hr (.inl hx) with h1 | h1
        · exact hr.trans (ih y (by omega) h1)
        · exact absurd hy h1.2
  have hforth : ∀ x ∈ v :: T1, Reach on v x := fun x hx => by
    rcases List.mem_cons.1 hx with hxv | hxT
    · subst hxv; exact .refl _
    · exact h.reach x (hH x hxT).1 (h.inv.svis x (by rw [hT, List.mem_append]; exact .inr hx))
  have hop0 : ∀ x, (st.op x && !g.contains x) = true ↔ x ∈ st0.stack := fun x => by
    rw [Bool.and_eq_true, h.inv.opi x, hT, List.mem_append]
    simp only [Bool.not_eq_true', List.contains_eq_mem, decide_eq_false_iff_not, hgm]
    constructor
    · rintro ⟨h1 | h1, h2⟩
      · exact h1
      · exact absurd h1 h2
    · intro h1; exact ⟨.inl h1, hdis x h1⟩
  have hnew : ∀ g' ∈ st.groups, ∀ x ∈ g', x ∉ g := fun g' hg' x hx hxg => by
    have := ((h.inv.grp x).1 ⟨g', hg', hx⟩).2
    exact this (by rw [hT, List.mem_append]; exact .inr ((hgm x).1 hxg))
  have hgnd : g.Nodup := hgs.imp (fun h => Nat.ne_of_lt h)
  have hinv : Inv on (st.tell st0.stack o g) := by
    refine ⟨h.inv.ln, h.inv.ll, hol, h.inv.cnt, ?_, h.inv.nb, h.inv.inj, ?_, fun x hx => ?_, fun x => ?_, fun x => ?_, ?_, ?_, ?_, ?_⟩
    · show (st.groups ++ [g]).length + st0.stack.length ≤ st.next
      have := h.inv.siz
      rw [hT] at this
      simp at this ⊢
      omega
    · show st0.stack.Pairwise _
      have hinc := h.inv.sinc
      rw [hT] at hinc
      exact (List.pairwise_append.1 hinc).1
    · exact h.inv.svis x (by rw [hT, List.mem_append]; exact .inl hx)
    · show o[x]?.getD false = true ↔ x ∈ st0.stack
      rw [ho]; exact hop0 x
    · show (∃ g' ∈ st.groups ++ [g], x ∈ g') ↔ 0 < st.nm x ∧ x ∉ st0.stack
      constructor
      · rintro ⟨g', hg', hx⟩
        rw [List.mem_append, List.mem_singleton] at hg'
        rcases hg' with hg' | hg'
        · have := (h.inv.grp x).1 ⟨g', hg', hx⟩
          exact ⟨this.1, fun hs => this.2 (by rw [hT, List.mem_append]; exact .inl hs)⟩
        · rw [hg'] at hx
          have hx' := (hgm x).1 hx
          exact ⟨h.inv.svis x (by rw [hT, List.mem_append]; exact .inr hx'), fun hs => hdis x hs hx'⟩
      · rintro ⟨h1, h2⟩
        by_cases hs : x ∈ st.stack
        · rw [hT, List.mem_append] at hs
          rcases hs with hs | hs
          · exact absurd hs h2
          · exact ⟨g, by simp, (hgm x).2 hs⟩
        · obtain ⟨g', hg', hx⟩ := (h.inv.grp x).2 ⟨h1, hs⟩
          exact ⟨g', by simp [hg'], hx⟩
    · show (st.groups ++ [g]).flatten.Nodup
      rw [List.flatten_append, List.nodup_append]
      refine ⟨h.inv.gnd, by simpa using hgnd, fun a ha b hb => ?_⟩
      simp at hb
      obtain ⟨g', hg', hag⟩ := List.mem_flatten.1 ha
      rintro rfl
      exact hnew g' hg' a hag hb
    · intro i g' hg' x hx y hy
      replace hg' : (st.groups ++ [g])[i]? = some g' := hg'
      show ∃ (j : Nat) (g'' : List Nat), j ≤ i ∧ (st.groups ++ [g])[j]? = some g'' ∧ y ∈ g''
      rcases Nat.lt_or_ge i st.groups.length with hi | hi
      · rw [List.getElem?_append_left hi] at hg'
        obtain ⟨j, g'', hj, hg'', hyg⟩ := h.inv.top i g' hg' x hx y hy
        exact ⟨j, g'', hj, by rw [List.getElem?_append_left (by omega)]; exact hg'', hyg⟩
      · rw [List.getElem?_append_right hi] at hg'
        have hi0 : i - st.groups.length = 0 := by
          have := (List.getElem?_eq_some_iff.1 hg').1
          simp at this; exact this
        rw [hi0] at hg'
        simp at hg'
        subst hg'
        have h1 := hedge x ((hgm x).1 hx) y hy
        by_cases hs : y ∈ st.stack
        · exact ⟨st.groups.length, g, hi, by simp, (hgm y).2 (h1.2 hs)⟩
        · obtain ⟨g'', hg'', hyg⟩ := (h.inv.grp y).2 ⟨h1.1, hs⟩
          obtain ⟨j, hj, rfl⟩ := List.getElem_of_mem hg''
          exact ⟨j, _, by omega, by rw [List.getElem?_append_left hj]; exact List.getElem?_eq_getElem hj, hyg⟩
    · intro g' hg' x hx y hy
      replace hg' : g' ∈ st.groups ++ [g] := hg'
      rw [List.mem_append, List.mem_singleton] at hg'
      rcases hg' with hg' | hg'
      · exact h.inv.scc g' hg' x hx y hy
      · subst hg'
        exact (hback _ x (Nat.le_refl _) ((hgm x).1 hx)).trans (hforth y ((hgm y).1 hy))
    · intro g' hg'
      replace hg' : g' ∈ st.groups ++ [g] := hg'
      rw [List.mem_append, List.mem_singleton] at hg'
      rcases hg' with hg' | hg'
      · exact h.inv.gne g' hg'
      · subst hg'
        refine ⟨fun hn => ?_, hgs⟩
        have := hg.length_eq
        rw [hn] at this; simp at this
  refine ⟨hinv, h.old, ⟨[], by show st0.stack = _; simp, .inl rfl, fun x hx => by simp at hx⟩, h.new, h.reach, Nat.le_of_eq he, fun _ => he, h.nxt, h.late⟩
end Go.Proofs.Ytibnnhdpaccpfaa
