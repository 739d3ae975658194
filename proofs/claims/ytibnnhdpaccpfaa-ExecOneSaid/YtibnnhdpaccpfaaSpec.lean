/-
  THE PLAIN LAW OF 'Line': what is kept, and in which order it comes.
-/
import Derived.Test.YtibnnhdpaccpfaaLineLaw
namespace Go.Proofs.Ytibnnhdpaccpfaa

theorem mem_dotsOf {x : Inst} {r k : Nat} {d : Dot} : d ∈ dotsOf x r k ↔ d ≠ x.dot ∧ d.1 = (r : Int) ∧ 1 ≤ d.2 ∧ d.2 ≤ (k : Int) := by
  unfold dotsOf
  rw [List.mem_filterMap]
  constructor
  · rintro ⟨j, hj, he⟩
    have := List.mem_range.1 hj
    split at he
    · cases he
    · rename_i hne
      simp only [Option.some.injEq] at he
      subst he
      exact ⟨hne, rfl, by simp; omega, by simp; omega⟩
  · rintro ⟨h1, h2, h3, h4⟩
    have he : ((r : Int), ((d.2.toNat - 1 : Nat) : Int) + 1) = d := by
      obtain ⟨a, b⟩ := d
      simp only [Prod.mk.injEq] at *
      exact ⟨h2.symm, by omega⟩
    refine ⟨d.2.toNat - 1, List.mem_range.2 (by omega), ?_⟩
    rw [he, if_neg h1]
theorem mem_depDots {x : Inst} {d : Dot} : d ∈ x.depDots ↔ d ≠ x.dot ∧ 0 ≤ d.1 ∧ d.1 < 7 ∧ 1 ≤ d.2 ∧ d.2 ≤ x.deps.get d.1.toNat := by
  unfold Inst.depDots depsTo
  rw [List.mem_append, List.mem_flatMap]
  constructor
  · rintro (⟨r, hr, hd⟩ | hd)
    · have h1 := List.mem_range.1 hr
      obtain ⟨h2, h3, h4, h5⟩ := mem_dotsOf.1 hd
      unfold Inst.depNat at h5
      have h6 : d.1.toNat = r := by omega
      rw [h6]
      exact ⟨h2, by omega, by omega, h4, by omega⟩
    · obtain ⟨_, _, h4, h5⟩ := mem_dotsOf.1 hd
      exfalso
      simp at h5
      omega
  · rintro ⟨h1, h2, h3, h4, h5⟩
    refine .inl ⟨d.1.toNat, List.mem_range.2 (by omega), mem_dotsOf.2 ⟨h1, by omega, h4, ?_⟩⟩
    unfold Inst.depNat
    omega

/-- whoever comes after another through what they hang on -/
inductive DReach (l : List Inst) : Dot → Dot → Prop
  | refl (d : Dot) : DReach l d d
  | step {a d e : Dot} (x : Inst) : x ∈ l → x.dot = a → d ∈ x.depDots → DReach l d e → DReach l a e
theorem DReach.trans {l : List Inst} {a b c : Dot} (h : DReach l a b) (k : DReach l b c) : DReach l a c := by
  induction h with
  | refl => exact k
  | step x h1 h2 h3 _ ih => exact .step x h1 h2 h3 (ih k)
theorem DReach.one {l : List Inst} {x : Inst} {d : Dot} (hx : x ∈ l) (hd : d ∈ x.depDots) : DReach l x.dot d := .step x hx rfl hd (.refl _)

def ClosedI (C : List Inst) : Prop := ∀ x ∈ C, ∀ d ∈ x.depDots, ∃ y ∈ C, y.dot = d
structure KeptOf (l K : List Inst) : Prop where
  sub : ∀ x ∈ K, x ∈ l
  closed : ClosedI K
  most : ∀ C : List Inst, (∀ x ∈ C, x ∈ l) → ClosedI C → ∀ x ∈ C, x ∈ K
theorem nodup_dot {l : List Inst} (h : NodupDots l) {x y : Inst} (hx : x ∈ l) (hy : y ∈ l) (he : x.dot = y.dot) : x = y := by
  obtain ⟨i, hi, rfl⟩ := List.getElem_of_mem hx
  obtain ⟨j, hj, rfl⟩ := List.getElem_of_mem hy
  have := nodup_idx h hi hj he
  subst this
  rfl
theorem KeptOf.mono {l l' K K' : List Inst} (h : KeptOf l K) (h' : KeptOf l' K') (hs : ∀ x ∈ l, x ∈ l') : ∀ x ∈ K, x ∈ K' :=
  h'.most K (fun x hx => hs x (h.sub x hx)) h.closed
/-- what is kept stays within what is kept -/
theorem DReach.kept {l K : List Inst} (hnd : NodupDots l) (hs : ∀ x ∈ K, x ∈ l) (hc : ClosedI K) {a b : Dot} (h : DReach l a b) : (∃ x ∈ K, x.dot = a) → ∃ y ∈ K, y.dot = b := by
  induction h with
  | refl => exact id
  | step x h1 h2 h3 _ ih =>
    rintro ⟨y, hy, he⟩
    have : x = y := nodup_dot hnd h1 (hs y hy) (h2.trans he.symm)
    subst this
    exact ih (hc x hy _ h3)

def dlt (l : List Inst) (a b : Dot) : Prop := ∃ x ∈ l, ∃ y ∈ l, x.dot = a ∧ y.dot = b ∧ x.lt y = true
theorem dlt_asymm {l : List Inst} (hnd : NodupDots l) {a b : Dot} (h : dlt l a b) (k : dlt l b a) : False := by
  obtain ⟨x, hx, y, hy, ha, hb, h1⟩ := h
  obtain ⟨y', hy', x', hx', hb', ha', h2⟩ := k
  have e1 : x = x' := nodup_dot hnd hx hx' (ha.trans ha'.symm)
  have e2 : y = y' := nodup_dot hnd hy hy' (hb.trans hb'.symm)
  subst e1 e2
  rw [Inst.lt_asymm h1] at h2; cases h2
def Ahead (l : List Inst) (a b : Dot) : Prop := (DReach l a b ∧ DReach l b a ∧ dlt l a b) ∨ ¬ DReach l a b
/-- what Line tells -/
structure LineSpec (l K : List Inst) (D : List Dot) : Prop where
  kept : KeptOf l K
  nodup : D.Nodup
  mem : ∀ d, d ∈ D ↔ ∃ x ∈ K, x.dot = d
  ahead : D.Pairwise (Ahead l)

/-- each two hang together, one way at least -/
def Tourney (l : List Inst) : Prop := ∀ x ∈ l, ∀ y ∈ l, x ≠ y → y.dot ∈ x.depDots ∨ x.dot ∈ y.depDots
theorem prefix_of {R : Dot → Dot → Prop} : ∀ {D1 D2 : List Dot}, D1.Nodup → D2.Nodup → (∀ a ∈ D2, ∀ b ∈ D2, R a b → ¬ R b a) → D1.Pairwise R → D2.Pairwise R → (∀ a ∈ D1, a ∈ D2) → (∀ b ∈ D1, ∀ a ∈ D2, R a b → a ∈ D1) → D1 <+: D2
  | [], D2, _, _, _, _, _, _, _ => List.nil_prefix
  | x :: D1, [], _, _, _, _, _, hs, _ => by simpa using hs x List.mem_cons_self
  | x :: D1, y :: D2, n1, n2, has, p1, p2, hs, hd => by
    have n1' := List.nodup_cons.1 n1
    have n2' := List.nodup_cons.1 n2
    have p1' := List.pairwise_cons.1 p1
    have p2' := List.pairwise_cons.1 p2
    have hxy : x = y := by
      rcases List.mem_cons.1 (hs x List.mem_cons_self) with h | h
      · exact h
      · have h1 := p2'.1 x h
        rcases List.mem_cons.1 (hd x List.mem_cons_self y List.mem_cons_self h1) with h2 | h2
        · exact h2.symm
        · exact absurd (p1'.1 y h2) (has y List.mem_cons_self x (List.mem_cons_of_mem _ h) h1)
    subst hxy
    rw [List.prefix_cons_inj]
    refine prefix_of n1'.2 n2'.2 (fun a ha b hb => has a (List.mem_cons_of_mem _ ha) b (List.mem_cons_of_mem _ hb)) p1'.2 p2'.2 (fun a ha => ?_) (fun b hb a ha hab => ?_)
    · rcases List.mem_cons.1 (hs a (List.mem_cons_of_mem _ ha)) with h | h
      · exact absurd (h ▸ ha) n1'.1
      · exact h
    · rcases List.mem_cons.1 (hd b (List.mem_cons_of_mem _ hb) a (List.mem_cons_of_mem _ ha) hab) with h | h
      · exact absurd (h ▸ ha) n2'.1
      · exact h

/-- along two closed parts the ways are the same -/
theorem DReach.within {l m K : List Inst} (hnd : NodupDots l) (hm : ∀ x ∈ m, x ∈ l) (hs : ∀ x ∈ K, x ∈ m) (hc : ClosedI K) {a b : Dot} (h : DReach l a b) : (∃ x ∈ K, x.dot = a) → DReach m a b := by
  induction h with
  | refl => exact fun _ => .refl _
  | step x h1 h2 h3 _ ih =>
    rintro ⟨y, hy, he⟩
    have : x = y := nodup_dot hnd h1 (hm y (hs y hy)) (h2.trans he.symm)
    subst this
    exact .step x (hs x hy) h2 h3 (ih (hc x hy _ h3))
theorem DReach.up {l m : List Inst} (hm : ∀ x ∈ m, x ∈ l) {a b : Dot} (h : DReach m a b) : DReach l a b := by
  induction h with
  | refl => exact .refl _
  | step x h1 h2 h3 _ ih => exact .step x (hm x h1) h2 h3 ih

/-- the line of a part is a beginning of the line of the whole, where each two hang together -/
theorem LineSpec.prefix_of {l l' K K' : List Inst} {D D' : List Dot} (h : LineSpec l K D) (h' : LineSpec l' K' D') (hnd : NodupDots l') (ht : Tourney l') (hs : ∀ x ∈ l, x ∈ l') : D <+: D' := by
  have hKK := h.kept.mono h'.kept hs
  have asym : ∀ a ∈ D', ∀ b ∈ D', Ahead l' a b → ¬ Ahead l' b a := by
    intro a ha b hb h1 h2
    have key : a ≠ b → DReach l' a b ∨ DReach l' b a := fun hne => by
      obtain ⟨x, hx, rfl⟩ := (h'.mem a).1 ha
      obtain ⟨y, hy, rfl⟩ := (h'.mem b).1 hb
      rcases ht x (h'.kept.sub x hx) y (h'.kept.sub y hy) (fun he => hne (by rw [he])) with h3 | h3
      · exact .inl (.one (h'.kept.sub x hx) h3)
      · exact .inr (.one (h'.kept.sub y hy) h3)
    rcases h1 with ⟨r1, r2, l1⟩ | h1
    · rcases h2 with ⟨_, _, l2⟩ | h2
      · exact dlt_asymm hnd l1 l2
      · exact h2 r2
    · rcases h2 with ⟨r1, r2, _⟩ | h2
      · exact h1 r2
      · by_cases he : a = b
        · subst he; exact h1 (.refl _)
        · exact (key he).elim h1 h2
  refine Go.Proofs.Ytibnnhdpaccpfaa.prefix_of (R := Ahead l') h.nodup h'.nodup asym ?_ h'.ahead (fun a ha => ?_) (fun b hb a ha hab => ?_)
  · refine List.Pairwise.imp_of_mem ?_ h.ahead
    intro a b ha hb hab
    have hwa := (h.mem a).1 ha
    rcases hab with ⟨r1, r2, x, hx, y, hy, h1, h2, h3⟩ | hab
    · exact .inl ⟨r1.up hs, r2.up hs, x, hs x hx, y, hs y hy, h1, h2, h3⟩
    · exact .inr fun hc => hab (hc.within hnd hs h.kept.sub h.kept.closed hwa)
  · obtain ⟨x, hx, rfl⟩ := (h.mem a).1 ha
    exact (h'.mem _).2 ⟨x, hKK x hx, rfl⟩
  · have hba : DReach l' b a := by
      rcases hab with ⟨_, r2, _⟩ | hab
      · exact r2
      · by_cases he : a = b
        · subst he; exact .refl _
        · obtain ⟨x, hx, rfl⟩ := (h'.mem a).1 ha
          obtain ⟨y, hy, rfl⟩ := (h.mem b).1 hb
          have hy' := hKK y hy
          rcases ht x (h'.kept.sub x hx) y (h'.kept.sub y hy') (fun h => he (by rw [h])) with h3 | h3
          · exact absurd (.one (h'.kept.sub x hx) h3) hab
          · exact .one (h'.kept.sub y hy') h3
    exact (h.mem a).2 (hba.kept hnd (fun x hx => hs x (h.kept.sub x hx)) h.kept.closed ((h.mem b).1 hb))

theorem edge_iff {K : List Inst} (hnd : NodupDots K) {i j : Nat} : Edge (onOf K) i j ↔ ∃ (hi : i < K.length) (hj : j < K.length), K[j].dot ∈ K[i].depDots := by
  unfold Edge
  constructor
  · intro h
    have hj := onAt_lt K i j h
    cases hg : (onOf K)[i]? with
    | none => rw [hg] at h; simp at h
    | some r =>
      have hi : i < K.length := by have := (List.getElem?_eq_some_iff.1 hg).1; rwa [onOf_len] at this
      have h1 : j ∈ onAt K i := h
      rw [onAt_get K i hi] at h1
      obtain ⟨d, hd, hp⟩ := List.mem_filterMap.1 h1
      obtain ⟨hk, he⟩ := posOf_some hp
      exact ⟨hi, hj, by rw [he]; exact hd⟩
  · rintro ⟨hi, hj, hd⟩
    show j ∈ onAt K i
    rw [onAt_get K i hi]
    exact List.mem_filterMap.2 ⟨_, hd, posOf_get hnd hj⟩
theorem onOf_lt (K : List Inst) : ∀ r ∈ onOf K, ∀ y ∈ r, y < (onOf K).length := by
  intro r hr y hy
  obtain ⟨i, hi, rfl⟩ := List.getElem_of_mem hr
  rw [onOf_len]
  refine onAt_lt K i y ?_
  unfold onAt
  rw [List.getElem?_eq_getElem hi]
  exact hy
theorem dreach_of {K : List Inst} (hnd : NodupDots K) {i j : Nat} (h : Reach (onOf K) i j) : ∀ (hi : i < K.length), ∃ hj : j < K.length, DReach K K[i].dot K[j].dot := by
  induction h with
  | refl x => exact fun hi => ⟨hi, .refl _⟩
  | step e _ ih =>
    intro hi
    obtain ⟨_, hy, hd⟩ := (edge_iff hnd).1 e
    obtain ⟨hj, hr⟩ := ih hy
    exact ⟨hj, .step _ (List.getElem_mem hi) rfl hd hr⟩
theorem reach_of {K : List Inst} (hnd : NodupDots K) (hc : ClosedI K) {a b : Dot} (h : DReach K a b) : ∀ (i : Nat) (hi : i < K.length), K[i].dot = a → ∃ (j : Nat) (hj : j < K.length), K[j].dot = b ∧ Reach (onOf K) i j := by
  induction h with
  | refl d => exact fun i hi he => ⟨i, hi, he, .refl _⟩
  | step x h1 h2 h3 _ ih =>
    intro i hi he
    have hx : x = K[i] := nodup_dot hnd h1 (List.getElem_mem hi) (h2.trans he.symm)
    subst hx
    obtain ⟨y, hy, hd⟩ := hc _ (List.getElem_mem hi) _ h3
    obtain ⟨k, hk, rfl⟩ := List.getElem_of_mem hy
    obtain ⟨j, hj, hb, hr⟩ := ih k hk hd
    exact ⟨j, hj, hb, .step ((edge_iff hnd).2 ⟨hi, hk, by rw [hd]; exact h3⟩) hr⟩

/-- what is told keeps together -/
theorem Told.reach {on A : List (List Nat)} (hS : Sorted on A) (hon : ∀ r ∈ on, ∀ y ∈ r, y < on.length) {T : List Nat} (hT : Told on A T) {x y : Nat} (h : Reach on x y) : (∃ g ∈ T, x ∈ A[g]?.getD []) → ∃ g ∈ T, y ∈ A[g]?.getD [] := by
  induction h with
  | refl => exact id
  | @step x z _ e _ ih =>
    rintro ⟨g, hg, hx⟩
    refine ih ?_
    have hz : z < on.length := by
      unfold Edge at e
      cases hr : on[x]? with
      | none => rw [hr] at e; simp at e
      | some r => rw [hr] at e; exact hon r (List.mem_of_getElem? hr) z e
    obtain ⟨c, hc, hzc⟩ := (hS.all z).1 hz
    obtain ⟨k, hk, he⟩ := List.getElem_of_mem hc
    have hka : A[k]?.getD [] = c := by rw [List.getElem?_eq_getElem hk, he]; rfl
    by_cases hkg : k = g
    · exact ⟨g, hg, by rw [← hkg, hka]; exact hzc⟩
    · exact ⟨k, hT.closed g hg k ⟨hkg, x, hx, z, e, by rw [hka]; exact hzc⟩, by rw [hka]; exact hzc⟩
theorem getD_some {A : List (List Nat)} {g x : Nat} (h : x ∈ A[g]?.getD []) : ∃ a, A[g]? = some a ∧ x ∈ a := by
  cases hg : A[g]? with
  | none => rw [hg] at h; simp at h
  | some a => rw [hg] at h; exact ⟨a, rfl, h⟩
theorem Told.ahead {on A : List (List Nat)} (hS : Sorted on A) (hon : ∀ r ∈ on, ∀ y ∈ r, y < on.length) {T : List Nat} (hT : Told on A T) : T.Pairwise fun g k => ∀ x ∈ A[g]?.getD [], ∀ y ∈ A[k]?.getD [], ¬ Reach on x y := by
  induction hT with
  | nil => exact List.Pairwise.nil
  | snoc hT hn ih =>
    rw [List.pairwise_append]
    refine ⟨ih, by simp, fun a ha b hb x hx y hy hr => ?_⟩
    rw [List.mem_singleton.1 hb] at hy
    obtain ⟨c, hc, hyc⟩ := hT.reach hS hon hr ⟨a, ha, hx⟩
    obtain ⟨p, hp, hyp⟩ := getD_some hy
    obtain ⟨q, hq, hyq⟩ := getD_some hyc
    have := hS.one hp hq hyp hyq
    exact hn.new (this ▸ hc)
/-- how the places follow one another -/
theorem lineOut_pairs {on A : List (List Nat)} (hS : Sorted on A) (hon : ∀ r ∈ on, ∀ y ∈ r, y < on.length) {T : List Nat} (hT : Told on A T) :
    (lineOut A T).Pairwise fun x y => (Reach on x y ∧ Reach on y x ∧ x < y) ∨ ¬ Reach on x y := by
  unfold lineOut
  rw [List.pairwise_flatMap]
  obtain ⟨G, hG, hp⟩ := hS.some
  refine ⟨fun g hg => ?_, (hT.ahead hS hon).imp fun h x hx y hy => .inr (h x hx y hy)⟩
  cases ha : A[g]? with
  | none => simp
  | some a =>
    have hm : a ∈ G := hp.mem_iff.1 (List.mem_of_getElem? ha)
    refine List.Pairwise.imp_of_mem ?_ (hG.gne a hm).2
    intro x y hx hy hlt
    exact .inl ⟨hG.scc a hm x hx y hy, hG.scc a hm y hy x hx, hlt⟩
theorem lineOut_mem {on A : List (List Nat)} (hS : Sorted on A) {T : List Nat} (hT : Told on A T) (hl : T.length = A.length) {x : Nat} : x ∈ lineOut A T ↔ x < on.length := by
  refine ⟨fun h => lineOut_lt hS T x h, fun h => ?_⟩
  obtain ⟨a, ha, hx⟩ := (hS.all x).1 h
  obtain ⟨k, hk, he⟩ := List.getElem_of_mem ha
  have hkT : k ∈ T := by
    refine Classical.byContradiction fun hc => ?_
    have h1 : (k :: T).Nodup := List.nodup_cons.2 ⟨hc, hT.nodup⟩
    have h2 := nodup_len A.length (k :: T) h1 (fun y hy => by
      rcases List.mem_cons.1 hy with h | h
      · rw [h]; exact hk
      · exact hT.lt y h)
    simp at h2; omega
  exact List.mem_flatMap.2 ⟨k, hkT, by rw [List.getElem?_eq_getElem hk, he]; exact hx⟩
theorem lineOut_nodup {on A : List (List Nat)} (hS : Sorted on A) {T : List Nat} (hT : Told on A T) : (lineOut A T).Nodup := by
  unfold lineOut List.Nodup
  rw [List.pairwise_flatMap]
  refine ⟨fun g _ => ?_, hT.nodup.imp fun hne x hx y hy he => ?_⟩
  · cases ha : A[g]? with
    | none => simp
    | some a => exact (List.pairwise_flatten.1 hS.nd).1 a (List.mem_of_getElem? ha)
  · subst he
    obtain ⟨p, hp, hxp⟩ := getD_some hx
    obtain ⟨q, hq, hxq⟩ := getD_some hy
    exact hne (hS.one hp hq hxp hxq)

/-- the line of what is kept -/
theorem line_spec {l K : List Inst} {A : List (List Nat)} {T : List Nat} (hnd : NodupDots l) (hK : KeptOf l K) (hndK : NodupDots K) (hsort : K.Pairwise fun x y => x.lt y = true) (hS : Sorted (onOf K) A) (hT : Told (onOf K) A T) (hl : T.length = A.length) :
    LineSpec l K ((lineOut A T).filterMap fun i => (K[i]?).map Inst.dot) := by
  have hmem : ∀ {x : Nat}, x ∈ lineOut A T ↔ x < K.length := fun {x} => by rw [lineOut_mem hS hT hl, onOf_len]
  refine ⟨hK, ?_, fun d => ?_, ?_⟩
  · unfold List.Nodup
    rw [List.pairwise_filterMap]
    refine (lineOut_nodup hS hT).imp fun hne d hd e he hde => ?_
    subst hde
    obtain ⟨x, hx, rfl⟩ := Option.map_eq_some_iff.1 hd
    obtain ⟨y, hy, he⟩ := Option.map_eq_some_iff.1 he
    obtain ⟨hi, rfl⟩ := List.getElem?_eq_some_iff.1 hx
    obtain ⟨hj, rfl⟩ := List.getElem?_eq_some_iff.1 hy
    exact hne (nodup_idx hndK hi hj he.symm)
  · rw [List.mem_filterMap]
    constructor
    · rintro ⟨i, _, he⟩
      obtain ⟨x, hx, rfl⟩ := Option.map_eq_some_iff.1 he
      exact ⟨x, List.mem_of_getElem? hx, rfl⟩
    · rintro ⟨x, hx, rfl⟩
      obtain ⟨i, hi, rfl⟩ := List.getElem_of_mem hx
      exact ⟨i, hmem.2 hi, by rw [List.getElem?_eq_getElem hi]; rfl⟩
  · rw [List.pairwise_filterMap]
    refine (lineOut_pairs hS (onOf_lt K) hT).imp fun {i j} h d hd e he => ?_
    obtain ⟨x, hx, rfl⟩ := Option.map_eq_some_iff.1 hd
    obtain ⟨y, hy, rfl⟩ := Option.map_eq_some_iff.1 he
    obtain ⟨hi, rfl⟩ := List.getElem?_eq_some_iff.1 hx
    obtain ⟨hj, rfl⟩ := List.getElem?_eq_some_iff.1 hy
    rcases h with ⟨r1, r2, hlt⟩ | h
    · obtain ⟨_, d1⟩ := dreach_of hndK r1 hi
      obtain ⟨_, d2⟩ := dreach_of hndK r2 hj
      exact .inl ⟨d1.up hK.sub, d2.up hK.sub, K[i], hK.sub _ (List.getElem_mem hi), K[j], hK.sub _ (List.getElem_mem hj), rfl, rfl, List.pairwise_iff_getElem.1 hsort i j hi hj hlt⟩
    · refine .inr fun hc => h ?_
      obtain ⟨j', hj', he, hr⟩ := reach_of hndK hK.closed (hc.within hnd hK.sub (fun x hx => hx) hK.closed ⟨_, List.getElem_mem hi, rfl⟩) i hi rfl
      rw [nodup_idx hndK hj' hj he] at hr
      exact hr
/-- what 'kept' keeps is what is kept -/
theorem kept_of {l s : List Inst} {P : Dot → Bool} {L : List Bool} (hnd : NodupDots l) (hs : IsSorted l s) (hP : ∀ x ∈ l, ∀ d ∈ x.depDots, P d = false) (h : KeptSet s P L) : KeptOf l (keepBy s L s.length) := by
  have hnds : NodupDots s := hnd.perm hs.1
  have hmem : ∀ x, x ∈ keepBy s L s.length ↔ ∃ i, ∃ hi : i < s.length, L[i]? ≠ some true ∧ s[i] = x := fun x => by
    unfold keepBy
    rw [List.mem_filterMap]
    constructor
    · rintro ⟨i, hi, he⟩
      split at he
      · cases he
      · rename_i hn
        obtain ⟨h1, h2⟩ := List.getElem?_eq_some_iff.1 he
        exact ⟨i, h1, hn, h2⟩
    · rintro ⟨i, hi, hn, rfl⟩
      exact ⟨i, List.mem_range.2 hi, by rw [if_neg hn, List.getElem?_eq_getElem hi]⟩
  have hthere : ∀ (i : Nat) (hi : i < s.length), lacks0 s P i ↔ ∃ d ∈ s[i].depDots, posOf s d = none := fun i hi => by
    unfold lacks0
    constructor
    · rintro ⟨_, hf⟩
      obtain ⟨d, hd, hn⟩ := List.all_eq_false.1 hf
      refine ⟨d, hd, ?_⟩
      unfold thereIn at hn
      cases hp : posOf s d with
      | none => rfl
      | some k => rw [hp] at hn; simp at hn
    · rintro ⟨d, hd, hn⟩
      refine ⟨hi, List.all_eq_false.2 ⟨d, hd, ?_⟩⟩
      unfold thereIn
      rw [hn, hP _ (hs.1.subset (List.getElem_mem hi)) d hd]
      simp
  refine ⟨fun x hx => ?_, fun x hx d hd => ?_, fun C hC hc x hx => ?_⟩
  · obtain ⟨i, hi, _, rfl⟩ := (hmem x).1 hx
    exact hs.1.subset (List.getElem_mem hi)
  · obtain ⟨i, hi, hn, rfl⟩ := (hmem x).1 hx
    cases hp : posOf s d with
    | none => exact absurd (h.base i ((hthere i hi).2 ⟨d, hd, hp⟩)) hn
    | some k =>
      obtain ⟨hk, he⟩ := posOf_some hp
      refine ⟨s[k], (hmem _).2 ⟨k, hk, fun hc => hn ?_, rfl⟩, he⟩
      refine h.closed i k hi ?_ hc
      rw [onAt_get s i hi]
      exact List.mem_filterMap.2 ⟨d, hd, hp⟩
  · have hxl := hs.1.symm.subset (hC x hx)
    obtain ⟨i, hi, rfl⟩ := List.getElem_of_mem hxl
    refine (hmem _).2 ⟨i, hi, fun hL => ?_, rfl⟩
    have := h.least (fun j => ∀ hj : j < s.length, s[j] ∉ C) (fun j hj hjl hjC => ?_) (fun j k hj hk hX hjl hjC => ?_) i hL hi
    · exact this hx
    · obtain ⟨d, hd, hn⟩ := (hthere j hjl).1 hj
      obtain ⟨y, hy, he⟩ := hc _ hjC d hd
      exact posOf_none hn y (hs.1.symm.subset (hC y hy)) he
    · rw [onAt_get s j hj] at hk
      obtain ⟨d, hd, hp⟩ := List.mem_filterMap.1 hk
      obtain ⟨hkl, he⟩ := posOf_some hp
      obtain ⟨y, hy, he'⟩ := hc _ hjC d hd
      have hyk : y = s[k] := nodup_dot hnds (hs.1.symm.subset (hC y hy)) (List.getElem_mem hkl) (he'.trans he.symm)
      exact hX hkl (hyk ▸ hy)
theorem keepBy_pairs {R : Inst → Inst → Prop} {s : List Inst} (L : List Bool) (k : Nat) (h : s.Pairwise R) : (keepBy s L k).Pairwise R := by
  unfold keepBy
  rw [List.pairwise_filterMap]
  refine List.pairwise_lt_range.imp fun {i j} hij x hx y hy => ?_
  split at hx
  · cases hx
  · split at hy
    · cases hy
    · obtain ⟨h1, rfl⟩ := List.getElem?_eq_some_iff.1 hx
      obtain ⟨h2, rfl⟩ := List.getElem?_eq_some_iff.1 hy
      exact List.pairwise_iff_getElem.1 h i j h1 h2 hij
end Go.Proofs.Ytibnnhdpaccpfaa
