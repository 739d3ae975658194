/-
  THE PLAIN LAW OF ExecOne: what was executed is a beginning of the line; lines of parts of one tourney are beginnings of one another.
-/
import Derived.Test.YtibnnhdpaccpfaaAwake
namespace Go.Proofs.Ytibnnhdpaccpfaa

theorem prefix_two {R : Dot → Dot → Prop} : ∀ {D1 D2 : List Dot}, D1.Nodup → D2.Nodup → (∀ a b, (a ∈ D1 ∨ a ∈ D2) → (b ∈ D1 ∨ b ∈ D2) → R a b → ¬ R b a) → (∀ a b, (a ∈ D1 ∨ a ∈ D2) → (b ∈ D1 ∨ b ∈ D2) → a ≠ b → R a b ∨ R b a) → D1.Pairwise R → D2.Pairwise R →
    (∀ b ∈ D1, ∀ a, (a ∈ D1 ∨ a ∈ D2) → R a b → a ∈ D1) → (∀ b ∈ D2, ∀ a, (a ∈ D1 ∨ a ∈ D2) → R a b → a ∈ D2) → D1 <+: D2 ∨ D2 <+: D1
  | [], D2, _, _, _, _, _, _, _, _ => .inl List.nil_prefix
  | x :: D1, [], _, _, _, _, _, _, _, _ => .inr List.nil_prefix
  | x :: D1, y :: D2, n1, n2, has, htot, p1, p2, c1, c2 => by
    have n1' := List.nodup_cons.1 n1
    have n2' := List.nodup_cons.1 n2
    have p1' := List.pairwise_cons.1 p1
    have p2' := List.pairwise_cons.1 p2
    have hx : x ∈ x :: D1 := List.mem_cons_self
    have hy : y ∈ y :: D2 := List.mem_cons_self
    have hxy : x = y := Classical.byContradiction fun hne => by
      rcases htot x y (.inl hx) (.inr hy) hne with h | h
      · rcases List.mem_cons.1 (c2 y hy x (.inl hx) h) with h2 | h2
        · exact hne h2
        · exact has x y (.inl hx) (.inr hy) h (p2'.1 x h2)
      · rcases List.mem_cons.1 (c1 x hx y (.inr hy) h) with h2 | h2
        · exact hne h2.symm
        · exact has y x (.inr hy) (.inl hx) h (p1'.1 y h2)
    subst hxy
    have up : ∀ {a}, (a ∈ D1 ∨ a ∈ D2) → (a ∈ x :: D1 ∨ a ∈ x :: D2) := fun h => h.imp (List.mem_cons_of_mem _) (List.mem_cons_of_mem _)
    have hne : ∀ {a}, (a ∈ D1 ∨ a ∈ D2) → a ≠ x := fun h he => h.elim (fun h => n1'.1 (he ▸ h)) (fun h => n2'.1 (he ▸ h))
    have := prefix_two n1'.2 n2'.2 (fun a b ha hb => has a b (up ha) (up hb)) (fun a b ha hb => htot a b (up ha) (up hb)) p1'.2 p2'.2
      (fun b hb a ha hab => (List.mem_cons.1 (c1 b (List.mem_cons_of_mem _ hb) a (up ha) hab)).resolve_left (hne ha))
      (fun b hb a ha hab => (List.mem_cons.1 (c2 b (List.mem_cons_of_mem _ hb) a (up ha) hab)).resolve_left (hne ha))
    simpa [List.prefix_cons_inj] using this

theorem dlt_total {l : List Inst} {a b : Dot} (ha : ∃ x ∈ l, x.dot = a) (hb : ∃ x ∈ l, x.dot = b) (hne : a ≠ b) : dlt l a b ∨ dlt l b a := by
  obtain ⟨x, hx, rfl⟩ := ha
  obtain ⟨y, hy, rfl⟩ := hb
  rcases Inst.lt_total hne with h | h
  · exact .inl ⟨x, hx, y, hy, rfl, rfl, h⟩
  · exact .inr ⟨y, hy, x, hx, rfl, rfl, h⟩
theorem LineSpec.aheadUp {l l' K : List Inst} {D : List Dot} (h : LineSpec l K D) (hnd : NodupDots l') (hs : ∀ x ∈ l, x ∈ l') : D.Pairwise (Ahead l') := by
  refine List.Pairwise.imp_of_mem ?_ h.ahead
  intro a b ha hb hab
  have hwa := (h.mem a).1 ha
  rcases hab with ⟨r1, r2, x, hx, y, hy, h1, h2, h3⟩ | hab
  · exact .inl ⟨r1.up hs, r2.up hs, x, hs x hx, y, hs y hy, h1, h2, h3⟩
  · exact .inr fun hc => hab (hc.within hnd hs h.kept.sub h.kept.closed hwa)
theorem LineSpec.compare {l l1 l2 K1 K2 : List Inst} {D1 D2 : List Dot} (h1 : LineSpec l1 K1 D1) (h2 : LineSpec l2 K2 D2) (hnd : NodupDots l) (ht : Tourney l) (s1 : ∀ x ∈ l1, x ∈ l) (s2 : ∀ x ∈ l2, x ∈ l) : D1 <+: D2 ∨ D2 <+: D1 := by
  have hin : ∀ a, (a ∈ D1 ∨ a ∈ D2) → ∃ x ∈ l, x.dot = a := fun a ha => by
    rcases ha with ha | ha
    · obtain ⟨x, hx, he⟩ := (h1.mem a).1 ha
      exact ⟨x, s1 x (h1.kept.sub x hx), he⟩
    · obtain ⟨x, hx, he⟩ := (h2.mem a).1 ha
      exact ⟨x, s2 x (h2.kept.sub x hx), he⟩
  have key : ∀ a b, (∃ x ∈ l, x.dot = a) → (∃ x ∈ l, x.dot = b) → a ≠ b → DReach l a b ∨ DReach l b a := by
    rintro a b ⟨x, hx, rfl⟩ ⟨y, hy, rfl⟩ hne
    rcases ht x hx y hy (fun he => hne (by rw [he])) with h3 | h3
    · exact .inl (.one hx h3)
    · exact .inr (.one hy h3)
  have back : ∀ a b, (∃ x ∈ l, x.dot = a) → (∃ x ∈ l, x.dot = b) → Ahead l a b → DReach l b a := by
    intro a b ha hb h
    rcases h with ⟨_, r2, _⟩ | h
    · exact r2
    · by_cases he : a = b
      · subst he; exact .refl _
      · exact (key a b ha hb he).resolve_left h
  refine prefix_two (R := Ahead l) h1.nodup h2.nodup (fun a b ha hb hab hba => ?_) (fun a b ha hb hne => ?_) (h1.aheadUp hnd s1) (h2.aheadUp hnd s2) (fun b hb a ha hab => ?_) (fun b hb a ha hab => ?_)
  · rcases hab with ⟨r1, r2, l1⟩ | hab
    · rcases hba with ⟨_, _, l2⟩ | hba
      · exact dlt_asymm hnd l1 l2
      · exact hba r2
    · rcases hba with ⟨r1, r2, _⟩ | hba
      · exact hab r2
      · by_cases he : a = b
        · subst he; exact hab (.refl _)
        · exact (key a b (hin a ha) (hin b hb) he).elim hab hba
  · by_cases r1 : DReach l a b
    · by_cases r2 : DReach l b a
      · rcases dlt_total (hin a ha) (hin b hb) hne with h | h
        · exact .inl (.inl ⟨r1, r2, h⟩)
        · exact .inr (.inl ⟨r2, r1, h⟩)
      · exact .inr (.inr r2)
    · exact .inl (.inr r1)
  · exact (h1.mem a).2 ((back a b (hin a ha) (hin b (.inl hb)) hab).kept hnd (fun x hx => s1 x (h1.kept.sub x hx)) h1.kept.closed ((h1.mem b).1 hb))
  · exact (h2.mem a).2 ((back a b (hin a ha) (hin b (.inr hb)) hab).kept hnd (fun x hx => s2 x (h2.kept.sub x hx)) h2.kept.closed ((h2.mem b).1 hb))

/-- what was executed is a beginning of a line of what is there -/
structure OneInv (l : List Inst) (x : XS) : Prop where
  ok : x.Ok
  sub : ∀ i ∈ x.insts, i ∈ l
  line : x.done = [] ∨ ∃ S K D, (∀ i ∈ S, i ∈ x.insts) ∧ LineSpec S K D ∧ x.done <+: D
theorem nowOf_prefix {x : XS} {D : List Dot} (hn : D.Nodup) (h : x.done <+: D) : x.done ++ nowOf x D <+: D := by
  obtain ⟨r, rfl⟩ := h
  rw [List.nodup_append] at hn
  have htw : (x.done ++ r).takeWhile (fun d => decide (d ∈ x.done) || V7.le (x.wait d) x.has) = x.done ++ r.takeWhile (fun d => decide (d ∈ x.done) || V7.le (x.wait d) x.has) := by
    refine List.takeWhile_append_of_pos fun d hd => ?_
    simp [hd]
  unfold nowOf
  rw [htw, List.filter_append]
  have h1 : x.done.filter (fun d => !decide (d ∈ x.done)) = [] := by
    rw [List.filter_eq_nil_iff]
    intro d hd
    simp [hd]
  have h2 : (r.takeWhile (fun d => decide (d ∈ x.done) || V7.le (x.wait d) x.has)).filter (fun d => !decide (d ∈ x.done)) = r.takeWhile (fun d => decide (d ∈ x.done) || V7.le (x.wait d) x.has) := by
    rw [List.filter_eq_self]
    intro d hd
    have := (List.takeWhile_sublist _).subset hd
    simp only [Bool.not_eq_true', decide_eq_false_iff_not]
    exact fun hc => hn.2.2 d hc d this rfl
  rw [h1, h2, List.nil_append]
  exact (List.prefix_append_right_inj _).2 (List.takeWhile_prefix _)
theorem OneInv.start (l : List Inst) : OneInv l XS.new := ⟨⟨by decide, by simp [XS.new], by simp [XS.new], by simp [XS.new]⟩, by simp [XS.new, XS.insts], .inl rfl⟩
theorem OneInv.run {l : List Inst} {x : XS} (h : OneInv l x) (hnd : NodupDots l) (ht : Tourney l) (v : V7) {D : List Dot} (hD : LineOf x.insts D) : OneInv l ((x.setHas v).run D) := by
  obtain ⟨K, hs⟩ := LineOf.spec h.ok.good hD
  refine ⟨(h.ok.setHas v).run hD, h.sub, .inr ⟨x.insts, K, D, fun i hi => hi, hs, ?_⟩⟩
  refine nowOf_prefix (x := x.setHas v) hs.nodup ?_
  show x.done <+: D
  rcases h.line with h0 | ⟨S, K', D', hS, hl, hp⟩
  · rw [h0]; exact List.nil_prefix
  · have hndx : NodupDots x.insts := (goodL_spec h.ok.good).2.1
    have htx : Tourney x.insts := fun a ha b hb hne => ht a (h.sub a ha) b (h.sub b hb) hne
    exact hp.trans (hl.prefix_of hs hndx htx hS)
theorem OneInv.commit {l : List Inst} {x : XS} (h : OneInv l x) {i : Inst} (hi : i ∈ l) (v : V7) (b : Value) (bs : List UInt8) : OneInv l (x.commit i v b bs) := by
  have hok := h.ok.commit i v b bs
  unfold XS.commit at hok ⊢
  by_cases h0 : commitErr x i v bs.length = 0
  · rw [if_pos h0] at hok ⊢
    have hins : ({ x with coms := x.coms ++ [⟨i, v, b, bs⟩] } : XS).insts = x.insts ++ [i] := by simp [XS.insts]
    refine ⟨hok, fun j hj => ?_, h.line.imp id fun ⟨S, K, D, hS, hl, hp⟩ => ⟨S, K, D, fun j hj => by rw [hins]; exact List.mem_append.2 (.inl (hS j hj)), hl, hp⟩⟩
    rw [hins] at hj
    rcases List.mem_append.1 hj with hj | hj
    · exact h.sub j hj
    · rw [List.mem_singleton.1 hj]; exact hi
  · rw [if_neg h0] at hok ⊢
    exact ⟨hok, h.sub, h.line⟩
theorem OneInv.same {l : List Inst} {x y : XS} (hx : OneInv l x) (hy : OneInv l y) (hnd : NodupDots l) (ht : Tourney l) {n : Nat} (h1 : n ≤ x.done.length) (h2 : n ≤ y.done.length) : x.done.take n = y.done.take n := by
  have key : ∀ {a b c : List Dot}, a <+: c → b <+: c → n ≤ a.length → n ≤ b.length → a.take n = b.take n := by
    rintro a b c ⟨r, rfl⟩ ⟨s, hs⟩ h1 h2
    have h3 := congrArg (List.take n) hs
    rw [List.take_append_of_le_length h2, List.take_append_of_le_length h1] at h3
    exact h3.symm
  rcases hx.line with h0 | ⟨S, K, D, hS, hl, hp⟩
  · rw [h0] at h1; simp at h1; subst h1; simp
  · rcases hy.line with h0 | ⟨S', K', D', hS', hl', hp'⟩
    · rw [h0] at h2; simp at h2; subst h2; simp
    · rcases hl.compare hl' hnd ht (fun i hi => hx.sub i (hS i hi)) (fun i hi => hy.sub i (hS' i hi)) with hc | hc
      · exact key (hp.trans hc) hp' h1 h2
      · exact key hp (hp'.trans hc) h1 h2
end Go.Proofs.Ytibnnhdpaccpfaa
