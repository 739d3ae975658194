import Derived.Test.YtibnnhdpaccpfaaClone
namespace Go.Proofs.Ytibnnhdpaccpfaa
open Go.RowKit

/-- nil, or a slice that begins its block -/
def Sl0 (w : World) (v : Value) (n : Nat) (cs : List Value) : Prop :=
  (v = .slice none 0 0 ∧ n = 0 ∧ cs = []) ∨ ∃ b cap, v = .slice (some ⟨b, 0, none⟩) n cap ∧ n ≤ cap ∧ CellsAt w b 0 cs ∧ b < w.heap.size
theorem Sl0.sl {w : World} {v : Value} {n : Nat} {cs : List Value} (h : Sl0 w v n cs) : SlAt w v n cs := by
  rcases h with h | ⟨b, cap, hv, hn, hc, hl⟩
  · exact .inl h
  · exact .inr ⟨b, 0, cap, hv, hn, hc, fun _ => hl⟩
theorem Sl0.below {w w' : World} {v : Value} {n : Nat} {cs : List Value} (h : Sl0 w v n cs) (hb : Below w.heap.size w w') : Sl0 w' v n cs := by
  rcases h with h | ⟨b, cap, hv, hn, hc, hl⟩
  · exact .inl h
  · exact .inr ⟨b, cap, hv, hn, fun j u hj => by rw [hb.cell hl]; exact hc j u hj, Nat.lt_of_lt_of_le hl hb.size⟩
theorem SlAt.below {w w' : World} {v : Value} {n : Nat} {cs : List Value} (h : SlAt w v n cs) (hb : Below w.heap.size w w') : SlAt w' v n cs := by
  rcases h with h | ⟨b, off, cap, hv, hn, hc, hl⟩
  · exact .inl h
  · refine .inr ⟨b, off, cap, hv, hn, ?_, fun hp => Nat.lt_of_lt_of_le (hl hp) hb.size⟩
    intro j u hj
    have : b < w.heap.size := hl (by have := (List.getElem?_eq_some_iff.1 hj).1; omega)
    rw [hb.cell this]; exact hc j u hj
theorem Below.heap {B : Nat} {w w' : World} (h : Below B w w') {k : Nat} {o : Obj} (ho : w.heap[k]? = some o) (hk : k < B) : w'.heap[k]? = some o := by rw [h.block k hk]; exact ho
theorem SlAt.of_own {w : World} {base : Nat} {e : TypeId} {size n b cap : Nat} {xs : List Value} (h : w.ownsRow base e size (.slice (some ⟨b, 0, none⟩) n cap) n xs) : n ≤ cap ∧ CellsAt w b 0 xs ∧ b < w.heap.size := by
  obtain ⟨hl, h2⟩ := h
  rcases h2 with ⟨h2, _⟩ | ⟨g, cap', cur, hv, hg, hh, hnc, hcm, hcs, htk⟩
  · cases h2
  · simp only [Value.slice.injEq, Option.some.injEq, Addr.mk.injEq, true_and, and_true] at hv
    obtain ⟨rfl, rfl⟩ := hv
    refine ⟨hnc, ?_, lt_of_heap hh⟩
    intro j u hj
    rw [cell_of_heap hh, Nat.zero_add]
    have hjl := (List.getElem?_eq_some_iff.1 hj).1
    rw [← htk, List.getElem?_take, if_pos (by rw [hl] at hjl; exact hjl)] at hj
    simpa using hj
theorem heap_new2 (w : World) (a b : Obj) : ((w.alloc a).alloc b).heap[w.heap.size + 1]? = some b := by
  have := heap_alloc_new (w.alloc a) b
  rwa [World.size_alloc] at this
theorem instsCells_one (l : List Inst) : ∀ v ∈ instsCells l, v.oneCell' = true := by
  intro v hv
  obtain ⟨x, _, hx⟩ := List.mem_flatMap.1 hv
  simp only [instCells, List.mem_cons, List.not_mem_nil, or_false] at hx
  rcases hx with rfl | rfl | rfl | rfl | rfl | rfl | rfl | rfl | rfl | rfl <;> rfl
theorem below_of_mod {S : Nat → Prop} {a w w' : World} (h : Mod S w w') (hS : ∀ k, S k → a.heap.size ≤ k) (hle : a.heap.size ≤ w.heap.size) : Below a.heap.size w w' :=
  ⟨h.os, h.tape, h.output, h.size, fun k hk => h.block k (by omega) (fun s => by have := hS k s; omega)⟩
theorem Sl0.mod {S : Nat → Prop} {w w' : World} {v : Value} {n : Nat} {cs : List Value} (h : Sl0 w v n cs) (hm : Mod S w w') (hs : ∀ k, v.ownBlock = some k → ¬ S k) : Sl0 w' v n cs := by
  rcases h with h | ⟨b, cap, hv, hn, hc, hl⟩
  · exact .inl h
  · exact .inr ⟨b, cap, hv, hn, fun j u hj => by
      rw [hm.cell hl (hs b (by rw [hv]; rfl))]; exact hc j u hj, Nat.lt_of_lt_of_le hl hm.size⟩
theorem Sl0.of_own {w : World} {base : Nat} {e : TypeId} {size n : Nat} {v : Value} {xs : List Value} (h : w.ownsRow base e size v n xs) (_hs : 0 < size) : Sl0 w v n xs := by
  have h' := h
  obtain ⟨hl, h2⟩ := h
  rcases h2 with ⟨h2, hn⟩ | ⟨g, cap', cur, hv, _⟩
  · left
    subst h2
    refine ⟨rfl, hn, ?_⟩
    subst hn
    simpa using hl
  · subst hv
    obtain ⟨h3, h4, h5⟩ := SlAt.of_own h'
    exact .inr ⟨g, cap', rfl, h3, h4, h5⟩
theorem cell_alloc {w : World} {b o : Nat} {v : Value} (h : w.cell? ⟨b, o, none⟩ = some v) (x : Obj) : (w.alloc x).cell? ⟨b, o, none⟩ = some v := by
  rw [World.cell?_alloc_lt _ _ _ (World.block_lt_of_cell? _ _ h)]; exact h
theorem cell_new (w : World) (cs : Array Value) (t : TypeId) (o : Nat) : (w.alloc (.cells cs t)).cell? ⟨w.heap.size, o, none⟩ = cs[o]? := cell_of_heap (heap_alloc_new w _) o
theorem Sl0.form {w : World} {v : Value} {n : Nat} {cs : List Value} (h : Sl0 w v n cs) : ∃ p cap, v = .slice p n cap ∧ n ≤ cap ∧ (0 < n → ∃ b, p = some ⟨b, 0, none⟩ ∧ CellsAt w b 0 cs ∧ b < w.heap.size) := by
  rcases h with ⟨rfl, rfl, _⟩ | ⟨b, cap, rfl, hn, hc, hl⟩
  · exact ⟨none, 0, rfl, Nat.le_refl _, fun h => absurd h (by omega)⟩
  · exact ⟨_, cap, rfl, hn, fun _ => ⟨b, rfl, hc, hl⟩⟩
theorem ownsRow_block {w : World} {base : Nat} {e : TypeId} {size : Nat} {v : Value} {n : Nat} {xs : List Value} (h : w.ownsRow base e size v n xs) {k : Nat} (hk : v.ownBlock = some k) : ∃ c, w.heap[k]? = some (.cells c e (0, 0)) := by
  rcases h.2 with ⟨rfl, _⟩ | ⟨g, cap, cur, rfl, _, hg, _⟩
  · simp [Value.ownBlock] at hk
  · simp [Value.ownBlock] at hk
    subst hk
    exact ⟨_, hg⟩

theorem own_at {w : World} {base : Nat} {e : TypeId} {size n : Nat} {v : Value} {xs : List Value} (h : w.ownsRow base e size v n xs) {k : Nat} (hk : v.ownBlock = some k) : ∃ c, w.heap[k]? = some (.cells c e (0, 0)) := by
  rcases h.2 with ⟨rfl, _⟩ | ⟨g, cap, cur, rfl, _, hg, _⟩
  · simp [Value.ownBlock] at hk
  · simp [Value.ownBlock] at hk
    subst hk
    exact ⟨_, hg⟩
theorem own_ne_map {w : World} {base : Nat} {e : TypeId} {size n : Nat} {v : Value} {xs : List Value} (h : w.ownsRow base e size v n xs) {m : Nat} {es : Array MapEntry} {clk : Nat} (hm : w.heap[m]? = some (.map es clk)) : v.ownBlock ≠ some m := by
  intro hk
  obtain ⟨c, hc⟩ := own_at h hk
  rw [hc] at hm; cases hm
theorem own_ne_own {w : World} {b1 b2 : Nat} {e1 e2 : TypeId} {s1 s2 n1 n2 : Nat} {v1 v2 : Value} {xs1 xs2 : List Value} (h1 : w.ownsRow b1 e1 s1 v1 n1 xs1) (h2 : w.ownsRow b2 e2 s2 v2 n2 xs2) (hne : e1 ≠ e2) {k : Nat} (hk : v1.ownBlock = some k) : v2.ownBlock ≠ some k := by
  obtain ⟨c, hc⟩ := own_at h1 hk
  exact ownsRow_ne h2 hc hne
theorem cells_ne {w : World} {a b : Nat} {c d : Array Value} {s t : TypeId} {f g : Nat × Nat} (ha : w.heap[a]? = some (.cells c s f)) (hb : w.heap[b]? = some (.cells d t g)) (hne : s ≠ t) : a ≠ b := by
  rintro rfl
  rw [ha] at hb
  simp at hb
  exact hne hb.2.1
theorem cells_ne_map {w : World} {a b : Nat} {c : Array Value} {s : TypeId} {f : Nat × Nat} {es : Array MapEntry} {clk : Nat} (ha : w.heap[a]? = some (.cells c s f)) (hb : w.heap[b]? = some (.map es clk)) : a ≠ b := by
  rintro rfl
  rw [ha] at hb
  cases hb

end Go.Proofs.Ytibnnhdpaccpfaa
