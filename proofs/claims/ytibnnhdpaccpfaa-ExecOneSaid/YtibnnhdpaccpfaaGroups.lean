import Derived.Test.YtibnnhdpaccpfaaVisit
namespace Go.Proofs.Ytibnnhdpaccpfaa
open Go.RowKit

def St.zero (n : Nat) : St := ⟨List.replicate n 0, List.replicate n 0, [], List.replicate n false, 0, []⟩
theorem nm_zero (n x : Nat) : (St.zero n).nm x = 0 := by
  show (List.replicate n 0)[x]?.getD 0 = 0
  rw [List.getElem?_replicate]; split <;> rfl
theorem Inv.zero (on : List (List Nat)) : Inv on (St.zero on.length) where
  ln := by simp [St.zero]
  ll := by simp [St.zero]
  lo := by simp [St.zero]
  cnt := by simp [St.zero]
  siz := by simp [St.zero]
  nb x := by rw [nm_zero]; exact Nat.zero_le _
  inj x y _ hp := by rw [nm_zero] at hp; omega
  sinc := List.Pairwise.nil
  svis x hx := by simp [St.zero] at hx
  opi x := by
    show (List.replicate on.length false)[x]?.getD false = true ↔ x ∈ []
    rw [List.getElem?_replicate]; split <;> simp
  grp x := by rw [nm_zero]; simp [St.zero]
  gnd := by simp [St.zero]
  top i g h := by simp [St.zero] at h
  scc g h := by simp [St.zero] at h
  gne g h := by simp [St.zero] at h

/-- from an empty stack to an empty stack -/
theorem Visited.empty {on : List (List Nat)} {st st' : St} {v : Nat} (h : Visited on st v st') (hs : st.stack = []) : st'.stack = [] := by
  obtain ⟨T, hT, hh, hH⟩ := h.stk
  rw [hs, List.nil_append] at hT
  rcases hh with rfl | ⟨r, rfl⟩
  · exact hT
  · obtain ⟨y, hy, _, he⟩ := (hH v (by simp)).2.2.1
    have hlt := (hH v (by simp)).2.2.2
    have hinc := h.inv.sinc
    rw [hT] at hinc hy
    rcases List.mem_cons.1 hy with hy | hy
    · subst hy; omega
    · have := (List.pairwise_cons.1 hinc).1 y hy
      omega

/-- what the groups of the rows are -/
structure GroupsOf (on : List (List Nat)) (G : List (List Nat)) : Prop where
  all : ∀ x, x < on.length ↔ ∃ g ∈ G, x ∈ g
  gnd : G.flatten.Nodup
  top : ∀ (i : Nat) (g : List Nat), G[i]? = some g → ∀ x ∈ g, ∀ y, Edge on x y → ∃ (j : Nat) (g' : List Nat), j ≤ i ∧ G[j]? = some g' ∧ y ∈ g'
  scc : ∀ g ∈ G, ∀ x ∈ g, ∀ y ∈ g, Reach on x y
  gne : ∀ g ∈ G, g ≠ [] ∧ g.Pairwise (· < ·)
  len : G.length ≤ on.length
theorem Inv.groups {on : List (List Nat)} {st : St} (h : Inv on st) (hs : st.stack = []) (hv : ∀ x, x < on.length → 0 < st.nm x) : GroupsOf on st.groups where
  all x := by
    rw [h.grp x, hs]
    constructor
    · intro hx; exact ⟨hv x hx, by simp⟩
    · rintro ⟨hx, _⟩; exact h.visLt hx
  gnd := h.gnd
  top := h.top
  scc := h.scc
  gne := h.gne
  len := by have := h.siz; have := h.cnt; omega

theorem heap4 (w : World) (a b c d : Obj) : ((((w.alloc a).alloc b).alloc c).alloc d).drew.heap[w.heap.size]? = some a ∧ ((((w.alloc a).alloc b).alloc c).alloc d).drew.heap[w.heap.size + 1]? = some b ∧
    ((((w.alloc a).alloc b).alloc c).alloc d).drew.heap[w.heap.size + 1 + 1]? = some c ∧ ((((w.alloc a).alloc b).alloc c).alloc d).drew.heap[w.heap.size + 1 + 1 + 1]? = some d ∧ Below w.heap.size w ((((w.alloc a).alloc b).alloc c).alloc d).drew := by
  refine ⟨?_, ?_, ?_, ?_, ?_⟩
  · exact heap_drew_keeps (heap_alloc_keeps (heap_alloc_keeps (heap_alloc_keeps (heap_alloc_new _ _) _) _) _)
  · exact heap_drew_keeps (heap_alloc_keeps (heap_alloc_keeps (heap_new2 _ _ _) _) _)
  · have := heap_new2 (w.alloc a) b c
    rw [World.size_alloc] at this
    exact heap_drew_keeps (heap_alloc_keeps this _)
  · have := heap_new2 ((w.alloc a).alloc b) c d
    rw [World.size_alloc, World.size_alloc] at this
    exact heap_drew_keeps this
  · exact (((((Below.refl _ _).alloc (Nat.le_refl _) _).alloc (by simp) _).alloc (by simp; omega) _).alloc (by simp; omega) _).drew

theorem fat_zero {w w5 : World} {ob fb nb lb kb : Nat} {on : List (List Nat)} (h1 : w5.heap[fb]? = some (.cells #[.slice (some ⟨ob, 0, none⟩) on.length on.length, .slice (some ⟨nb, 0, none⟩) on.length on.length, .slice (some ⟨lb, 0, none⟩) on.length on.length, .slice none 0 0, .slice (some ⟨kb, 0, none⟩) on.length on.length, .int .i64 0, .slice none 0 0] 114 (0, 0)))
    (h2 : w5.heap[nb]? = some (.cells (Array.replicate on.length (.int .i64 0)) 3 (0, 0))) (h3 : w5.heap[lb]? = some (.cells (Array.replicate on.length (.int .i64 0)) 3 (0, 0))) (h4 : w5.heap[kb]? = some (.cells (Array.replicate on.length (.bool false)) 4 (0, 0)))
    (hnl : nb ≠ lb) (b1 : w.heap.size ≤ fb) (b2 : w.heap.size ≤ nb) (b3 : w.heap.size ≤ lb) (b4 : w.heap.size ≤ kb) (hb : Below w.heap.size w w5) : FAt w ob fb nb lb kb on w5 (St.zero on.length) (.slice none 0 0) (.slice none 0 0) [] := by
  refine ⟨h1, ?_, ?_, ?_, ⟨by simp [St.zero, intCells], .inl ⟨rfl, rfl⟩⟩, by simp [Value.ownBlock], by simp [Value.ownBlock], ⟨by simp [St.zero], .inl ⟨rfl, rfl⟩⟩, by simp [St.zero], fun i v g hv _ => by simp at hv, hnl, b1, b2, b3, b4, hb⟩
  · rw [h2]; simp [St.zero, natCells, intCells]
  · rw [h3]; simp [St.zero, natCells, intCells]
  · rw [h4]; simp [St.zero, boolCells]

def GroupsPost (on : List (List Nat)) (w : World) (e : Ending) (w' : World) : Prop :=
  ∃ v G vs, e = .returned v ∧ GroupsOf on G ∧ w'.ownsRow w.heap.size 72 1 v G.length vs ∧ vs.length = G.length ∧
    (∀ (i : Nat) (u : Value) (g : List Nat), vs[i]? = some u → G[i]? = some g → Sl0 w' u g.length (intCells g) ∧ ∀ b, u.ownBlock = some b → v.ownBlock ≠ some b ∧ b < w'.heap.size) ∧ Below w.heap.size w w'

set_option maxRecDepth 100000 in
set_option maxHeartbeats 4000000 in
theorem groups_any (ob : Nat) (on : List (List Nat)) (w : World) (hrows : RowsOn w ob on) (hon : ∀ r ∈ on, ∀ y ∈ r, y < on.length) (hn : on.length ≤ 1000) (hrl : ∀ r ∈ on, r.length ≤ 7000) :
    Calls Try.prog 48 #[.slice (some ⟨ob, 0, none⟩) on.length on.length] w (GroupsPost on w) := by
  have HROWS := Lib.hid hrows
  have HON := Lib.hid hon
  have HRL := Lib.hid hrl
  have hmk1 := mk_ints on.length (by omega)
  have hmk2 := mk_bools on.length (by omega)
  clear hrows hon hrl
  go_enter Try.func48, Try.ntmps48
  go_wp2_with fail
  go_region
  · have hh := heap4 w (.cells (Array.replicate on.length (.int .i64 0)) 3) (.cells (Array.replicate on.length (.int .i64 0)) 3) (.cells (Array.replicate on.length (.bool false)) 4) (.cells #[.slice (some ⟨ob, 0, none⟩) on.length on.length, .slice (some ⟨w.heap.size, 0, none⟩) on.length on.length, .slice (some ⟨w.heap.size + 1, 0, none⟩) on.length on.length, .slice none 0 0, .slice (some ⟨w.heap.size + 1 + 1, 0, none⟩) on.length on.length, .int .i64 0, .slice none 0 0] 114)
    have hF : FAt w ob (w.heap.size + 1 + 1 + 1) (w.heap.size) (w.heap.size + 1) (w.heap.size + 1 + 1) on (((((w.alloc (.cells (Array.replicate on.length (.int .i64 0)) 3)).alloc (.cells (Array.replicate on.length (.int .i64 0)) 3)).alloc (.cells (Array.replicate on.length (.bool false)) 4)).alloc (.cells #[.slice (some ⟨ob, 0, none⟩) on.length on.length, .slice (some ⟨w.heap.size, 0, none⟩) on.length on.length, .slice (some ⟨w.heap.size + 1, 0, none⟩) on.length on.length, .slice none 0 0, .slice (some ⟨w.heap.size + 1 + 1, 0, none⟩) on.length on.length, .int .i64 0, .slice none 0 0] 114)).drew) (St.zero on.length) (.slice none 0 0) (.slice none 0 0) [] := fat_zero hh.2.2.2.1 hh.1 hh.2.1 hh.2.2.1 (by omega) (by omega) (by omega) (by omega) (by omega) hh.2.2.2.2
    generalize ((((w.alloc (.cells (Array.replicate on.length (.int .i64 0)) 3)).alloc (.cells (Array.replicate on.length (.int .i64 0)) 3)).alloc (.cells (Array.replicate on.length (.bool false)) 4)).alloc (.cells #[.slice (some ⟨ob, 0, none⟩) on.length on.length, .slice (some ⟨w.heap.size, 0, none⟩) on.length on.length, .slice (some ⟨w.heap.size + 1, 0, none⟩) on.length on.length, .slice none 0 0, .slice (some ⟨w.heap.size + 1 + 1, 0, none⟩) on.length on.length, .int .i64 0, .slice none 0 0] 114)).drew = w5 at hF ⊢
    clear hh
    have HF := Lib.hid hF
    clear hF hmk1 hmk2
    go_wp2_with fail
    go_loopw [19] (fun v19 wr => ∃ (k : Nat) (st : St) (sv gv : Value) (vs : List Value), k ≤ on.length ∧ v19 = .int .i64 k ∧ FAt w ob (w.heap.size + 1 + 1 + 1) (w.heap.size) (w.heap.size + 1) (w.heap.size + 1 + 1) on wr st sv gv vs ∧ Inv on st ∧ st.stack = [] ∧ ∀ x, x < k → 0 < st.nm x) (fun v _ => on.length - (intOf v).toNat)
    case atStart => exact ⟨0, _, _, _, _, by omega, rfl, HF.out, Inv.zero on, rfl, fun x h => by omega⟩
    case round =>
      obtain ⟨k, st, sv, gv, vs, hk, rfl, hF, hI, hS, hvis⟩ := hrel
      have g1 : wr.cell? ⟨(w.heap.size + 1 + 1 + 1), 1, none⟩ = some (.slice (some ⟨(w.heap.size), 0, none⟩) on.length on.length) := hF.finCell 1
      have g6 : wr.cell? ⟨(w.heap.size + 1 + 1 + 1), 6, none⟩ = some gv := hF.finCell 6
      have HF := Lib.hid hF
      have HI := Lib.hid hI
      have HS := Lib.hid hS
      have HVIS := Lib.hid hvis
      clear hF hI hS hvis
      by_cases hlt : k < on.length
      · have gk : wr.cell? ⟨(w.heap.size), k, none⟩ = some (.int .i64 (st.nm k : Int)) := HF.out.numCell k (by rw [HI.out.ln]; exact hlt)
        obtain ⟨m, hm⟩ : ∃ m, st.nm k = m := ⟨_, rfl⟩
        rw [hm] at gk
        have HM := Lib.hid hm
        have hk0 : (0 : Int) ≤ (k : Int) := Int.natCast_nonneg _
        have hk1 : (k : Int) < (on.length : Int) := by omega
        clear hm
        cases m with
        | zero =>
          have gk0 : wr.cell? ⟨(w.heap.size), k, none⟩ = some (.int .i64 0) := gk
          clear gk
          go_wp2_with fail
          refine (visit_any w ob (w.heap.size + 1 + 1 + 1) (w.heap.size) (w.heap.size + 1) (w.heap.size + 1 + 1) on HROWS.out HON.out hn HRL.out on.length st k wr sv gv vs HF.out HI.out hlt HM.out (by omega)).mono ?_
          rintro e w6 ⟨rfl, st2, sv2, gv2, vs2, hF2, hV⟩
          have HF2 := Lib.hid hF2
          have HV := Lib.hid hV
          clear hF2 hV
          go_wp2_with fail
          go_roundw
          case rel =>
            refine ⟨k + 1, st2, sv2, gv2, vs2, by omega, by go_num, HF2.out, HV.out.inv, HV.out.empty HS.out, fun x hx => ?_⟩
            rcases Nat.lt_succ_iff_lt_or_eq.1 hx with h | h
            · have h1 := HVIS.out x h
              rw [(HV.out.old x h1).1]; exact h1
            · rw [h]; exact HV.out.new
          case measure => simp [intOf]; omega
        | succ m =>
          have hne : ((((m + 1 : Nat) : Int)) == 0) = false := by simp; omega
          obtain ⟨mu, hmu⟩ : ∃ mu, m + 1 = mu := ⟨_, rfl⟩
          rw [hmu] at hne gk
          have HMU := Lib.hid hmu
          clear hmu
          go_wp2_with fail
          go_roundw
          case rel =>
            refine ⟨k + 1, st, sv, gv, vs, by omega, by go_num, HF.out, HI.out, HS.out, fun x hx => ?_⟩
            rcases Nat.lt_succ_iff_lt_or_eq.1 hx with h | h
            · exact HVIS.out x h
            · rw [h, HM.out]; omega
          case measure => simp [intOf]; omega
      · have hke : k = on.length := by omega
        have HKE := Lib.hid hke
        clear hke
        go_wp2_with fail
        go_ret
        exact ⟨gv, st.groups, vs, rfl, HI.out.groups HS.out (fun x hx => HVIS.out x (by rw [HKE.out]; exact hx)), HF.out.grp, HF.out.gln, fun i u g hu hg => ⟨(HF.out.gvs i u g hu hg).1, fun b hb => ⟨((HF.out.gvs i u g hu hg).2 b hb).2.2.2.2.2.2.1, ((HF.out.gvs i u g hu hg).2 b hb).2.2.2.2.2.2.2⟩⟩, HF.out.bel⟩
  · have hh := heap4 w (.cells (Array.replicate on.length (.int .i64 0)) 3) (.cells (Array.replicate on.length (.bool false)) 4) (.cells (Array.replicate on.length (.int .i64 0)) 3) (.cells #[.slice (some ⟨ob, 0, none⟩) on.length on.length, .slice (some ⟨w.heap.size, 0, none⟩) on.length on.length, .slice (some ⟨w.heap.size + 1 + 1, 0, none⟩) on.length on.length, .slice none 0 0, .slice (some ⟨w.heap.size + 1, 0, none⟩) on.length on.length, .int .i64 0, .slice none 0 0] 114)
    have hF : FAt w ob (w.heap.size + 1 + 1 + 1) (w.heap.size) (w.heap.size + 1 + 1) (w.heap.size + 1) on (((((w.alloc (.cells (Array.replicate on.length (.int .i64 0)) 3)).alloc (.cells (Array.replicate on.length (.bool false)) 4)).alloc (.cells (Array.replicate on.length (.int .i64 0)) 3)).alloc (.cells #[.slice (some ⟨ob, 0, none⟩) on.length on.length, .slice (some ⟨w.heap.size, 0, none⟩) on.length on.length, .slice (some ⟨w.heap.size + 1 + 1, 0, none⟩) on.length on.length, .slice none 0 0, .slice (some ⟨w.heap.size + 1, 0, none⟩) on.length on.length, .int .i64 0, .slice none 0 0] 114)).drew) (St.zero on.length) (.slice none 0 0) (.slice none 0 0) [] := fat_zero hh.2.2.2.1 hh.1 hh.2.2.1 hh.2.1 (by omega) (by omega) (by omega) (by omega) (by omega) hh.2.2.2.2
    generalize ((((w.alloc (.cells (Array.replicate on.length (.int .i64 0)) 3)).alloc (.cells (Array.replicate on.length (.bool false)) 4)).alloc (.cells (Array.replicate on.length (.int .i64 0)) 3)).alloc (.cells #[.slice (some ⟨ob, 0, none⟩) on.length on.length, .slice (some ⟨w.heap.size, 0, none⟩) on.length on.length, .slice (some ⟨w.heap.size + 1 + 1, 0, none⟩) on.length on.length, .slice none 0 0, .slice (some ⟨w.heap.size + 1, 0, none⟩) on.length on.length, .int .i64 0, .slice none 0 0] 114)).drew = w5 at hF ⊢
    clear hh
    have HF := Lib.hid hF
    clear hF hmk1 hmk2
    go_wp2_with fail
    go_loopw [19] (fun v19 wr => ∃ (k : Nat) (st : St) (sv gv : Value) (vs : List Value), k ≤ on.length ∧ v19 = .int .i64 k ∧ FAt w ob (w.heap.size + 1 + 1 + 1) (w.heap.size) (w.heap.size + 1 + 1) (w.heap.size + 1) on wr st sv gv vs ∧ Inv on st ∧ st.stack = [] ∧ ∀ x, x < k → 0 < st.nm x) (fun v _ => on.length - (intOf v).toNat)
    case atStart => exact ⟨0, _, _, _, _, by omega, rfl, HF.out, Inv.zero on, rfl, fun x h => by omega⟩
    case round =>
      obtain ⟨k, st, sv, gv, vs, hk, rfl, hF, hI, hS, hvis⟩ := hrel
      have g1 : wr.cell? ⟨(w.heap.size + 1 + 1 + 1), 1, none⟩ = some (.slice (some ⟨(w.heap.size), 0, none⟩) on.length on.length) := hF.finCell 1
      have g6 : wr.cell? ⟨(w.heap.size + 1 + 1 + 1), 6, none⟩ = some gv := hF.finCell 6
      have HF := Lib.hid hF
      have HI := Lib.hid hI
      have HS := Lib.hid hS
      have HVIS := Lib.hid hvis
      clear hF hI hS hvis
      by_cases hlt : k < on.length
      · have gk : wr.cell? ⟨(w.heap.size), k, none⟩ = some (.int .i64 (st.nm k : Int)) := HF.out.numCell k (by rw [HI.out.ln]; exact hlt)
        obtain ⟨m, hm⟩ : ∃ m, st.nm k = m := ⟨_, rfl⟩
        rw [hm] at gk
        have HM := Lib.hid hm
        have hk0 : (0 : Int) ≤ (k : Int) := Int.natCast_nonneg _
        have hk1 : (k : Int) < (on.length : Int) := by omega
        clear hm
        cases m with
        | zero =>
          have gk0 : wr.cell? ⟨(w.heap.size), k, none⟩ = some (.int .i64 0) := gk
          clear gk
          go_wp2_with fail
          refine (visit_any w ob (w.heap.size + 1 + 1 + 1) (w.heap.size) (w.heap.size + 1 + 1) (w.heap.size + 1) on HROWS.out HON.out hn HRL.out on.length st k wr sv gv vs HF.out HI.out hlt HM.out (by omega)).mono ?_
          rintro e w6 ⟨rfl, st2, sv2, gv2, vs2, hF2, hV⟩
          have HF2 := Lib.hid hF2
          have HV := Lib.hid hV
          clear hF2 hV
          go_wp2_with fail
          go_roundw
          case rel =>
            refine ⟨k + 1, st2, sv2, gv2, vs2, by omega, by go_num, HF2.out, HV.out.inv, HV.out.empty HS.out, fun x hx => ?_⟩
            rcases Nat.lt_succ_iff_lt_or_eq.1 hx with h | h
            · have h1 := HVIS.out x h
              rw [(HV.out.old x h1).1]; exact h1
            · rw [h]; exact HV.out.new
          case measure => simp [intOf]; omega
        | succ m =>
          have hne : ((((m + 1 : Nat) : Int)) == 0) = false := by simp; omega
          obtain ⟨mu, hmu⟩ : ∃ mu, m + 1 = mu := ⟨_, rfl⟩
          rw [hmu] at hne gk
          have HMU := Lib.hid hmu
          clear hmu
          go_wp2_with fail
          go_roundw
          case rel =>
            refine ⟨k + 1, st, sv, gv, vs, by omega, by go_num, HF.out, HI.out, HS.out, fun x hx => ?_⟩
            rcases Nat.lt_succ_iff_lt_or_eq.1 hx with h | h
            · exact HVIS.out x h
            · rw [h, HM.out]; omega
          case measure => simp [intOf]; omega
      · have hke : k = on.length := by omega
        have HKE := Lib.hid hke
        clear hke
        go_wp2_with fail
        go_ret
        exact ⟨gv, st.groups, vs, rfl, HI.out.groups HS.out (fun x hx => HVIS.out x (by rw [HKE.out]; exact hx)), HF.out.grp, HF.out.gln, fun i u g hu hg => ⟨(HF.out.gvs i u g hu hg).1, fun b hb => ⟨((HF.out.gvs i u g hu hg).2 b hb).2.2.2.2.2.2.1, ((HF.out.gvs i u g hu hg).2 b hb).2.2.2.2.2.2.2⟩⟩, HF.out.bel⟩
  · have hh := heap4 w (.cells (Array.replicate on.length (.int .i64 0)) 3) (.cells (Array.replicate on.length (.int .i64 0)) 3) (.cells (Array.replicate on.length (.bool false)) 4) (.cells #[.slice (some ⟨ob, 0, none⟩) on.length on.length, .slice (some ⟨w.heap.size + 1, 0, none⟩) on.length on.length, .slice (some ⟨w.heap.size, 0, none⟩) on.length on.length, .slice none 0 0, .slice (some ⟨w.heap.size + 1 + 1, 0, none⟩) on.length on.length, .int .i64 0, .slice none 0 0] 114)
    have hF : FAt w ob (w.heap.size + 1 + 1 + 1) (w.heap.size + 1) (w.heap.size) (w.heap.size + 1 + 1) on (((((w.alloc (.cells (Array.replicate on.length (.int .i64 0)) 3)).alloc (.cells (Array.replicate on.length (.int .i64 0)) 3)).alloc (.cells (Array.replicate on.length (.bool false)) 4)).alloc (.cells #[.slice (some ⟨ob, 0, none⟩) on.length on.length, .slice (some ⟨w.heap.size + 1, 0, none⟩) on.length on.length, .slice (some ⟨w.heap.size, 0, none⟩) on.length on.length, .slice none 0 0, .slice (some ⟨w.heap.size + 1 + 1, 0, none⟩) on.length on.length, .int .i64 0, .slice none 0 0] 114)).drew) (St.zero on.length) (.slice none 0 0) (.slice none 0 0) [] := fat_zero hh.2.2.2.1 hh.2.1 hh.1 hh.2.2.1 (by omega) (by omega) (by omega) (by omega) (by omega) hh.2.2.2.2
    generalize ((((w.alloc (.cells (Array.replicate on.length (.int .i64 0)) 3)).alloc (.cells (Array.replicate on.length (.int .i64 0)) 3)).alloc (.cells (Array.replicate on.length (.bool false)) 4)).alloc (.cells #[.slice (some ⟨ob, 0, none⟩) on.length on.length, .slice (some ⟨w.heap.size + 1, 0, none⟩) on.length on.length, .slice (some ⟨w.heap.size, 0, none⟩) on.length on.length, .slice none 0 0, .slice (some ⟨w.heap.size + 1 + 1, 0, none⟩) on.length on.length, .int .i64 0, .slice none 0 0] 114)).drew = w5 at hF ⊢
    clear hh
    have HF := Lib.hid hF
    clear hF hmk1 hmk2
    go_wp2_with fail
    go_loopw [19] (fun v19 wr => ∃ (k : Nat) (st : St) (sv gv : Value) (vs : List Value), k ≤ on.length ∧ v19 = .int .i64 k ∧ FAt w ob (w.heap.size + 1 + 1 + 1) (w.heap.size + 1) (w.heap.size) (w.heap.size + 1 + 1) on wr st sv gv vs ∧ Inv on st ∧ st.stack = [] ∧ ∀ x, x < k → 0 < st.nm x) (fun v _ => on.length - (intOf v).toNat)
    case atStart => exact ⟨0, _, _, _, _, by omega, rfl, HF.out, Inv.zero on, rfl, fun x h => by omega⟩
    case round =>
      obtain ⟨k, st, sv, gv, vs, hk, rfl, hF, hI, hS, hvis⟩ := hrel
      have g1 : wr.cell? ⟨(w.heap.size + 1 + 1 + 1), 1, none⟩ = some (.slice (some ⟨(w.heap.size + 1), 0, none⟩) on.length on.length) := hF.finCell 1
      have g6 : wr.cell? ⟨(w.heap.size + 1 + 1 + 1), 6, none⟩ = some gv := hF.finCell 6
      have HF := Lib.hid hF
      have HI := Lib.hid hI
      have HS := Lib.hid hS
      have HVIS := Lib.hid hvis
      clear hF hI hS hvis
      by_cases hlt : k < on.length
      · have gk : wr.cell? ⟨(w.heap.size + 1), k, none⟩ = some (.int .i64 (st.nm k : Int)) := HF.out.numCell k (by rw [HI.out.ln]; exact hlt)
        obtain ⟨m, hm⟩ : ∃ m, st.nm k = m := ⟨_, rfl⟩
        rw [hm] at gk
        have HM := Lib.hid hm
        have hk0 : (0 : Int) ≤ (k : Int) := Int.natCast_nonneg _
        have hk1 : (k : Int) < (on.length : Int) := by omega
        clear hm
        cases m with
        | zero =>
          have gk0 : wr.cell? ⟨(w.heap.size + 1), k, none⟩ = some (.int .i64 0) := gk
          clear gk
          go_wp2_with fail
          refine (visit_any w ob (w.heap.size + 1 + 1 + 1) (w.heap.size + 1) (w.heap.size) (w.heap.size + 1 + 1) on HROWS.out HON.out hn HRL.out on.length st k wr sv gv vs HF.out HI.out hlt HM.out (by omega)).mono ?_
          rintro e w6 ⟨rfl, st2, sv2, gv2, vs2, hF2, hV⟩
          have HF2 := Lib.hid hF2
          have HV := Lib.hid hV
          clear hF2 hV
          go_wp2_with fail
          go_roundw
          case rel =>
            refine ⟨k + 1, st2, sv2, gv2, vs2, by omega, by go_num, HF2.out, HV.out.inv, HV.out.empty HS.out, fun x hx => ?_⟩
            rcases Nat.lt_succ_iff_lt_or_eq.1 hx with h | h
            · have h1 := HVIS.out x h
              rw [(HV.out.old x h1).1]; exact h1
            · rw [h]; exact HV.out.new
          case measure => simp [intOf]; omega
        | succ m =>
          have hne : ((((m + 1 : Nat) : Int)) == 0) = false := by simp; omega
          obtain ⟨mu, hmu⟩ : ∃ mu, m + 1 = mu := ⟨_, rfl⟩
          rw [hmu] at hne gk
          have HMU := Lib.hid hmu
          clear hmu
          go_wp2_with fail
          go_roundw
          case rel =>
            refine ⟨k + 1, st, sv, gv, vs, by omega, by go_num, HF.out, HI.out, HS.out, fun x hx => ?_⟩
            rcases Nat.lt_succ_iff_lt_or_eq.1 hx with h | h
            · exact HVIS.out x h
            · rw [h, HM.out]; omega
          case measure => simp [intOf]; omega
      · have hke : k = on.length := by omega
        have HKE := Lib.hid hke
        clear hke
        go_wp2_with fail
        go_ret
        exact ⟨gv, st.groups, vs, rfl, HI.out.groups HS.out (fun x hx => HVIS.out x (by rw [HKE.out]; exact hx)), HF.out.grp, HF.out.gln, fun i u g hu hg => ⟨(HF.out.gvs i u g hu hg).1, fun b hb => ⟨((HF.out.gvs i u g hu hg).2 b hb).2.2.2.2.2.2.1, ((HF.out.gvs i u g hu hg).2 b hb).2.2.2.2.2.2.2⟩⟩, HF.out.bel⟩
  · have hh := heap4 w (.cells (Array.replicate on.length (.int .i64 0)) 3) (.cells (Array.replicate on.length (.bool false)) 4) (.cells (Array.replicate on.length (.int .i64 0)) 3) (.cells #[.slice (some ⟨ob, 0, none⟩) on.length on.length, .slice (some ⟨w.heap.size + 1 + 1, 0, none⟩) on.length on.length, .slice (some ⟨w.heap.size, 0, none⟩) on.length on.length, .slice none 0 0, .slice (some ⟨w.heap.size + 1, 0, none⟩) on.length on.length, .int .i64 0, .slice none 0 0] 114)
    have hF : FAt w ob (w.heap.size + 1 + 1 + 1) (w.heap.size + 1 + 1) (w.heap.size) (w.heap.size + 1) on (((((w.alloc (.cells (Array.replicate on.length (.int .i64 0)) 3)).alloc (.cells (Array.replicate on.length (.bool false)) 4)).alloc (.cells (Array.replicate on.length (.int .i64 0)) 3)).alloc (.cells #[.slice (some ⟨ob, 0, none⟩) on.length on.length, .slice (some ⟨w.heap.size + 1 + 1, 0, none⟩) on.length on.length, .slice (some ⟨w.heap.size, 0, none⟩) on.length on.length, .slice none 0 0, .slice (some ⟨w.heap.size + 1, 0, none⟩) on.length on.length, .int .i64 0, .slice none 0 0] 114)).drew) (St.zero on.length) (.slice none 0 0) (.slice none 0 0) [] := fat_zero hh.2.2.2.1 hh.2.2.1 hh.1 hh.2.1 (by omega) (by omega) (by omega) (by omega) (by omega) hh.2.2.2.2
    generalize ((((w.alloc (.cells (Array.replicate on.length (.int .i64 0)) 3)).alloc (.cells (Array.replicate on.length (.bool false)) 4)).alloc (.cells (Array.replicate on.length (.int .i64 0)) 3)).alloc (.cells #[.slice (some ⟨ob, 0, none⟩) on.length on.length, .slice (some ⟨w.heap.size + 1 + 1, 0, none⟩) on.length on.length, .slice (some ⟨w.heap.size, 0, none⟩) on.length on.length, .slice none 0 0, .slice (some ⟨w.heap.size + 1, 0, none⟩) on.length on.length, .int .i64 0, .slice none 0 0] 114)).drew = w5 at hF ⊢
    clear hh
    have HF := Lib.hid hF
    clear hF hmk1 hmk2
    go_wp2_with fail
    go_loopw [19] (fun v19 wr => ∃ (k : Nat) (st : St) (sv gv : Value) (vs : List Value), k ≤ on.length ∧ v19 = .int .i64 k ∧ FAt w ob (w.heap.size + 1 + 1 + 1) (w.heap.size + 1 + 1) (w.heap.size) (w.heap.size + 1) on wr st sv gv vs ∧ Inv on st ∧ st.stack = [] ∧ ∀ x, x < k → 0 < st.nm x) (fun v _ => on.length - (intOf v).toNat)
    case atStart => exact ⟨0, _, _, _, _, by omega, rfl, HF.out, Inv.zero on, rfl, fun x h => by omega⟩
    case round =>
      obtain ⟨k, st, sv, gv, vs, hk, rfl, hF, hI, hS, hvis⟩ := hrel
      have g1 : wr.cell? ⟨(w.heap.size + 1 + 1 + 1), 1, none⟩ = some (.slice (some ⟨(w.heap.size + 1 + 1), 0, none⟩) on.length on.length) := hF.finCell 1
      have g6 : wr.cell? ⟨(w.heap.size + 1 + 1 + 1), 6, none⟩ = some gv := hF.finCell 6
      have HF := Lib.hid hF
      have HI := Lib.hid hI
      have HS := Lib.hid hS
      have HVIS := Lib.hid hvis
      clear hF hI hS hvis
      by_cases hlt : k < on.length
      · have gk : wr.cell? ⟨(w.heap.size + 1 + 1), k, none⟩ = some (.int .i64 (st.nm k : Int)) := HF.out.numCell k (by rw [HI.out.ln]; exact hlt)
        obtain ⟨m, hm⟩ : ∃ m, st.nm k = m := ⟨_, rfl⟩
        rw [hm] at gk
        have HM := Lib.hid hm
        have hk0 : (0 : Int) ≤ (k : Int) := Int.natCast_nonneg _
        have hk1 : (k : Int) < (on.length : Int) := by omega
        clear hm
        cases m with
        | zero =>
          have gk0 : wr.cell? ⟨(w.heap.size + 1 + 1), k, none⟩ = some (.int .i64 0) := gk
          clear gk
          go_wp2_with fail
          refine (visit_any w ob (w.heap.size + 1 + 1 + 1) (w.heap.size + 1 + 1) (w.heap.size) (w.heap.size + 1) on HROWS.out HON.out hn HRL.out on.length st k wr sv gv vs HF.out HI.out hlt HM.out (by omega)).mono ?_
          rintro e w6 ⟨rfl, st2, sv2, gv2, vs2, hF2, hV⟩
          have HF2 := Lib.hid hF2
          have HV := Lib.hid hV
          clear hF2 hV
          go_wp2_with fail
          go_roundw
          case rel =>
            refine ⟨k + 1, st2, sv2, gv2, vs2, by omega, by go_num, HF2.out, HV.out.inv, HV.out.empty HS.out, fun x hx => ?_⟩
            rcases Nat.lt_succ_iff_lt_or_eq.1 hx with h | h
            · have h1 := HVIS.out x h
              rw [(HV.out.old x h1).1]; exact h1
            · rw [h]; exact HV.out.new
          case measure => simp [intOf]; omega
        | succ m =>
          have hne : ((((m + 1 : Nat) : Int)) == 0) = false := by simp; omega
          obtain ⟨mu, hmu⟩ : ∃ mu, m + 1 = mu := ⟨_, rfl⟩
          rw [hmu] at hne gk
          have HMU := Lib.hid hmu
          clear hmu
          go_wp2_with fail
          go_roundw
          case rel =>
            refine ⟨k + 1, st, sv, gv, vs, by omega, by go_num, HF.out, HI.out, HS.out, fun x hx => ?_⟩
            rcases Nat.lt_succ_iff_lt_or_eq.1 hx with h | h
            · exact HVIS.out x h
            · rw [h, HM.out]; omega
          case measure => simp [intOf]; omega
      · have hke : k = on.length := by omega
        have HKE := Lib.hid hke
        clear hke
        go_wp2_with fail
        go_ret
        exact ⟨gv, st.groups, vs, rfl, HI.out.groups HS.out (fun x hx => HVIS.out x (by rw [HKE.out]; exact hx)), HF.out.grp, HF.out.gln, fun i u g hu hg => ⟨(HF.out.gvs i u g hu hg).1, fun b hb => ⟨((HF.out.gvs i u g hu hg).2 b hb).2.2.2.2.2.2.1, ((HF.out.gvs i u g hu hg).2 b hb).2.2.2.2.2.2.2⟩⟩, HF.out.bel⟩
  · have hh := heap4 w (.cells (Array.replicate on.length (.bool false)) 4) (.cells (Array.replicate on.length (.int .i64 0)) 3) (.cells (Array.replicate on.length (.int .i64 0)) 3) (.cells #[.slice (some ⟨ob, 0, none⟩) on.length on.length, .slice (some ⟨w.heap.size + 1, 0, none⟩) on.length on.length, .slice (some ⟨w.heap.size + 1 + 1, 0, none⟩) on.length on.length, .slice none 0 0, .slice (some ⟨w.heap.size, 0, none⟩) on.length on.length, .int .i64 0, .slice none 0 0] 114)
    have hF : FAt w ob (w.heap.size + 1 + 1 + 1) (w.heap.size + 1) (w.heap.size + 1 + 1) (w.heap.size) on (((((w.alloc (.cells (Array.replicate on.length (.bool false)) 4)).alloc (.cells (Array.replicate on.length (.int .i64 0)) 3)).alloc (.cells (Array.replicate on.length (.int .i64 0)) 3)).alloc (.cells #[.slice (some ⟨ob, 0, none⟩) on.length on.length, .slice (some ⟨w.heap.size + 1, 0, none⟩) on.length on.length, .slice (some ⟨w.heap.size + 1 + 1, 0, none⟩) on.length on.length, .slice none 0 0, .slice (some ⟨w.heap.size, 0, none⟩) on.length on.length, .int .i64 0, .slice none 0 0] 114)).drew) (St.zero on.length) (.slice none 0 0) (.slice none 0 0) [] := fat_zero hh.2.2.2.1 hh.2.1 hh.2.2.1 hh.1 (by omega) (by omega) (by omega) (by omega) (by omega) hh.2.2.2.2
    generalize ((((w.alloc (.cells (Array.replicate on.length (.bool false)) 4)).alloc (.cells (Array.replicate on.length (.int .i64 0)) 3)).alloc (.cells (Array.replicate on.length (.int .i64 0)) 3)).alloc (.cells #[.slice (some ⟨ob, 0, none⟩) on.length on.length, .slice (some ⟨w.heap.size + 1, 0, none⟩) on.length on.length, .slice (some ⟨w.heap.size + 1 + 1, 0, none⟩) on.length on.length, .slice none 0 0, .slice (some ⟨w.heap.size, 0, none⟩) on.length on.length, .int .i64 0, .slice none 0 0] 114)).drew = w5 at hF ⊢
    clear hh
    have HF := Lib.hid hF
    clear hF hmk1 hmk2
    go_wp2_with fail
    go_loopw [19] (fun v19 wr => ∃ (k : Nat) (st : St) (sv gv : Value) (vs : List Value), k ≤ on.length ∧ v19 = .int .i64 k ∧ FAt w ob (w.heap.size + 1 + 1 + 1) (w.heap.size + 1) (w.heap.size + 1 + 1) (w.heap.size) on wr st sv gv vs ∧ Inv on st ∧ st.stack = [] ∧ ∀ x, x < k → 0 < st.nm x) (fun v _ => on.length - (intOf v).toNat)
    case atStart => exact ⟨0, _, _, _, _, by omega, rfl, HF.out, Inv.zero on, rfl, fun x h => by omega⟩
    case round =>
      obtain ⟨k, st, sv, gv, vs, hk, rfl, hF, hI, hS, hvis⟩ := hrel
      have g1 : wr.cell? ⟨(w.heap.size + 1 + 1 + 1), 1, none⟩ = some (.slice (some ⟨(w.heap.size + 1), 0, none⟩) on.length on.length) := hF.finCell 1
      have g6 : wr.cell? ⟨(w.heap.size + 1 + 1 + 1), 6, none⟩ = some gv := hF.finCell 6
      have HF := Lib.hid hF
      have HI := Lib.hid hI
      have HS := Lib.hid hS
      have HVIS := Lib.hid hvis
      clear hF hI hS hvis
      by_cases hlt : k < on.length
      · have gk : wr.cell? ⟨(w.heap.size + 1), k, none⟩ = some (.int .i64 (st.nm k : Int)) := HF.out.numCell k (by rw [HI.out.ln]; exact hlt)
        obtain ⟨m, hm⟩ : ∃ m, st.nm k = m := ⟨_, rfl⟩
        rw [hm] at gk
        have HM := Lib.hid hm
        have hk0 : (0 : Int) ≤ (k : Int) := Int.natCast_nonneg _
        have hk1 : (k : Int) < (on.length : Int) := by omega
        clear hm
        cases m with
        | zero =>
          have gk0 : wr.cell? ⟨(w.heap.size + 1), k, none⟩ = some (.int .i64 0) := gk
          clear gk
          go_wp2_with fail
          refine (visit_any w ob (w.heap.size + 1 + 1 + 1) (w.heap.size + 1) (w.heap.size + 1 + 1) (w.heap.size) on HROWS.out HON.out hn HRL.out on.length st k wr sv gv vs HF.out HI.out hlt HM.out (by omega)).mono ?_
          rintro e w6 ⟨rfl, st2, sv2, gv2, vs2, hF2, hV⟩
          have HF2 := Lib.hid hF2
          have HV := Lib.hid hV
          clear hF2 hV
          go_wp2_with fail
          go_roundw
          case rel =>
            refine ⟨k + 1, st2, sv2, gv2, vs2, by omega, by go_num, HF2.out, HV.out.inv, HV.out.empty HS.out, fun x hx => ?_⟩
            rcases Nat.lt_succ_iff_lt_or_eq.1 hx with h | h
            · have h1 := HVIS.out x h
              rw [(HV.out.old x h1).1]; exact h1
            · rw [h]; exact HV.out.new
          case measure => simp [intOf]; omega
        | succ m =>
          have hne : ((((m + 1 : Nat) : Int)) == 0) = false := by simp; omega
          obtain ⟨mu, hmu⟩ : ∃ mu, m + 1 = mu := ⟨_, rfl⟩
          rw [hmu] at hne gk
          have HMU := Lib.hid hmu
          clear hmu
          go_wp2_with fail
          go_roundw
          case rel =>
            refine ⟨k + 1, st, sv, gv, vs, by omega, by go_num, HF.out, HI.out, HS.out, fun x hx => ?_⟩
            rcases Nat.lt_succ_iff_lt_or_eq.1 hx with h | h
            · exact HVIS.out x h
            · rw [h, HM.out]; omega
          case measure => simp [intOf]; omega
      · have hke : k = on.length := by omega
        have HKE := Lib.hid hke
        clear hke
        go_wp2_with fail
        go_ret
        exact ⟨gv, st.groups, vs, rfl, HI.out.groups HS.out (fun x hx => HVIS.out x (by rw [HKE.out]; exact hx)), HF.out.grp, HF.out.gln, fun i u g hu hg => ⟨(HF.out.gvs i u g hu hg).1, fun b hb => ⟨((HF.out.gvs i u g hu hg).2 b hb).2.2.2.2.2.2.1, ((HF.out.gvs i u g hu hg).2 b hb).2.2.2.2.2.2.2⟩⟩, HF.out.bel⟩
  · have hh := heap4 w (.cells (Array.replicate on.length (.bool false)) 4) (.cells (Array.replicate on.length (.int .i64 0)) 3) (.cells (Array.replicate on.length (.int .i64 0)) 3) (.cells #[.slice (some ⟨ob, 0, none⟩) on.length on.length, .slice (some ⟨w.heap.size + 1 + 1, 0, none⟩) on.length on.length, .slice (some ⟨w.heap.size + 1, 0, none⟩) on.length on.length, .slice none 0 0, .slice (some ⟨w.heap.size, 0, none⟩) on.length on.length, .int .i64 0, .slice none 0 0] 114)
    have hF : FAt w ob (w.heap.size + 1 + 1 + 1) (w.heap.size + 1 + 1) (w.heap.size + 1) (w.heap.size) on (((((w.alloc (.cells (Array.replicate on.length (.bool false)) 4)).alloc (.cells (Array.replicate on.length (.int .i64 0)) 3)).alloc (.cells (Array.replicate on.length (.int .i64 0)) 3)).alloc (.cells #[.slice (some ⟨ob, 0, none⟩) on.length on.length, .slice (some ⟨w.heap.size + 1 + 1, 0, none⟩) on.length on.length, .slice (some ⟨w.heap.size + 1, 0, none⟩) on.length on.length, .slice none 0 0, .slice (some ⟨w.heap.size, 0, none⟩) on.length on.length, .int .i64 0, .slice none 0 0] 114)).drew) (St.zero on.length) (.slice none 0 0) (.slice none 0 0) [] := fat_zero hh.2.2.2.1 hh.2.2.1 hh.2.1 hh.1 (by omega) (by omega) (by omega) (by omega) (by omega) hh.2.2.2.2
    generalize ((((w.alloc (.cells (Array.replicate on.length (.bool false)) 4)).alloc (.cells (Array.replicate on.length (.int .i64 0)) 3)).alloc (.cells (Array.replicate on.length (.int .i64 0)) 3)).alloc (.cells #[.slice (some ⟨ob, 0, none⟩) on.length on.length, .slice (some ⟨w.heap.size + 1 + 1, 0, none⟩) on.length on.length, .slice (some ⟨w.heap.size + 1, 0, none⟩) on.length on.length, .slice none 0 0, .slice (some ⟨w.heap.size, 0, none⟩) on.length on.length, .int .i64 0, .slice none 0 0] 114)).drew = w5 at hF ⊢
    clear hh
    have HF := Lib.hid hF
    clear hF hmk1 hmk2
    go_wp2_with fail
    go_loopw [19] (fun v19 wr => ∃ (k : Nat) (st : St) (sv gv : Value) (vs : List Value), k ≤ on.length ∧ v19 = .int .i64 k ∧ FAt w ob (w.heap.size + 1 + 1 + 1) (w.heap.size + 1 + 1) (w.heap.size + 1) (w.heap.size) on wr st sv gv vs ∧ Inv on st ∧ st.stack = [] ∧ ∀ x, x < k → 0 < st.nm x) (fun v _ => on.length - (intOf v).toNat)
    case atStart => exact ⟨0, _, _, _, _, by omega, rfl, HF.out, Inv.zero on, rfl, fun x h => by omega⟩
    case round =>
      obtain ⟨k, st, sv, gv, vs, hk, rfl, hF, hI, hS, hvis⟩ := hrel
      have g1 : wr.cell? ⟨(w.heap.size + 1 + 1 + 1), 1, none⟩ = some (.slice (some ⟨(w.heap.size + 1 + 1), 0, none⟩) on.length on.length) := hF.finCell 1
      have g6 : wr.cell? ⟨(w.heap.size + 1 + 1 + 1), 6, none⟩ = some gv := hF.finCell 6
      have HF := Lib.hid hF
      have HI := Lib.hid hI
      have HS := Lib.hid hS
      have HVIS := Lib.hid hvis
      clear hF hI hS hvis
      by_cases hlt : k < on.length
      · have gk : wr.cell? ⟨(w.heap.size + 1 + 1), k, none⟩ = some (.int .i64 (st.nm k : Int)) := HF.out.numCell k (by rw [HI.out.ln]; exact hlt)
        obtain ⟨m, hm⟩ : ∃ m, st.nm k = m := ⟨_, rfl⟩
        rw [hm] at gk
        have HM := Lib.hid hm
        have hk0 : (0 : Int) ≤ (k : Int) := Int.natCast_nonneg _
        have hk1 : (k : Int) < (on.length : Int) := by omega
        clear hm
        cases m with
        | zero =>
          have gk0 : wr.cell? ⟨(w.heap.size + 1 + 1), k, none⟩ = some (.int .i64 0) := gk
          clear gk
          go_wp2_with fail
          refine (visit_any w ob (w.heap.size + 1 + 1 + 1) (w.heap.size + 1 + 1) (w.heap.size + 1) (w.heap.size) on HROWS.out HON.out hn HRL.out on.length st k wr sv gv vs HF.out HI.out hlt HM.out (by omega)).mono ?_
          rintro e w6 ⟨rfl, st2, sv2, gv2, vs2, hF2, hV⟩
          have HF2 := Lib.hid hF2
          have HV := Lib.hid hV
          clear hF2 hV
          go_wp2_with fail
          go_roundw
          case rel =>
            refine ⟨k + 1, st2, sv2, gv2, vs2, by omega, by go_num, HF2.out, HV.out.inv, HV.out.empty HS.out, fun x hx => ?_⟩
            rcases Nat.lt_succ_iff_lt_or_eq.1 hx with h | h
            · have h1 := HVIS.out x h
              rw [(HV.out.old x h1).1]; exact h1
            · rw [h]; exact HV.out.new
          case measure => simp [intOf]; omega
        | succ m =>
          have hne : ((((m + 1 : Nat) : Int)) == 0) = false := by simp; omega
          obtain ⟨mu, hmu⟩ : ∃ mu, m + 1 = mu := ⟨_, rfl⟩
          rw [hmu] at hne gk
          have HMU := Lib.hid hmu
          clear hmu
          go_wp2_with fail
          go_roundw
          case rel =>
            refine ⟨k + 1, st, sv, gv, vs, by omega, by go_num, HF.out, HI.out, HS.out, fun x hx => ?_⟩
            rcases Nat.lt_succ_iff_lt_or_eq.1 hx with h | h
            · exact HVIS.out x h
            · rw [h, HM.out]; omega
          case measure => simp [intOf]; omega
      · have hke : k = on.length := by omega
        have HKE := Lib.hid hke
        clear hke
        go_wp2_with fail
        go_ret
        exact ⟨gv, st.groups, vs, rfl, HI.out.groups HS.out (fun x hx => HVIS.out x (by rw [HKE.out]; exact hx)), HF.out.grp, HF.out.gln, fun i u g hu hg => ⟨(HF.out.gvs i u g hu hg).1, fun b hb => ⟨((HF.out.gvs i u g hu hg).2 b hb).2.2.2.2.2.2.1, ((HF.out.gvs i u g hu hg).2 b hb).2.2.2.2.2.2.2⟩⟩, HF.out.bel⟩
end Go.Proofs.Ytibnnhdpaccpfaa
