import Derived.Test.YtibnnhdpaccpfaaXAt
namespace Go.Proofs.Ytibnnhdpaccpfaa
open Go.RowKit

theorem sub_len {α : Type} [BEq α] [LawfulBEq α] : ∀ (L T : List α), L.Nodup → (∀ x ∈ L, x ∈ T) → L.length ≤ T.length := by
  intro L
  induction L with
  | nil => intro T _ _; simp
  | cons x L ih =>
    intro T hL h
    have hL' := List.nodup_cons.1 hL
    have h2 := ih (T.erase x) hL'.2 fun y hy => by
      have : y ≠ x := fun he => hL'.1 (he ▸ hy)
      exact (List.mem_erase_of_ne this).2 (h y (List.mem_cons_of_mem _ hy))
    have h3 := List.length_erase_of_mem (h x List.mem_cons_self)
    have h4 : 0 < T.length := List.length_pos_of_mem (h x List.mem_cons_self)
    simp; omega
theorem XS.Ok.clen {x : XS} (h : x.Ok) : x.coms.length ≤ 1000 := by
  have := (goodL_spec h.good).2.2
  unfold XS.insts at this
  simpa using this
theorem XS.Ok.dlen {x : XS} (h : x.Ok) : x.done.length ≤ x.coms.length := by
  have := sub_len x.done (x.coms.map fun c => c.i.dot) h.nodup fun d hd => by
    obtain ⟨c, hc, he⟩ := h.sub d hd
    exact List.mem_map.2 ⟨c, hc, he⟩
  simpa using this
theorem own_slice {w : World} {base : Nat} {e : TypeId} {size n : Nat} {v : Value} {xs : List Value} (h : w.ownsRow base e size v n xs) : ∃ p cap, v = .slice p n cap ∧ n ≤ cap ∧ (p = none → n = 0 ∧ cap = 0) ∧ ∀ a, p = some a → ∃ b, a = ⟨b, 0, none⟩ := by
  rcases h.2 with ⟨rfl, hn⟩ | ⟨g, cap, cur, rfl, _, _, hc, _⟩
  · exact ⟨none, 0, by rw [hn], by omega, fun _ => ⟨hn, rfl⟩, (fun a h => by cases h)⟩
  · exact ⟨_, cap, rfl, hc, (fun h => by cases h), fun a h => ⟨g, by cases h; rfl⟩⟩

set_option maxRecDepth 100000 in
set_option maxHeartbeats 1000000 in
theorem xwaits_any (base : Nat) (w : World) (xb : Nat) (F : Nat → Prop) (x : XS) (h : XAt base w xb F x) (hok : x.Ok) :
    Calls Try.prog 10 #[.pointer (some ⟨xb, 0, none⟩)] w fun e w' => e = .returned (.int .i64 ((x.coms.length : Int) - (x.done.length : Int))) ∧ ∃ n, w' = w.drewN n := by
  obtain ⟨ma, mr, lv, dv, es, clk, es2, clk2, hx⟩ := h
  obtain ⟨p1, k1, rfl, _, _, _⟩ := own_slice hx.l
  obtain ⟨p2, k2, rfl, _, _, _⟩ := own_slice hx.dn
  have c1 : w.cell? ⟨xb, 8, none⟩ = some (.slice p1 x.coms.length k1) := by rw [cell_of_heap hx.blk]; rfl
  have c2 : w.cell? ⟨xb, 10, none⟩ = some (.slice p2 x.done.length k2) := by rw [cell_of_heap hx.blk]; rfl
  have b1 := hok.clen
  have b2 := hok.dlen
  clear hx hok
  generalize x.coms.length = n at *
  generalize x.done.length = m at *
  have b3 : (m : Int) ≤ (n : Int) := by omega
  have b4 : (n : Int) ≤ 1000 := by omega
  have b5 : (0 : Int) ≤ (m : Int) := by omega
  go_enter Try.func10, Try.ntmps10
  go_wp2
  have hs := IntWalk.i64_in ((n : Int) - (m : Int)) (by omega)
  have HS := Lib.hid hs
  go_quiet (fail)
  go_wp2
  go_ret
  exact ⟨rfl, _, rfl⟩

set_option maxRecDepth 100000 in
set_option maxHeartbeats 1000000 in
theorem xdone_any (base : Nat) (w : World) (xb : Nat) (F : Nat → Prop) (x : XS) (h : XAt base w xb F x) (hok : x.Ok) :
    Calls Try.prog 13 #[.pointer (some ⟨xb, 0, none⟩)] w fun e w' => ∃ v, e = .returned v ∧ Sl0 w' v x.done.length (dotCells x.done) ∧ (∀ k, v.ownBlock = some k → w.heap.size ≤ k) ∧ Below w.heap.size w w' := by
  obtain ⟨ma, mr, lv, dv, es, clk, es2, clk2, hx⟩ := h
  have hs := Sl0.of_own hx.dn (by omega)
  have c2 : w.cell? ⟨xb, 10, none⟩ = some dv := by rw [cell_of_heap hx.blk]; rfl
  have b1 := hok.clen
  have b2 := hok.dlen
  clear hx hok
  go_enter Try.func13, Try.ntmps13
  rcases hs with ⟨rfl, hn, hd⟩ | ⟨b, cap, rfl, hcap, hc, hb⟩
  · go_wp2_with fail
    refine (cloneDot_nil _).mono ?_
    rintro e w' ⟨rfl, rfl⟩
    go_wp2
    go_ret
    exact ⟨_, rfl, .inl ⟨rfl, hn, hd⟩, fun k hk => by simp [Value.ownBlock] at hk, Below.refl _ _⟩
  · go_wp2_with fail
    refine (cloneDot_some b 0 cap x.done.length (dotCells x.done) _ (dotCells_len _) hc (fun _ => hb) ?_ (by omega)).mono ?_
    · intro v hv
      unfold dotCells at hv
      obtain ⟨d, _, hd⟩ := List.mem_flatMap.1 hv
      simp only [List.mem_cons, List.not_mem_nil, or_false] at hd
      rcases hd with rfl | rfl <;> rfl
    · rintro e w' ⟨g, cap', rfl, hg, hown, hb'⟩
      have HO := Lib.hid hown
      have HB := Lib.hid hb'
      clear hown hb'
      go_wp2_with fail
      go_ret
      exact ⟨_, rfl, Sl0.of_own HO.out (by omega), fun k hk => by simp [Value.ownBlock] at hk; omega, HB.out⟩

theorem bClone_any (v : Value) (bs : List UInt8) (w : World) (h : Sl0 w v bs.length (bCells bs)) (hn : bs.length ≤ 1000000) :
    Calls Try.prog 18 #[v] w fun e w' => ∃ v', e = .returned v' ∧ Sl0 w' v' bs.length (bCells bs) ∧ (∀ k, v'.ownBlock = some k → w.heap.size ≤ k ∧ ∃ cs, w'.heap[k]? = some (.cells cs 5 (0, 0))) ∧ Below w.heap.size w w' := by
  rcases h with ⟨rfl, h1, h2⟩ | ⟨b, cap, rfl, hc, hcs, hb⟩
  · refine (bClone_nil w).mono ?_
    rintro e w' ⟨rfl, rfl⟩
    exact ⟨_, rfl, .inl ⟨rfl, h1, h2⟩, fun k hk => by simp [Value.ownBlock] at hk, Below.refl _ _⟩
  · refine (bClone_some b 0 cap bs.length (bCells bs) w (by simp [bCells_len]) hcs (fun _ => hb) (bCells_one bs) hn).mono ?_
    rintro e w' ⟨g, cap', rfl, hg, hown, hb'⟩
    refine ⟨_, rfl, Sl0.of_own hown (by omega), fun k hk => ?_, hb'⟩
    simp [Value.ownBlock] at hk
    subst hk
    refine ⟨hg, ?_⟩
    rcases hown.2 with ⟨h1, _⟩ | ⟨g', cap2, cur, h1, _, h2, _⟩
    · cases h1
    · simp at h1
      rw [h1.1]
      exact ⟨_, h2⟩

def XS.body (x : XS) (d : Dot) : List UInt8 := match x.find d with | some c => c.bs | none => []

set_option maxRecDepth 100000 in
set_option maxHeartbeats 1000000 in
theorem xbody_any (base : Nat) (w : World) (xb : Nat) (F : Nat → Prop) (x : XS) (h : XAt base w xb F x) (hok : x.Ok) (d : Dot) :
    Calls Try.prog 11 #[.pointer (some ⟨xb, 0, none⟩), .agg #[.int .i64 d.1, .int .i64 d.2]] w fun e w' => ∃ v, e = .returned (.tuple #[v, .bool (x.find d).isSome]) ∧ Sl0 w' v (x.body d).length (bCells (x.body d)) ∧ Below w.heap.size w w' := by
  obtain ⟨ma, mr, lv, dv, es, clk, es2, clk2, hx⟩ := h
  have hV := comVals_cmd x.coms fun c hc => (hx.bod c hc).1.isSl
  have c7 : w.cell? ⟨xb, 7, none⟩ = some (.map (some ma)) := by rw [cell_of_heap hx.blk]; rfl
  have hlx := lt_of_heap hx.blk
  have hm := hx.all
  have k1 := fun o => heap_drew_keeps (heap_alloc_keeps hm o)
  have k2 := fun o o' => heap_drew_keeps (heap_alloc_keeps (heap_alloc_keeps hm o) o')
  have hlk := run_lookup_ok 52 57 mapCmdDesc _ zeroCmd ma es clk _ hx.alls d
  obtain ⟨cs, hv, hsz, ho⟩ := hV.get d
  obtain ⟨bv, hb17, hbv⟩ : ∃ bv, cs[17]? = some bv ∧ Sl0 w bv (x.body d).length (bCells (x.body d)) := by
    rw [getAt_com] at hv
    unfold XS.body XS.find
    cases hf : x.coms.find? (fun c => c.i.dot == d) with
    | none =>
      rw [hf] at hv
      simp only [Option.map_none, Option.getD_none] at hv
      cases hv
      exact ⟨_, rfl, .inl ⟨rfl, rfl, rfl⟩⟩
    | some c =>
      rw [hf] at hv
      simp only [Option.map_some, Option.getD_some, Com.val] at hv
      cases hv
      exact ⟨c.b, rfl, (hx.bod c (List.mem_of_find?_eq_some hf)).1⟩
  have hbl : (x.body d).length ≤ 65536 := by
    unfold XS.body XS.find
    cases hf : x.coms.find? (fun c => c.i.dot == d) with
    | none => simp
    | some c => exact hok.blen c (List.mem_of_find?_eq_some hf)
  rw [hv] at hlk
  have hsome : (getAt (comVals x.coms) d).isSome = (x.find d).isSome := by rw [getAt_com]; unfold XS.find; simp
  rw [hsome] at hlk
  have hst := fun A => store_new2 w A cs hsz ho
  have cnew := fun (a : Obj) (n : Nat) => (show (((w.alloc a).alloc (.cells cs 57)).drewN n).cell? ⟨w.heap.size + 1, 17, none⟩ = some bv by
    have := cell_new (w.alloc a) cs 57 17
    rw [World.size_alloc] at this
    rw [← hb17, ← this]; rfl)
  have HBV := Lib.hid hbv
  have hdr : ∀ (a b : Obj) (n : Nat), Below w.heap.size w (((w.alloc a).alloc b).drewN n) := fun a b n => below_drewN (((Below.refl _ _).alloc (Nat.le_refl _) _).alloc (by simp) _) n
  have HDR := Lib.hid hdr
  have HB17 := Lib.hid hb17
  have HSZ := Lib.hid hsz
  clear hx hV hv ho hbv hsome hb17 hok hdr cnew
  generalize (x.find d).isSome = ok at *
  go_enter Try.func11, Try.ntmps11
  go_wp2
  go_region
  go_wp2_with fail
  have hcs : cs[17]'(by have := HSZ.out; omega) = bv := by
    have := HB17.out
    rw [Array.getElem?_eq_getElem (by have := HSZ.out; omega)] at this
    simpa using this
  rw [hcs]
  have hb1 : Below w.heap.size w ((w.alloc (.cells #[.int .i64 d.1, .int .i64 d.2] 28)).alloc (.cells cs 57)).drew := (((Below.refl _ _).alloc (Nat.le_refl _) _).alloc (by simp) _).drew
  clear hcs hst hlk k1 k2 hm c7
  refine (bClone_any bv (x.body d) _ (HBV.out.below hb1) (by omega)).mono ?_
  rintro e w' ⟨v', rfl, hs', _, hb2⟩
  have HS := Lib.hid hs'
  have HB := Lib.hid (hb1.trans (hb2.mono hb1.size))
  clear hs' hb2 hb1
  go_wp2_with fail
  go_ret2
  exact ⟨v', rfl, HS.out, HB.out⟩
end Go.Proofs.Ytibnnhdpaccpfaa
