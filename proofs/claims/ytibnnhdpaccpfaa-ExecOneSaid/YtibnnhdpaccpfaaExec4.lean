import Derived.Test.YtibnnhdpaccpfaaExec3
import Derived.Test.YtibnnhdpaccpfaaOpen
namespace Go.Proofs.Ytibnnhdpaccpfaa
open Go.RowKit

theorem heap3' (w : World) (a b c : Obj) : (((w.alloc a).alloc b).alloc c).heap[w.heap.size]? = some a ∧ (((w.alloc a).alloc b).alloc c).heap[w.heap.size + 1]? = some b ∧ (((w.alloc a).alloc b).alloc c).heap[w.heap.size + 1 + 1]? = some c ∧ Below w.heap.size w (((w.alloc a).alloc b).alloc c) := by
  refine ⟨heap_alloc_keeps (heap_alloc_keeps (heap_alloc_new _ _) _) _, heap_alloc_keeps (heap_new2 _ _ _) _, ?_, (((Below.refl _ _).alloc (Nat.le_refl _) _).alloc (by simp) _).alloc (by simp; omega) _⟩
  have := heap_new2 (w.alloc a) b c
  rw [World.size_alloc] at this
  exact this

theorem run_lenmap (ma : Nat) (es : Array MapEntry) (clk : Nat) (w : World) (h : w.heap[ma]? = some (.map es clk)) : (Builtin.len_ #[52] 3 #[.map (some ma)]).run Try.prog w = .ok (.int .i64 (es.size : Int)) w := by
  simp [Builtin.len_, Sem.run_bind, run_underlying mapCmdDesc, getObj, Sem.run, h, goInt]
theorem store_new1 (w : World) (cs : Array Value) (hs : cs.size = 18) (h1 : cs.all (·.oneCell') = true) :
    (storeCells ⟨w.heap.size, 0, none⟩ cs.toList 0).run Try.prog (w.alloc (.cells cmdZeroCells 57)).drew = .ok () (w.alloc (.cells cs 57)).drew := by
  have := run_storeCells_new (P := Try.prog) w.drew 57 cmdZeroCells cs (by rw [cmdSize, hs]) (by rw [hs]; rfl) h1
  simp only [World.size_drew] at this
  exact this
def commitErr (x : XS) (i : Inst) (v : V7) (n : Nat) : Int :=
  if goodL [i] = false ∨ V7.good v = false ∨ 65536 < n then 1 else if (x.find i.dot).isSome = true then 5 else if 1000 ≤ x.coms.length then 2 else 0
def XS.commit (x : XS) (i : Inst) (v : V7) (b : Value) (bs : List UInt8) : XS := if commitErr x i v bs.length = 0 then { x with coms := x.coms ++ [⟨i, v, b, bs⟩] } else x
def CommitPost (base : Nat) (w : World) (xb : Nat) (F : Nat → Prop) (x : XS) (i : Inst) (v : V7) (bs : List UInt8) (e : Ending) (w' : World) : Prop :=
  ∃ b F', e = .returned (.int .i64 (commitErr x i v bs.length)) ∧ XAt base w' xb F' (x.commit i v b bs) ∧ (∀ k, F' k → F k ∨ w.heap.size ≤ k) ∧ Mod F w w' ∧ (commitErr x i v bs.length ≠ 0 → Below w.heap.size w w')
theorem CommitPost.no {base : Nat} {w w' : World} {xb : Nat} {F : Nat → Prop} {x : XS} {i : Inst} {v : V7} {bs : List UInt8} {c : Int} (h : XAt base w xb F x) (hb : Below w.heap.size w w') (hc : commitErr x i v bs.length = c) (hne : c ≠ 0) :
    CommitPost base w xb F x i v bs (.returned (.int .i64 c)) w' := by
  refine ⟨.slice none 0 0, F, by rw [hc], ?_, fun k hk => .inl hk, Mod.of_below hb, fun _ => hb⟩
  unfold XS.commit
  rw [if_neg (by rw [hc]; exact hne)]
  exact h.below hb
set_option maxRecDepth 100000 in
theorem bClone_zero (a : Addr) (w : World) : Calls Try.prog 18 #[.slice (some a) 0 0] w (Cloned 5 1 0 [] w) := by
  obtain ⟨i0, hi0, hz0, hz1, hz2⟩ := info_parts byteInfo
  have heq := eqNil 35 5 Try.underlying35
  go_enter Try.func18, Try.ntmps18
  go_wp2_with (at_builtin; go_must (refine wpList_append_own _ rfl _ _ 35 rfl w.heap.size 5 i0 _ 1 1 Try.underlying35 hi0 hz0 hz1 hz2 rfl (by decide) _ _ _ rfl (World.ownsRow_made w #[] 0 (Nat.le_refl _) (Nat.zero_le _) rfl) a 0 0 [] rfl rfl (fun j u hj => by simp at hj) (fun v hv => by simp at hv) (by unfold maxLen; omega) (by omega) (by simp) ?_))
  intro v' w1 hown hgrow hnil
  have HO := Lib.hid hown
  have HG := Lib.hid hgrow
  have HN := Lib.hid hnil
  clear hown hgrow hnil
  go_wp2
  go_ret
  exact cloned_of rfl HO.out HG.out HN.out
theorem bClone_at (v : Value) (bs : List UInt8) (w : World) (h : BodyAt w v bs) (hn : bs.length ≤ 1000000) :
    Calls Try.prog 18 #[v] w fun e w' => ∃ v', e = .returned v' ∧ Sl0 w' v' bs.length (bCells bs) ∧ (∀ k, v'.ownBlock = some k → w.heap.size ≤ k ∧ ∃ cs, w'.heap[k]? = some (.cells cs 5 (0, 0))) ∧ Below w.heap.size w w' := by
  rcases h with (⟨rfl, h1, h2⟩ | ⟨b, off, cap, rfl, hc, hcs, hb⟩) | ⟨a, rfl, rfl⟩
  · exact bClone_any _ bs w (.inl ⟨rfl, h1, h2⟩) hn
  · refine (bClone_some b off cap bs.length (bCells bs) w (by simp [bCells_len]) hcs hb (bCells_one bs) hn).mono ?_
    rintro e w' ⟨g, cap', rfl, hg, hown, hb'⟩
    refine ⟨_, rfl, Sl0.of_own hown (by omega), fun k hk => ?_, hb'⟩
    simp [Value.ownBlock] at hk
    subst hk
    exact ⟨hg, own_at hown rfl⟩
  · refine (bClone_zero a w).mono ?_
    rintro e w' ⟨g, cap', rfl, hg, hown, hb'⟩
    refine ⟨_, rfl, Sl0.of_own hown (by omega), fun k hk => ?_, hb'⟩
    simp [Value.ownBlock] at hk
    subst hk
    exact ⟨hg, own_at hown rfl⟩

set_option maxRecDepth 100000 in
set_option maxHeartbeats 4000000 in
theorem xcommit_any (base : Nat) (w : World) (xb : Nat) (F : Nat → Prop) (x : XS) (h : XAt base w xb F x) (hok : x.Ok) (i : Inst) (v : V7) (bv : Value) (bs : List UInt8) (hbv : BodyAt w bv bs) :
    Calls Try.prog 8 #[.pointer (some ⟨xb, 0, none⟩), .agg #[.int .i64 i.rep, .int .i64 i.n, .int .i64 i.seq, .int .i64 i.deps.a0, .int .i64 i.deps.a1, .int .i64 i.deps.a2, .int .i64 i.deps.a3, .int .i64 i.deps.a4, .int .i64 i.deps.a5, .int .i64 i.deps.a6], .agg #[.int .i64 v.a0, .int .i64 v.a1, .int .i64 v.a2, .int .i64 v.a3, .int .i64 v.a4, .int .i64 v.a5, .int .i64 v.a6], bv] w (CommitPost base w xb F x i v bs) := by
  have HX := Lib.hid h
  have HOK := Lib.hid hok
  have HBV := Lib.hid hbv
  clear h hok hbv
  go_enter Try.func8, Try.ntmps8
  go_wp2_with fail
  have hh := heap3' w (.cells #[.int .i64 i.rep, .int .i64 i.n, .int .i64 i.seq, .int .i64 i.deps.a0, .int .i64 i.deps.a1, .int .i64 i.deps.a2, .int .i64 i.deps.a3, .int .i64 i.deps.a4, .int .i64 i.deps.a5, .int .i64 i.deps.a6] 31) (.cells #[.int .i64 v.a0, .int .i64 v.a1, .int .i64 v.a2, .int .i64 v.a3, .int .i64 v.a4, .int .i64 v.a5, .int .i64 v.a6] 32) (.cells #[.int .i64 i.rep, .int .i64 i.n, .int .i64 i.seq, .int .i64 i.deps.a0, .int .i64 i.deps.a1, .int .i64 i.deps.a2, .int .i64 i.deps.a3, .int .i64 i.deps.a4, .int .i64 i.deps.a5, .int .i64 i.deps.a6] 31)
  generalize (((w.alloc (.cells #[.int .i64 i.rep, .int .i64 i.n, .int .i64 i.seq, .int .i64 i.deps.a0, .int .i64 i.deps.a1, .int .i64 i.deps.a2, .int .i64 i.deps.a3, .int .i64 i.deps.a4, .int .i64 i.deps.a5, .int .i64 i.deps.a6] 31)).alloc (.cells #[.int .i64 v.a0, .int .i64 v.a1, .int .i64 v.a2, .int .i64 v.a3, .int .i64 v.a4, .int .i64 v.a5, .int .i64 v.a6] 32)).alloc (.cells #[.int .i64 i.rep, .int .i64 i.n, .int .i64 i.seq, .int .i64 i.deps.a0, .int .i64 i.deps.a1, .int .i64 i.deps.a2, .int .i64 i.deps.a3, .int .i64 i.deps.a4, .int .i64 i.deps.a5, .int .i64 i.deps.a6] 31)) = w2 at hh ⊢
  obtain ⟨e1, e2, e3, hb2⟩ := hh
  obtain ⟨kb, hkb⟩ : ∃ kb, w.heap.size = kb := ⟨_, rfl⟩
  rw [hkb] at e1 e2 e3
  have HKB := Lib.hid hkb
  have HB2 := Lib.hid hb2
  have hcg : CellsAt w2 (kb + 1 + 1) 0 (instsCells [i]) := fun j u hj => by
    rw [cell_of_heap e3, Nat.zero_add, ← Array.getElem?_toList]
    have : instsCells [i] = instCells i := by simp [instsCells]
    rw [this] at hj
    exact hj
  have HCG := Lib.hid hcg
  have l1 := lt_of_heap e1
  have l2 := lt_of_heap e2
  have l3 := lt_of_heap e3
  have HE := Lib.hid (And.intro e1 e2)
  clear e1 e2 e3 hb2 hcg
  rw [hkb]
  clear hkb
  refine (good_some (kb + 1 + 1) 0 1 [i] w2 HCG.out (fun _ => l3) (by simp)).mono ?_
  rintro e w3 ⟨rfl, hb3⟩
  have e1 := Below.heap hb3 HE.out.1 l1
  have e2 := Below.heap hb3 HE.out.2 l2
  have HE3 := Lib.hid (And.intro e1 e2)
  have v0 : w3.cell? ⟨kb + 1, 0, none⟩ = some (.int .i64 v.a0) := by rw [cell_of_heap e2]; rfl
  have v1 : w3.cell? ⟨kb + 1, 1, none⟩ = some (.int .i64 v.a1) := by rw [cell_of_heap e2]; rfl
  have v2 : w3.cell? ⟨kb + 1, 2, none⟩ = some (.int .i64 v.a2) := by rw [cell_of_heap e2]; rfl
  have v3 : w3.cell? ⟨kb + 1, 3, none⟩ = some (.int .i64 v.a3) := by rw [cell_of_heap e2]; rfl
  have v4 : w3.cell? ⟨kb + 1, 4, none⟩ = some (.int .i64 v.a4) := by rw [cell_of_heap e2]; rfl
  have v5 : w3.cell? ⟨kb + 1, 5, none⟩ = some (.int .i64 v.a5) := by rw [cell_of_heap e2]; rfl
  have v6 : w3.cell? ⟨kb + 1, 6, none⟩ = some (.int .i64 v.a6) := by rw [cell_of_heap e2]; rfl
  have HB3 := Lib.hid (show Below w.heap.size w w3 from HB2.out.trans (hb3.mono HB2.out.size))
  clear e1 e2 hb3 l1 l2 l3 HE HCG
  cases hg : goodL [i] with
  | false =>
    have HERR := Lib.hid (show commitErr x i v bs.length = 1 from if_pos (.inl hg))
    clear hg
    go_wp2_with fail
    go_ret
    exact CommitPost.no HX.out HB3.out HERR.out (by decide)
  | true =>
    have HG := Lib.hid hg
    clear hg
    go_wp2_with fail
    refine (vGood_any v _).mono ?_
    rintro e w4 ⟨rfl, hb4⟩
    have HB4 := Lib.hid (HB3.out.trans (hb4.mono HB3.out.size))
    have HE4 := Lib.hid (And.intro (Below.heap hb4 HE3.out.1 (lt_of_heap HE3.out.1)) (Below.heap hb4 HE3.out.2 (lt_of_heap HE3.out.2)))
    clear v0 v1 v2 v3 v4 v5 v6 hb4
    cases hgv : V7.good v with
    | false =>
      have HERR := Lib.hid (show commitErr x i v bs.length = 1 from if_pos (.inr (.inl hgv)))
      clear hgv
      go_wp2_with fail
      go_ret
      exact CommitPost.no HX.out HB4.out HERR.out (by decide)
    | true =>
      have HGV := Lib.hid hgv
      clear hgv
      obtain ⟨pb, cpb, rfl⟩ := HBV.out.form
      obtain ⟨nb, hnb⟩ : ∃ nb, bs.length = nb := ⟨_, rfl⟩
      rw [hnb]
      have HNB := Lib.hid hnb
      clear hnb
      by_cases hlen : 65536 < nb
      · have hdec : decide ((65536 : Int) < (nb : Int)) = true := by simp; omega
        have HERR := Lib.hid (show commitErr x i v bs.length = 1 from if_pos (.inr (.inr (by rw [HNB.out]; exact hlen))))
        go_wp2_with fail
        go_ret
        exact CommitPost.no HX.out HB4.out HERR.out (by decide)
      · have hdec : decide ((65536 : Int) < (nb : Int)) = false := by simp; omega
        obtain ⟨ma, mr, lv, dv, es, clk, es2, clk2, hx⟩ := HX.out.below HB4.out
        have hV := comVals_cmd x.coms fun c hc => (hx.bod c hc).1.isSl
        have c7 : w4.cell? ⟨xb, 7, none⟩ = some (.map (some ma)) := by rw [cell_of_heap hx.blk]; rfl
        have d0 : w4.cell? ⟨kb, 0, none⟩ = some (.int .i64 i.rep) := by rw [cell_of_heap HE4.out.1]; rfl
        have d1 : w4.cell? ⟨kb, 1, none⟩ = some (.int .i64 i.n) := by rw [cell_of_heap HE4.out.1]; rfl
        have lx4 := lt_of_heap hx.blk
        have lk4 := lt_of_heap HE4.out.1
        have hm := hx.all
        have k0 := heap_drew_keeps hm
        have k1 := fun o => heap_drew_keeps (heap_alloc_keeps hm o)
        have hlk := run_lookup_ok 52 57 mapCmdDesc _ zeroCmd ma es clk _ hx.alls (i.rep, i.n)
        obtain ⟨cs, hv, hsz, ho⟩ := hV.get (i.rep, i.n)
        have hsome : (getAt (comVals x.coms) (i.rep, i.n)).isSome = (x.find i.dot).isSome := by rw [getAt_com]; unfold XS.find; simp [Inst.dot]
        rw [hv, hsome] at hlk
        simp only at hlk
        have hst := store_new1 w4 cs hsz ho
        have HXR := Lib.hid hx
        clear hx hV hv ho hsome
        cases hf : (x.find i.dot).isSome with
        | true =>
          rw [hf] at hlk
          have HERR := Lib.hid (show commitErr x i v bs.length = 5 from by
            unfold commitErr
            rw [if_neg (by rw [HG.out, HGV.out, HNB.out]; simp; omega), if_pos hf])
          clear hf
          go_wp2_with fail
          go_region
          go_wp2_with fail
          go_ret
          exact CommitPost.no HX.out (HB4.out.trans (by repeat (first | exact Below.refl _ _ | exact (below_drewN ((Below.refl _ _).alloc (Nat.le_refl _) _) _).mono HB4.out.size | refine Below.drew ?_ | refine Below.alloc ?_ (by simp; try omega) _))) HERR.out (by decide)
        | false =>
          rw [hf] at hlk
          have HF := Lib.hid hf
          clear hf
          go_wp2_with fail
          go_region
          have hb5 : Below w4.heap.size w4 (w4.alloc (.cells cs 57)).drew := ((Below.refl _ _).alloc (Nat.le_refl _) _).drew
          generalize (w4.alloc (.cells cs 57)).drew = w5 at hb5 ⊢
          have hx5 := HXR.out.frame (Mod.of_below (S := fun _ => False) hb5) (fun _ _ h => h)
          have HB5 := Lib.hid (HB4.out.trans (hb5.mono HB4.out.size))
          have HE5 := Lib.hid (And.intro (Below.heap hb5 HE4.out.1 (lt_of_heap HE4.out.1)) (Below.heap hb5 HE4.out.2 (lt_of_heap HE4.out.2)))
          have hes : es.size = x.coms.length := by have := hx5.alls.size; rw [this]; simp [comVals]
          have hlen5 := run_lenmap ma es clk w5 hx5.all
          rw [hes] at hlen5
          have c75 : w5.cell? ⟨xb, 7, none⟩ = some (.map (some ma)) := by rw [cell_of_heap hx5.blk]; rfl
          have HXR5 := Lib.hid hx5
          have hcl := HOK.out.clen
          clear hb5 hx5 hes c7 d0 d1 lx4 lk4 hm k0 k1 hlk hst hsz
          obtain ⟨cn, hcn⟩ : ∃ cn, x.coms.length = cn := ⟨_, rfl⟩
          rw [hcn] at hlen5 hcl
          have HCN := Lib.hid hcn
          clear hcn
          by_cases hfull : 1000 ≤ cn
          · have hdec2 : decide ((1000 : Int) ≤ (cn : Int)) = true := by simp; omega
            have HERR := Lib.hid (show commitErr x i v bs.length = 2 from by
              unfold commitErr
              rw [if_neg (by rw [HG.out, HGV.out, HNB.out]; simp; omega), if_neg (by rw [HF.out]; simp), if_pos (by rw [HCN.out]; exact hfull)])
            go_wp2_with fail
            go_ret
            exact CommitPost.no HX.out HB5.out HERR.out (by decide)
          · have hdec2 : decide ((1000 : Int) ≤ (cn : Int)) = false := by simp; omega
            have HERR := Lib.hid (show commitErr x i v bs.length = 0 from by
              unfold commitErr
              rw [if_neg (by rw [HG.out, HGV.out, HNB.out]; simp; omega), if_neg (by rw [HF.out]; simp), if_neg (by rw [HCN.out]; exact hfull)])
            go_wp2_with fail
            have hn : getAt (comVals x.coms) (i.rep, i.n) = none := by
              rw [getAt_com]
              have := HF.out
              unfold XS.find at this
              simpa [Inst.dot] using this
            have hup := fun u => run_update_new 52 57 mapCmdDesc ma es clk _ HXR5.out.alls (i.rep, i.n) hn u
            simp only at hup
            have s1 : w5.cell? ⟨kb, 0, none⟩ = some (.int .i64 i.rep) := by rw [cell_of_heap HE5.out.1]; rfl
            have s2 : w5.cell? ⟨kb, 1, none⟩ = some (.int .i64 i.n) := by rw [cell_of_heap HE5.out.1]; rfl
            have s3 : w5.rangeAt kb 0 [.int .i64 i.rep, .int .i64 i.n, .int .i64 i.seq, .int .i64 i.deps.a0, .int .i64 i.deps.a1, .int .i64 i.deps.a2, .int .i64 i.deps.a3, .int .i64 i.deps.a4, .int .i64 i.deps.a5, .int .i64 i.deps.a6] := fun j u hj => by rw [cell_of_heap HE5.out.1, Nat.zero_add, ← Array.getElem?_toList]; exact hj
            have s4 : w5.rangeAt (kb + 1) 0 [.int .i64 v.a0, .int .i64 v.a1, .int .i64 v.a2, .int .i64 v.a3, .int .i64 v.a4, .int .i64 v.a5, .int .i64 v.a6] := fun j u hj => by rw [cell_of_heap HE5.out.2, Nat.zero_add, ← Array.getElem?_toList]; exact hj
            have lx5 := lt_of_heap HXR5.out.blk
            have lk5 := lt_of_heap HE5.out.1
            have lv5 := lt_of_heap HE5.out.2
            have HUP := Lib.hid hup
            clear hn hup hlen5
            refine wp_region_F (fun j => Nat.blt j 11) (fun w' => w'.cell? ⟨xb, 7, none⟩ = some (.map (some ma)) ∧ w'.cell? ⟨kb, 0, none⟩ = some (.int .i64 i.rep) ∧ w'.cell? ⟨kb, 1, none⟩ = some (.int .i64 i.n) ∧ w'.rangeAt kb 0 [.int .i64 i.rep, .int .i64 i.n, .int .i64 i.seq, .int .i64 i.deps.a0, .int .i64 i.deps.a1, .int .i64 i.deps.a2, .int .i64 i.deps.a3, .int .i64 i.deps.a4, .int .i64 i.deps.a5, .int .i64 i.deps.a6] ∧ w'.rangeAt (kb + 1) 0 [.int .i64 v.a0, .int .i64 v.a1, .int .i64 v.a2, .int .i64 v.a3, .int .i64 v.a4, .int .i64 v.a5, .int .i64 v.a6]) (by rfl) ?_
            have HSS : (fun w' : World => w'.cell? ⟨xb, 7, none⟩ = some (.map (some ma)) ∧ w'.cell? ⟨kb, 0, none⟩ = some (.int .i64 i.rep) ∧ w'.cell? ⟨kb, 1, none⟩ = some (.int .i64 i.n) ∧ w'.rangeAt kb 0 [.int .i64 i.rep, .int .i64 i.n, .int .i64 i.seq, .int .i64 i.deps.a0, .int .i64 i.deps.a1, .int .i64 i.deps.a2, .int .i64 i.deps.a3, .int .i64 i.deps.a4, .int .i64 i.deps.a5, .int .i64 i.deps.a6] ∧ w'.rangeAt (kb + 1) 0 [.int .i64 v.a0, .int .i64 v.a1, .int .i64 v.a2, .int .i64 v.a3, .int .i64 v.a4, .int .i64 v.a5, .int .i64 v.a6]) (World.drew w5) := ⟨c75, s1, s2, s3, s4⟩
            change wpAnyF _ _ _ _ _ _ _ _ _ (World.drew w5)
            refine wpAnyF_take (i := 0) (oi := ⟨_, _, _, _, _, _⟩) (v := ?_) rfl (by kernel_rfl) (fun _ _ _ h => h) (Or.inl ⟨by rfl, ?_⟩) HSS ?_
            rotate_left
            · intro wS hSw; (try dsimp only at hSw); go_simp; (try with_reducible rfl)
            simp only [Act.put, List.setIfInBounds_toArray, List.set_cons_zero, List.set_cons_succ]
            refine wpAnyF_take (i := 1) (oi := ⟨_, _, _, _, _, _⟩) (v := ?_) rfl (by kernel_rfl) (fun _ _ _ h => h) (Or.inl ⟨by rfl, ?_⟩) HSS ?_
            rotate_left
            · intro wS hSw; (try dsimp only at hSw); go_simp; (try with_reducible rfl)
            simp only [Act.put, List.setIfInBounds_toArray, List.set_cons_zero, List.set_cons_succ]
            refine wpAnyF_take (i := 2) (oi := ⟨_, _, _, _, _, _⟩) (v := ?_) rfl (by kernel_rfl) (fun _ _ _ h => h) (Or.inl ⟨by rfl, ?_⟩) HSS ?_
            rotate_left
            · intro wS hSw; (try dsimp only at hSw); go_simp; (try with_reducible rfl)
            simp only [Act.put, List.setIfInBounds_toArray, List.set_cons_zero, List.set_cons_succ]
            refine wpAnyF_take (i := 3) (oi := ⟨_, _, _, _, _, _⟩) (v := ?_) rfl (by kernel_rfl) (fun _ _ _ h => h) (Or.inl ⟨by rfl, ?_⟩) HSS ?_
            rotate_left
            · intro wS hSw; (try dsimp only at hSw); go_simp; (try with_reducible rfl)
            simp only [Act.put, List.setIfInBounds_toArray, List.set_cons_zero, List.set_cons_succ]
            refine wpAnyF_take (i := 4) (oi := ⟨_, _, _, _, _, _⟩) (v := ?_) rfl (by kernel_rfl) (fun _ _ _ h => h) (Or.inl ⟨by rfl, ?_⟩) HSS ?_
            rotate_left
            · intro wS hSw; (try dsimp only at hSw); go_simp; (try with_reducible rfl)
            simp only [Act.put, List.setIfInBounds_toArray, List.set_cons_zero, List.set_cons_succ]
            refine wpAnyF_take (i := 5) (oi := ⟨_, _, _, _, _, _⟩) (v := ?_) rfl (by kernel_rfl) (fun _ _ _ h => h) (Or.inl ⟨by rfl, ?_⟩) HSS ?_
            rotate_left
            · intro wS hSw; (try dsimp only at hSw); go_simp; (try with_reducible rfl)
            simp only [Act.put, List.setIfInBounds_toArray, List.set_cons_zero, List.set_cons_succ]
            refine wpAnyF_take (i := 6) (oi := ⟨_, _, _, _, _, _⟩) (v := .agg ([.int .i64 i.rep, .int .i64 i.n, .int .i64 i.seq, .int .i64 i.deps.a0, .int .i64 i.deps.a1, .int .i64 i.deps.a2, .int .i64 i.deps.a3, .int .i64 i.deps.a4, .int .i64 i.deps.a5, .int .i64 i.deps.a6] : List Value).toArray) rfl (by kernel_rfl) (fun _ _ _ h => h) (yieldsIf_load_mid (by rfl) 31 (.tmp 5) rfl kb 0 rfl [.int .i64 i.rep, .int .i64 i.n, .int .i64 i.seq, .int .i64 i.deps.a0, .int .i64 i.deps.a1, .int .i64 i.deps.a2, .int .i64 i.deps.a3, .int .i64 i.deps.a4, .int .i64 i.deps.a5, .int .i64 i.deps.a6] _ (fun _ hS => hS.2.2.2.1) instDesc rfl instSize) HSS ?_
            simp only [Act.put, List.setIfInBounds_toArray, List.set_cons_zero, List.set_cons_succ]
            refine wpAnyF_take (i := 7) (oi := ⟨_, _, _, _, _, _⟩) (v := .agg ([.int .i64 v.a0, .int .i64 v.a1, .int .i64 v.a2, .int .i64 v.a3, .int .i64 v.a4, .int .i64 v.a5, .int .i64 v.a6] : List Value).toArray) rfl (by kernel_rfl) (fun _ _ _ h => h) (yieldsIf_load_mid (by rfl) 32 (.tmp 6) rfl (kb + 1) 0 rfl [.int .i64 v.a0, .int .i64 v.a1, .int .i64 v.a2, .int .i64 v.a3, .int .i64 v.a4, .int .i64 v.a5, .int .i64 v.a6] _ (fun _ hS => hS.2.2.2.2) Try.underlying32 rfl vecSize) HSS ?_
            simp only [Act.put, List.setIfInBounds_toArray, List.set_cons_zero, List.set_cons_succ]
            refine wpAnyF_take (i := 8) (oi := ⟨_, _, _, _, _, _⟩) (v := ?_) rfl (by kernel_rfl) (fun _ _ _ h => h) (Or.inl ⟨by rfl, ?_⟩) HSS ?_
            rotate_left
            · intro wS hSw; (try dsimp only at hSw); go_simp; (try with_reducible rfl)
            simp only [Act.put, List.setIfInBounds_toArray, List.set_cons_zero, List.set_cons_succ]
            refine wpAnyF_step (i := 9) (o := ⟨_, _, _, _, _, _⟩) rfl (by kernel_rfl) ?_
            go_wp2_with fail
            have hbc := bClone_at (.slice pb bs.length cpb) bs w5.drew (HBV.out.below HB5.out.drew) (by have := HNB.out; omega)
            rw [HNB.out] at hbc
            refine hbc.mono ?_
            rintro e w6 ⟨v', rfl, hs6, hk6, hb6⟩
            obtain ⟨p6, c6, rfl, _, _⟩ := hs6.form
            have hb56 : Below w5.heap.size w5 w6 := (Below.refl _ _).drew.trans (hb6.mono (by simp))
            have hm6 := Below.heap hb56 HXR5.out.all (lt_of_heap HXR5.out.all)
            have HTT := Lib.hid (show (fun w' : World => w'.cell? ⟨xb, 7, none⟩ = some (.map (some ma)) ∧ w'.cell? ⟨kb, 0, none⟩ = some (.int .i64 i.rep) ∧ w'.cell? ⟨kb, 1, none⟩ = some (.int .i64 i.n) ∧ w'.rangeAt kb 0 [.int .i64 i.rep, .int .i64 i.n, .int .i64 i.seq, .int .i64 i.deps.a0, .int .i64 i.deps.a1, .int .i64 i.deps.a2, .int .i64 i.deps.a3, .int .i64 i.deps.a4, .int .i64 i.deps.a5, .int .i64 i.deps.a6] ∧ w'.rangeAt (kb + 1) 0 [.int .i64 v.a0, .int .i64 v.a1, .int .i64 v.a2, .int .i64 v.a3, .int .i64 v.a4, .int .i64 v.a5, .int .i64 v.a6]) w6 from ⟨(hb56.cell lx5).trans c75, (hb56.cell lk5).trans s1, (hb56.cell lk5).trans s2, fun j u hj => (hb56.cell lk5).trans (s3 j u hj), fun j u hj => (hb56.cell lv5).trans (s4 j u hj)⟩)
            have HS6 := Lib.hid hs6
            have HK6 := Lib.hid hk6
            have HB6 := Lib.hid hb56
            clear hbc hs6 hk6 hb6 hb56 HSS s1 s2 s3 s4 c75
            go_wp2_with fail
            refine onEnd_normal ⟨fun _ => HTT.out, ?_⟩
            refine wpAnyF_step (i := 10) (o := ⟨_, _, _, _, _, _⟩) rfl (by kernel_rfl) ?_
            go_wp2_with fail
            refine onEnd_normal ⟨fun _ => HTT.out, ?_⟩
            refine wpAnyF_chain [11] [⟨_, _, _, _, _, _⟩] rfl (by kernel_rfl) ?_
            have hup := HUP.out
            go_wp2_with fail
            have hE7 : Entries (es.push { key := dotV (i.rep, i.n), val := Com.val ⟨i, v, .slice p6 nb c6, bs⟩, born := clk }) (comVals (x.coms ++ [⟨i, v, .slice p6 nb c6, bs⟩])) := by
              have := HXR5.out.alls.push (i.rep, i.n) (Com.val ⟨i, v, .slice p6 nb c6, bs⟩) clk
              simpa [comVals, Inst.dot] using this
            have hm7 : (w6.setMap ma (.map (es.push { key := dotV (i.rep, i.n), val := Com.val ⟨i, v, .slice p6 nb c6, bs⟩, born := clk }) (clk + 1))).heap[ma]? = some (.map (es.push { key := dotV (i.rep, i.n), val := Com.val ⟨i, v, .slice p6 nb c6, bs⟩, born := clk }) (clk + 1)) := heap_setMap_same _ _ _ (lt_of_heap hm6)
            have hmod67 : Mod (fun k => k = ma) w6 (w6.setMap ma (.map (es.push { key := dotV (i.rep, i.n), val := Com.val ⟨i, v, .slice p6 nb c6, bs⟩, born := clk }) (clk + 1))) := (Mod.refl _ w6).setMap _ _ (fun _ => rfl)
            change Code.wp _ _ _ _ (w6.setMap ma (.map (es.push { key := dotV (i.rep, i.n), val := Com.val ⟨i, v, .slice p6 nb c6, bs⟩, born := clk }) (clk + 1)))
            generalize w6.setMap ma (.map (es.push { key := dotV (i.rep, i.n), val := Com.val ⟨i, v, .slice p6 nb c6, bs⟩, born := clk }) (clk + 1)) = w7 at hm7 hmod67 ⊢
            have hmod57 : Mod (fun k => k = ma) w5 w7 := (Mod.of_below (S := fun k => k = ma) HB6.out).trans hmod67
            have nxa : xb ≠ ma := cells_ne_map HXR5.out.blk HXR5.out.all
            have nka : kb ≠ ma := cells_ne_map HE5.out.1 HXR5.out.all
            have hx7 := hmod57.heap HXR5.out.blk nxa
            have hk7 := hmod57.heap HE5.out.1 nka
            have s1 : w7.cell? ⟨xb, 8, none⟩ = some lv := by rw [cell_of_heap hx7]; rfl
            have s2 : w7.rangeAt kb 0 [.int .i64 i.rep, .int .i64 i.n, .int .i64 i.seq, .int .i64 i.deps.a0, .int .i64 i.deps.a1, .int .i64 i.deps.a2, .int .i64 i.deps.a3, .int .i64 i.deps.a4, .int .i64 i.deps.a5, .int .i64 i.deps.a6] := fun j u hj => by rw [cell_of_heap hk7, Nat.zero_add, ← Array.getElem?_toList]; exact hj
            have hlv7 : w7.ownsRow 0 31 10 lv cn (instsCells x.insts) := by
              have := ownsRow_mod HXR5.out.l hmod57 fun k hk he => own_ne_map HXR5.out.l HXR5.out.all (he ▸ hk)
              rw [HCN.out] at this
              exact this
            have hs7 : Sl0 w7 (.slice p6 nb c6) nb (bCells bs) := by
              refine HS6.out.mod hmod67 fun k hk he => ?_
              obtain ⟨_, cs6, hcs6⟩ := HK6.out k hk
              exact cells_ne_map hcs6 hm6 he
            have hk7' : ∀ k, (Value.slice p6 nb c6).ownBlock = some k → w5.heap.size ≤ k ∧ ∃ cs, w7.heap[k]? = some (.cells cs 5 (0, 0)) := fun k hk => by
              obtain ⟨hge, cs6, hcs6⟩ := HK6.out k hk
              exact ⟨hge, cs6, hmod67.heap hcs6 fun he => cells_ne_map hcs6 hm6 he⟩
            have lx7 := lt_of_heap hx7
            have lk7 := lt_of_heap hk7
            have HX7 := Lib.hid hx7
            have HL7 := Lib.hid hlv7
            have HS7 := Lib.hid hs7
            have HK7 := Lib.hid hk7'
            have HM57 := Lib.hid hmod57
            have HM7 := Lib.hid hm7
            have HE7 := Lib.hid hE7
            obtain ⟨i0, hi0, hz0, hz1, hz2⟩ := info_parts instInfo
            clear hup hm6 hm7 hmod67 hmod57 hx7 hk7 hlv7 hs7 hk7' hE7
            refine wp_region_F (fun j => Nat.blt j 8) (fun w' => w'.cell? ⟨xb, 8, none⟩ = some lv ∧ w'.rangeAt kb 0 [.int .i64 i.rep, .int .i64 i.n, .int .i64 i.seq, .int .i64 i.deps.a0, .int .i64 i.deps.a1, .int .i64 i.deps.a2, .int .i64 i.deps.a3, .int .i64 i.deps.a4, .int .i64 i.deps.a5, .int .i64 i.deps.a6]) (by rfl) ?_
            have HSS : (fun w' : World => w'.cell? ⟨xb, 8, none⟩ = some lv ∧ w'.rangeAt kb 0 [.int .i64 i.rep, .int .i64 i.n, .int .i64 i.seq, .int .i64 i.deps.a0, .int .i64 i.deps.a1, .int .i64 i.deps.a2, .int .i64 i.deps.a3, .int .i64 i.deps.a4, .int .i64 i.deps.a5, .int .i64 i.deps.a6]) (World.drew w7) := ⟨s1, s2⟩
            change wpAnyF _ _ _ _ _ _ _ _ _ (World.drew w7)
            refine wpAnyF_take (i := 0) (oi := ⟨_, _, _, _, _, _⟩) (v := ?_) rfl (by kernel_rfl) (fun _ _ _ h => h) (Or.inl ⟨by rfl, ?_⟩) HSS ?_
            rotate_left
            · intro wS hSw; (try dsimp only at hSw); go_simp; (try with_reducible rfl)
            simp only [Act.put, List.setIfInBounds_toArray, List.set_cons_zero, List.set_cons_succ]
            refine wpAnyF_take (i := 1) (oi := ⟨_, _, _, _, _, _⟩) (v := ?_) rfl (by kernel_rfl) (fun _ _ _ h => h) (Or.inl ⟨by rfl, ?_⟩) HSS ?_
            rotate_left
            · intro wS hSw; (try dsimp only at hSw); go_simp; (try with_reducible rfl)
            simp only [Act.put, List.setIfInBounds_toArray, List.set_cons_zero, List.set_cons_succ]
            refine wpAnyF_take (i := 2) (oi := ⟨_, _, _, _, _, _⟩) (v := ?_) rfl (by kernel_rfl) (fun _ _ _ h => h) (Or.inl ⟨by rfl, ?_⟩) HSS ?_
            rotate_left
            · intro wS hSw; (try dsimp only at hSw); go_simp; (try with_reducible rfl)
            simp only [Act.put, List.setIfInBounds_toArray, List.set_cons_zero, List.set_cons_succ]
            refine wpAnyF_take (i := 3) (oi := ⟨_, _, _, _, _, _⟩) (v := ?_) rfl (by kernel_rfl) (fun _ _ _ h => h) (Or.inl ⟨by rfl, ?_⟩) HSS ?_
            rotate_left
            · intro wS hSw; (try dsimp only at hSw); go_simp; (try with_reducible rfl)
            simp only [Act.put, List.setIfInBounds_toArray, List.set_cons_zero, List.set_cons_succ]
            refine wpAnyF_take (i := 4) (oi := ⟨_, _, _, _, _, _⟩) (v := ?_) rfl (by kernel_rfl) (fun _ _ _ h => h) (Or.inl ⟨by rfl, ?_⟩) HSS ?_
            rotate_left
            · intro wS hSw; (try dsimp only at hSw); go_simp; (try with_reducible rfl)
            simp only [Act.put, List.setIfInBounds_toArray, List.set_cons_zero, List.set_cons_succ]
            refine wpAnyF_take (i := 5) (oi := ⟨_, _, _, _, _, _⟩) (v := .agg ([.int .i64 i.rep, .int .i64 i.n, .int .i64 i.seq, .int .i64 i.deps.a0, .int .i64 i.deps.a1, .int .i64 i.deps.a2, .int .i64 i.deps.a3, .int .i64 i.deps.a4, .int .i64 i.deps.a5, .int .i64 i.deps.a6] : List Value).toArray) rfl (by kernel_rfl) (fun _ _ _ h => h) (yieldsIf_load_mid (by rfl) 31 (.tmp 5) rfl kb 0 rfl [.int .i64 i.rep, .int .i64 i.n, .int .i64 i.seq, .int .i64 i.deps.a0, .int .i64 i.deps.a1, .int .i64 i.deps.a2, .int .i64 i.deps.a3, .int .i64 i.deps.a4, .int .i64 i.deps.a5, .int .i64 i.deps.a6] _ (fun _ hS => hS.2) instDesc rfl instSize) HSS ?_
            simp only [Act.put, List.setIfInBounds_toArray, List.set_cons_zero, List.set_cons_succ]
            refine wpAnyF_step (i := 6) (o := ⟨_, _, _, _, _, _⟩) rfl (by kernel_rfl) ?_
            go_wp2
            refine onEnd_normal ⟨⟨?_, ?_⟩, ?_⟩
            · rw [World.cell?_drew, World.cell?_alloc_lt _ _ _ lx7]; exact s1
            · intro j u hj
              rw [World.cell?_drew, World.cell?_alloc_lt _ _ _ lk7]; exact s2 j u hj
            refine wpAnyF_step (i := 7) (o := ⟨_, _, _, _, _, _⟩) rfl (by kernel_rfl) ?_
            refine wpList_append_lies _ rfl _ _ _ rfl 0 31 i0 _ 10 80 Try.underlying41 hi0 hz0 hz1 hz2 rfl (by omega) lv cn (instsCells x.insts) (by rfl) (HL7.out.alloc _).drew ⟨w7.heap.size, 0, none⟩ 1 1 [.int .i64 i.rep, .int .i64 i.n, .int .i64 i.seq, .int .i64 i.deps.a0, .int .i64 i.deps.a1, .int .i64 i.deps.a2, .int .i64 i.deps.a3, .int .i64 i.deps.a4, .int .i64 i.deps.a5, .int .i64 i.deps.a6] (by rfl) (by rfl) (World.news_of_block (cs := #[.int .i64 i.rep, .int .i64 i.n, .int .i64 i.seq, .int .i64 i.deps.a0, .int .i64 i.deps.a1, .int .i64 i.deps.a2, .int .i64 i.deps.a3, .int .i64 i.deps.a4, .int .i64 i.deps.a5, .int .i64 i.deps.a6]) (t := 31) (fr := (0, 0)) (heap_alloc_new w7 _)) (by simp [Value.oneCell']) (by omega) (by unfold maxLen; omega) (by omega) (by omega) (w7.heap.size + 1) (by simp) ?_
            intro gg cap8 w8 hown8 hgrow8 hat8 hlt8
            have hm8 : Mod (fun j => lv.ownBlock = some j) w7 w8 := Mod.grown (Mod.drew (Mod.alloc (Mod.refl _ _) _)) hgrow8 (fun _ h _ => h)
            have hx8 := hm8.heap HX7.out (ownsRow_ne HL7.out HX7.out (by decide))
            have y1 : w8.cell? ⟨xb, 8, none⟩ = some lv := by rw [cell_of_heap hx8]; rfl
            have y2 : w8.frozen? ⟨xb, 8, none⟩ = false := free_of_heap hx8 8
            have HO8 := Lib.hid hown8
            have HM8 := Lib.hid hm8
            have HAT8 := Lib.hid hat8
            have y3 : w8.rangeAt kb 0 [.int .i64 i.rep, .int .i64 i.n, .int .i64 i.seq, .int .i64 i.deps.a0, .int .i64 i.deps.a1, .int .i64 i.deps.a2, .int .i64 i.deps.a3, .int .i64 i.deps.a4, .int .i64 i.deps.a5, .int .i64 i.deps.a6] := fun j u hj => by
              have h3 := s2 j u hj
              rw [hm8.cell (p := ⟨kb, 0 + j, none⟩) lk7 ?_]
              · exact h3
              · intro he
                have h4 := (HX.out.low kb (HXR5.out.fl kb he)).2
                have h5 := HKB.out
                omega
            clear hown8 hgrow8 hm8 hx8 hat8
            refine onEnd_normal ⟨fun _ => ⟨y1, y3⟩, ?_⟩
            refine wpAnyF_chain [8,9,10] [⟨_, _, _, _, _, _⟩, ⟨_, _, _, _, _, _⟩, ⟨_, _, _, _, _, _⟩] rfl (by kernel_rfl) ?_
            go_wp2_with fail
            go_ret
            obtain ⟨hxf, hmf⟩ := HXR5.out.commit ⟨i, v, .slice p6 nb c6, bs⟩ HM57.out HM7.out HE7.out (by
                show Sl0 w7 (.slice p6 nb c6) bs.length (bCells bs)
                rw [HNB.out]; exact HS7.out) HK7.out HM8.out (lv' := .slice (some ⟨gg, 0, none⟩) (cn + 1) cap8) (by
                rw [HCN.out]; exact HO8.out) (fun k hk => by
                simp [Value.ownBlock] at hk
                subst hk
                rcases HAT8.out with h | h
                · exact .inl h
                · right
                  have := HM57.out.size
                  omega)
            have hsz := HB5.out.size
            have hce : x.commit i v (.slice p6 nb c6) bs = { x with coms := x.coms ++ [⟨i, v, .slice p6 nb c6, bs⟩] } := by
              unfold XS.commit
              rw [if_pos HERR.out]
            have hxa : XAt base (w8.setCell ⟨xb, 8, none⟩ (.slice (some ⟨gg, 0, none⟩) (cn + 1) cap8)) xb (fun k => F k ∨ w5.heap.size ≤ k ∧ k < w8.heap.size) (x.commit i v (.slice p6 nb c6) bs) := by
              rw [hce]
              exact ⟨ma, mr, _, dv, _, _, es2, clk2, hxf⟩
            refine ⟨.slice p6 nb c6, _, by rw [HERR.out]; rfl, hxa, fun k hk => ?_, (Mod.of_below (S := F) HB5.out).trans hmf, fun h => absurd HERR.out h⟩
            rcases hk with hk | ⟨hk, _⟩
            · exact .inl hk
            · right; omega
end Go.Proofs.Ytibnnhdpaccpfaa
