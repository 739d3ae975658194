import Derived.Test.YtibnnhdpaccpfaaFinder
namespace Go.Proofs.Ytibnnhdpaccpfaa
open Go.RowKit

def firstIdx (zs : List Int) (x : Int) : Int := match zs.findIdx? (fun z => z == x) with | some k => (k : Int) | none => -1
theorem firstIdx_some {zs : List Int} {x : Int} {k : Nat} (hk : k < zs.length) (he : zs[k] = x) (hno : ∀ j, (h : j < zs.length) → j < k → zs[j] ≠ x) : firstIdx zs x = (k : Int) := by
  unfold firstIdx
  have : zs.findIdx? (fun z => z == x) = some k := by
    rw [List.findIdx?_eq_some_iff_getElem]
    exact ⟨hk, by simpa using he, fun j hj => by simpa using hno j (by omega) hj⟩
  rw [this]
theorem firstIdx_none {zs : List Int} {x : Int} (hno : ∀ j, (h : j < zs.length) → zs[j] ≠ x) : firstIdx zs x = -1 := by
  unfold firstIdx
  have : zs.findIdx? (fun z => z == x) = none := by
    rw [List.findIdx?_eq_none_iff]
    intro z hz
    obtain ⟨j, hj, rfl⟩ := List.getElem_of_mem hz
    simpa using hno j hj
  rw [this]

set_option maxRecDepth 100000 in
set_option maxHeartbeats 1000000 in
theorem index_any (p : Option Addr) (cap : Nat) (zs : List Int) (x : Int) (w : World) (hlen : zs.length ≤ 1000000) (hp : 0 < zs.length → ∃ b, p = some ⟨b, 0, none⟩ ∧ ∀ j, (h : j < zs.length) → w.cell? ⟨b, j, none⟩ = some (.int .i64 zs[j])) :
    Calls Try.prog 41 #[.slice p zs.length cap, .int .i64 x] w fun e w' => e = .returned (.int .i64 (firstIdx zs x)) ∧ w' = w := by
  have HP := Lib.hid hp
  clear hp
  go_enter Try.func41, Try.ntmps41
  go_wp2
  go_loop [8] (fun v => ∃ k : Nat, k ≤ zs.length ∧ v = .int .i64 k ∧ ∀ j, (h : j < zs.length) → j < k → zs[j] ≠ x) (fun v => zs.length - (intOf v).toNat)
  case atStart => exact ⟨0, by omega, rfl, fun j _ h => by omega⟩
  case round =>
    obtain ⟨k, hk, rfl, hno⟩ := hrel
    have HNO := Lib.hid hno
    clear hno
    by_cases hlt : k < zs.length
    · obtain ⟨b, rfl, hc⟩ := HP.out (by omega)
      have hck := hc k hlt
      obtain ⟨z, hz⟩ : ∃ z, zs[k] = z := ⟨_, rfl⟩
      rw [hz] at hck
      have HZ := Lib.hid hz
      clear hc hz
      by_cases he : x = z
      · have hb : (x == z) = true := by simpa using he
        have HE := Lib.hid he
        clear he
        go_wp2
        go_ret
        exact ⟨by rw [firstIdx_some hlt (by rw [HZ.out, HE.out]) HNO.out]; rfl, rfl⟩
      · have hb : (x == z) = false := by simpa using he
        have HE := Lib.hid he
        clear he
        go_wp2
        go_round
        case rel =>
          refine ⟨k + 1, by omega, by go_num, fun j hj hjk => ?_⟩
          rcases Nat.lt_succ_iff_lt_or_eq.1 hjk with h | h
          · exact HNO.out j hj h
          · subst h; rw [HZ.out]; exact fun h => HE.out h.symm
        case measure => simp [intOf]; omega
    · have hke : k = zs.length := by omega
      have HKE := Lib.hid hke
      clear hke
      go_wp2
      go_ret
      exact ⟨by rw [firstIdx_none fun j hj => HNO.out j hj (by rw [HKE.out]; exact hj)]; rfl, rfl⟩
end Go.Proofs.Ytibnnhdpaccpfaa
