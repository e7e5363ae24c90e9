/- Few texts, and texts put together. -/
import Derived.Test.YtjppoicjbmfhiaaCrcP
import Derived.Test.YtjppoicjbmfhiaaIn
import Derived.Lib.Hide
namespace Go.Proofs.Ytjppoicjbmfhiaa
open Go.RowKit
namespace Crc
def few (l : List ByteArray) (most bytes : Int) : Bool := decide ((l.length : Int) ≤ most ∧ ∀ s ∈ l, (s.size : Int) ≤ bytes)
theorem getD_mem (l : List ByteArray) (k : Nat) (h : k < l.length) : l.getD k ByteArray.empty ∈ l := by
  rw [List.getD_eq_getElem?_getD, List.getElem?_eq_getElem h]; exact List.getElem_mem h
set_option maxHeartbeats 400000 in
theorem few_any (a : Option Addr) (cap : Nat) (l : List ByteArray) (most bytes : Int) (hl : l.length ≤ maxLen) (w : World) (hs : In.Strs w a l) (hsz : ∀ s ∈ l, s.size ≤ maxLen) (hm : most ≤ 9223372036854775807) :
    Calls Try.prog 7 #[.slice a l.length cap, .int .i64 most, .int .i64 bytes] w fun e w' => e = .returned (.bool (few l most bytes)) ∧ w = w' := by
  unfold maxLen at hl
  go_enter Try.func7, Try.ntmps7
  go_wp2
  go_loop [7] (fun i => ∃ k : Nat, k ≤ l.length ∧ (k : Int) ≤ max most 0 ∧ i = .int .i64 k ∧ Hid (∀ j, j < k → ((l.getD j ByteArray.empty).size : Int) ≤ bytes)) (fun i => l.length - (intOf i).toNat)
  case atStart => exact ⟨0, by omega, by omega, rfl, fun j hj => absurd hj (Nat.not_lt_zero j)⟩
  case round =>
    obtain ⟨k, hk, hkm, rfl, HK⟩ := hrel
    by_cases hlt : k < l.length
    · by_cases hlm : (k : Int) < most
      · obtain ⟨b, off, rfl, hb, hc⟩ := hs k hlt
        have hsk := hsz _ (getD_mem l k hlt)
        have HM := Lib.hid (getD_mem l k hlt)
        obtain ⟨s, HS⟩ : ∃ s, Hid (l.getD k ByteArray.empty = s) := ⟨_, rfl⟩
        rw [HS.out] at hc hsk HM
        unfold maxLen at hsk
        by_cases hbs : bytes < (s.size : Int)
        · have hf : Hid (few l most bytes = false) := by
            show few l most bytes = false
            apply decide_eq_false
            intro h
            have := h.2 s HM.out
            omega
          go_wp2
          go_ret
          exact ⟨by rw [hf.out]; rfl, rfl⟩
        · have HK2 : Hid (∀ j, j < k + 1 → ((l.getD j ByteArray.empty).size : Int) ≤ bytes) := by
            show ∀ j, j < k + 1 → ((l.getD j ByteArray.empty).size : Int) ≤ bytes
            intro j hj
            by_cases e : j = k
            · subst e; have := HS.out; rw [this]; omega
            · exact HK.out j (by omega)
          go_wp2
          go_round
          case rel => exact ⟨k + 1, by omega, by omega, by go_num, HK2⟩
          case measure => simp [intOf]; omega
      · have hf : Hid (few l most bytes = false) := by
          show few l most bytes = false
          apply decide_eq_false
          intro h
          have := h.1
          omega
        have h2 : ¬ (l.length : Int) ≤ most := by omega
        have h3 : decide ((k : Int) < most) = false := decide_eq_false hlm
        clear hs
        go_wp2
        go_ret
        exact ⟨by rw [hf.out]; rfl, rfl⟩
    · have : k = l.length := by omega
      subst this
      have hf : Hid (few l most bytes = decide ((l.length : Int) ≤ most)) := by
        show few l most bytes = _
        unfold few
        rw [decide_eq_decide]
        constructor
        · exact fun h => h.1
        · refine fun h => ⟨h, fun s hs => ?_⟩
          obtain ⟨j, hj, rfl⟩ := List.getElem_of_mem hs
          have := HK.out j hj
          rwa [List.getD_eq_getElem?_getD, List.getElem?_eq_getElem hj] at this
      have h3 : decide ((l.length : Int) < (l.length : Int)) = false := by simp
      clear hs
      go_wp2
      go_ret
      exact ⟨by rw [hf.out]; rfl, rfl⟩
end Crc
end Go.Proofs.Ytjppoicjbmfhiaa
