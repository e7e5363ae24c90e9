/- Texts put together by exclusive or: the walk. -/
import Derived.Test.YtbjfpdbgjldleaaCrcF
import Derived.Test.YtbjfpdbgjldleaaOwn
namespace Go.Proofs.Ytbjfpdbgjldleaa
open Go.RowKit
namespace Crc
def xorL (a b : List UInt8) : List UInt8 := List.zipWith (· ^^^ ·) a b
theorem u8_xor_b (a b : UInt8) : bits .xor .u8 (a.toNat : Int) (b.toNat : Int) = ((a ^^^ b).toNat : Int) := by
  rw [u8_xor_nat _ _ (by have := a.toNat_lt; omega) (by have := b.toNat_lt; omega), UInt8.toNat_xor]
theorem xorL_take (a b : ByteArray) (k : Nat) (ha : k < a.size) (hb : k < b.size) : (xorL a.data.toList b.data.toList).take (k + 1) = (xorL a.data.toList b.data.toList).take k ++ [a[k] ^^^ b[k]] := by
  have hl : k < (xorL a.data.toList b.data.toList).length := by simp [xorL]; omega
  rw [List.take_succ_eq_append_getElem hl]
  congr 2
  simp [xorL]
  rfl
theorem xorL_length (a b : ByteArray) : (xorL a.data.toList b.data.toList).length = min a.size b.size := by simp [xorL]
theorem uinfo : (Try.prog.info? 5).map (fun i => (i.zero, i.size, i.bytes)) = some (some (.int .u8 0), 1, 1) := by kernel_rfl
set_option maxHeartbeats 400000 in
theorem xor_any (a b : ByteArray) (ha : a.size ≤ maxLen) (hb : b.size ≤ maxLen) (w : World) (h47 : a.size ≤ 140737488355327) :
    Calls Try.prog 15 #[.string a, .string b] w fun e w' => e = .returned (.string ⟨(xorL a.data.toList b.data.toList).toArray⟩) ∧ Below w.heap.size w w' := by
  unfold maxLen at ha hb
  obtain ⟨i0, hi, hz0, hz1, hz2⟩ := info_parts uinfo
  go_enter Try.func15, Try.ntmps15
  go_wp2
  go_loopw [5, 6] (fun v i wr => ∃ k : Nat, k ≤ min a.size b.size ∧ i = .int .i64 k ∧ wr.ownsRow w.heap.size 5 1 v k (Own.byteVals ((xorL a.data.toList b.data.toList).take k)) ∧ Below w.heap.size w wr) (fun _ i _ => a.size - (intOf i).toNat)
  case atStart => exact ⟨0, by omega, rfl, World.ownsRow_nil _ _ _ _, Below.refl _ _⟩
  case round =>
    obtain ⟨k, hk, rfl, hown, hbel⟩ := hrel
    have HO := Lib.hid hown
    have HB := Lib.hid hbel
    clear hown hbel
    by_cases hlt : k < min a.size b.size
    · have h1 : (k : Int) < a.size := by omega
      have h2 : (k : Int) < b.size := by omega
      have HX : Hid (Own.byteVals (List.take (k + 1) (xorL a.data.toList b.data.toList)) = Own.byteVals (List.take k (xorL a.data.toList b.data.toList)) ++ [.int .u8 ((a[k]'(by omega) ^^^ b[k]'(by omega)).toNat : Int)]) := by
        show Own.byteVals _ = _
        rw [xorL_take a b k (by omega) (by omega), Own.byteVals_append]; rfl
      go_wp2
      go_region_law ((refine Own.step_one rfl (.tmp 19) (.tmp 27) 31 rfl w.heap.size 5 i0 _ 1 Try.underlying31 hi hz0 hz1 hz2 rfl u5 k _ rfl _ _ _ rfl (HO.out.alloc _) (Own.cell_new _ _ _) rfl ?h1 ?h2 ?h3 ?_); (case h1 => unfold maxLen; omega); (case h2 => omega); (case h3 => simp; have := HB.out.size; omega); intro v' w1 hown1 hgrow1)
      all_goals
        have hb1 := ((HB.out.alloc HB.out.size _).drew).grown hgrow1 (by simp; have := HB.out.size; omega) (Own.own_block HO.out (Nat.le_refl _))
        have HO1 := Lib.hid hown1
        have HB1 := Lib.hid hb1
        clear hown1 hb1 hgrow1
        go_wp2
        go_roundw
        case rel => exact ⟨k + 1, by omega, by go_num, by have := HO1.out; rwa [u8_xor_b, ← HX.out] at this, HB1.out⟩
        case measure => simp [intOf]; omega
    · have hke : k = (xorL a.data.toList b.data.toList).length := by rw [xorL_length]; omega
      have hown := HO.out
      have hfull : List.take k (xorL a.data.toList b.data.toList) = xorL a.data.toList b.data.toList := by rw [hke, List.take_length]
      rw [hfull, hke] at hown
      have hback := Own.run_back (P := Try.prog) (dst := 9) Try.underlying31 Try.underlying5 Try.underlying9 hown
      clear hfull hke hown
      by_cases h1 : (k : Int) < a.size
      · have h2 : decide ((k : Int) < b.size) = false := decide_eq_false (by omega)
        go_wp2
        go_ret
        exact ⟨rfl, HB.out⟩
      · have h1' : decide ((k : Int) < a.size) = false := decide_eq_false (by omega)
        go_wp2
        go_ret
        exact ⟨rfl, HB.out⟩
end Crc
end Go.Proofs.Ytbjfpdbgjldleaa
