/- The walks of package crc and of its reference: bytes 0. -/
import Derived.Test.YtbjfpdbgjldleaaCrcW2
import Derived.Deep.RegionWith
namespace Go.Proofs.Ytbjfpdbgjldleaa
open Go.RowKit
namespace Crc
/-- Bytes 0 come to a number. -/
def zer (n : Nat) (x : BitVec 32) : BitVec 32 := stps (8 * n) x
def zeros (sum : BitVec 32) (n : Int) : BitVec 32 := ~~~ zer (min n.toNat 1048576) (~~~ sum)
theorem zer_snoc (n : Nat) (x : BitVec 32) : zer (n + 1) x = stps 8 (zer n x) := by
  rw [zer, zer, Nat.mul_add, stps_add]
set_option maxHeartbeats 400000 in
theorem refZeros_any (s : BitVec 32) (n : Int) (hn : n ≤ 9223372036854775807) (w : World) :
    Calls Try.prog 16 #[.int .u32 (U s), .int .i64 n] w fun e w' => e = .returned (.int .u32 (U (zeros s n))) ∧ w = w' := by
  obtain ⟨m, hm⟩ : ∃ m : Nat, Hid (m = min n.toNat 1048576) := ⟨_, rfl⟩
  have hz0 : Hid (zeros s n = ~~~ zer m (~~~ s)) := by show zeros s n = _; rw [zeros, hm.out]
  have hin : ∀ k : Nat, k < m → (k : Int) < n ∧ (k : Int) < 1048576 := by have := hm.out; omega
  have hout : ∀ k : Nat, k ≤ m → ¬ k < m → k = m ∧ (¬ (k : Int) < n ∨ ¬ (k : Int) < 1048576) := by have := hm.out; omega
  have HI := Lib.hid hin
  have HO := Lib.hid hout
  clear hin hout hm
  go_enter Try.func16, Try.ntmps16
  go_wp2
  go_loop [5, 6, 7] (fun v i _ => ∃ k : Nat, k ≤ m ∧ i = .int .i64 k ∧ v = .int .u32 (U (zer k (~~~ s)))) (fun _ i _ => m - (intOf i).toNat)
  case atStart => exact ⟨0, by omega, rfl, rfl⟩
  case round =>
    obtain ⟨k, hk, rfl, rfl⟩ := hrel
    by_cases hlt : k < m
    · have hz := Lib.hid (zer_snoc k (~~~ s))
      obtain ⟨h1, h2⟩ := HI.out k hlt
      go_wp2
      have h3 : (k : Int) ≤ 9000000000000000000 := by omega
      clear h1 h2
      go_loop [5, 7] (fun v i => ∃ j : Nat, j ≤ 8 ∧ i = .int .i64 j ∧ v = .int .u32 (U (stps j (zer k (~~~ s))))) (fun _ i => 8 - (intOf i).toNat)
      case atStart => exact ⟨0, by omega, rfl, rfl⟩
      case round =>
        obtain ⟨j, hj, rfl, rfl⟩ := hrel
        have hst : Hid (stps (j + 1) (zer k (~~~ s)) = _) := Lib.hid (stps_snoc j _)
        go_wp2_with (go_at_call 19; ((with_reducible refine (step_any _ _).mono ?_); rintro e w1 ⟨rfl, rfl⟩))
        · go_round
          case rel => exact ⟨j + 1, by omega, by go_num, by rw [hst.out]⟩
          case measure => simp [intOf]; omega
        · have : j = 8 := by omega
          subst this
          go_round
          case rel => exact ⟨k + 1, by omega, by go_num, by rw [hz.out]⟩
          case measure => simp [intOf]; omega
    · obtain ⟨rfl, hor⟩ := HO.out k hk hlt
      by_cases h1 : (k : Int) < n
      · have h2 : decide ((k : Int) < 1048576) = false := decide_eq_false (by omega)
        clear hor
        go_wp2
        go_ret
        exact ⟨by rw [hz0.out]; rfl, rfl⟩
      · have h1' : decide ((k : Int) < n) = false := by simpa using h1
        clear hor
        go_wp2
        go_ret
        exact ⟨by rw [hz0.out]; rfl, rfl⟩
/-- The matrix of so many steps. -/
def fm (n k : Nat) : BitVec 32 := stps n (1#32 <<< k)
theorem stps_0 (n : Nat) : stps n 0#32 = 0#32 := by
  have h := stps_xor n 0#32 0#32
  rw [BitVec.xor_self, BitVec.xor_self] at h
  exact h
theorem timesTo_lin (m : Nat) (n : BitVec 32) (k : Nat) : timesTo (fm m) n k = stps m (timesTo (fun k => 1#32 <<< k) n k) := by
  induction k with
  | zero => rw [timesTo, timesTo, stps_0]
  | succ k ih =>
    rw [timesTo, timesTo]
    cases n.getLsbD k
    · simpa using ih
    · simp only [if_true]; rw [ih, stps_xor]; rfl
theorem timesTo_bits (n : BitVec 32) (k : Nat) (i : Nat) (hi : i < 32) : (timesTo (fun k => 1#32 <<< k) n k).getLsbD i = (decide (i < k) && n.getLsbD i) := by
  induction k with
  | zero => simp [timesTo]
  | succ k ih =>
    rw [timesTo]
    by_cases hk : i = k
    · subst hk
      cases h : n.getLsbD i
      · simp [ih]
      · simp only [if_true, BitVec.getLsbD_xor, ih, BitVec.getLsbD_shiftLeft]
        simp [hi]
    · have e : decide (i < k + 1) = decide (i < k) := by
        rw [decide_eq_decide]; omega
      rw [e]
      cases h : n.getLsbD k
      · simpa using ih
      · simp only [if_true, BitVec.getLsbD_xor, ih, BitVec.getLsbD_shiftLeft]
        have : (decide (i < 32) && !decide (i < k) && (1#32).getLsbD (i - k)) = false := by
          by_cases h2 : i < k
          · simp [h2]
          · simp [h2]; omega
        rw [this, Bool.xor_false]
theorem timesTo_fm (m : Nat) (n : BitVec 32) : timesTo (fm m) n 32 = stps m n := by
  rw [timesTo_lin]
  congr 1
  apply BitVec.eq_of_getLsbD_eq
  intro i hi
  rw [timesTo_bits n 32 i hi]
  simp [hi]
theorem twice_fm (m : Nat) : twice (fm m) = fm (m + m) := by
  funext k
  rw [twice, timesTo_fm, fm, fm, stps_add]
theorem U_one_shl (k : Nat) (h : k < 32) : (2 : Int) ^ k % 4294967296 = U (1#32 <<< k) := by
  unfold U
  rw [BitVec.toNat_shiftLeft, Nat.shiftLeft_eq]
  have h2 : 2 ^ k < 2 ^ 32 := Nat.pow_lt_pow_right (by decide) h
  rw [show (1#32).toNat = 1 from rfl, Nat.one_mul, Nat.mod_eq_of_lt h2]
  have e : ((2 ^ k : Nat) : Int) = (2 : Int) ^ k := by rw [Int.natCast_pow]; rfl
  rw [e]
  apply Int.emod_eq_of_lt
  · exact Int.pow_nonneg (by decide)
  · rw [← e]; omega
theorem next_fm (W : World) (t : Nat) (T : TypeId) : (W.alloc (.cells (arrU 32 (twice (fm (8 * 2 ^ t)))) T)).heap[W.heap.size]? = some (.cells (arrU 32 (fm (8 * 2 ^ (t + 1)))) T) := by
  rw [heap_alloc_last, twice_fm, show 8 * 2 ^ t + 8 * 2 ^ t = 8 * 2 ^ (t + 1) by rw [Nat.pow_succ]; omega]
set_option maxHeartbeats 400000 in
theorem zeros_any (s : BitVec 32) (n : Int) (hn : n ≤ 9223372036854775807) (w : World) :
    Calls Try.prog 14 #[.int .u32 (U s), .int .i64 n] w fun e w' => e = .returned (.int .u32 (U (zeros s n))) ∧ Below w.heap.size w w' := by
  go_enter Try.func14, Try.ntmps14
  go_wp2
  all_goals
    go_loopw [14] (fun i wr => ∃ k : Nat, k ≤ 32 ∧ i = .int .i64 k ∧ ∃ q, wr = (w.alloc (.cells (arrU 32 (upTo (fm 8) k)) 43)).drewN q) (fun i _ => 32 - (intOf i).toNat)
    case atStart => exact ⟨0, by omega, rfl, 0, rfl⟩
    case round =>
      obtain ⟨k, hk, rfl, q, rfl⟩ := hrel
      by_cases hlt : k < 32
      · have hg : (arrU 32 (upTo (fm 8) k))[k]? = some (.int .u32 0) := arrU_todo 32 (fm 8) k hlt
        have hset := Lib.hid (arrU_fill 32 (fm 8) k)
        have h1 : IntKind.u32.wrap ((2 : Int) ^ k) = U (1#32 <<< k) := by rw [IntKind.wrap_u32]; exact U_one_shl k hlt
        go_wp2
        go_region_with (go_at_call 17; ((with_reducible refine (eight_any _ _).mono ?_); rintro e w1 ⟨rfl, rfl⟩))
        go_wp2
        go_roundw
        case rel => exact ⟨k + 1, by omega, by go_num, q + 1, by rw [← hset.out]; exact congrArg (fun W => World.drewN W (q + 1)) (World.setCell_alloc_at _ _ _ _ _ rfl)⟩
        case measure => simp [intOf]; omega
      · have : k = 32 := by omega
        subst this
        have hx : (w.alloc (.cells (arrU 32 (upTo (fm 8) 32)) 43)).heap[w.heap.size]? = some (.cells (arrU 32 (fm 8)) 43) := by rw [heap_alloc_last, arrU_full]
        have HX : Hid (((w.alloc (.cells (arrU 32 (upTo (fm 8) 32)) 43)).drewN q).heap[w.heap.size]? = some (.cells (arrU 32 (fm 8)) 43)) := hx
        clear hx
        have HB : Hid (Below w.heap.size w ((w.alloc (.cells (arrU 32 (upTo (fm 8) 32)) 43)).drewN q)) := below_drewN ((Below.refl _ _).alloc (Nat.le_refl _) _) q
        generalize (w.alloc (.cells (arrU 32 (upTo (fm 8) 32)) 43)).drewN q = W at HX HB ⊢
        go_wp2
        go_loopw [1, 5, 6] (fun i v m wr => ∃ (j : Int) (x : BitVec 32) (b t : Nat), j ≤ 9000000000000000000 ∧ i = .int .i64 j ∧ v = .int .u32 (U x) ∧ m = .pointer (some ⟨b, 0, none⟩) ∧ Hid (wr.heap[b]? = some (.cells (arrU 32 (fm (8 * 2 ^ t))) 43)) ∧ Hid (Below w.heap.size w wr) ∧ Hid (zeros s n = ~~~ stps (8 * (j.toNat * 2 ^ t)) x)) (fun i _ _ _ => (intOf i).toNat)
        case atStart => exact ⟨_, _, w.heap.size, 0, by omega, rfl, rfl, rfl, HX, HB, by show zeros s n = _; rw [zeros, zer]; congr 2; omega⟩
        case round =>
          obtain ⟨j, x, b, t, hj, rfl, rfl, rfl, HX, HB, HZ⟩ := hrel
          by_cases hp : 0 < j
          · have hd : j / 2 ≤ 9000000000000000000 := by omega
            have hd2 : (j / 2).toNat < j.toNat := by omega
            have hp2 : Hid (2 ^ (t + 1) = 2 ^ t * 2) := Nat.pow_succ 2 t
            rcases (by omega : j % 2 = 0 ∨ j % 2 = 1) with ho | ho
            · have hj2 : Hid (j.toNat = 2 * (j / 2).toNat) := by show j.toNat = _; omega
              have hb : (bits .and .i64 j 1 == 1) = false := by rw [i64_and1, ho]; rfl
              clear ho
              go_wp2_with (first | (go_at_call 21; ((with_reducible refine (twice_any _ b _ HX.out).mono ?_); rintro e w1 ⟨rfl, rfl⟩)))
              refine ⟨?_, hd2⟩
              (repeat apply Exists.intro)
              exact ⟨⟨j / 2, x, _, t + 1, hd, rfl, rfl, rfl, next_fm _ _ _, HB.out.alloc HB.out.size _, by
                show zeros s n = _
                rw [HZ.out, hj2.out, hp2.out]
                congr 2
                rw [Nat.mul_comm 2, Nat.mul_assoc, Nat.mul_comm 2]⟩, rfl⟩
            · have hj2 : Hid (j.toNat = 2 * (j / 2).toNat + 1) := by show j.toNat = _; omega
              have hb : (bits .and .i64 j 1 == 1) = true := by rw [i64_and1, ho]; rfl
              clear ho
              go_wp2_with (first | (go_at_call 20; ((with_reducible refine (times_any _ x b _ HX.out).mono ?_); rintro e w1 ⟨rfl, rfl⟩)) | (go_at_call 21; ((with_reducible refine (twice_any _ b _ HX.out).mono ?_); rintro e w1 ⟨rfl, rfl⟩)))
              refine ⟨?_, hd2⟩
              (repeat apply Exists.intro)
              exact ⟨⟨j / 2, timesTo (fm (8 * 2 ^ t)) x 32, _, t + 1, hd, rfl, rfl, rfl, next_fm _ _ _, HB.out.alloc HB.out.size _, by
                show zeros s n = _
                rw [HZ.out, hj2.out, hp2.out, timesTo_fm, ← stps_add]
                congr 2
                rw [Nat.add_mul, Nat.mul_add, Nat.one_mul, Nat.add_comm, Nat.mul_comm 2, Nat.mul_assoc, Nat.mul_comm 2]⟩, rfl⟩
          · go_wp2
            go_ret
            have h0 : j.toNat = 0 := by omega
            refine ⟨?_, HB.out⟩
            rw [HZ.out, h0]
            simp [stps]
end Crc
end Go.Proofs.Ytbjfpdbgjldleaa
