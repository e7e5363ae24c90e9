/- Texts put together: CatF, RecE, RecE3, DivP, Shelf, DivW. -/
import Derived.Test.YtiabnjmblcogmaaM10
import Derived.Test.YtiabnjmblcogmaaM02
import Derived.Test.YtiabnjmblcogmaaChecked
import Derived.Shelf.Small.Bits
import Derived.Shelf.Small.Wraps
import Derived.Shelf.Strconv.Itoa0
import Derived.Shelf.Bits.Mul64
import Derived.Shelf.Slices.Turned
import Derived.Ground.Names2Prog
import Derived.Shelf.Slices.SearchI
import Derived.Test.YtiabnjmblcogmaaProg
import Derived.WalkKit
import Derived.ProofKit
import Derived.WalkLawsBesides
import Derived.Lib.Hide
set_option linter.all false
section
namespace Go.Proofs.Ytiabnjmblcogmaa
open Go.RowKit
namespace Cat
open Rec (BlueIn Stk Stks Came bchk inB)
open Pen (below2 below_al below_dN)
set_option maxRecDepth 100000 in
set_option maxHeartbeats 4000000 in
theorem Few_any (c : CatIn) (w : World) (hc : Lies w c) (hl : c.blues.length ≤ maxLen) (hy : c.bays.length ≤ maxLen) (hn : ∀ i, i < c.blues.length → (c.blues.getD i nob).needs.length ≤ maxLen) :
    Calls Try.prog 6 #[.agg c.val] w fun e w' => ∃ b : Bool, e = .returned (.bool b) ∧ Hid (b = true → Small c) ∧ Below w.heap.size w w' := by
  unfold maxLen at hl hy hn
  have HBL := Lib.hid hc.1
  have HN := Lib.hid hn
  have hbw := below_al (Below.refl w.heap.size w) (.cells c.val 27)
  obtain ⟨nb, hnb⟩ : ∃ n, Hid (c.blues.length = n) := ⟨_, rfl⟩
  obtain ⟨ny, hny⟩ : ∃ n, Hid (c.bays.length = n) := ⟨_, rfl⟩
  unfold CatIn.val at *
  rw [hnb.out, hny.out] at hbw ⊢
  rw [hnb.out] at hl
  rw [hny.out] at hy
  have hl1 : (nb : Int) ≤ 9223372036854775807 := by omega
  have hy1 : (ny : Int) ≤ 9223372036854775807 := by omega
  generalize c.baddr = ba at *
  clear hc hn
  go_enter Try.func6, Try.ntmps6
  go_wp2
  go_loop [3] (fun v3 => ∃ k : Nat, k ≤ nb ∧ k ≤ 20 ∧ v3 = .int .i64 (k : Int) ∧ Hid (∀ i, i < k → (c.blues.getD i nob).needs.length ≤ 12)) (fun v3 => 20 - (intOf v3).toNat)
  case atStart => exact ⟨0, by omega, by omega, rfl, fun i hi => by omega⟩
  case round =>
    obtain ⟨k, hk, hk20, rfl, HK⟩ := hrel
    by_cases hlt : k < nb
    · have hlt1 : (k : Int) < (nb : Int) := by omega
      have dlt1 : decide ((k : Int) < (nb : Int)) = true := decide_eq_true hlt1
      by_cases hk2 : k < 20
      · obtain ⟨b, off, rfl, hbl, c0, c1, c2, c3, c4, c5, c6⟩ := (HBL.out.below hbw) k (by rw [hnb.out]; exact hlt)
        have hk3 : (k : Int) < 20 := by omega
        have hk0 : (0 : Int) ≤ (k : Int) := by omega
        have HNk := Lib.hid (HN.out k (by rw [hnb.out]; exact hlt))
        have HKs : Hid ((c.blues.getD k nob).needs.length ≤ 12 → ∀ i, i < k + 1 → (c.blues.getD i nob).needs.length ≤ 12) := fun h i hi => by
          by_cases e : i = k
          · subst e; exact h
          · exact HK.out i (by omega)
        generalize (c.blues.getD k nob).needs.length = m at *
        generalize (c.blues.getD k nob).addr = A at *
        generalize (c.blues.getD k nob).cap = C at *
        by_cases hm : m ≤ 12
        · have hm2 : ¬ (12 : Int) < (m : Int) := by omega
          have dm : decide ((12 : Int) < (m : Int)) = false := decide_eq_false hm2
          have HK2 := Lib.hid (HKs.out hm)
          clear c0 c1 c2 c4 c5 c6
          go_wp2
          go_round
          case rel => exact ⟨k + 1, by omega, by omega, by go_num, HK2⟩
          case measure => simp [intOf]; omega
        · have hm2 : (12 : Int) < (m : Int) := by omega
          have dm : decide ((12 : Int) < (m : Int)) = true := decide_eq_true hm2
          clear c0 c1 c2 c4 c5 c6
          go_wp2
          go_ret
          exact .inl ⟨rfl, Lib.hid trivial, hbw⟩
      · have hk3 : ¬ (k : Int) < 20 := by omega
        have hn20 : decide ((nb : Int) ≤ 20) = false := decide_eq_false (by omega)
        clear hk2
        go_wp2
        go_ret
        exact .inl ⟨rfl, Lib.hid trivial, hbw⟩
    · have hke : k = nb := by omega
      have hge : ¬ (k : Int) < (nb : Int) := by omega
      have dge : decide ((k : Int) < (nb : Int)) = false := decide_eq_false hge
      have hn20 : decide ((nb : Int) ≤ 20) = true := decide_eq_true (by omega)
      have hn21 : (nb : Int) ≤ 20 := by omega
      have HSM : Hid (ny ≤ 12 → Small c) := fun h => ⟨by rw [hnb.out]; omega, by rw [hny.out]; exact h, fun i hi => HK.out i (by rw [hnb.out] at hi; omega)⟩
      by_cases h12 : ny ≤ 12
      · have h13 : (ny : Int) ≤ 12 := by omega
        have d13 : decide ((ny : Int) ≤ 12) = true := decide_eq_true h13
        have HSM2 := Lib.hid (HSM.out h12)
        clear hlt h12 hke
        go_wp2
        go_ret
        first | exact .inr ⟨rfl, HSM2, hbw⟩ | exact .inr ⟨rfl, hbw⟩
      · have h13 : ¬ (ny : Int) ≤ 12 := by omega
        have d13 : decide ((ny : Int) ≤ 12) = false := decide_eq_false h13
        clear hlt h12 hke
        go_wp2
        go_ret
        exact .inl ⟨rfl, Lib.hid trivial, hbw⟩
end Cat
end Go.Proofs.Ytiabnjmblcogmaa
end
section
namespace Go.Proofs.Ytiabnjmblcogmaa
open Go.RowKit
namespace Rec
set_option maxHeartbeats 1000000 in
theorem up_any (n m : Nat) (hn : n ≤ 4611686018427387904) (hm : 1 ≤ m) (hm2 : m ≤ 4611686018427387903) (w : World) :
    Calls Try.prog 67 #[.int .i64 (n : Int), .int .i64 (m : Int)] w fun e w' => e = .returned (.int .i64 (((n + m - 1) / m : Nat) : Int)) ∧ w = w' := by
  have e1 : wrap64 ((n : Int) + m) = ((n + m : Nat) : Int) := by unfold wrap64; omega
  have e2 : wrap64 (((n + m : Nat) : Int) - 1) = ((n + m - 1 : Nat) : Int) := by unfold wrap64; omega
  have e3 : IntKind.i64.wrap ((((n + m - 1 : Nat) : Int)).tdiv (m : Int)) = (((n + m - 1) / m : Nat) : Int) := by
    have hle : (n + m - 1) / m ≤ n + m - 1 := Nat.div_le_self _ _
    rw [← Int.ofNat_tdiv]
    generalize (n + m - 1) / m = q at *
    exact Go.IntWalk.i64_in _ (by omega)
  have hm0 : ¬ (m : Int) = 0 := by omega
  generalize hq : (((n + m - 1) / m : Nat) : Int) = Q at *
  generalize hx : ((n + m - 1 : Nat) : Int) = X at *
  generalize hy : ((n + m : Nat) : Int) = Y at *
  generalize (m : Int) = M at *
  generalize (n : Int) = N at *
  clear hq hx hy hn hm hm2
  go_enter Try.func67, Try.ntmps67
  go_wp2
  go_ret
  exact ⟨rfl, rfl⟩
end Rec
end Go.Proofs.Ytiabnjmblcogmaa
end
section
namespace Go.Proofs.Ytiabnjmblcogmaa
open Go.RowKit
namespace Rec
set_option maxRecDepth 100000 in
set_option maxHeartbeats 2000000 in
theorem may_any (b : BlueIn) (a : Option Addr) (cap : Nat) (l : List Bnd) (hl : l.length ≤ maxLen) (w : World) (hb : Came w b) (ha : Bnds w a l) :
    Calls Try.prog 69 #[.agg b.val, .slice a l.length cap] w fun e w' => e = .returned (.bool (decide (bchk b 32 = 0) && fitsTo l l.length)) ∧ Below w.heap.size w w' := by
  have HB := Lib.hid hb
  have HA := Lib.hid ha
  have HL := Lib.hid hl
  have C1 : Hid (∀ W : World, Below w.heap.size w W → Calls Try.prog 77 #[.agg #[.int .i64 b.makes, .int .i64 b.per, .int .i64 b.time, .slice b.addr b.needs.length b.cap, .int .i64 b.copy, .int .i64 b.study, .int .i64 b.most], .int .i64 32] W fun e w' => e = .returned (.int .i64 (bchk b 32)) ∧ Below W.heap.size W w') := fun W h => check_any b 32 W ⟨HB.out.1, HB.out.2.1.below h, HB.out.2.2⟩
  have C2 : Hid (∀ W : World, Below w.heap.size w W → Calls Try.prog 87 #[.slice a l.length cap] W fun e w' => e = .returned (.bool (fitsTo l l.length)) ∧ Below W.heap.size W w') := fun W h => fits_any _ _ _ HL.out _ (HA.out.below h)
  have HK : Hid (bchk b 32 = 0 ∨ bchk b 32 = 1) := bchk_two b 32
  generalize bchk b 32 = K at *
  generalize fitsTo l l.length = F at *
  clear hb ha hl
  unfold BlueIn.val
  have hbw := Lib.hid ((Below.refl w.heap.size w).alloc (Nat.le_refl _) (.cells #[.int .i64 b.makes, .int .i64 b.per, .int .i64 b.time, .slice b.addr b.needs.length b.cap, .int .i64 b.copy, .int .i64 b.study, .int .i64 b.most] 51))
  rcases HK.out with rfl | rfl
  · go_enter Try.func69, Try.ntmps69
    go_wp2_with (first
      | (go_at_call 77; ((with_reducible refine (C1.out _ hbw.out).mono ?_); rintro e w1 ⟨rfl, hb1⟩; have hb1' := hbw.out.trans (hb1.mono (by simp))))
      | (go_at_call 87; ((with_reducible refine (C2.out _ hb1').mono ?_); rintro e w2 ⟨rfl, hb2⟩)))
    go_ret
    exact ⟨by simp, below2 hb1' hb2⟩
  · go_enter Try.func69, Try.ntmps69
    go_wp2_with (go_at_call 77; ((with_reducible refine (C1.out _ hbw.out).mono ?_); rintro e w1 ⟨rfl, hb1⟩; have hb1' := hbw.out.trans (hb1.mono (by simp))))
    go_ret
    exact ⟨by simp, hb1'⟩
end Rec
end Go.Proofs.Ytiabnjmblcogmaa
end
section
namespace Go.Proofs.Ytiabnjmblcogmaa
namespace Div
/-- What holds of a digit that is guessed: it is no less than the true one. -/
def Inv (b y1 y0 u d q r : Nat) : Prop := q * y1 + r = u ∧ (u * b + d) / (y1 * b + y0) ≤ q ∧ q ≤ b + 1
theorem true_lt {b y u d : Nat} (hu : u < y) (hd : d < b) : (u * b + d) / y < b := by
  rw [Nat.div_lt_iff_lt_mul (by omega), Nat.mul_comm b y]
  have := Nat.mul_le_mul_right b (show u + 1 ≤ y from hu)
  rw [Nat.add_mul] at this
  omega
theorem inv_start {b y1 y0 u d : Nat} (hy1 : 0 < y1) (hu : u < y1 * b + y0) (hn : b ≤ 2 * y1) (h0 : y0 < b) (hd : d < b) : Inv b y1 y0 u d (u / y1) (u % y1) := by
  have e := Nat.div_add_mod u y1
  refine ⟨by rw [Nat.mul_comm]; exact e, ?_, ?_⟩
  · have hlt := true_lt hu hd
    by_cases hb : b ≤ u / y1
    · omega
    · rw [Nat.div_le_iff_le_mul_add_pred (by omega)]
      have h1 : u + 1 ≤ (u / y1 + 1) * y1 := by
        have := Nat.lt_mul_div_succ u hy1
        rw [Nat.mul_comm] at this
        exact this
      have h2 := Nat.mul_le_mul_right b h1
      have h3 : (u / y1 + 1) * y1 * b = (y1 * b) * (u / y1) + y1 * b := by rw [Nat.add_mul, Nat.add_mul, Nat.one_mul, Nat.mul_assoc, Nat.mul_comm (u / y1)]
      have h4 : (y1 * b + y0) * (u / y1) = (y1 * b) * (u / y1) + y0 * (u / y1) := Nat.add_mul _ _ _
      have h5 : (u + 1) * b = u * b + b := by rw [Nat.add_mul, Nat.one_mul]
      omega
  · have : u / y1 < b + 2 := by
      rw [Nat.div_lt_iff_lt_mul hy1, Nat.add_mul, Nat.mul_comm b y1]
      omega
    omega
theorem inv_next {b y1 y0 u d q r : Nat} (h : Inv b y1 y0 u d q r) (hu : u < y1 * b + y0) (hd : d < b) (ht : b ≤ q ∨ b * r + d < q * y0) : 1 ≤ q ∧ Inv b y1 y0 u d (q - 1) (r + y1) := by
  obtain ⟨h1, h2, h3⟩ := h
  have hlt : (u * b + d) / (y1 * b + y0) < q := by
    rcases ht with ht | ht
    · exact Nat.lt_of_lt_of_le (true_lt hu hd) ht
    · rw [Nat.div_lt_iff_lt_mul (by omega)]
      have e : q * (y1 * b + y0) = q * y1 * b + q * y0 := by rw [Nat.mul_add, Nat.mul_assoc]
      have e2 : u * b = q * y1 * b + r * b := by rw [← h1, Nat.add_mul]
      rw [Nat.mul_comm b r] at ht
      omega
  generalize ht : (u * b + d) / (y1 * b + y0) = t at *
  have hq : 1 ≤ q := by omega
  refine ⟨hq, ?_, by rw [ht]; omega, by omega⟩
  obtain ⟨p, rfl⟩ : ∃ p, q = p + 1 := ⟨q - 1, by omega⟩
  rw [Nat.add_sub_cancel]
  rw [Nat.add_mul, Nat.one_mul] at h1
  omega
theorem inv_end {b y1 y0 u d q r : Nat} (h : Inv b y1 y0 u d q r) (hu : u < y1 * b + y0) (ht : q * y0 ≤ b * r + d) : q = (u * b + d) / (y1 * b + y0) := by
  obtain ⟨h1, h2, h3⟩ := h
  have : q ≤ (u * b + d) / (y1 * b + y0) := by
    rw [Nat.le_div_iff_mul_le (by omega)]
    have e : q * (y1 * b + y0) = q * y1 * b + q * y0 := by rw [Nat.mul_add, Nat.mul_assoc]
    have e2 : u * b = q * y1 * b + r * b := by rw [← h1, Nat.add_mul]
    rw [Nat.mul_comm b r] at ht
    omega
  omega
theorem inv_break {b y0 d q r : Nat} (h0 : y0 < b) (hq : q ≤ b) (hr : b ≤ r) : q * y0 ≤ b * r + d := by
  have a1 := Nat.mul_le_mul hq (Nat.le_of_lt h0)
  have a2 := Nat.mul_le_mul_left b hr
  omega
/-- Two digits, one behind the other. -/
theorem two_digits {b y u d1 d0 : Nat} (hy : 0 < y) :
    (u * b * b + d1 * b + d0) / y = (u * b + d1) / y * b + (((u * b + d1) % y) * b + d0) / y ∧ (u * b * b + d1 * b + d0) % y = (((u * b + d1) % y) * b + d0) % y := by
  have e := Nat.div_add_mod (u * b + d1) y
  have e1 : u * b * b + d1 * b + d0 = y * ((u * b + d1) / y * b) + (((u * b + d1) % y) * b + d0) := by
    have : u * b * b + d1 * b = (y * ((u * b + d1) / y) + (u * b + d1) % y) * b := by rw [e, Nat.add_mul]
    rw [this, Nat.add_mul, Nat.mul_assoc]
    omega
  generalize (u * b + d1) % y * b + d0 = z at *
  rw [e1, Nat.mul_add_div hy, Nat.mul_add_mod]
  exact ⟨rfl, rfl⟩
/-- What is shifted is divided alike. -/
theorem shifted (n y p : Nat) (hp : 0 < p) : n * p / (y * p) = n / y ∧ n * p % (y * p) / p = n % y := by
  rw [Nat.mul_div_mul_right _ _ hp, Nat.mul_mod_mul_right, Nat.mul_div_cancel _ hp]
  exact ⟨rfl, rfl⟩
end Div
end Go.Proofs.Ytiabnjmblcogmaa
end
section
namespace Go.Proofs
open Go.Shelf
def Try.lays134_ren : Go.Shelf.Ren := ⟨fun | 134 => 98 | 129 => 104 | n => n, fun | 53 => 108 | 3 => 3 | 4 => 4 | 46 => 133 | 5 => 5 | 9 => 9 | n => n, fun | n => n⟩
theorem Try.lays134 : Go.Proofs.Lays.n134 Try.prog Try.lays134_ren := {
  mixed := by kernel_rfl
  f129 := Try.func104.trans (congrArg some (by kernel_rfl))
  f134 := Try.func98.trans (congrArg some (by kernel_rfl))
  t3 := Try.underlying3
  a3 := Try.isAgg3
  z3 := Try.sizeOf3
  v3 := Try.zeroValue3
  t4 := Try.underlying4
  a4 := Try.isAgg4
  z4 := Try.sizeOf4
  v4 := Try.zeroValue4
  t5 := Try.underlying5
  a5 := Try.isAgg5
  z5 := Try.sizeOf5
  v5 := Try.zeroValue5
  t9 := Try.underlying9
  a9 := Try.isAgg9
  z9 := Try.sizeOf9
  v9 := Try.zeroValue9
  t46 := Try.underlying133
  a46 := Try.isAgg133
  z46 := Try.sizeOf133
  v46 := Try.zeroValue133
  t53 := Try.underlying108
  a53 := Try.isAgg108
  z53 := Try.sizeOf108
  v53 := Try.zeroValue108 }
theorem Try.bits_LeadingZeros64 (x : Int) (w : World) (h0 : 0 ≤ x) (h1 : x ≤ 18446744073709551615) :
    Calls Try.prog 98 #[.int .u64 x] w fun e w' => e = .returned (.int .i64 (64 - (Lib.bitLen x.toNat : Int))) ∧ w' = w := Any.bits_LeadingZeros64 Try.lays134 x w h0 h1
def Try.lays215_ren : Go.Shelf.Ren := ⟨fun | 215 => 50 | n => n, fun | 3 => 3 | 4 => 4 | n => n, fun | n => n⟩
theorem Try.lays215 : Go.Proofs.Lays.n215 Try.prog Try.lays215_ren := {
  mixed := by kernel_rfl
  f215 := Try.func50.trans (congrArg some (by kernel_rfl))
  t3 := Try.underlying3
  a3 := Try.isAgg3
  z3 := Try.sizeOf3
  v3 := Try.zeroValue3
  t4 := Try.underlying4
  a4 := Try.isAgg4
  z4 := Try.sizeOf4
  v4 := Try.zeroValue4 }
open Go.RowKit in
theorem Try.cmp_isNaN_int (x : Int) (w : World) :
    Calls Try.prog 50 #[.int .i64 x] w fun e w' => e = .returned (.bool false) ∧ w' = w := Any.cmp_isNaN_int Try.lays215 x w
def Try.lays122_ren : Go.Shelf.Ren := ⟨fun | 122 => 28 | 215 => 50 | n => n, fun | 3 => 3 | 4 => 4 | n => n, fun | n => n⟩
theorem Try.lays122 : Go.Proofs.Lays.n122 Try.prog Try.lays122_ren := {
  mixed := by kernel_rfl
  f122 := Try.func28.trans (congrArg some (by kernel_rfl))
  f215 := Try.func50.trans (congrArg some (by kernel_rfl))
  t3 := Try.underlying3
  a3 := Try.isAgg3
  z3 := Try.sizeOf3
  v3 := Try.zeroValue3
  t4 := Try.underlying4
  a4 := Try.isAgg4
  z4 := Try.sizeOf4
  v4 := Try.zeroValue4 }
open Go.RowKit in
theorem Try.cmp_Compare_int (x y : Int) (w : World) :
    Calls Try.prog 28 #[.int .i64 x, .int .i64 y] w fun e w' => e = .returned (.int .i64 (Lib.compareInt x y)) ∧ w' = w := Any.cmp_Compare_int Try.lays122 x y w
def Try.lays129_ren : Go.Shelf.Ren := ⟨fun | 129 => 104 | n => n, fun | 53 => 108 | 3 => 3 | 4 => 4 | 46 => 133 | 5 => 5 | 9 => 9 | n => n, fun | n => n⟩
theorem Try.lays129 : Go.Proofs.Lays.n129 Try.prog Try.lays129_ren := {
  mixed := by kernel_rfl
  f129 := Try.func104.trans (congrArg some (by kernel_rfl))
  t3 := Try.underlying3
  a3 := Try.isAgg3
  z3 := Try.sizeOf3
  v3 := Try.zeroValue3
  t4 := Try.underlying4
  a4 := Try.isAgg4
  z4 := Try.sizeOf4
  v4 := Try.zeroValue4
  t5 := Try.underlying5
  a5 := Try.isAgg5
  z5 := Try.sizeOf5
  v5 := Try.zeroValue5
  t9 := Try.underlying9
  a9 := Try.isAgg9
  z9 := Try.sizeOf9
  v9 := Try.zeroValue9
  t46 := Try.underlying133
  a46 := Try.isAgg133
  z46 := Try.sizeOf133
  v46 := Try.zeroValue133
  t53 := Try.underlying108
  a53 := Try.isAgg108
  z53 := Try.sizeOf108
  v53 := Try.zeroValue108 }
theorem Try.bits_Len64 (x : Int) (w : World) (h0 : 0 ≤ x) (h1 : x ≤ 18446744073709551615) :
    Calls Try.prog 104 #[.int .u64 x] w fun e w' => e = .returned (.int .i64 (Lib.bitLen x.toNat)) ∧ w' = w := Any.bits_Len64 Try.lays129 x w h0 h1
def Try.lays264_ren : Go.Shelf.Ren := ⟨fun | 264 => 88 | n => n, fun | 53 => 108 | 46 => 133 | n => n, fun | n => n⟩
theorem Try.lays264 : Go.Proofs.Lays.n264 Try.prog Try.lays264_ren := {
  mixed := by kernel_rfl
  f264 := Try.func88.trans (congrArg some (by kernel_rfl))
  t46 := Try.underlying133
  a46 := Try.isAgg133
  z46 := Try.sizeOf133
  v46 := Try.zeroValue133
  t53 := Try.underlying108
  a53 := Try.isAgg108
  z53 := Try.sizeOf108
  v53 := Try.zeroValue108 }
open Go.RowKit Go.Lib in
theorem Try.bits_Mul64 (x y : Nat) (hx : x < 18446744073709551616) (hy : y < 18446744073709551616) (w : World) :
    Calls Try.prog 88 #[.int .u64 x, .int .u64 y] w fun e w' => e = .returned (.tuple #[.int .u64 ((x * y / 18446744073709551616 : Nat) : Int), .int .u64 ((x * y % 18446744073709551616 : Nat) : Int)]) ∧ w' = w := Any.bits_Mul64 Try.lays264 x y hx hy w
def Try.lays113_ren : Go.Shelf.Ren := ⟨fun | 113 => 58 | n => n, fun | 28 => 29 | 3 => 3 | 4 => 4 | 9 => 9 | 20 => 20 | 0 => 0 | n => n, fun | n => n⟩
theorem Try.lays113 : Go.Proofs.Lays.n113 Try.prog Try.lays113_ren := {
  mixed := by kernel_rfl
  f113 := Try.func58.trans (congrArg some (by kernel_rfl))
  t0 := Try.underlying0
  a0 := Try.isAgg0
  z0 := Try.sizeOf0
  v0 := Try.zeroValue0
  t3 := Try.underlying3
  a3 := Try.isAgg3
  z3 := Try.sizeOf3
  v3 := Try.zeroValue3
  t4 := Try.underlying4
  a4 := Try.isAgg4
  z4 := Try.sizeOf4
  v4 := Try.zeroValue4
  t9 := Try.underlying9
  a9 := Try.isAgg9
  z9 := Try.sizeOf9
  v9 := Try.zeroValue9
  t20 := Try.underlying20
  a20 := Try.isAgg20
  z20 := Try.sizeOf20
  v20 := Try.zeroValue20
  t28 := Try.underlying29
  a28 := Try.isAgg29
  z28 := Try.sizeOf29
  v28 := Try.zeroValue29 }
open Go.Lib in
theorem Try.slices_Max_int (b off n c : Nat) (zs : List Int) (w : World) (hn : 0 < n) (hz : n ≤ zs.length) (hbig : n ≤ 9223372036854775807) (hc : ∀ j, j < zs.length → w.cell? ⟨b, off + j, none⟩ = some (.int .i64 (zs.getD j 0))) :
    Calls Try.prog 58 #[.slice (some ⟨b, off, none⟩) n c] w fun e w' => e = .returned (.int .i64 (Lib.maxOf (zs.take n))) ∧ w' = w := Any.slices_Max_int Try.lays113 b off n c zs w hn hz hbig hc
def Try.lays114_ren : Go.Shelf.Ren := ⟨fun | 114 => 101 | n => n, fun | 28 => 29 | 3 => 3 | 4 => 4 | 9 => 9 | 20 => 20 | 0 => 0 | n => n, fun | n => n⟩
theorem Try.lays114 : Go.Proofs.Lays.n114 Try.prog Try.lays114_ren := {
  mixed := by kernel_rfl
  f114 := Try.func101.trans (congrArg some (by kernel_rfl))
  t0 := Try.underlying0
  a0 := Try.isAgg0
  z0 := Try.sizeOf0
  v0 := Try.zeroValue0
  t3 := Try.underlying3
  a3 := Try.isAgg3
  z3 := Try.sizeOf3
  v3 := Try.zeroValue3
  t4 := Try.underlying4
  a4 := Try.isAgg4
  z4 := Try.sizeOf4
  v4 := Try.zeroValue4
  t9 := Try.underlying9
  a9 := Try.isAgg9
  z9 := Try.sizeOf9
  v9 := Try.zeroValue9
  t20 := Try.underlying20
  a20 := Try.isAgg20
  z20 := Try.sizeOf20
  v20 := Try.zeroValue20
  t28 := Try.underlying29
  a28 := Try.isAgg29
  z28 := Try.sizeOf29
  v28 := Try.zeroValue29 }
open Go.Lib in
theorem Try.slices_Min_int (b off n c : Nat) (zs : List Int) (w : World) (hn : 0 < n) (hz : n ≤ zs.length) (hbig : n ≤ 9223372036854775807) (hc : ∀ j, j < zs.length → w.cell? ⟨b, off + j, none⟩ = some (.int .i64 (zs.getD j 0))) :
    Calls Try.prog 101 #[.slice (some ⟨b, off, none⟩) n c] w fun e w' => e = .returned (.int .i64 (Lib.minOf (zs.take n))) ∧ w' = w := Any.slices_Min_int Try.lays114 b off n c zs w hn hz hbig hc
def Try.laysNm237_ren : Go.Shelf.Ren := ⟨fun | 37 => 50 | n => n, fun | 3 => 3 | 4 => 4 | n => n, fun | n => n⟩
theorem Try.laysNm237 : Go.Proofs.Lays2.n37 Try.prog Try.laysNm237_ren := {
  mixed := by kernel_rfl
  f37 := Try.func50.trans (congrArg some (by kernel_rfl))
  t3 := Try.underlying3
  a3 := Try.isAgg3
  z3 := Try.sizeOf3
  v3 := Try.zeroValue3
  t4 := Try.underlying4
  a4 := Try.isAgg4
  z4 := Try.sizeOf4
  v4 := Try.zeroValue4 }
open Go.RowKit Go.Lib in
theorem Try.cmp_isNaN_int2 (x : Int) (w : World) :
    Calls Try.prog 50 #[.int .i64 x] w fun e w' => e = .returned (.bool false) ∧ w' = w := Any.cmp_isNaN_int2 Try.laysNm237 x w
end Go.Proofs
end
section
namespace Go.Proofs.Ytiabnjmblcogmaa
open Go.RowKit
namespace Div
set_option maxHeartbeats 4000000 in
theorem div_core (hi lo y L S S2 Y y1 y0 H G u l d1 d0 a1 b1 r1 Q1 x1 x2 x3 u2 a2 b2 r2 Q0 z1 quo z2 z3 z4 z5 rm : Int) (s s2 : Nat) (P1 P2 : Int → Int → Prop)
    (hy : (y == 0) = false) (hh : ¬ y ≤ hi) (hh0 : (hi == 0) = false) (hS : IntKind.u64.wrap L = S) (hS0 : 0 ≤ S) (hS20 : 0 ≤ S2) (hs : min S.toNat 64 = s) (hS2 : IntKind.u64.wrap (64 - S) = S2) (hs2 : min S2.toNat 64 = s2)
    (hY : IntKind.u64.wrap (y * 2 ^ s) = Y) (hy1 : Y / 4294967296 = y1) (hy0 : bits BinOp.and .u64 Y 4294967295 = y0) (hH : IntKind.u64.wrap (hi * 2 ^ s) = H) (hG : lo / 2 ^ s2 = G) (hu : bits BinOp.or .u64 H G = u)
    (hl : IntKind.u64.wrap (lo * 2 ^ s) = l) (hd1 : l / 4294967296 = d1) (hd0 : bits BinOp.and .u64 l 4294967295 = d0) (hn : ¬ y1 = 0) (ha1 : IntKind.u64.wrap (u.tdiv y1) = a1) (hb1 : IntKind.u64.wrap (a1 * y1) = b1) (hr1 : IntKind.u64.wrap (u - b1) = r1) (st1 : P1 a1 r1)
    (N1 : ∀ q r : Int, P1 q r → ∃ m R V q' r' : Int, IntKind.u64.wrap (q * y0) = m ∧ IntKind.u64.wrap (4294967296 * r) = R ∧ IntKind.u64.wrap (R + d1) = V ∧ IntKind.u64.wrap (q - 1) = q' ∧ IntKind.u64.wrap (r + y1) = r' ∧ ((4294967296 ≤ q ∨ V < m) → (r' < 4294967296 → P1 q' r') ∧ (4294967296 ≤ r' → q' = Q1) ∧ q'.toNat < q.toNat) ∧ (q < 4294967296 → m ≤ V → q = Q1))
    (hx1 : IntKind.u64.wrap (u * 4294967296) = x1) (hx2 : IntKind.u64.wrap (x1 + d1) = x2) (hx3 : IntKind.u64.wrap (Q1 * Y) = x3) (hu2 : IntKind.u64.wrap (x2 - x3) = u2)
    (ha2 : IntKind.u64.wrap (u2.tdiv y1) = a2) (hb2 : IntKind.u64.wrap (a2 * y1) = b2) (hr2 : IntKind.u64.wrap (u2 - b2) = r2) (st2 : P2 a2 r2)
    (N2 : ∀ q r : Int, P2 q r → ∃ m R V q' r' : Int, IntKind.u64.wrap (q * y0) = m ∧ IntKind.u64.wrap (4294967296 * r) = R ∧ IntKind.u64.wrap (R + d0) = V ∧ IntKind.u64.wrap (q - 1) = q' ∧ IntKind.u64.wrap (r + y1) = r' ∧ ((4294967296 ≤ q ∨ V < m) → (r' < 4294967296 → P2 q' r') ∧ (4294967296 ≤ r' → q' = Q0) ∧ q'.toNat < q.toNat) ∧ (q < 4294967296 → m ≤ V → q = Q0))
    (hz1 : IntKind.u64.wrap (Q1 * 4294967296) = z1) (hquo : IntKind.u64.wrap (z1 + Q0) = quo) (hz2 : IntKind.u64.wrap (u2 * 4294967296) = z2) (hz3 : IntKind.u64.wrap (z2 + d0) = z3) (hz4 : IntKind.u64.wrap (Q0 * Y) = z4) (hz5 : IntKind.u64.wrap (z3 - z4) = z5) (hrm : z5 / 2 ^ s = rm)
    (CL : ∀ w : World, Calls Try.prog 98 #[.int .u64 y] w fun e w' => e = .returned (.int .i64 L) ∧ w = w') (w : World) :
    Calls Try.prog 89 #[.int .u64 hi, .int .u64 lo, .int .u64 y] w fun e w' => e = .returned (.tuple #[.int .u64 quo, .int .u64 rm]) ∧ w = w' := by
  replace CL := Lib.hid CL
  replace N1 := Lib.hid N1
  replace N2 := Lib.hid N2
  replace st1 := Lib.hid st1
  replace st2 := Lib.hid st2
  go_enter Try.func89, Try.ntmps89
  go_wp2_with (go_at_call 98; ((with_reducible refine (CL.out _).mono ?_); rintro e w1 ⟨rfl, rfl⟩))
  go_loop [15, 16] (fun x r => ∃ q r' : Int, x = .int .u64 q ∧ r = .int .u64 r' ∧ Hid (P1 q r')) (fun x _ => (intOf x).toNat)
  case atStart => exact ⟨_, _, rfl, rfl, st1⟩
  case round =>
    obtain ⟨q, r, rfl, rfl, HP⟩ := hrel
    obtain ⟨m, R, V, q', r', n1, n2, n3, n4, n5, n6, n7⟩ := N1.out q r HP.out
    by_cases t : 4294967296 ≤ q ∨ V < m
    · obtain ⟨n8, n9, n10⟩ := n6 t
      have n8 := Lib.hid n8
      have n9 := Lib.hid n9
      have n10 := Lib.hid n10
      clear n6 n7
      by_cases g : 4294967296 ≤ r'
      · have E := n9.out g
        rw [E] at n4
        clear E n8 n9 n10 HP
        have gd : decide (4294967296 ≤ r') = true := decide_eq_true g
        by_cases t1 : 4294967296 ≤ q
        · have t1d : decide (4294967296 ≤ q) = true := decide_eq_true t1
          clear t
          go_wp2
          go_loop [18, 16] (fun x r => ∃ q r' : Int, x = .int .u64 q ∧ r = .int .u64 r' ∧ Hid (P2 q r')) (fun x _ => (intOf x).toNat)
          case atStart => exact ⟨_, _, rfl, rfl, st2⟩
          case round =>
            obtain ⟨q, r, rfl, rfl, HP⟩ := hrel
            obtain ⟨m, R, V, q', r', n1, n2, n3, n4, n5, n6, n7⟩ := N2.out q r HP.out
            by_cases t : 4294967296 ≤ q ∨ V < m
            · obtain ⟨n8, n9, n10⟩ := n6 t
              have n8 := Lib.hid n8
              have n9 := Lib.hid n9
              have n10 := Lib.hid n10
              clear n6 n7
              by_cases g : 4294967296 ≤ r'
              · have E := n9.out g
                rw [E] at n4
                clear E n8 n9 n10
                have gd : decide (4294967296 ≤ r') = true := decide_eq_true g
                by_cases t1 : 4294967296 ≤ q
                · have t1d : decide (4294967296 ≤ q) = true := decide_eq_true t1
                  clear t
                  go_wp2
                  go_ret2
                  exact ⟨rfl, rfl⟩
                · have t1d : decide (4294967296 ≤ q) = false := decide_eq_false t1
                  have t2 : V < m := by omega
                  have t2d : decide (V < m) = true := decide_eq_true t2
                  clear t
                  go_wp2
                  go_ret2
                  exact ⟨rfl, rfl⟩
              · have HP2 := Lib.hid (n8.out (by omega))
                have hdec := Lib.hid n10.out
                clear n8 n9 n10
                have gd : decide (4294967296 ≤ r') = false := decide_eq_false g
                by_cases t1 : 4294967296 ≤ q
                · have t1d : decide (4294967296 ≤ q) = true := decide_eq_true t1
                  clear t
                  go_wp2
                  go_round
                  case rel => exact ⟨q', r', rfl, rfl, HP2⟩
                  case measure => have := hdec.out; simp [intOf]; omega
                · have t1d : decide (4294967296 ≤ q) = false := decide_eq_false t1
                  have t2 : V < m := by omega
                  have t2d : decide (V < m) = true := decide_eq_true t2
                  clear t
                  go_wp2
                  go_round
                  case rel => exact ⟨q', r', rfl, rfl, HP2⟩
                  case measure => have := hdec.out; simp [intOf]; omega
            · have t1 : ¬ 4294967296 ≤ q := fun h => t (.inl h)
              have t2 : ¬ V < m := fun h => t (.inr h)
              have E := n7 (by omega) (by omega)
              subst E
              clear n6 n7 t
              have t1d : decide (4294967296 ≤ q) = false := decide_eq_false t1
              have t2d : decide (V < m) = false := decide_eq_false t2
              go_wp2
              go_ret2
              exact ⟨rfl, rfl⟩
        · have t1d : decide (4294967296 ≤ q) = false := decide_eq_false t1
          have t2 : V < m := by omega
          have t2d : decide (V < m) = true := decide_eq_true t2
          clear t
          go_wp2
          go_loop [18, 16] (fun x r => ∃ q r' : Int, x = .int .u64 q ∧ r = .int .u64 r' ∧ Hid (P2 q r')) (fun x _ => (intOf x).toNat)
          case atStart => exact ⟨_, _, rfl, rfl, st2⟩
          case round =>
            obtain ⟨q, r, rfl, rfl, HP⟩ := hrel
            obtain ⟨m, R, V, q', r', n1, n2, n3, n4, n5, n6, n7⟩ := N2.out q r HP.out
            by_cases t : 4294967296 ≤ q ∨ V < m
            · obtain ⟨n8, n9, n10⟩ := n6 t
              have n8 := Lib.hid n8
              have n9 := Lib.hid n9
              have n10 := Lib.hid n10
              clear n6 n7
              by_cases g : 4294967296 ≤ r'
              · have E := n9.out g
                rw [E] at n4
                clear E n8 n9 n10
                have gd : decide (4294967296 ≤ r') = true := decide_eq_true g
                by_cases t1 : 4294967296 ≤ q
                · have t1d : decide (4294967296 ≤ q) = true := decide_eq_true t1
                  clear t
                  go_wp2
                  go_ret2
                  exact ⟨rfl, rfl⟩
                · have t1d : decide (4294967296 ≤ q) = false := decide_eq_false t1
                  have t2 : V < m := by omega
                  have t2d : decide (V < m) = true := decide_eq_true t2
                  clear t
                  go_wp2
                  go_ret2
                  exact ⟨rfl, rfl⟩
              · have HP2 := Lib.hid (n8.out (by omega))
                have hdec := Lib.hid n10.out
                clear n8 n9 n10
                have gd : decide (4294967296 ≤ r') = false := decide_eq_false g
                by_cases t1 : 4294967296 ≤ q
                · have t1d : decide (4294967296 ≤ q) = true := decide_eq_true t1
                  clear t
                  go_wp2
                  go_round
                  case rel => exact ⟨q', r', rfl, rfl, HP2⟩
                  case measure => have := hdec.out; simp [intOf]; omega
                · have t1d : decide (4294967296 ≤ q) = false := decide_eq_false t1
                  have t2 : V < m := by omega
                  have t2d : decide (V < m) = true := decide_eq_true t2
                  clear t
                  go_wp2
                  go_round
                  case rel => exact ⟨q', r', rfl, rfl, HP2⟩
                  case measure => have := hdec.out; simp [intOf]; omega
            · have t1 : ¬ 4294967296 ≤ q := fun h => t (.inl h)
              have t2 : ¬ V < m := fun h => t (.inr h)
              have E := n7 (by omega) (by omega)
              subst E
              clear n6 n7 t
              have t1d : decide (4294967296 ≤ q) = false := decide_eq_false t1
              have t2d : decide (V < m) = false := decide_eq_false t2
              go_wp2
              go_ret2
              exact ⟨rfl, rfl⟩
      · have HP2 := Lib.hid (n8.out (by omega))
        have hdec := Lib.hid n10.out
        clear n8 n9 n10
        have gd : decide (4294967296 ≤ r') = false := decide_eq_false g
        by_cases t1 : 4294967296 ≤ q
        · have t1d : decide (4294967296 ≤ q) = true := decide_eq_true t1
          clear t
          go_wp2
          go_round
          case rel => exact ⟨q', r', rfl, rfl, HP2⟩
          case measure => have := hdec.out; simp [intOf]; omega
        · have t1d : decide (4294967296 ≤ q) = false := decide_eq_false t1
          have t2 : V < m := by omega
          have t2d : decide (V < m) = true := decide_eq_true t2
          clear t
          go_wp2
          go_round
          case rel => exact ⟨q', r', rfl, rfl, HP2⟩
          case measure => have := hdec.out; simp [intOf]; omega
    · have t1 : ¬ 4294967296 ≤ q := fun h => t (.inl h)
      have t2 : ¬ V < m := fun h => t (.inr h)
      have E := n7 (by omega) (by omega)
      subst E
      clear n6 n7 t HP
      have t1d : decide (4294967296 ≤ q) = false := decide_eq_false t1
      have t2d : decide (V < m) = false := decide_eq_false t2
      go_wp2
      go_loop [18, 16] (fun x r => ∃ q r' : Int, x = .int .u64 q ∧ r = .int .u64 r' ∧ Hid (P2 q r')) (fun x _ => (intOf x).toNat)
      case atStart => exact ⟨_, _, rfl, rfl, st2⟩
      case round =>
        obtain ⟨q, r, rfl, rfl, HP⟩ := hrel
        obtain ⟨m, R, V, q', r', n1, n2, n3, n4, n5, n6, n7⟩ := N2.out q r HP.out
        by_cases t : 4294967296 ≤ q ∨ V < m
        · obtain ⟨n8, n9, n10⟩ := n6 t
          have n8 := Lib.hid n8
          have n9 := Lib.hid n9
          have n10 := Lib.hid n10
          clear n6 n7
          by_cases g : 4294967296 ≤ r'
          · have E := n9.out g
            rw [E] at n4
            clear E n8 n9 n10
            have gd : decide (4294967296 ≤ r') = true := decide_eq_true g
            by_cases t1 : 4294967296 ≤ q
            · have t1d : decide (4294967296 ≤ q) = true := decide_eq_true t1
              clear t
              go_wp2
              go_ret2
              exact ⟨rfl, rfl⟩
            · have t1d : decide (4294967296 ≤ q) = false := decide_eq_false t1
              have t2 : V < m := by omega
              have t2d : decide (V < m) = true := decide_eq_true t2
              clear t
              go_wp2
              go_ret2
              exact ⟨rfl, rfl⟩
          · have HP2 := Lib.hid (n8.out (by omega))
            have hdec := Lib.hid n10.out
            clear n8 n9 n10
            have gd : decide (4294967296 ≤ r') = false := decide_eq_false g
            by_cases t1 : 4294967296 ≤ q
            · have t1d : decide (4294967296 ≤ q) = true := decide_eq_true t1
              clear t
              go_wp2
              go_round
              case rel => exact ⟨q', r', rfl, rfl, HP2⟩
              case measure => have := hdec.out; simp [intOf]; omega
            · have t1d : decide (4294967296 ≤ q) = false := decide_eq_false t1
              have t2 : V < m := by omega
              have t2d : decide (V < m) = true := decide_eq_true t2
              clear t
              go_wp2
              go_round
              case rel => exact ⟨q', r', rfl, rfl, HP2⟩
              case measure => have := hdec.out; simp [intOf]; omega
        · have t1 : ¬ 4294967296 ≤ q := fun h => t (.inl h)
          have t2 : ¬ V < m := fun h => t (.inr h)
          have E := n7 (by omega) (by omega)
          subst E
          clear n6 n7 t
          have t1d : decide (4294967296 ≤ q) = false := decide_eq_false t1
          have t2d : decide (V < m) = false := decide_eq_false t2
          go_wp2
          go_ret2
          exact ⟨rfl, rfl⟩
end Div
end Go.Proofs.Ytiabnjmblcogmaa
end
