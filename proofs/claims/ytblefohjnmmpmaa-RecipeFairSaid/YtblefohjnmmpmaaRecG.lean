/- Numbers of blueprints: what may be; Scale and up over integers; one or two bounds beside a blueprint. -/
import Derived.Test.YtblefohjnmmpmaaRecE3
import Derived.Test.YtblefohjnmmpmaaDivF
namespace Go.Proofs.Ytblefohjnmmpmaa
open Go.RowKit
namespace Rec
theorem inB_ok {n f t : Int} (h : inB (n, f, t) = true) : f ≤ n ∧ n ≤ t := by
  unfold inB at h
  simpa using h
theorem inB_mk {n f t : Int} (h1 : f ≤ n) (h2 : n ≤ t) : inB (n, f, t) = true := by
  unfold inB
  simp [h1, h2]
/-- What a blueprint that may be keeps. -/
theorem bchk_ok (b : BlueIn) (types : Int) (h : bchk b types = 0) : (0 ≤ types ∧ types ≤ 32) ∧ (1 ≤ b.makes ∧ b.makes ≤ types) ∧ (1 ≤ b.per ∧ b.per ≤ 1048576) ∧ (1 ≤ b.time ∧ b.time ≤ 1048576) ∧ (0 ≤ b.copy ∧ b.copy ≤ 1048576) ∧ (0 ≤ b.study ∧ b.study ≤ 1048576) ∧ (1 ≤ b.most ∧ b.most ≤ 1000) ∧ Fair b.needs := by
  cases h0 : inB (types, 0, 32)
  · rw [fits7_no b types (by simp [h0])] at h; exact absurd h (by decide)
  cases h1 : inB (b.makes, 1, types)
  · rw [fits7_no b types (by simp [h1])] at h; exact absurd h (by decide)
  cases h2 : inB (b.per, 1, 1048576)
  · rw [fits7_no b types (by simp [h2])] at h; exact absurd h (by decide)
  cases h3 : inB (b.time, 1, 1048576)
  · rw [fits7_no b types (by simp [h3])] at h; exact absurd h (by decide)
  cases h4 : inB (b.copy, 0, 1048576)
  · rw [fits7_no b types (by simp [h4])] at h; exact absurd h (by decide)
  cases h5 : inB (b.study, 0, 1048576)
  · rw [fits7_no b types (by simp [h5])] at h; exact absurd h (by decide)
  cases h6 : inB (b.most, 1, 1000)
  · rw [fits7_no b types (by simp [h6])] at h; exact absurd h (by decide)
  refine ⟨inB_ok h0, inB_ok h1, inB_ok h2, inB_ok h3, inB_ok h4, inB_ok h5, inB_ok h6, chk_fair b.needs types ?_⟩
  unfold bchk at h
  by_cases hc : chk b.needs types = 0
  · exact hc
  · rw [decide_eq_false hc] at h
    simp at h
/-- A number by another one, rounded up. -/
def upI (n c : Int) : Int := (n + c - 1) / c
theorem upI_nonneg (n c : Int) (h : 0 ≤ n) (hc : 1 ≤ c) : 0 ≤ upI n c := Int.ediv_nonneg (by omega) (by omega)
theorem upI_le (n c : Int) (h : 0 ≤ n) (hc : 1 ≤ c) : upI n c ≤ n + c - 1 := Int.ediv_le_self _ (by omega)
theorem mul_bd {a b A B : Int} (ha : 0 ≤ a) (hA : a ≤ A) (hb : 0 ≤ b) (hB : b ≤ B) : 0 ≤ a * b ∧ a * b ≤ A * B :=
  ⟨Int.mul_nonneg ha hb, Int.mul_le_mul hA hB hb (by omega)⟩
theorem scl_up (n c : Nat) (hc : 1 ≤ c) : n / c + (if 0 < n % c then 1 else 0) = (n + c - 1) / c := by
  have e := Nat.div_add_mod n c
  have hl := Nat.mod_lt n hc
  generalize n / c = q at *
  generalize n % c = r at *
  subst e
  by_cases h : 0 < r
  · rw [if_pos h, show c * q + r + c - 1 = (r - 1) + c * (q + 1) by rw [Nat.mul_add]; omega, Nat.add_mul_div_left _ _ (by omega), Nat.div_eq_of_lt (by omega)]
    omega
  · rw [if_neg h, show c * q + r + c - 1 = (c - 1) + c * q by omega, Nat.add_mul_div_left _ _ (by omega), Nat.div_eq_of_lt (by omega)]
    omega
theorem upI_nat (n c : Nat) (hc : 1 ≤ c) : upI (n : Int) (c : Int) = (((n + c - 1) / c : Nat) : Int) := by
  unfold upI
  rw [show (n : Int) + (c : Int) - 1 = ((n + c - 1 : Nat) : Int) by omega]
  exact Int.ofNat_ediv_ofNat
/-- Scale, rounded up, where the answer does not run over. -/
theorem scale_big (a b c : Int) (ha : 0 ≤ a) (ha2 : a ≤ 9223372036854775807) (hb : 0 ≤ b) (hb2 : b ≤ 9223372036854775807) (hc : 1 ≤ c) (hc2 : c ≤ 9223372036854775807) (hp : upI (a * b) c ≤ 9223372036854775807) (w : World) :
    Calls Try.prog 25 #[.int .i64 a, .int .i64 b, .int .i64 c, .bool true] w fun e w' => e = .returned (.tuple #[.int .i64 (upI (a * b) c), .int .i64 0]) ∧ Below w.heap.size w w' := by
  obtain ⟨x, rfl⟩ := Int.eq_ofNat_of_zero_le ha
  obtain ⟨y, rfl⟩ := Int.eq_ofNat_of_zero_le hb
  obtain ⟨z, rfl⟩ := Int.eq_ofNat_of_zero_le (show 0 ≤ c by omega)
  have hz : 1 ≤ z := by omega
  have hs : Div.scl x y z true = (x * y + z - 1) / z := by
    unfold Div.scl
    rw [← scl_up (x * y) z hz]
    simp
  have hm : ((x * y : Nat) : Int) = (x : Int) * (y : Int) := Int.natCast_mul x y
  rw [← hm, upI_nat _ _ hz] at hp
  have hle : Div.scl x y z true ≤ 9223372036854775807 := by
    rw [hs]
    omega
  have := Div.scale_full x y z true (by omega) (by omega) hz (by omega) w
  rw [Div.sV_ok hle, Div.sE_ok hle, hs] at this
  rwa [← hm, upI_nat _ _ hz]
/-- Scale, rounded up, where nothing runs over. -/
theorem scale_int (a b c : Int) (ha : 0 ≤ a) (ha2 : a ≤ 9223372036854775807) (hb : 0 ≤ b) (hb2 : b ≤ 9223372036854775807) (hc : 1 ≤ c) (hp : a * b + c ≤ 9223372036854775807) (w : World) :
    Calls Try.prog 25 #[.int .i64 a, .int .i64 b, .int .i64 c, .bool true] w fun e w' => e = .returned (.tuple #[.int .i64 (upI (a * b) c), .int .i64 0]) ∧ Below w.heap.size w w' := by
  have h0 := Int.mul_nonneg ha hb
  exact scale_big a b c ha ha2 hb hb2 hc (by omega) (Int.le_trans (upI_le _ _ h0 hc) (by omega)) w
theorem up_int (n m : Int) (hn : 0 ≤ n) (hn2 : n ≤ 4611686018427387904) (hm : 1 ≤ m) (hm2 : m ≤ 4611686018427387903) (w : World) :
    Calls Try.prog 27 #[.int .i64 n, .int .i64 m] w fun e w' => e = .returned (.int .i64 (upI n m)) ∧ w = w' := by
  obtain ⟨x, rfl⟩ := Int.eq_ofNat_of_zero_le hn
  obtain ⟨y, rfl⟩ := Int.eq_ofNat_of_zero_le (show 0 ≤ m by omega)
  rw [upI_nat _ _ (by omega)]
  exact up_any x y (by omega) (by omega) (by omega) w
theorem bnds_one (W : World) (x1 x2 x3 : Int) (t : TypeId) : Bnds (W.alloc (.cells #[.int .i64 x1, .int .i64 x2, .int .i64 x3] t)) (some ⟨W.heap.size, 0, none⟩) [(x1, x2, x3)] := by
  intro i hi
  refine ⟨W.heap.size, 0, rfl, by rw [World.size_alloc]; omega, ?_⟩
  match i, hi with
  | 0, _ => go_simp
theorem bnds_two (W : World) (x1 x2 x3 y1 y2 y3 : Int) (t : TypeId) : Bnds (W.alloc (.cells #[.int .i64 x1, .int .i64 x2, .int .i64 x3, .int .i64 y1, .int .i64 y2, .int .i64 y3] t)) (some ⟨W.heap.size, 0, none⟩) [(x1, x2, x3), (y1, y2, y3)] := by
  intro i hi
  refine ⟨W.heap.size, 0, rfl, by rw [World.size_alloc]; omega, ?_⟩
  match i, hi with
  | 0, _ => go_simp
  | 1, _ => go_simp
theorem Came.below {w w' : World} {b : BlueIn} (h : Came w b) (hb : Below w.heap.size w w') : Came w' b := ⟨h.1, h.2.1.below hb, h.2.2⟩
theorem may_one (b : BlueIn) (x1 x2 x3 : Int) (W : World) (hb : Came W b) (t : TypeId) (g : Nat) (hg : g = W.heap.size) :
    Calls Try.prog 24 #[.agg b.val, .slice (some ⟨g, 0, none⟩) 1 1] (W.alloc (.cells #[.int .i64 x1, .int .i64 x2, .int .i64 x3] t)) fun e w' => e = .returned (.bool (decide (bchk b 32 = 0) && inB (x1, x2, x3))) ∧ Below W.heap.size W w' := by
  subst hg
  have hal := (Below.refl W.heap.size W).alloc (Nat.le_refl _) (.cells #[.int .i64 x1, .int .i64 x2, .int .i64 x3] t)
  refine (may_any b _ 1 [(x1, x2, x3)] (by unfold maxLen; show 1 ≤ _; omega) _ (hb.below hal) (bnds_one W x1 x2 x3 t)).mono fun e w' ⟨h1, h2⟩ => ⟨?_, hal.trans (h2.mono (by rw [World.size_alloc]; omega))⟩
  rw [h1]
  rfl
theorem may_two (b : BlueIn) (x1 x2 x3 y1 y2 y3 : Int) (W : World) (hb : Came W b) (t : TypeId) (g : Nat) (hg : g = W.heap.size) :
    Calls Try.prog 24 #[.agg b.val, .slice (some ⟨g, 0, none⟩) 2 2] (W.alloc (.cells #[.int .i64 x1, .int .i64 x2, .int .i64 x3, .int .i64 y1, .int .i64 y2, .int .i64 y3] t)) fun e w' => e = .returned (.bool (decide (bchk b 32 = 0) && (inB (x1, x2, x3) && inB (y1, y2, y3)))) ∧ Below W.heap.size W w' := by
  subst hg
  have hal := (Below.refl W.heap.size W).alloc (Nat.le_refl _) (.cells #[.int .i64 x1, .int .i64 x2, .int .i64 x3, .int .i64 y1, .int .i64 y2, .int .i64 y3] t)
  refine (may_any b _ 2 [(x1, x2, x3), (y1, y2, y3)] (by unfold maxLen; show 2 ≤ _; omega) _ (hb.below hal) (bnds_two W x1 x2 x3 y1 y2 y3 t)).mono fun e w' ⟨h1, h2⟩ => ⟨?_, hal.trans (h2.mono (by rw [World.size_alloc]; omega))⟩
  rw [h1]
  rfl
end Rec
end Go.Proofs.Ytblefohjnmmpmaa
