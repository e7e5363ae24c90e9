/- The walk of the statement on what is rounded up and down. -/
import Derived.Test.YtpkicpmbpeginaaCalA
import Derived.BigQuiet
import Derived.OpenShut
import Derived.Laws.IdiomArrays
namespace Go.Proofs.Ytpkicpmbpeginaa
open Go.RowKit
namespace Cal
/-- What Scale answers, of whole numbers that are told. -/
def SC (P : Program) (f : Nat) (a b c : Int) (up : Bool) (n : Int) : Prop :=
  ∀ w : World, Calls P f #[.int .i64 a, .int .i64 b, .int .i64 c, .bool up] w fun e w' => e = .returned (.tuple #[.int .i64 n, .int .i64 0]) ∧ Below w.heap.size w w'
theorem drewN_size (w : World) (n : Nat) : (w.drewN n).heap.size = w.heap.size := rfl
theorem below_dN {B : Nat} {a w : World} (h : Below B a w) (n : Nat) : Below B a (w.drewN n) := ⟨h.os, h.tape, h.output, h.size, h.block⟩
theorem cell_drewN (w : World) (n : Nat) (p : Addr) : (w.drewN n).cell? p = w.cell? p := rfl
theorem cell_box (w : World) (x0 x1 x2 x3 : Int) (t : Nat) : (w.alloc (.cells #[.int .u32 x0, .int .u32 x1, .int .u32 x2, .int .u32 x3] t)).cell? ⟨w.heap.size, 3, none⟩ = some (.int .u32 x3) := by go_simp
set_option maxHeartbeats 2000000 in
theorem rounds_core (x0 x1 x2 x3 X Y B T n m p q r n1 xt k z : Int) (_l0 : 0 ≤ x0) (_l1 : 0 ≤ x1) (_l2 : 0 ≤ x2) (_l3 : 0 ≤ x3)
    (h0 : wrap64 (x0 / 2) = X) (h1 : wrap64 (x1 / 2) = Y) (h2 : wrap64 (x2 / 2) = z) (h2' : wrap64 (1 + z) = B) (h3 : wrap64 (x3 / 2) = T)
    (hp : wrap64 (X * Y) = p) (hr : p.tmod B = r) (hq : wrap64 (n * B) = q) (hd : wrap64 (p - q) = r) (hn1 : wrap64 (n + 1) = n1) (hxt : wrap64 (X + T) = xt)
    (f1 : ¬ m < n) (f2 : ¬ n1 < m) (f3 : ¬ p < q) (f4 : ¬ B ≤ r) (f5 : n ≤ k) (hB : ¬ B = 0) (hm : (r = 0 ∧ m = n) ∨ (¬ r = 0 ∧ ¬ m = n))
    (C1 : SC Try.prog 7 X Y B false n) (C2 : SC Try.prog 7 X Y B true m) (C3 : SC Try.prog 7 xt Y B false k) (C4 : SC Try.prog 7 X B B true X) (w : World) :
    Calls Try.prog 3 #[.agg #[.int .u32 x0, .int .u32 x1, .int .u32 x2, .int .u32 x3]] w fun e w' => e = .returned (.bool true) ∧ Below w.heap.size w w' := by
  unfold SC at C1 C2 C3 C4
  have C1 := Lib.hid C1
  have C2 := Lib.hid C2
  have C3 := Lib.hid C3
  have C4 := Lib.hid C4
  have d1 : decide (m < n) = false := decide_eq_false f1
  have d2 : decide (n1 < m) = false := decide_eq_false f2
  have d3 : decide (p < q) = false := decide_eq_false f3
  have d4 : decide (B ≤ r) = false := decide_eq_false f4
  have d5 : decide (n ≤ k) = true := decide_eq_true f5
  have dB : decide (B = 0) = false := decide_eq_false hB
  rcases hm with ⟨rfl, rfl⟩ | ⟨g1, g2⟩
  · go_enter Try.func3, Try.ntmps3
    go_wp2
    go_quiet (fail)
    have c0 : ((w.alloc (Obj.cells #[.int .u32 x0, .int .u32 x1, .int .u32 x2, .int .u32 x3] 23)).drewN nq).cell? ⟨w.heap.size, 3, none⟩ = some (.int .u32 x3) := cell_box w x0 x1 x2 x3 23
    have s0 : w.heap.size < ((w.alloc (Obj.cells #[.int .u32 x0, .int .u32 x1, .int .u32 x2, .int .u32 x3] 23)).drewN nq).heap.size := by rw [drewN_size, World.size_alloc]; omega
    have hw0 : Below w.heap.size w ((w.alloc (Obj.cells #[.int .u32 x0, .int .u32 x1, .int .u32 x2, .int .u32 x3] 23)).drewN nq) := below_dN ((Below.refl _ _).alloc (Nat.le_refl _) _) _
    generalize ((w.alloc (Obj.cells #[.int .u32 x0, .int .u32 x1, .int .u32 x2, .int .u32 x3] 23)).drewN nq) = W0 at *
    go_wp2_with (first
      | (go_at_call 7; ((with_reducible refine (C1.out _).mono ?_); rintro e w1 ⟨rfl, hb1⟩; have c1 := (hb1.cell s0).trans c0; have s1 := Nat.lt_of_lt_of_le s0 hb1.size))
      | (go_at_call 7; ((with_reducible refine (C2.out _).mono ?_); rintro e w2 ⟨rfl, hb2⟩; have c2 := (hb2.cell s1).trans c1; have s2 := Nat.lt_of_lt_of_le s1 hb2.size))
      | (go_at_call 7; ((with_reducible refine (C3.out _).mono ?_); rintro e w3 ⟨rfl, hb3⟩))
      | (go_at_call 7; ((with_reducible refine (C4.out _).mono ?_); rintro e w4 ⟨rfl, hb4⟩))
      | (go_at_call 8; ((with_reducible refine (awake_any _).mono ?_); rintro e w5 ⟨rfl, hb5⟩)))
    go_ret
    exact ⟨rfl, below2 (below2 (below2 (below2 (below2 hw0 hb1) hb2) hb3) hb4) hb5⟩
  · have g3 : (m == n) = false := beq_eq_false_iff_ne.2 g2
    have g4 : (r == 0) = false := beq_eq_false_iff_ne.2 g1
    have g5 : (m == n) = (r == 0) := by rw [g3, g4]
    go_enter Try.func3, Try.ntmps3
    go_wp2
    go_quiet (fail)
    have c0 : ((w.alloc (Obj.cells #[.int .u32 x0, .int .u32 x1, .int .u32 x2, .int .u32 x3] 23)).drewN nq).cell? ⟨w.heap.size, 3, none⟩ = some (.int .u32 x3) := cell_box w x0 x1 x2 x3 23
    have s0 : w.heap.size < ((w.alloc (Obj.cells #[.int .u32 x0, .int .u32 x1, .int .u32 x2, .int .u32 x3] 23)).drewN nq).heap.size := by rw [drewN_size, World.size_alloc]; omega
    have hw0 : Below w.heap.size w ((w.alloc (Obj.cells #[.int .u32 x0, .int .u32 x1, .int .u32 x2, .int .u32 x3] 23)).drewN nq) := below_dN ((Below.refl _ _).alloc (Nat.le_refl _) _) _
    generalize ((w.alloc (Obj.cells #[.int .u32 x0, .int .u32 x1, .int .u32 x2, .int .u32 x3] 23)).drewN nq) = W0 at *
    go_wp2_with (first
      | (go_at_call 7; ((with_reducible refine (C1.out _).mono ?_); rintro e w1 ⟨rfl, hb1⟩; have c1 := (hb1.cell s0).trans c0; have s1 := Nat.lt_of_lt_of_le s0 hb1.size))
      | (go_at_call 7; ((with_reducible refine (C2.out _).mono ?_); rintro e w2 ⟨rfl, hb2⟩; have c2 := (hb2.cell s1).trans c1; have s2 := Nat.lt_of_lt_of_le s1 hb2.size))
      | (go_at_call 7; ((with_reducible refine (C3.out _).mono ?_); rintro e w3 ⟨rfl, hb3⟩))
      | (go_at_call 7; ((with_reducible refine (C4.out _).mono ?_); rintro e w4 ⟨rfl, hb4⟩))
      | (go_at_call 8; ((with_reducible refine (awake_any _).mono ?_); rintro e w5 ⟨rfl, hb5⟩)))
    go_ret
    exact ⟨rfl, below2 (below2 (below2 (below2 (below2 hw0 hb1) hb2) hb3) hb4) hb5⟩
/-- An array of four numbers that came in. -/
def IsFour (v : Value) (l : List Int) : Prop :=
  ∃ a b c d, l = [a, b, c, d] ∧ v = .agg #[.int .u32 a, .int .u32 b, .int .u32 c, .int .u32 d] ∧ (0 ≤ a ∧ a ≤ 4294967295) ∧ (0 ≤ b ∧ b ≤ 4294967295) ∧ (0 ≤ c ∧ c ≤ 4294967295) ∧ (0 ≤ d ∧ d ≤ 4294967295)
theorem list4 {α : Type} (l : List α) (h : (⟨l⟩ : Array α).size = 4) : ∃ a b c d, l = [a, b, c, d] := by
  match l, h with
  | [a, b, c, d], _ => exact ⟨a, b, c, d, rfl⟩
theorem isFour_of {H : Type} {enc : TypeId × Value → H} {P : Program} {t e : TypeId} (ht : P.underlying t = some (.array 4 e)) (he : P.underlying e = some (.int .u32)) (hc : P.cellsOf e = 1) (hct : P.cellsOf t = 4) {W : World} {r : Reach} {b0 : Nat} {v : Value} {d : DataW H} {p : List MemPlace} {base : Nat} {spare held : _}
    (hv : Value.okWide P W r b0 t v) (h : DataW.Trod enc P W base spare held t v d p) : ∃ l, IsFour v l := by
  obtain ⟨cs, rfl, hsz, _⟩ : ∃ cs, v = .agg cs ∧ cs.size = P.cellsOf t ∧ Row.okWide P W r b0 t cs := by
    simpa [Value.okWide, ht] using hv
  rw [hct] at hsz
  obtain ⟨l⟩ := cs
  obtain ⟨c0, c1, c2, c3, rfl⟩ := list4 l hsz
  obtain ⟨fuel, hf⟩ := h
  obtain ⟨y0, y1, y2, y3, m, hx, hy0, hy1, hy2, hy3⟩ := ChangeShapes.trod_array4 ht hc hf
  obtain ⟨x0, e0, rfl, w0⟩ := DataW.trod_int he hy0
  obtain ⟨x1, e1, rfl, w1⟩ := DataW.trod_int he hy1
  obtain ⟨x2, e2, rfl, w2⟩ := DataW.trod_int he hy2
  obtain ⟨x3, e3, rfl, w3⟩ := DataW.trod_int he hy3
  simp at e0 e1 e2 e3
  subst e0 e1 e2 e3
  exact ⟨_, x0, x1, x2, x3, rfl, rfl, bounds_u32 w0, bounds_u32 w1, bounds_u32 w2, bounds_u32 w3⟩
theorem wrap_id (n : Nat) (h : n ≤ 9223372036854775807) : wrap64 (n : Int) = n := by unfold wrap64; omega
theorem scl_down (a b c : Nat) : scl a b c false = a * b / c := rfl
theorem scl_up (a b c : Nat) : scl a b c true = a * b / c + if 0 < a * b % c then 1 else 0 := by unfold scl; simp
theorem lt_31 (X Y : Nat) (h1 : X < 2147483648) (h2 : Y < 2147483648) : X * Y ≤ 4611686018427387904 := by
  have := Nat.mul_le_mul (Nat.le_of_lt h1) (Nat.le_of_lt h2)
  omega
theorem calcRounds_walk (v : Value) (l : List Int) (hv : IsFour v l) (w : World) :
    Calls Try.prog 3 #[v] w fun e w' => e = .returned (.bool true) ∧ Below w.heap.size w w' := by
  obtain ⟨x0, x1, x2, x3, -, rfl, ⟨l0, u0⟩, ⟨l1, u1⟩, ⟨l2, u2⟩, ⟨l3, u3⟩⟩ := hv
  obtain ⟨X, hX⟩ : ∃ X : Nat, x0 / 2 = X := ⟨(x0 / 2).toNat, by omega⟩
  obtain ⟨Y, hY⟩ : ∃ X : Nat, x1 / 2 = X := ⟨(x1 / 2).toNat, by omega⟩
  obtain ⟨Z, hZ⟩ : ∃ X : Nat, x2 / 2 = X := ⟨(x2 / 2).toNat, by omega⟩
  obtain ⟨T, hT⟩ : ∃ X : Nat, x3 / 2 = X := ⟨(x3 / 2).toNat, by omega⟩
  have bX : X < 2147483648 := by omega
  have bY : Y < 2147483648 := by omega
  have bZ : Z < 2147483648 := by omega
  have bT : T < 2147483648 := by omega
  have p1 := lt_31 X Y bX bY
  have p2 : X * (1 + Z) ≤ 4611686018427387904 := Nat.le_trans (Nat.mul_le_mul (Nat.le_of_lt bX) (show 1 + Z ≤ 2147483648 by omega)) (by decide)
  have p3 : (X + T) * Y ≤ 9223372036854775807 := by
    have := Nat.mul_le_mul (show X + T ≤ 4294967294 by omega) (show Y ≤ 2147483647 by omega)
    omega
  have dm := Nat.div_add_mod (X * Y) (1 + Z)
  have dl := Nat.mod_lt (X * Y) (show 0 < 1 + Z by omega)
  have qle := Nat.div_le_self (X * Y) (1 + Z)
  have mono : X * Y / (1 + Z) ≤ (X + T) * Y / (1 + Z) := Nat.div_le_div_right (Nat.mul_le_mul (by omega) (Nat.le_refl _))
  have C1 : SC Try.prog 7 X Y ((1 + Z : Nat) : Int) false ((scl X Y (1 + Z) false : Nat) : Int) := scale_any X Y (1 + Z) false (by omega) (by omega) (by omega) (by omega) (by omega)
  have C2 : SC Try.prog 7 X Y ((1 + Z : Nat) : Int) true ((scl X Y (1 + Z) true : Nat) : Int) := scale_any X Y (1 + Z) true (by omega) (by omega) (by omega) (by omega) (by omega)
  have C3 : SC Try.prog 7 ((X + T : Nat) : Int) Y ((1 + Z : Nat) : Int) false ((scl (X + T) Y (1 + Z) false : Nat) : Int) := scale_any (X + T) Y (1 + Z) false (by omega) (by omega) (by omega) (by omega) (by omega)
  have C4 : SC Try.prog 7 X ((1 + Z : Nat) : Int) ((1 + Z : Nat) : Int) true X := by
    have h := scale_any X (1 + Z) (1 + Z) true (by omega) (by omega) (by omega) (by omega) (by omega)
    rw [scl_up, Nat.mul_mod_left, Nat.mul_div_cancel _ (show 0 < 1 + Z by omega)] at h
    exact h
  rw [scl_down] at C1 C3
  rw [scl_up] at C2
  have hmul : ((X : Int) * (Y : Int)) = ((X * Y : Nat) : Int) := by simp
  have hmq : (((X * Y / (1 + Z) : Nat) : Int) * ((1 + Z : Nat) : Int)) = (((1 + Z) * (X * Y / (1 + Z)) : Nat) : Int) := by rw [Nat.mul_comm (1 + Z)]; simp
  have hrem : Int.tmod ((X * Y : Nat) : Int) ((1 + Z : Nat) : Int) = ((X * Y % (1 + Z) : Nat) : Int) := rfl
  generalize (X + T) * Y / (1 + Z) = k at *
  generalize hqq : (1 + Z) * (X * Y / (1 + Z)) = q at *
  generalize X * Y / (1 + Z) = n at *
  generalize X * Y % (1 + Z) = r at *
  generalize X * Y = p at *
  refine rounds_core x0 x1 x2 x3 X Y ((1 + Z : Nat) : Int) T n _ p q r ((n + 1 : Nat) : Int) ((X + T : Nat) : Int) k Z l0 l1 l2 l3 ?_ ?_ ?_ ?_ ?_ ?_ hrem ?_ ?_ ?_ ?_ ?_ ?_ ?_ ?_ ?_ ?_ ?_ C1 C2 C3 C4 w
  · rw [hX]; exact wrap_id _ (by omega)
  · rw [hY]; exact wrap_id _ (by omega)
  · rw [hZ]; exact wrap_id _ (by omega)
  · rw [show (1 : Int) + (Z : Int) = ((1 + Z : Nat) : Int) by omega]; exact wrap_id _ (by omega)
  · rw [hT]; exact wrap_id _ (by omega)
  · rw [hmul]; exact wrap_id _ (by omega)
  · rw [hmq]; exact wrap_id _ (by omega)
  · rw [show (p : Int) - (q : Int) = (r : Int) by omega]; exact wrap_id _ (by omega)
  · rw [show (n : Int) + 1 = ((n + 1 : Nat) : Int) by omega]; exact wrap_id _ (by omega)
  · rw [show (X : Int) + (T : Int) = ((X + T : Nat) : Int) by omega]; exact wrap_id _ (by omega)
  · split <;> omega
  · split <;> omega
  · omega
  · omega
  · omega
  · omega
  · by_cases h : 0 < r
    · right; rw [if_pos h]; omega
    · left; rw [if_neg h]; omega
end Cal
end Go.Proofs.Ytpkicpmbpeginaa
