/- The walk of Div64. Printed by wip/tools/mkdiv.py. -/
import Derived.Test.YtbfcgaijplhcoaaDivP
import Derived.Test.YtbfcgaijplhcoaaShelf
import Derived.WalkKit
import Derived.ProofKit
import Derived.WalkLawsBesides
import Derived.Lib.Hide
namespace Go.Proofs.Ytbfcgaijplhcoaa
open Go.RowKit
namespace Div
set_option maxHeartbeats 4000000 in
theorem div_core (hi lo y L S S2 Y y1 y0 H G u l d1 d0 a1 b1 r1 Q1 x1 x2 x3 u2 a2 b2 r2 Q0 z1 quo z2 z3 z4 z5 rm : Int) (s s2 : Nat) (P1 P2 : Int → Int → Prop)
    (hy : (y == 0) = false) (hh : ¬ y ≤ hi) (hh0 : (hi == 0) = false) (hS : IntKind.u64.wrap L = S) (hS0 : 0 ≤ S) (hS20 : 0 ≤ S2) (hs : min S.toNat 64 = s) (hS2 : IntKind.u64.wrap (64 - S) = S2) (hs2 : min S2.toNat 64 = s2)
    (hY : IntKind.u64.wrap (y * 2 ^ s) = Y) (hy1 : Y / 4294967296 = y1) (hy0 : bits BinOp.and .u64 Y 4294967295 = y0) (hH : IntKind.u64.wrap (hi * 2 ^ s) = H) (hG : lo / 2 ^ s2 = G) (hu : bits BinOp.or .u64 H G = u)
    (hl : IntKind.u64.wrap (lo * 2 ^ s) = l) (hd1 : l / 4294967296 = d1) (hd0 : bits BinOp.and .u64 l 4294967295 = d0) (hn : ¬ y1 = 0) (ha1 : IntKind.u64.wrap (u.tdiv y1) = a1) (hb1 : IntKind.u64.wrap (a1 * y1) = b1) (hr1 : IntKind.u64.wrap (u - b1) = r1) (st1 : P1 a1 r1)
    (N1 : ∀ q r : Int, P1 q r → ∃ m R V q' r' : Int, IntKind.u64.wrap (q * y0) = m ∧ IntKind.u64.wrap (4294967296 * r) = R ∧ IntKind.u64.wrap (R + d1) = V ∧ IntKind.u64.wrap (q - 1) = q' ∧ IntKind.u64.wrap (r + y1) = r' ∧ ((4294967296 ≤ q ∨ V < m) → (r' < 4294967296 → P1 q' r') ∧ (4294967296 ≤ r' → q' = Q1) ∧ q'.toNat < q.toNat) ∧ (q < 4294967296 → m ≤ V → q = Q1))
    (hx1 : IntKind.u64.wrap (u * 4294967296) = x1) (hx2 : IntKind.u64.wrap (x1 + d1) = x2) (hx3 : IntKind.u64.wrap (Q1 * Y) = x3) (hu2 : IntKind.u64.wrap (x2 - x3) = u2)
    (ha2 : IntKind.u64.wrap (u2.tdiv y1) = a2) (hb2 : IntKind.u64.wrap (a2 * y1) = b2) (hr2 : IntKind.u64.wrap (u2 - b2) = r2) (st2 : P2 a2 r2)
    (N2 : ∀ q r : Int, P2 q r → ∃ m R V q' r' : Int, IntKind.u64.wrap (q * y0) = m ∧ IntKind.u64.wrap (4294967296 * r) = R ∧ IntKind.u64.wrap (R + d0) = V ∧ IntKind.u64.wrap (q - 1) = q' ∧ IntKind.u64.wrap (r + y1) = r' ∧ ((4294967296 ≤ q ∨ V < m) → (r' < 4294967296 → P2 q' r') ∧ (4294967296 ≤ r' → q' = Q0) ∧ q'.toNat < q.toNat) ∧ (q < 4294967296 → m ≤ V → q = Q0))
    (hz1 : IntKind.u64.wrap (Q1 * 4294967296) = z1) (hquo : IntKind.u64.wrap (z1 + Q0) = quo) (hz2 : IntKind.u64.wrap (u2 * 4294967296) = z2) (hz3 : IntKind.u64.wrap (z2 + d0) = z3) (hz4 : IntKind.u64.wrap (Q0 * Y) = z4) (hz5 : IntKind.u64.wrap (z3 - z4) = z5) (hrm : z5 / 2 ^ s = rm)
    (CL : ∀ w : World, Calls Try.prog 32 #[.int .u64 y] w fun e w' => e = .returned (.int .i64 L) ∧ w = w') (w : World) :
    Calls Try.prog 22 #[.int .u64 hi, .int .u64 lo, .int .u64 y] w fun e w' => e = .returned (.tuple #[.int .u64 quo, .int .u64 rm]) ∧ w = w' := by
  replace CL := Lib.hid CL
  replace N1 := Lib.hid N1
  replace N2 := Lib.hid N2
  replace st1 := Lib.hid st1
  replace st2 := Lib.hid st2
  go_enter Try.func22, Try.ntmps22
  go_wp2_with (go_at_call 32; ((with_reducible refine (CL.out _).mono ?_); rintro e w1 ⟨rfl, rfl⟩))
  go_loop [15, 16] (fun x r => ∃ q r' : Int, x = .int .u64 q ∧ r = .int .u64 r' ∧ Hid (P1 q r')) (fun x _ => (intOf x).toNat)
  case atStart => exact ⟨_, _, rfl, rfl, st1⟩
  case round =>
    obtain ⟨q, r, rfl, rfl, HP⟩ := hrel
    obtain ⟨m, R, V, q', r', n1, n2, n3, n4, n5, n6, n7⟩ := N1.out q r HP.out
    by_cases t : 4294967296 ≤ q ∨ V < m
    · obtain ⟨n8, n9, n10⟩ := n6 t
      have n8 := Lib.hid n8
      have n9 := Lib.hid n9
      have n10 := Lib.hid n10
      clear n6 n7
      by_cases g : 4294967296 ≤ r'
      · have E := n9.out g
        rw [E] at n4
        clear E n8 n9 n10 HP
        have gd : decide (4294967296 ≤ r') = true := decide_eq_true g
        by_cases t1 : 4294967296 ≤ q
        · have t1d : decide (4294967296 ≤ q) = true := decide_eq_true t1
          clear t
          go_wp2
          go_loop [18, 16] (fun x r => ∃ q r' : Int, x = .int .u64 q ∧ r = .int .u64 r' ∧ Hid (P2 q r')) (fun x _ => (intOf x).toNat)
          case atStart => exact ⟨_, _, rfl, rfl, st2⟩
          case round =>
            obtain ⟨q, r, rfl, rfl, HP⟩ := hrel
            obtain ⟨m, R, V, q', r', n1, n2, n3, n4, n5, n6, n7⟩ := N2.out q r HP.out
            by_cases t : 4294967296 ≤ q ∨ V < m
            · obtain ⟨n8, n9, n10⟩ := n6 t
              have n8 := Lib.hid n8
              have n9 := Lib.hid n9
              have n10 := Lib.hid n10
              clear n6 n7
              by_cases g : 4294967296 ≤ r'
              · have E := n9.out g
                rw [E] at n4
                clear E n8 n9 n10
                have gd : decide (4294967296 ≤ r') = true := decide_eq_true g
                by_cases t1 : 4294967296 ≤ q
                · have t1d : decide (4294967296 ≤ q) = true := decide_eq_true t1
                  clear t
                  go_wp2
                  go_ret2
                  exact ⟨rfl, rfl⟩
                · have t1d : decide (4294967296 ≤ q) = false := decide_eq_false t1
                  have t2 : V < m := by omega
                  have t2d : decide (V < m) = true := decide_eq_true t2
                  clear t
                  go_wp2
                  go_ret2
                  exact ⟨rfl, rfl⟩
              · have HP2 := Lib.hid (n8.out (by omega))
                have hdec := Lib.hid n10.out
                clear n8 n9 n10
                have gd : decide (4294967296 ≤ r') = false := decide_eq_false g
                by_cases t1 : 4294967296 ≤ q
                · have t1d : decide (4294967296 ≤ q) = true := decide_eq_true t1
                  clear t
                  go_wp2
                  go_round
                  case rel => exact ⟨q', r', rfl, rfl, HP2⟩
                  case measure => have := hdec.out; simp [intOf]; omega
                · have t1d : decide (4294967296 ≤ q) = false := decide_eq_false t1
                  have t2 : V < m := by omega
                  have t2d : decide (V < m) = true := decide_eq_true t2
                  clear t
                  go_wp2
                  go_round
                  case rel => exact ⟨q', r', rfl, rfl, HP2⟩
                  case measure => have := hdec.out; simp [intOf]; omega
            · have t1 : ¬ 4294967296 ≤ q := fun h => t (.inl h)
              have t2 : ¬ V < m := fun h => t (.inr h)
              have E := n7 (by omega) (by omega)
              subst E
              clear n6 n7 t
              have t1d : decide (4294967296 ≤ q) = false := decide_eq_false t1
              have t2d : decide (V < m) = false := decide_eq_false t2
              go_wp2
              go_ret2
              exact ⟨rfl, rfl⟩
        · have t1d : decide (4294967296 ≤ q) = false := decide_eq_false t1
          have t2 : V < m := by omega
          have t2d : decide (V < m) = true := decide_eq_true t2
          clear t
          go_wp2
          go_loop [18, 16] (fun x r => ∃ q r' : Int, x = .int .u64 q ∧ r = .int .u64 r' ∧ Hid (P2 q r')) (fun x _ => (intOf x).toNat)
          case atStart => exact ⟨_, _, rfl, rfl, st2⟩
          case round =>
            obtain ⟨q, r, rfl, rfl, HP⟩ := hrel
            obtain ⟨m, R, V, q', r', n1, n2, n3, n4, n5, n6, n7⟩ := N2.out q r HP.out
            by_cases t : 4294967296 ≤ q ∨ V < m
            · obtain ⟨n8, n9, n10⟩ := n6 t
              have n8 := Lib.hid n8
              have n9 := Lib.hid n9
              have n10 := Lib.hid n10
              clear n6 n7
              by_cases g : 4294967296 ≤ r'
              · have E := n9.out g
                rw [E] at n4
                clear E n8 n9 n10
                have gd : decide (4294967296 ≤ r') = true := decide_eq_true g
                by_cases t1 : 4294967296 ≤ q
                · have t1d : decide (4294967296 ≤ q) = true := decide_eq_true t1
                  clear t
                  go_wp2
                  go_ret2
                  exact ⟨rfl, rfl⟩
                · have t1d : decide (4294967296 ≤ q) = false := decide_eq_false t1
                  have t2 : V < m := by omega
                  have t2d : decide (V < m) = true := decide_eq_true t2
                  clear t
                  go_wp2
                  go_ret2
                  exact ⟨rfl, rfl⟩
              · have HP2 := Lib.hid (n8.out (by omega))
                have hdec := Lib.hid n10.out
                clear n8 n9 n10
                have gd : decide (4294967296 ≤ r') = false := decide_eq_false g
                by_cases t1 : 4294967296 ≤ q
                · have t1d : decide (4294967296 ≤ q) = true := decide_eq_true t1
                  clear t
                  go_wp2
                  go_round
                  case rel => exact ⟨q', r', rfl, rfl, HP2⟩
                  case measure => have := hdec.out; simp [intOf]; omega
                · have t1d : decide (4294967296 ≤ q) = false := decide_eq_false t1
                  have t2 : V < m := by omega
                  have t2d : decide (V < m) = true := decide_eq_true t2
                  clear t
                  go_wp2
                  go_round
                  case rel => exact ⟨q', r', rfl, rfl, HP2⟩
                  case measure => have := hdec.out; simp [intOf]; omega
            · have t1 : ¬ 4294967296 ≤ q := fun h => t (.inl h)
              have t2 : ¬ V < m := fun h => t (.inr h)
              have E := n7 (by omega) (by omega)
              subst E
              clear n6 n7 t
              have t1d : decide (4294967296 ≤ q) = false := decide_eq_false t1
              have t2d : decide (V < m) = false := decide_eq_false t2
              go_wp2
              go_ret2
              exact ⟨rfl, rfl⟩
      · have HP2 := Lib.hid (n8.out (by omega))
        have hdec := Lib.hid n10.out
        clear n8 n9 n10
        have gd : decide (4294967296 ≤ r') = false := decide_eq_false g
        by_cases t1 : 4294967296 ≤ q
        · have t1d : decide (4294967296 ≤ q) = true := decide_eq_true t1
          clear t
          go_wp2
          go_round
          case rel => exact ⟨q', r', rfl, rfl, HP2⟩
          case measure => have := hdec.out; simp [intOf]; omega
        · have t1d : decide (4294967296 ≤ q) = false := decide_eq_false t1
          have t2 : V < m := by omega
          have t2d : decide (V < m) = true := decide_eq_true t2
          clear t
          go_wp2
          go_round
          case rel => exact ⟨q', r', rfl, rfl, HP2⟩
          case measure => have := hdec.out; simp [intOf]; omega
    · have t1 : ¬ 4294967296 ≤ q := fun h => t (.inl h)
      have t2 : ¬ V < m := fun h => t (.inr h)
      have E := n7 (by omega) (by omega)
      subst E
      clear n6 n7 t HP
      have t1d : decide (4294967296 ≤ q) = false := decide_eq_false t1
      have t2d : decide (V < m) = false := decide_eq_false t2
      go_wp2
      go_loop [18, 16] (fun x r => ∃ q r' : Int, x = .int .u64 q ∧ r = .int .u64 r' ∧ Hid (P2 q r')) (fun x _ => (intOf x).toNat)
      case atStart => exact ⟨_, _, rfl, rfl, st2⟩
      case round =>
        obtain ⟨q, r, rfl, rfl, HP⟩ := hrel
        obtain ⟨m, R, V, q', r', n1, n2, n3, n4, n5, n6, n7⟩ := N2.out q r HP.out
        by_cases t : 4294967296 ≤ q ∨ V < m
        · obtain ⟨n8, n9, n10⟩ := n6 t
          have n8 := Lib.hid n8
          have n9 := Lib.hid n9
          have n10 := Lib.hid n10
          clear n6 n7
          by_cases g : 4294967296 ≤ r'
          · have E := n9.out g
            rw [E] at n4
            clear E n8 n9 n10
            have gd : decide (4294967296 ≤ r') = true := decide_eq_true g
            by_cases t1 : 4294967296 ≤ q
            · have t1d : decide (4294967296 ≤ q) = true := decide_eq_true t1
              clear t
              go_wp2
              go_ret2
              exact ⟨rfl, rfl⟩
            · have t1d : decide (4294967296 ≤ q) = false := decide_eq_false t1
              have t2 : V < m := by omega
              have t2d : decide (V < m) = true := decide_eq_true t2
              clear t
              go_wp2
              go_ret2
              exact ⟨rfl, rfl⟩
          · have HP2 := Lib.hid (n8.out (by omega))
            have hdec := Lib.hid n10.out
            clear n8 n9 n10
            have gd : decide (4294967296 ≤ r') = false := decide_eq_false g
            by_cases t1 : 4294967296 ≤ q
            · have t1d : decide (4294967296 ≤ q) = true := decide_eq_true t1
              clear t
              go_wp2
              go_round
              case rel => exact ⟨q', r', rfl, rfl, HP2⟩
              case measure => have := hdec.out; simp [intOf]; omega
            · have t1d : decide (4294967296 ≤ q) = false := decide_eq_false t1
              have t2 : V < m := by omega
              have t2d : decide (V < m) = true := decide_eq_true t2
              clear t
              go_wp2
              go_round
              case rel => exact ⟨q', r', rfl, rfl, HP2⟩
              case measure => have := hdec.out; simp [intOf]; omega
        · have t1 : ¬ 4294967296 ≤ q := fun h => t (.inl h)
          have t2 : ¬ V < m := fun h => t (.inr h)
          have E := n7 (by omega) (by omega)
          subst E
          clear n6 n7 t
          have t1d : decide (4294967296 ≤ q) = false := decide_eq_false t1
          have t2d : decide (V < m) = false := decide_eq_false t2
          go_wp2
          go_ret2
          exact ⟨rfl, rfl⟩
end Div
end Go.Proofs.Ytbfcgaijplhcoaa
