/- The walk of the statement that what is added is taken away again. -/
import Derived.Test.YtpkicpmbpeginaaCalA
namespace Go.Proofs.Ytpkicpmbpeginaa
open Go.RowKit
namespace Cal
set_option maxHeartbeats 1000000 in
theorem calcBack_core (a b : Int) (ha : ok64 a = true) (hb : ok64 b = true) (w : World) :
    Calls Try.prog 6 #[.int .i64 a, .int .i64 b] w fun e w' => e = .returned (.bool true) ∧ Below w.heap.size w w' := by
  have A1 : Hid (∀ w, R Try.prog 11 a b (a + b) w) := add_any a b ha hb
  have A2 : Hid (∀ w, R Try.prog 11 b a (a + b) w) := by
    have := add_any b a hb ha
    rw [Int.add_comm b a] at this
    exact this
  have A3 : Hid (∀ w, R Try.prog 15 a b (a * b) w) := mul_any a b ha hb
  have A4 : Hid (∀ w, R Try.prog 15 b a (a * b) w) := by
    have := mul_any b a hb ha
    rw [Int.mul_comm b a] at this
    exact this
  have A5 : Hid (∀ w, R Try.prog 13 (val (a + b)) b (val (a + b) - b) w) := by
    show ∀ w, _
    cases hs : ok64 (a + b)
    · rw [val_no hs]; exact sub_any 0 b (by decide) hb
    · rw [val_ok hs]; exact sub_any (a + b) b hs hb
  have h5 : ok64 (a + b) = true → val (val (a + b) - b) = a ∧ err (val (a + b) - b) = 0 := by
    intro hs
    rw [val_ok hs, show a + b - b = a by omega]
    exact ⟨val_ok ha, err_ok ha⟩
  have hm : (b == 0) = false → Int.tmod (a * b) b = 0 ∧ wrap64 (Int.tdiv (a * b) b) = a := by
    intro h0
    have h0' : b ≠ 0 := by simpa using h0
    rw [Int.mul_tmod_left, Int.mul_tdiv_cancel _ h0']
    refine ⟨rfl, ?_⟩
    have := ok_iff.1 ha
    unfold wrap64
    omega
  unfold R at A1 A2 A3 A4 A5
  generalize val (a + b) - b = d at *
  obtain ⟨s, hs⟩ : ∃ s, s = a + b := ⟨_, rfl⟩
  obtain ⟨p, hp⟩ : ∃ p, p = a * b := ⟨_, rfl⟩
  rw [← hs] at A1 A2 A5 h5
  rw [← hp] at A3 A4 hm
  clear hs hp ha hb
  have last : ∀ (V E D F P G : Int), val s = V → err s = E → val d = D → err d = F → val p = P → err p = G → (E = 5 ∨ (E = 0 ∧ a = D ∧ F = 0)) → (G = 5 ∨ (G = 0 ∧ P = p)) →
      Calls Try.prog 6 #[.int .i64 a, .int .i64 b] w fun e w' => e = .returned (.bool true) ∧ Below w.heap.size w w' := by
    intro V E D F P G e1 e2 e3 e4 e5 e6 c1 c2
    rw [e1, e2] at A1 A2
    rw [e5, e6] at A3 A4
    rw [e1, e3, e4] at A5
    clear e1 e2 e3 e4 e5 e6 h5
    rcases c1 with rfl | ⟨rfl, rfl, rfl⟩
    · rcases c2 with rfl | ⟨rfl, hP⟩
      · clear hm
        go_enter Try.func6, Try.ntmps6
        go_wp2_with (first
          | (go_at_call 11; ((with_reducible refine (A1.out _).mono ?_); rintro e w1 ⟨rfl, rfl⟩))
          | (go_at_call 11; ((with_reducible refine (A2.out _).mono ?_); rintro e w1 ⟨rfl, rfl⟩))
          | (go_at_call 15; ((with_reducible refine (A3.out _).mono ?_); rintro e w1 ⟨rfl, rfl⟩))
          | (go_at_call 15; ((with_reducible refine (A4.out _).mono ?_); rintro e w1 ⟨rfl, rfl⟩))
          | (go_at_call 13; ((with_reducible refine (A5.out _).mono ?_); rintro e w1 ⟨rfl, rfl⟩))
          | (go_at_call 8; ((with_reducible refine (awake_any _).mono ?_); rintro e w4 ⟨rfl, hb4⟩)))
        go_ret
        exact ⟨rfl, hb4⟩
      · subst hP
        cases hb0 : (b == 0)
        · obtain ⟨m1, m2⟩ := hm hb0
          have hb1 : ¬ b = 0 := by simpa using hb0
          have hb2 : decide (b = 0) = false := decide_eq_false hb1
          have m1d : decide (Int.tmod P b = 0) = true := decide_eq_true m1
          have m2d : decide (wrap64 (Int.tdiv P b) = a) = true := decide_eq_true m2
          clear hm
          go_enter Try.func6, Try.ntmps6
          go_wp2_with (first
            | (go_at_call 11; ((with_reducible refine (A1.out _).mono ?_); rintro e w1 ⟨rfl, rfl⟩))
            | (go_at_call 11; ((with_reducible refine (A2.out _).mono ?_); rintro e w1 ⟨rfl, rfl⟩))
            | (go_at_call 15; ((with_reducible refine (A3.out _).mono ?_); rintro e w1 ⟨rfl, rfl⟩))
            | (go_at_call 15; ((with_reducible refine (A4.out _).mono ?_); rintro e w1 ⟨rfl, rfl⟩))
            | (go_at_call 13; ((with_reducible refine (A5.out _).mono ?_); rintro e w1 ⟨rfl, rfl⟩))
            | (go_at_call 8; ((with_reducible refine (awake_any _).mono ?_); rintro e w4 ⟨rfl, hb4⟩)))
          go_ret
          exact ⟨rfl, hb4⟩
        · clear hm
          have hb1 : b = 0 := by simpa using hb0
          subst hb1
          clear hb0
          go_enter Try.func6, Try.ntmps6
          go_wp2_with (first
            | (go_at_call 11; ((with_reducible refine (A1.out _).mono ?_); rintro e w1 ⟨rfl, rfl⟩))
            | (go_at_call 11; ((with_reducible refine (A2.out _).mono ?_); rintro e w1 ⟨rfl, rfl⟩))
            | (go_at_call 15; ((with_reducible refine (A3.out _).mono ?_); rintro e w1 ⟨rfl, rfl⟩))
            | (go_at_call 15; ((with_reducible refine (A4.out _).mono ?_); rintro e w1 ⟨rfl, rfl⟩))
            | (go_at_call 13; ((with_reducible refine (A5.out _).mono ?_); rintro e w1 ⟨rfl, rfl⟩))
            | (go_at_call 8; ((with_reducible refine (awake_any _).mono ?_); rintro e w4 ⟨rfl, hb4⟩)))
          go_ret
          exact ⟨rfl, hb4⟩
    · rcases c2 with rfl | ⟨rfl, hP⟩
      · clear hm
        go_enter Try.func6, Try.ntmps6
        go_wp2_with (first
          | (go_at_call 11; ((with_reducible refine (A1.out _).mono ?_); rintro e w1 ⟨rfl, rfl⟩))
          | (go_at_call 11; ((with_reducible refine (A2.out _).mono ?_); rintro e w1 ⟨rfl, rfl⟩))
          | (go_at_call 15; ((with_reducible refine (A3.out _).mono ?_); rintro e w1 ⟨rfl, rfl⟩))
          | (go_at_call 15; ((with_reducible refine (A4.out _).mono ?_); rintro e w1 ⟨rfl, rfl⟩))
          | (go_at_call 13; ((with_reducible refine (A5.out _).mono ?_); rintro e w1 ⟨rfl, rfl⟩))
          | (go_at_call 8; ((with_reducible refine (awake_any _).mono ?_); rintro e w4 ⟨rfl, hb4⟩)))
        go_ret
        exact ⟨rfl, hb4⟩
      · subst hP
        cases hb0 : (b == 0)
        · obtain ⟨m1, m2⟩ := hm hb0
          have hb1 : ¬ b = 0 := by simpa using hb0
          have hb2 : decide (b = 0) = false := decide_eq_false hb1
          have m1d : decide (Int.tmod P b = 0) = true := decide_eq_true m1
          have m2d : decide (wrap64 (Int.tdiv P b) = a) = true := decide_eq_true m2
          clear hm
          go_enter Try.func6, Try.ntmps6
          go_wp2_with (first
            | (go_at_call 11; ((with_reducible refine (A1.out _).mono ?_); rintro e w1 ⟨rfl, rfl⟩))
            | (go_at_call 11; ((with_reducible refine (A2.out _).mono ?_); rintro e w1 ⟨rfl, rfl⟩))
            | (go_at_call 15; ((with_reducible refine (A3.out _).mono ?_); rintro e w1 ⟨rfl, rfl⟩))
            | (go_at_call 15; ((with_reducible refine (A4.out _).mono ?_); rintro e w1 ⟨rfl, rfl⟩))
            | (go_at_call 13; ((with_reducible refine (A5.out _).mono ?_); rintro e w1 ⟨rfl, rfl⟩))
            | (go_at_call 8; ((with_reducible refine (awake_any _).mono ?_); rintro e w4 ⟨rfl, hb4⟩)))
          go_ret
          exact ⟨rfl, hb4⟩
        · clear hm
          have hb1 : b = 0 := by simpa using hb0
          subst hb1
          clear hb0
          go_enter Try.func6, Try.ntmps6
          go_wp2_with (first
            | (go_at_call 11; ((with_reducible refine (A1.out _).mono ?_); rintro e w1 ⟨rfl, rfl⟩))
            | (go_at_call 11; ((with_reducible refine (A2.out _).mono ?_); rintro e w1 ⟨rfl, rfl⟩))
            | (go_at_call 15; ((with_reducible refine (A3.out _).mono ?_); rintro e w1 ⟨rfl, rfl⟩))
            | (go_at_call 15; ((with_reducible refine (A4.out _).mono ?_); rintro e w1 ⟨rfl, rfl⟩))
            | (go_at_call 13; ((with_reducible refine (A5.out _).mono ?_); rintro e w1 ⟨rfl, rfl⟩))
            | (go_at_call 8; ((with_reducible refine (awake_any _).mono ?_); rintro e w4 ⟨rfl, hb4⟩)))
          go_ret
          exact ⟨rfl, hb4⟩
  refine last _ _ _ _ _ _ rfl rfl rfl rfl rfl rfl ?_ ?_
  · cases hs : ok64 s
    · left; exact err_no hs
    · right; exact ⟨err_ok hs, (h5 hs).1.symm, (h5 hs).2⟩
  · cases hs : ok64 p
    · left; exact err_no hs
    · right; exact ⟨err_ok hs, val_ok hs⟩
theorem calcBack_walk (a : Int) (ha : (Lit.int .i64 a).wf = true) (b : Int) (hb : (Lit.int .i64 b).wf = true) (w : World) :
    Calls Try.prog 6 #[.int .i64 a, .int .i64 b] w fun e w' => e = .returned (.bool true) ∧ Below w.heap.size w w' :=
  calcBack_core a b (ok_iff.2 (bounds_i64 ha)) (ok_iff.2 (bounds_i64 hb)) w
end Cal
end Go.Proofs.Ytpkicpmbpeginaa
