/- What brokers, sales and bays take: the package and the reference. -/
import Derived.Test.YtbfcgaijplhcoaaFeeT
namespace Go.Proofs.Ytbfcgaijplhcoaa
open Go.RowKit
namespace Fee
def sc (a b : Int) (up : Bool) : Int := ((Div.scl a.toNat b.toNat 10000 up : Nat) : Int)
theorem sc_le (a b : Nat) (up : Bool) (ha : a ≤ 1152921504606846976) (hb : b ≤ 10000) : Div.scl a b 10000 up ≤ 9223372036854775807 := by
  have h := quo_mono (a := a) (Nat.le_refl b) hb (show 0 < 10000 by omega)
  unfold Div.scl
  split <;> omega
theorem scale_own (a b : Int) (up : Bool) (ha : inR a 1152921504606846976 = true) (hb : inR b 10000 = true) (w : World) :
    Calls Try.prog 27 #[.int .i64 a, .int .i64 b, .int .i64 10000, .bool up] w fun e w' => e = .returned (.tuple #[.int .i64 (sc a b up), .int .i64 0]) ∧ Below w.heap.size w w' := by
  obtain ⟨a0, a1⟩ := inR_yes ha
  obtain ⟨b0, b1⟩ := inR_yes hb
  obtain ⟨x, rfl⟩ := Int.eq_ofNat_of_zero_le a0
  obtain ⟨y, rfl⟩ := Int.eq_ofNat_of_zero_le b0
  have hle := sc_le x y up (by omega) (by omega)
  have := Div.scale_full x y 10000 up (by omega) (by omega) (by omega) (by omega) w
  rwa [Div.sV_ok hle, Div.sE_ok hle] at this
theorem scale_ref (a b : Int) (up : Bool) (ha : inR a 1152921504606846976 = true) (hb : inR b 10000 = true) (w : World) :
    Calls Try.prog 10 #[.int .i64 a, .int .i64 b, .int .i64 10000, .bool up] w fun e w' => e = .returned (.tuple #[.int .i64 (sc a b up), .int .i64 0]) ∧ w = w' := by
  obtain ⟨a0, a1⟩ := inR_yes ha
  obtain ⟨b0, b1⟩ := inR_yes hb
  obtain ⟨x, rfl⟩ := Int.eq_ofNat_of_zero_le a0
  obtain ⟨y, rfl⟩ := Int.eq_ofNat_of_zero_le b0
  exact refScale_small x y 10000 up (by omega) (by omega) (by omega) (by omega) w
theorem okF_rates {f : FeesIn} (h : okF f = true) : inR f.broker 10000 = true ∧ inR f.sales 10000 = true := by
  unfold okF at h
  rw [Bool.and_eq_true, Bool.and_eq_true] at h
  exact ⟨h.1, h.2.1⟩
def brokerV (f : FeesIn) (x : Int) : Int × Int := if okF f && inR x 1152921504606846976 then (max (sc x f.broker true) f.least, 0) else (0, 1)
def saleV (f : FeesIn) (x : Int) : Int × Int := if okF f && inR x 1152921504606846976 then (sc x f.sales false, 0) else (0, 1)
def bayV (p x : Int) : Int × Int := if inR p 10000 && inR x 1099511627776 then (sc x p true, 0) else (0, 1)
set_option maxHeartbeats 2000000 in
theorem broker_any (f : FeesIn) (x : Int) (w : World) :
    Calls Try.prog 11 #[.agg f.val, .int .i64 x] w fun e w' => e = .returned (.tuple #[.int .i64 (brokerV f x).1, .int .i64 (brokerV f x).2]) ∧ Below w.heap.size w w' := by
  have CK : Hid (∀ W, Calls Try.prog 17 #[.agg #[.int .i64 f.broker, .int .i64 f.least, .int .i64 f.sales]] W fun e w' => e = .returned (.int .i64 (if okF f then 0 else 1)) ∧ Below W.heap.size W w') := check_any f
  have MO : Hid (∀ W, Calls Try.prog 19 #[.int .i64 x] W fun e w' => e = .returned (.bool (inR x 1152921504606846976)) ∧ W = w') := money_any x
  have HS : Hid (brokerV f x = if okF f && inR x 1152921504606846976 then (max (sc x f.broker true) f.least, 0) else (0, 1)) := rfl
  have hbw := Lib.hid ((Below.refl w.heap.size w).alloc (Nat.le_refl _) (.cells #[.int .i64 f.broker, .int .i64 f.least, .int .i64 f.sales] 32))
  have HY : Hid (okF f = true → _) := fun h => okF_rates h
  generalize brokerV f x = V at *
  unfold FeesIn.val
  cases hO : okF f
  · rw [hO] at HS CK
    have HV : Hid (V = (0, 1)) := HS.out
    replace CK : Hid (∀ W, Calls Try.prog 17 #[.agg #[.int .i64 f.broker, .int .i64 f.least, .int .i64 f.sales]] W fun e w' => e = .returned (.int .i64 1) ∧ Below W.heap.size W w') := CK.out
    clear hO
    go_enter Try.func11, Try.ntmps11
    go_wp2_with (go_at_call 17; ((with_reducible refine (CK.out _).mono ?_); rintro e w1 ⟨rfl, hb1⟩; have hb1' := Lib.hid (hbw.out.trans (hb1.mono (by simp))); have c0 := box_cell hb1 0; have c1 := box_cell hb1 1; have c2 := box_cell hb1 2; simp only [List.getElem?_toArray, List.getElem?_cons_zero, List.getElem?_cons_succ] at c0 c1 c2; have s1 := Lib.hid (box_lt hb1)))
    go_ret2
    exact ⟨by rw [HV.out]; rfl, hb1'.out⟩
  have hr := (HY.out hO).1
  rw [hO] at HS CK
  replace CK : Hid (∀ W, Calls Try.prog 17 #[.agg #[.int .i64 f.broker, .int .i64 f.least, .int .i64 f.sales]] W fun e w' => e = .returned (.int .i64 0) ∧ Below W.heap.size W w') := CK.out
  clear hO HY
  cases hx : inR x 1152921504606846976
  · rw [hx] at HS MO
    have HV : Hid (V = (0, 1)) := HS.out
    clear hx hr
    go_enter Try.func11, Try.ntmps11
    go_wp2_with (first | (go_at_call 17; ((with_reducible refine (CK.out _).mono ?_); rintro e w1 ⟨rfl, hb1⟩; have hb1' := Lib.hid (hbw.out.trans (hb1.mono (by simp))); have c0 := box_cell hb1 0; have c1 := box_cell hb1 1; have c2 := box_cell hb1 2; simp only [List.getElem?_toArray, List.getElem?_cons_zero, List.getElem?_cons_succ] at c0 c1 c2; have s1 := Lib.hid (box_lt hb1))) | (go_at_call 19; ((with_reducible refine (MO.out _).mono ?_); rintro e w2 ⟨rfl, rfl⟩)))
    go_ret2
    exact ⟨by rw [HV.out]; rfl, hb1'.out⟩
  · have CS : Hid (∀ W, Calls Try.prog 27 #[.int .i64 x, .int .i64 f.broker, .int .i64 10000, .bool true] W fun e w' => e = .returned (.tuple #[.int .i64 (sc x f.broker true), .int .i64 0]) ∧ Below W.heap.size W w') := fun W => scale_own x f.broker true hx hr W
    rw [hx] at HS MO
    have HV : Hid (V = (max (sc x f.broker true) f.least, 0)) := HS.out
    generalize sc x f.broker true = Z at *
    clear hx hr
    go_enter Try.func11, Try.ntmps11
    go_wp2_with (first | (go_at_call 17; ((with_reducible refine (CK.out _).mono ?_); rintro e w1 ⟨rfl, hb1⟩; have hb1' := Lib.hid (hbw.out.trans (hb1.mono (by simp))); have c0 := box_cell hb1 0; have c1 := box_cell hb1 1; have c2 := box_cell hb1 2; simp only [List.getElem?_toArray, List.getElem?_cons_zero, List.getElem?_cons_succ] at c0 c1 c2; have s1 := Lib.hid (box_lt hb1))) | (go_at_call 19; ((with_reducible refine (MO.out _).mono ?_); rintro e w2 ⟨rfl, rfl⟩)) | (go_at_call 27; ((with_reducible refine (CS.out _).mono ?_); rintro e w3 ⟨rfl, hb3⟩; replace c1 := (hb3.cell s1.out).trans c1)))
    go_ret2
    exact ⟨by rw [HV.out]; rfl, below2 hb1'.out hb3⟩
set_option maxHeartbeats 2000000 in
theorem refBroker_any (f : FeesIn) (x : Int) (w : World) :
    Calls Try.prog 12 #[.agg f.val, .int .i64 x] w fun e w' => e = .returned (.tuple #[.int .i64 (brokerV f x).1, .int .i64 (brokerV f x).2]) ∧ Below w.heap.size w w' := by
  have CK : Hid (∀ W, Calls Try.prog 18 #[.agg #[.int .i64 f.broker, .int .i64 f.least, .int .i64 f.sales]] W fun e w' => e = .returned (.int .i64 (if okF f then 0 else 1)) ∧ Below W.heap.size W w') := refCheck_any f
  have MO : Hid (∀ W, Calls Try.prog 19 #[.int .i64 x] W fun e w' => e = .returned (.bool (inR x 1152921504606846976)) ∧ W = w') := money_any x
  have HS : Hid (brokerV f x = if okF f && inR x 1152921504606846976 then (max (sc x f.broker true) f.least, 0) else (0, 1)) := rfl
  have hbw := Lib.hid ((Below.refl w.heap.size w).alloc (Nat.le_refl _) (.cells #[.int .i64 f.broker, .int .i64 f.least, .int .i64 f.sales] 32))
  have HY : Hid (okF f = true → _) := fun h => okF_rates h
  generalize brokerV f x = V at *
  unfold FeesIn.val
  cases hO : okF f
  · rw [hO] at HS CK
    have HV : Hid (V = (0, 1)) := HS.out
    replace CK : Hid (∀ W, Calls Try.prog 18 #[.agg #[.int .i64 f.broker, .int .i64 f.least, .int .i64 f.sales]] W fun e w' => e = .returned (.int .i64 1) ∧ Below W.heap.size W w') := CK.out
    clear hO
    go_enter Try.func12, Try.ntmps12
    go_wp2_with (go_at_call 18; ((with_reducible refine (CK.out _).mono ?_); rintro e w1 ⟨rfl, hb1⟩; have hb1' := Lib.hid (hbw.out.trans (hb1.mono (by simp))); have c0 := box_cell hb1 0; have c1 := box_cell hb1 1; have c2 := box_cell hb1 2; simp only [List.getElem?_toArray, List.getElem?_cons_zero, List.getElem?_cons_succ] at c0 c1 c2; have s1 := Lib.hid (box_lt hb1)))
    go_ret2
    exact ⟨by rw [HV.out]; rfl, hb1'.out⟩
  have hr := (HY.out hO).1
  rw [hO] at HS CK
  replace CK : Hid (∀ W, Calls Try.prog 18 #[.agg #[.int .i64 f.broker, .int .i64 f.least, .int .i64 f.sales]] W fun e w' => e = .returned (.int .i64 0) ∧ Below W.heap.size W w') := CK.out
  clear hO HY
  cases hx : inR x 1152921504606846976
  · rw [hx] at HS MO
    have HV : Hid (V = (0, 1)) := HS.out
    by_cases g : x < 0
    · have d := decide_eq_true g
      clear hx hr g
      go_enter Try.func12, Try.ntmps12
      go_wp2_with (go_at_call 18; ((with_reducible refine (CK.out _).mono ?_); rintro e w1 ⟨rfl, hb1⟩; have hb1' := Lib.hid (hbw.out.trans (hb1.mono (by simp))); have c0 := box_cell hb1 0; have c1 := box_cell hb1 1; have c2 := box_cell hb1 2; simp only [List.getElem?_toArray, List.getElem?_cons_zero, List.getElem?_cons_succ] at c0 c1 c2; have s1 := Lib.hid (box_lt hb1)))
      go_ret2
      exact ⟨by rw [HV.out]; rfl, hb1'.out⟩
    · have d := decide_eq_false g
      have d2 : decide ((1152921504606846976 : Int) < x) = true := decide_eq_true (by have := inR_no hx; omega)
      clear hx hr g
      go_enter Try.func12, Try.ntmps12
      go_wp2_with (go_at_call 18; ((with_reducible refine (CK.out _).mono ?_); rintro e w1 ⟨rfl, hb1⟩; have hb1' := Lib.hid (hbw.out.trans (hb1.mono (by simp))); have c0 := box_cell hb1 0; have c1 := box_cell hb1 1; have c2 := box_cell hb1 2; simp only [List.getElem?_toArray, List.getElem?_cons_zero, List.getElem?_cons_succ] at c0 c1 c2; have s1 := Lib.hid (box_lt hb1)))
      go_ret2
      exact ⟨by rw [HV.out]; rfl, hb1'.out⟩
  · have CS : Hid (∀ W, Calls Try.prog 10 #[.int .i64 x, .int .i64 f.broker, .int .i64 10000, .bool true] W fun e w' => e = .returned (.tuple #[.int .i64 (sc x f.broker true), .int .i64 0]) ∧ W = w') := fun W => scale_ref x f.broker true hx hr W
    have dd1 : decide (x < 0) = false := decide_eq_false (by have := inR_yes hx; omega)
    have dd2 : decide ((1152921504606846976 : Int) < x) = false := decide_eq_false (by have := inR_yes hx; omega)
    rw [hx] at HS MO
    have HV : Hid (V = (max (sc x f.broker true) f.least, 0)) := HS.out
    generalize sc x f.broker true = Z at *
    clear hx hr
    go_enter Try.func12, Try.ntmps12
    go_wp2_with (first | (go_at_call 18; ((with_reducible refine (CK.out _).mono ?_); rintro e w1 ⟨rfl, hb1⟩; have hb1' := Lib.hid (hbw.out.trans (hb1.mono (by simp))); have c0 := box_cell hb1 0; have c1 := box_cell hb1 1; have c2 := box_cell hb1 2; simp only [List.getElem?_toArray, List.getElem?_cons_zero, List.getElem?_cons_succ] at c0 c1 c2; have s1 := Lib.hid (box_lt hb1))) | (go_at_call 19; ((with_reducible refine (MO.out _).mono ?_); rintro e w2 ⟨rfl, rfl⟩)) | (go_at_call 10; ((with_reducible refine (CS.out _).mono ?_); rintro e w3 ⟨rfl, rfl⟩)))
    go_ret2
    exact ⟨by rw [HV.out]; rfl, hb1'.out⟩
set_option maxHeartbeats 2000000 in
theorem sale_any (f : FeesIn) (x : Int) (w : World) :
    Calls Try.prog 13 #[.agg f.val, .int .i64 x] w fun e w' => e = .returned (.tuple #[.int .i64 (saleV f x).1, .int .i64 (saleV f x).2]) ∧ Below w.heap.size w w' := by
  have CK : Hid (∀ W, Calls Try.prog 17 #[.agg #[.int .i64 f.broker, .int .i64 f.least, .int .i64 f.sales]] W fun e w' => e = .returned (.int .i64 (if okF f then 0 else 1)) ∧ Below W.heap.size W w') := check_any f
  have MO : Hid (∀ W, Calls Try.prog 19 #[.int .i64 x] W fun e w' => e = .returned (.bool (inR x 1152921504606846976)) ∧ W = w') := money_any x
  have HS : Hid (saleV f x = if okF f && inR x 1152921504606846976 then (sc x f.sales false, 0) else (0, 1)) := rfl
  have hbw := Lib.hid ((Below.refl w.heap.size w).alloc (Nat.le_refl _) (.cells #[.int .i64 f.broker, .int .i64 f.least, .int .i64 f.sales] 32))
  have HY : Hid (okF f = true → _) := fun h => okF_rates h
  generalize saleV f x = V at *
  unfold FeesIn.val
  cases hO : okF f
  · rw [hO] at HS CK
    have HV : Hid (V = (0, 1)) := HS.out
    replace CK : Hid (∀ W, Calls Try.prog 17 #[.agg #[.int .i64 f.broker, .int .i64 f.least, .int .i64 f.sales]] W fun e w' => e = .returned (.int .i64 1) ∧ Below W.heap.size W w') := CK.out
    clear hO
    go_enter Try.func13, Try.ntmps13
    go_wp2_with (go_at_call 17; ((with_reducible refine (CK.out _).mono ?_); rintro e w1 ⟨rfl, hb1⟩; have hb1' := Lib.hid (hbw.out.trans (hb1.mono (by simp))); have c0 := box_cell hb1 0; have c1 := box_cell hb1 1; have c2 := box_cell hb1 2; simp only [List.getElem?_toArray, List.getElem?_cons_zero, List.getElem?_cons_succ] at c0 c1 c2; have s1 := Lib.hid (box_lt hb1)))
    go_ret2
    exact ⟨by rw [HV.out]; rfl, hb1'.out⟩
  have hr := (HY.out hO).2
  rw [hO] at HS CK
  replace CK : Hid (∀ W, Calls Try.prog 17 #[.agg #[.int .i64 f.broker, .int .i64 f.least, .int .i64 f.sales]] W fun e w' => e = .returned (.int .i64 0) ∧ Below W.heap.size W w') := CK.out
  clear hO HY
  cases hx : inR x 1152921504606846976
  · rw [hx] at HS MO
    have HV : Hid (V = (0, 1)) := HS.out
    clear hx hr
    go_enter Try.func13, Try.ntmps13
    go_wp2_with (first | (go_at_call 17; ((with_reducible refine (CK.out _).mono ?_); rintro e w1 ⟨rfl, hb1⟩; have hb1' := Lib.hid (hbw.out.trans (hb1.mono (by simp))); have c0 := box_cell hb1 0; have c1 := box_cell hb1 1; have c2 := box_cell hb1 2; simp only [List.getElem?_toArray, List.getElem?_cons_zero, List.getElem?_cons_succ] at c0 c1 c2; have s1 := Lib.hid (box_lt hb1))) | (go_at_call 19; ((with_reducible refine (MO.out _).mono ?_); rintro e w2 ⟨rfl, rfl⟩)))
    go_ret2
    exact ⟨by rw [HV.out]; rfl, hb1'.out⟩
  · have CS : Hid (∀ W, Calls Try.prog 27 #[.int .i64 x, .int .i64 f.sales, .int .i64 10000, .bool false] W fun e w' => e = .returned (.tuple #[.int .i64 (sc x f.sales false), .int .i64 0]) ∧ Below W.heap.size W w') := fun W => scale_own x f.sales false hx hr W
    rw [hx] at HS MO
    have HV : Hid (V = (sc x f.sales false, 0)) := HS.out
    generalize sc x f.sales false = Z at *
    clear hx hr
    go_enter Try.func13, Try.ntmps13
    go_wp2_with (first | (go_at_call 17; ((with_reducible refine (CK.out _).mono ?_); rintro e w1 ⟨rfl, hb1⟩; have hb1' := Lib.hid (hbw.out.trans (hb1.mono (by simp))); have c0 := box_cell hb1 0; have c1 := box_cell hb1 1; have c2 := box_cell hb1 2; simp only [List.getElem?_toArray, List.getElem?_cons_zero, List.getElem?_cons_succ] at c0 c1 c2; have s1 := Lib.hid (box_lt hb1))) | (go_at_call 19; ((with_reducible refine (MO.out _).mono ?_); rintro e w2 ⟨rfl, rfl⟩)) | (go_at_call 27; ((with_reducible refine (CS.out _).mono ?_); rintro e w3 ⟨rfl, hb3⟩; replace c1 := (hb3.cell s1.out).trans c1)))
    go_ret2
    exact ⟨by rw [HV.out]; rfl, below2 hb1'.out hb3⟩
set_option maxHeartbeats 2000000 in
theorem refSale_any (f : FeesIn) (x : Int) (w : World) :
    Calls Try.prog 14 #[.agg f.val, .int .i64 x] w fun e w' => e = .returned (.tuple #[.int .i64 (saleV f x).1, .int .i64 (saleV f x).2]) ∧ Below w.heap.size w w' := by
  have CK : Hid (∀ W, Calls Try.prog 18 #[.agg #[.int .i64 f.broker, .int .i64 f.least, .int .i64 f.sales]] W fun e w' => e = .returned (.int .i64 (if okF f then 0 else 1)) ∧ Below W.heap.size W w') := refCheck_any f
  have MO : Hid (∀ W, Calls Try.prog 19 #[.int .i64 x] W fun e w' => e = .returned (.bool (inR x 1152921504606846976)) ∧ W = w') := money_any x
  have HS : Hid (saleV f x = if okF f && inR x 1152921504606846976 then (sc x f.sales false, 0) else (0, 1)) := rfl
  have hbw := Lib.hid ((Below.refl w.heap.size w).alloc (Nat.le_refl _) (.cells #[.int .i64 f.broker, .int .i64 f.least, .int .i64 f.sales] 32))
  have HY : Hid (okF f = true → _) := fun h => okF_rates h
  generalize saleV f x = V at *
  unfold FeesIn.val
  cases hO : okF f
  · rw [hO] at HS CK
    have HV : Hid (V = (0, 1)) := HS.out
    replace CK : Hid (∀ W, Calls Try.prog 18 #[.agg #[.int .i64 f.broker, .int .i64 f.least, .int .i64 f.sales]] W fun e w' => e = .returned (.int .i64 1) ∧ Below W.heap.size W w') := CK.out
    clear hO
    go_enter Try.func14, Try.ntmps14
    go_wp2_with (go_at_call 18; ((with_reducible refine (CK.out _).mono ?_); rintro e w1 ⟨rfl, hb1⟩; have hb1' := Lib.hid (hbw.out.trans (hb1.mono (by simp))); have c0 := box_cell hb1 0; have c1 := box_cell hb1 1; have c2 := box_cell hb1 2; simp only [List.getElem?_toArray, List.getElem?_cons_zero, List.getElem?_cons_succ] at c0 c1 c2; have s1 := Lib.hid (box_lt hb1)))
    go_ret2
    exact ⟨by rw [HV.out]; rfl, hb1'.out⟩
  have hr := (HY.out hO).2
  rw [hO] at HS CK
  replace CK : Hid (∀ W, Calls Try.prog 18 #[.agg #[.int .i64 f.broker, .int .i64 f.least, .int .i64 f.sales]] W fun e w' => e = .returned (.int .i64 0) ∧ Below W.heap.size W w') := CK.out
  clear hO HY
  cases hx : inR x 1152921504606846976
  · rw [hx] at HS MO
    have HV : Hid (V = (0, 1)) := HS.out
    by_cases g : x < 0
    · have d := decide_eq_true g
      clear hx hr g
      go_enter Try.func14, Try.ntmps14
      go_wp2_with (go_at_call 18; ((with_reducible refine (CK.out _).mono ?_); rintro e w1 ⟨rfl, hb1⟩; have hb1' := Lib.hid (hbw.out.trans (hb1.mono (by simp))); have c0 := box_cell hb1 0; have c1 := box_cell hb1 1; have c2 := box_cell hb1 2; simp only [List.getElem?_toArray, List.getElem?_cons_zero, List.getElem?_cons_succ] at c0 c1 c2; have s1 := Lib.hid (box_lt hb1)))
      go_ret2
      exact ⟨by rw [HV.out]; rfl, hb1'.out⟩
    · have d := decide_eq_false g
      have d2 : decide ((1152921504606846976 : Int) < x) = true := decide_eq_true (by have := inR_no hx; omega)
      clear hx hr g
      go_enter Try.func14, Try.ntmps14
      go_wp2_with (go_at_call 18; ((with_reducible refine (CK.out _).mono ?_); rintro e w1 ⟨rfl, hb1⟩; have hb1' := Lib.hid (hbw.out.trans (hb1.mono (by simp))); have c0 := box_cell hb1 0; have c1 := box_cell hb1 1; have c2 := box_cell hb1 2; simp only [List.getElem?_toArray, List.getElem?_cons_zero, List.getElem?_cons_succ] at c0 c1 c2; have s1 := Lib.hid (box_lt hb1)))
      go_ret2
      exact ⟨by rw [HV.out]; rfl, hb1'.out⟩
  · have CS : Hid (∀ W, Calls Try.prog 10 #[.int .i64 x, .int .i64 f.sales, .int .i64 10000, .bool false] W fun e w' => e = .returned (.tuple #[.int .i64 (sc x f.sales false), .int .i64 0]) ∧ W = w') := fun W => scale_ref x f.sales false hx hr W
    have dd1 : decide (x < 0) = false := decide_eq_false (by have := inR_yes hx; omega)
    have dd2 : decide ((1152921504606846976 : Int) < x) = false := decide_eq_false (by have := inR_yes hx; omega)
    rw [hx] at HS MO
    have HV : Hid (V = (sc x f.sales false, 0)) := HS.out
    generalize sc x f.sales false = Z at *
    clear hx hr
    go_enter Try.func14, Try.ntmps14
    go_wp2_with (first | (go_at_call 18; ((with_reducible refine (CK.out _).mono ?_); rintro e w1 ⟨rfl, hb1⟩; have hb1' := Lib.hid (hbw.out.trans (hb1.mono (by simp))); have c0 := box_cell hb1 0; have c1 := box_cell hb1 1; have c2 := box_cell hb1 2; simp only [List.getElem?_toArray, List.getElem?_cons_zero, List.getElem?_cons_succ] at c0 c1 c2; have s1 := Lib.hid (box_lt hb1))) | (go_at_call 19; ((with_reducible refine (MO.out _).mono ?_); rintro e w2 ⟨rfl, rfl⟩)) | (go_at_call 10; ((with_reducible refine (CS.out _).mono ?_); rintro e w3 ⟨rfl, rfl⟩)))
    go_ret2
    exact ⟨by rw [HV.out]; rfl, hb1'.out⟩
set_option maxHeartbeats 2000000 in
theorem bay_any (p x : Int) (w : World) :
    Calls Try.prog 15 #[.int .i64 p, .int .i64 x] w fun e w' => e = .returned (.tuple #[.int .i64 (bayV p x).1, .int .i64 (bayV p x).2]) ∧ Below w.heap.size w w' := by
  have RT : Hid (∀ W, Calls Try.prog 28 #[.int .i64 p] W fun e w' => e = .returned (.bool (inR p 10000)) ∧ W = w') := rate_any p
  have HS : Hid (bayV p x = if inR p 10000 && inR x 1099511627776 then (sc x p true, 0) else (0, 1)) := rfl
  generalize bayV p x = V at *
  cases hp : inR p 10000
  · rw [hp] at RT HS
    have HV : Hid (V = (0, 1)) := HS.out
    clear hp
    go_enter Try.func15, Try.ntmps15
    go_wp2_with (go_at_call 28; ((with_reducible refine (RT.out _).mono ?_); rintro e w1 ⟨rfl, rfl⟩))
    go_ret2
    exact ⟨by rw [HV.out]; rfl, Below.refl _ _⟩
  cases hx : inR x 1099511627776
  · rw [hp] at RT
    rw [hp, hx] at HS
    have HV : Hid (V = (0, 1)) := HS.out
    by_cases g : x < 0
    · have d := decide_eq_true g
      clear hp hx g
      go_enter Try.func15, Try.ntmps15
      go_wp2_with (go_at_call 28; ((with_reducible refine (RT.out _).mono ?_); rintro e w1 ⟨rfl, rfl⟩))
      go_ret2
      exact ⟨by rw [HV.out]; rfl, Below.refl _ _⟩
    · have d := decide_eq_false g
      have d2 : decide ((1099511627776 : Int) < x) = true := decide_eq_true (by have := inR_no hx; omega)
      clear hp hx g
      go_enter Try.func15, Try.ntmps15
      go_wp2_with (go_at_call 28; ((with_reducible refine (RT.out _).mono ?_); rintro e w1 ⟨rfl, rfl⟩))
      go_ret2
      exact ⟨by rw [HV.out]; rfl, Below.refl _ _⟩
  · have hx2 : inR x 1152921504606846976 = true := by have := inR_yes hx; unfold inR; rw [decide_eq_true this.1, decide_eq_true (by omega)]; rfl
    have CS : Hid (∀ W, Calls Try.prog 27 #[.int .i64 x, .int .i64 p, .int .i64 10000, .bool true] W fun e w' => e = .returned (.tuple #[.int .i64 (sc x p true), .int .i64 0]) ∧ Below W.heap.size W w') := fun W => scale_own x p true hx2 hp W
    have x1 : decide (x < 0) = false := decide_eq_false (by have := inR_yes hx; omega)
    have x2 : decide ((1099511627776 : Int) < x) = false := decide_eq_false (by have := inR_yes hx; omega)
    rw [hp] at RT
    rw [hp, hx] at HS
    have HV : Hid (V = (sc x p true, 0)) := HS.out
    generalize sc x p true = Z at *
    clear hp hx hx2
    go_enter Try.func15, Try.ntmps15
    go_wp2_with (first | (go_at_call 28; ((with_reducible refine (RT.out _).mono ?_); rintro e w1 ⟨rfl, rfl⟩)) | (go_at_call 27; ((with_reducible refine (CS.out _).mono ?_); rintro e w3 ⟨rfl, hb3⟩)))
    go_ret2
    exact ⟨by rw [HV.out]; rfl, hb3⟩
set_option maxHeartbeats 2000000 in
theorem refBay_any (p x : Int) (w : World) :
    Calls Try.prog 16 #[.int .i64 p, .int .i64 x] w fun e w' => e = .returned (.tuple #[.int .i64 (bayV p x).1, .int .i64 (bayV p x).2]) ∧ Below w.heap.size w w' := by
  have RT : Hid (∀ W, Calls Try.prog 28 #[.int .i64 p] W fun e w' => e = .returned (.bool (inR p 10000)) ∧ W = w') := rate_any p
  have HS : Hid (bayV p x = if inR p 10000 && inR x 1099511627776 then (sc x p true, 0) else (0, 1)) := rfl
  generalize bayV p x = V at *
  cases hp : inR p 10000
  · rw [hp] at RT HS
    have HV : Hid (V = (0, 1)) := HS.out
    by_cases g : p < 0
    · have d := decide_eq_true g
      clear hp g
      go_enter Try.func16, Try.ntmps16
      go_wp2
      go_ret2
      exact ⟨by rw [HV.out]; rfl, Below.refl _ _⟩
    · have d := decide_eq_false g
      have d2 : decide ((10000 : Int) < p) = true := decide_eq_true (by have := inR_no hp; omega)
      clear hp g
      go_enter Try.func16, Try.ntmps16
      go_wp2
      go_ret2
      exact ⟨by rw [HV.out]; rfl, Below.refl _ _⟩
  have p1 : decide (p < 0) = false := decide_eq_false (by have := inR_yes hp; omega)
  have p2 : decide ((10000 : Int) < p) = false := decide_eq_false (by have := inR_yes hp; omega)
  cases hx : inR x 1099511627776
  · rw [hp] at RT
    rw [hp, hx] at HS
    have HV : Hid (V = (0, 1)) := HS.out
    by_cases g : x < 0
    · have d := decide_eq_true g
      clear hp hx g
      go_enter Try.func16, Try.ntmps16
      go_wp2
      go_ret2
      exact ⟨by rw [HV.out]; rfl, Below.refl _ _⟩
    · have d := decide_eq_false g
      have d2 : decide ((1099511627776 : Int) < x) = true := decide_eq_true (by have := inR_no hx; omega)
      clear hp hx g
      go_enter Try.func16, Try.ntmps16
      go_wp2
      go_ret2
      exact ⟨by rw [HV.out]; rfl, Below.refl _ _⟩
  · have hx2 : inR x 1152921504606846976 = true := by have := inR_yes hx; unfold inR; rw [decide_eq_true this.1, decide_eq_true (by omega)]; rfl
    have CS : Hid (∀ W, Calls Try.prog 10 #[.int .i64 x, .int .i64 p, .int .i64 10000, .bool true] W fun e w' => e = .returned (.tuple #[.int .i64 (sc x p true), .int .i64 0]) ∧ W = w') := fun W => scale_ref x p true hx2 hp W
    have x1 : decide (x < 0) = false := decide_eq_false (by have := inR_yes hx; omega)
    have x2 : decide ((1099511627776 : Int) < x) = false := decide_eq_false (by have := inR_yes hx; omega)
    rw [hp] at RT
    rw [hp, hx] at HS
    have HV : Hid (V = (sc x p true, 0)) := HS.out
    generalize sc x p true = Z at *
    clear hp hx hx2
    go_enter Try.func16, Try.ntmps16
    go_wp2_with (first | (go_at_call 28; ((with_reducible refine (RT.out _).mono ?_); rintro e w1 ⟨rfl, rfl⟩)) | (go_at_call 10; ((with_reducible refine (CS.out _).mono ?_); rintro e w3 ⟨rfl, rfl⟩)))
    go_ret2
    exact ⟨by rw [HV.out]; rfl, Below.refl _ _⟩
end Fee
end Go.Proofs.Ytbfcgaijplhcoaa
