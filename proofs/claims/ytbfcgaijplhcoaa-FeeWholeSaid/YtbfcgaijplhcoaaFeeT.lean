/- What is taken of contracts and sales: whether fees may be. -/
import Derived.Test.YtbfcgaijplhcoaaFeeS
namespace Go.Proofs.Ytbfcgaijplhcoaa
open Go.RowKit
namespace Fee
theorem below2 {w a b : World} (h : Below w.heap.size w a) (h2 : Below a.heap.size a b) : Below w.heap.size w b := h.trans (h2.mono h.size)
theorem below_al {w x : World} (h : Below w.heap.size w x) (o : Obj) : Below w.heap.size w (x.alloc o) := h.alloc h.size o
theorem box_cell {w w1 : World} {cs : Array Value} {t : TypeId} (h : Below (w.alloc (.cells cs t)).heap.size (w.alloc (.cells cs t)) w1) (i : Nat) : w1.cell? ⟨w.heap.size, i, none⟩ = cs[i]? := by
  refine (h.cell (by rw [World.size_alloc]; exact Nat.lt_succ_self _)).trans ?_
  go_simp
theorem box_lt {w w1 : World} {cs : Array Value} {t : TypeId} (h : Below (w.alloc (.cells cs t)).heap.size (w.alloc (.cells cs t)) w1) : w.heap.size < w1.heap.size := by
  have := h.size
  rw [World.size_alloc] at this
  omega
def inR (n hi : Int) : Bool := decide (0 ≤ n) && decide (n ≤ hi)
theorem inR_yes {n hi : Int} (h : inR n hi = true) : 0 ≤ n ∧ n ≤ hi := by
  unfold inR at h
  simpa using h
theorem inR_no {n hi : Int} (h : inR n hi = false) : n < 0 ∨ hi < n := by
  unfold inR at h
  by_cases h1 : n < 0
  · exact .inl h1
  · right
    rw [decide_eq_true (show 0 ≤ n by omega), Bool.true_and] at h
    have := of_decide_eq_false h
    omega
theorem rate_any (n : Int) (w : World) :
    Calls Try.prog 28 #[.int .i64 n] w fun e w' => e = .returned (.bool (inR n 10000)) ∧ w = w' := by
  have HI : Hid (inR n 10000 = (decide (0 ≤ n) && decide (n ≤ 10000))) := rfl
  generalize inR n 10000 = B at *
  by_cases h1 : 0 ≤ n
  · have d1 := decide_eq_true h1
    by_cases h2 : n ≤ 10000
    · have HB : Hid (B = true) := by show B = true; rw [HI.out, decide_eq_true h1, decide_eq_true h2]; rfl
      have d2 := decide_eq_true h2
      clear h1 h2
      go_enter Try.func28, Try.ntmps28
      go_wp2
      go_ret
      exact ⟨by rw [HB.out]; rfl, rfl⟩
    · have HB : Hid (B = false) := by show B = false; rw [HI.out, decide_eq_false h2]; simp
      have d2 := decide_eq_false h2
      clear h1 h2
      go_enter Try.func28, Try.ntmps28
      go_wp2
      go_ret
      exact ⟨by rw [HB.out]; rfl, rfl⟩
  · have HB : Hid (B = false) := by show B = false; rw [HI.out, decide_eq_false h1]; rfl
    have d1 := decide_eq_false h1
    clear h1
    go_enter Try.func28, Try.ntmps28
    go_wp2
    go_ret
    exact ⟨by rw [HB.out]; rfl, rfl⟩
theorem money_any (n : Int) (w : World) :
    Calls Try.prog 19 #[.int .i64 n] w fun e w' => e = .returned (.bool (inR n 1152921504606846976)) ∧ w = w' := by
  have HI : Hid (inR n 1152921504606846976 = (decide (0 ≤ n) && decide (n ≤ 1152921504606846976))) := rfl
  generalize inR n 1152921504606846976 = B at *
  by_cases h1 : 0 ≤ n
  · have d1 := decide_eq_true h1
    by_cases h2 : n ≤ 1152921504606846976
    · have HB : Hid (B = true) := by show B = true; rw [HI.out, decide_eq_true h1, decide_eq_true h2]; rfl
      have d2 := decide_eq_true h2
      clear h1 h2
      go_enter Try.func19, Try.ntmps19
      go_wp2
      go_ret
      exact ⟨by rw [HB.out]; rfl, rfl⟩
    · have HB : Hid (B = false) := by show B = false; rw [HI.out, decide_eq_false h2]; simp
      have d2 := decide_eq_false h2
      clear h1 h2
      go_enter Try.func19, Try.ntmps19
      go_wp2
      go_ret
      exact ⟨by rw [HB.out]; rfl, rfl⟩
  · have HB : Hid (B = false) := by show B = false; rw [HI.out, decide_eq_false h1]; rfl
    have d1 := decide_eq_false h1
    clear h1
    go_enter Try.func19, Try.ntmps19
    go_wp2
    go_ret
    exact ⟨by rw [HB.out]; rfl, rfl⟩
/-- Fees, as they come: of brokers, the least, of sales. -/
structure FeesIn where
  broker : Int
  least : Int
  sales : Int
def FeesIn.val (f : FeesIn) : Array Value := #[.int .i64 f.broker, .int .i64 f.least, .int .i64 f.sales]
def okF (f : FeesIn) : Bool := inR f.broker 10000 && (inR f.sales 10000 && inR f.least 1152921504606846976)
set_option maxHeartbeats 2000000 in
theorem check_any (f : FeesIn) (w : World) :
    Calls Try.prog 17 #[.agg f.val] w fun e w' => e = .returned (.int .i64 (if okF f then 0 else 1)) ∧ Below w.heap.size w w' := by
  have R1 : Hid (∀ W, Calls Try.prog 28 #[.int .i64 f.broker] W fun e w' => e = .returned (.bool (inR f.broker 10000)) ∧ W = w') := rate_any _
  have R2 : Hid (∀ W, Calls Try.prog 28 #[.int .i64 f.sales] W fun e w' => e = .returned (.bool (inR f.sales 10000)) ∧ W = w') := rate_any _
  have R3 : Hid (∀ W, Calls Try.prog 19 #[.int .i64 f.least] W fun e w' => e = .returned (.bool (inR f.least 1152921504606846976)) ∧ W = w') := money_any _
  have HS : Hid (okF f = (inR f.broker 10000 && (inR f.sales 10000 && inR f.least 1152921504606846976))) := rfl
  have hbw := Lib.hid ((Below.refl w.heap.size w).alloc (Nat.le_refl _) (.cells #[.int .i64 f.broker, .int .i64 f.least, .int .i64 f.sales] 32))
  generalize okF f = O at *
  generalize inR f.broker 10000 = X at *
  generalize inR f.sales 10000 = Y at *
  generalize inR f.least 1152921504606846976 = Z at *
  unfold FeesIn.val
  cases X
  · have HO : Hid (O = false) := HS.out
    obtain rfl := HO.out
    go_enter Try.func17, Try.ntmps17
    go_wp2_with (first | (go_at_call 28; ((first | (with_reducible refine (R1.out _).mono ?_) | (with_reducible refine (R2.out _).mono ?_)); rintro e w1 ⟨rfl, rfl⟩)) | (go_at_call 19; ((with_reducible refine (R3.out _).mono ?_); rintro e w1 ⟨rfl, rfl⟩)))
    go_ret
    exact ⟨rfl, hbw.out⟩
  · cases Y
    · have HO : Hid (O = false) := HS.out
      obtain rfl := HO.out
      go_enter Try.func17, Try.ntmps17
      go_wp2_with (first | (go_at_call 28; ((first | (with_reducible refine (R1.out _).mono ?_) | (with_reducible refine (R2.out _).mono ?_)); rintro e w1 ⟨rfl, rfl⟩)) | (go_at_call 19; ((with_reducible refine (R3.out _).mono ?_); rintro e w1 ⟨rfl, rfl⟩)))
      go_ret
      exact ⟨rfl, hbw.out⟩
    · cases Z
      · have HO : Hid (O = false) := HS.out
        obtain rfl := HO.out
        go_enter Try.func17, Try.ntmps17
        go_wp2_with (first | (go_at_call 28; ((first | (with_reducible refine (R1.out _).mono ?_) | (with_reducible refine (R2.out _).mono ?_)); rintro e w1 ⟨rfl, rfl⟩)) | (go_at_call 19; ((with_reducible refine (R3.out _).mono ?_); rintro e w1 ⟨rfl, rfl⟩)))
        go_ret
        exact ⟨rfl, hbw.out⟩
      · have HO : Hid (O = true) := HS.out
        obtain rfl := HO.out
        go_enter Try.func17, Try.ntmps17
        go_wp2_with (first | (go_at_call 28; ((first | (with_reducible refine (R1.out _).mono ?_) | (with_reducible refine (R2.out _).mono ?_)); rintro e w1 ⟨rfl, rfl⟩)) | (go_at_call 19; ((with_reducible refine (R3.out _).mono ?_); rintro e w1 ⟨rfl, rfl⟩)))
        go_ret
        exact ⟨rfl, hbw.out⟩
set_option maxHeartbeats 2000000 in
theorem refCheck_any (f : FeesIn) (w : World) :
    Calls Try.prog 18 #[.agg f.val] w fun e w' => e = .returned (.int .i64 (if okF f then 0 else 1)) ∧ Below w.heap.size w w' := by
  have HS : Hid (okF f = (inR f.broker 10000 && (inR f.sales 10000 && inR f.least 1152921504606846976))) := rfl
  have hbw := Lib.hid ((Below.refl w.heap.size w).alloc (Nat.le_refl _) (.cells #[.int .i64 f.broker, .int .i64 f.least, .int .i64 f.sales] 32))
  have no : ∀ n hi : Int, ¬ (0 ≤ n ∧ n ≤ hi) → inR n hi = false := fun n hi h => by
    cases hc : inR n hi
    · rfl
    · exact absurd (inR_yes hc) h
  have NO := Lib.hid no
  clear no
  generalize okF f = O at *
  unfold FeesIn.val
  by_cases hbroker1 : f.broker < 0
  · have d := decide_eq_true hbroker1
    have HO : Hid (O = false) := by show O = false; rw [HS.out, NO.out f.broker 10000 (by omega)]; simp
    obtain rfl := HO.out
    clear hbroker1
    go_enter Try.func18, Try.ntmps18
    go_wp2
    go_ret
    exact ⟨rfl, hbw.out⟩
  have dbroker1 := decide_eq_false hbroker1
  by_cases hbroker2 : 10000 < f.broker
  · have d := decide_eq_true hbroker2
    have HO : Hid (O = false) := by show O = false; rw [HS.out, NO.out f.broker 10000 (by omega)]; simp
    obtain rfl := HO.out
    clear hbroker1 hbroker2
    go_enter Try.func18, Try.ntmps18
    go_wp2
    go_ret
    exact ⟨rfl, hbw.out⟩
  have dbroker2 := decide_eq_false hbroker2
  by_cases hsales1 : f.sales < 0
  · have d := decide_eq_true hsales1
    have HO : Hid (O = false) := by show O = false; rw [HS.out, NO.out f.sales 10000 (by omega)]; simp
    obtain rfl := HO.out
    clear hsales1
    go_enter Try.func18, Try.ntmps18
    go_wp2
    go_ret
    exact ⟨rfl, hbw.out⟩
  have dsales1 := decide_eq_false hsales1
  by_cases hsales2 : 10000 < f.sales
  · have d := decide_eq_true hsales2
    have HO : Hid (O = false) := by show O = false; rw [HS.out, NO.out f.sales 10000 (by omega)]; simp
    obtain rfl := HO.out
    clear hsales1 hsales2
    go_enter Try.func18, Try.ntmps18
    go_wp2
    go_ret
    exact ⟨rfl, hbw.out⟩
  have dsales2 := decide_eq_false hsales2
  by_cases hleast1 : f.least < 0
  · have d := decide_eq_true hleast1
    have HO : Hid (O = false) := by show O = false; rw [HS.out, NO.out f.least 1152921504606846976 (by omega)]; simp
    obtain rfl := HO.out
    clear hleast1
    go_enter Try.func18, Try.ntmps18
    go_wp2
    go_ret
    exact ⟨rfl, hbw.out⟩
  have dleast1 := decide_eq_false hleast1
  by_cases hleast2 : 1152921504606846976 < f.least
  · have d := decide_eq_true hleast2
    have HO : Hid (O = false) := by show O = false; rw [HS.out, NO.out f.least 1152921504606846976 (by omega)]; simp
    obtain rfl := HO.out
    clear hleast1 hleast2
    go_enter Try.func18, Try.ntmps18
    go_wp2
    go_ret
    exact ⟨rfl, hbw.out⟩
  have dleast2 := decide_eq_false hleast2
  have HO : Hid (O = true) := by
    show O = true
    rw [HS.out]
    unfold inR
    rw [decide_eq_true (show 0 ≤ f.broker by omega), decide_eq_true (show f.broker ≤ 10000 by omega), decide_eq_true (show 0 ≤ f.sales by omega), decide_eq_true (show f.sales ≤ 10000 by omega), decide_eq_true (show 0 ≤ f.least by omega), decide_eq_true (show f.least ≤ 1152921504606846976 by omega)]
    rfl
  obtain rfl := HO.out
  clear hbroker1 hbroker2 hsales1 hsales2 hleast1 hleast2
  go_enter Try.func18, Try.ntmps18
  go_wp2
  go_ret
  exact ⟨rfl, hbw.out⟩
end Fee
end Go.Proofs.Ytbfcgaijplhcoaa
