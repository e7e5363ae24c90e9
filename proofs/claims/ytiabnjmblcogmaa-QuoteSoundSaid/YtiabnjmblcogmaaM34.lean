/- Texts put together: QuoL3. -/
import Derived.Test.YtiabnjmblcogmaaM33
import Derived.Test.YtiabnjmblcogmaaM31
import Derived.Test.YtiabnjmblcogmaaM16
import Derived.Deep.RegionHeld3
import Derived.Test.YtiabnjmblcogmaaM29
set_option linter.all false
section
namespace Go.Proofs.Ytiabnjmblcogmaa
open Go.RowKit
namespace Quo
open Cat (CatIn BayIn chkC nob noy Cam Lies Blues Bays IsCat Small Box box_new box_b box_next Few_any)
open Rec (BlueIn Stk Stks stkVals)
open Pen (below2 below_al below_dN)
/-- Does a job begin at 0, or when another one ends? -/
def bkTo (l : List Int) (o : List Stk) (k : Nat) : Nat → Bool
  | 0 => decide ((o.getD k (0, 0)).1 = 0)
  | x + 1 => bkTo l o k x || (decide (0 < l.getD x 0) && decide ((o.getD x (0, 0)).2 = (o.getD k (0, 0)).1))
theorem bkTo_beg {l : List Int} {o : List Stk} {k : Nat} (h : (o.getD k (0, 0)).1 = 0) : ∀ n, bkTo l o k n = true
  | 0 => decide_eq_true h
  | n + 1 => by rw [bkTo, bkTo_beg h n]; rfl
theorem bkTo_hit {l : List Int} {o : List Stk} {k x : Nat} (h1 : 0 < l.getD x 0) (h2 : (o.getD x (0, 0)).2 = (o.getD k (0, 0)).1) : ∀ n, x < n → bkTo l o k n = true
  | n + 1, hx => by
    rw [bkTo]
    by_cases e : x = n
    · rw [← e, decide_eq_true h1, decide_eq_true h2]; simp
    · rw [bkTo_hit h1 h2 n (by omega)]; rfl
/-- How many have runs among the first ones. -/
def posTo (l : List Int) : Nat → Nat
  | 0 => 0
  | k + 1 => posTo l k + if 0 < l.getD k 0 then 1 else 0
theorem posTo_le (l : List Int) : ∀ n, posTo l n ≤ n
  | 0 => Nat.le_refl _
  | n + 1 => by rw [posTo]; have := posTo_le l n; split <;> omega
/-- All that is said of a plan. -/
structure Sound (c : CatIn) (x1 : Int) (l : List Int) (o : List Stk) (F : Bool) (W : Int × Int) : Prop where
  fits : F = true
  len : o.length = l.length
  whole : W.2 = 0
  ends : ∀ k, k < l.length → (o.getD k (0, 0)).2 ≤ W.1
  begs : ∀ k, k < l.length → bkTo l o k l.length = true
  wf : ∀ k, k < o.length → (Lit.int .i64 (o.getD k (0, 0)).2).wf = true
  bay : 1 ≤ x1 ∧ x1 ≤ (c.bays.length : Int)
  pos : ∀ k, 0 ≤ l.getD k 0
theorem sound_of (c : CatIn) (x1 : Int) (l : List Int) (x2 : Int) (h : (planV c x1 l x2).2 = 0) : Sound c x1 l (planV c x1 l x2).1 (fitsV c x1 l x2 (planV c x1 l x2).1) (wholeV c l x2) := by
  rcases planV_cases c x1 l x2 with ⟨h1, -⟩ | ⟨-, hm, S, ho, hi, hw, h0⟩
  · exact absurd h h1
  · obtain ⟨hK, hb1, hb2, hr, -, -⟩ := mayV_ok hm
    have hlen := runsOk_len hr
    have hnb := (good_of hK).2.1
    have hol : S.out.length = c.blues.length := hw.lo
    rw [ho]
    refine ⟨sound_fits hm hi hw h0, by rw [hol, hlen], by rw [whole_of hm], fun k hk => ?_, fun k hk => ?_, fun k hk => ?_, ⟨hb1, hb2⟩, run_pos hm⟩
    · rw [whole_of hm]
      exact sound_end hm hi hw h0 (by omega)
    · rcases sound_beg hm hi hw h0 (k := k) (by omega) with h1 | ⟨x, h1, h2, h3⟩
      · exact bkTo_beg h1 _
      · exact bkTo_hit h2 h3 _ (by omega)
    · have h1 := hw.en k
      have h2 : endOf S k = (S.out.getD k (0, 0)).2 := rfl
      have h3 : 0 ≤ (S.out.getD k (0, 0)).2 := by
        cases hb : isB S k with
        | true => have := hw.pos k hb; omega
        | false => rw [hw.zero k hb]; exact Int.le_refl 0
      have h4 := jobsN_le (pcOf c x1 l x2)
      have h5 : (pcOf c x1 l x2).n = c.blues.length := rfl
      have h6 : IntKind.i64.min = -9223372036854775808 := by decide
      have h7 : IntKind.i64.max = 9223372036854775807 := by decide
      rw [h2] at h1
      clear h2
      generalize (S.out.getD k (0, 0)).2 = E at *
      simp [Lit.wf]
      omega
set_option maxRecDepth 100000 in
set_option maxHeartbeats 16000000 in
theorem soundLaw_any {w : World} (v0 : Value) (c : CatIn) (hc : IsCat w v0 c) (v1 : Value) (x : Int × Int) (hx : IsTwo .i64 v1 x) (v2 : Value) (l : List Int) (hl2 : In.IsInts .i64 w v2 l) :
    Calls Try.prog 5 #[v0, v1, v2] w fun e w' => e = .returned (.bool true) ∧ Below w.heap.size w w' := by
  obtain ⟨rfl, h1, h2, h3, h4, h5⟩ := hc
  have HI : CatCame w c := ⟨h1, h2, h3, h4, h5⟩
  obtain ⟨rfl, hx1, hx2⟩ := hx
  obtain ⟨a, cap, rfl, hlm, hI, hlw, hlc, hcm⟩ := hl2
  obtain ⟨x1, x2⟩ := x
  dsimp only at *
  have hB0 := Lib.hid (box2_new w c x1 x2 27 28)
  have CA : Hid (∀ W, Calls Try.prog 7 #[] W fun e w' => e = .returned (.bool true) ∧ Below W.heap.size W w') := fun W => awake_any W
  have CF : Hid (∀ W, Below w.heap.size w W → Calls Try.prog 6 #[.agg c.val] W fun e w' => ∃ b : Bool, e = .returned (.bool b) ∧ Hid (b = true → Small c) ∧ Below W.heap.size W w') := fun W h => Few_any c W (HI.lies.below h) HI.bl HI.yl HI.nl
  have C1 : Hid (Small c → l.length ≤ 20 → ∀ W, Below w.heap.size w W → Calls Try.prog 8 #[.agg c.val, .int .i64 x1, .slice a l.length cap, .int .i64 x2] W (PlanRes (planV c x1 l x2) W)) := fun hs hl W h => plan_any c W ((HI.cam hs).below h) x1 a cap l hl (hI.below h) x2
  have CFt : Hid (∀ o : List Stk, o.length ≤ 20 → (∀ i, i < o.length → (Lit.int .i64 (o.getD i (0, 0)).2).wf = true) → Small c → l.length ≤ 20 → ∀ W (a2 : Option Addr) (c2 : Nat), Below w.heap.size w W → Stks W a2 o → Calls Try.prog 15 #[.agg c.val, .int .i64 x1, .slice a l.length cap, .int .i64 x2, .slice a2 o.length c2] W fun e w' => e = .returned (.bool (fitsV c x1 l x2 o)) ∧ Below W.heap.size W w') := fun o ho howf hs hl W a2 c2 h hst => fits_any c W ((HI.cam hs).below h) x1 a cap l hl (hI.below h) x2 a2 c2 o ho hst howf
  have C3 : Hid (Small c → l.length ≤ 20 → ∀ W, Below w.heap.size w W → Calls Try.prog 17 #[.agg c.val, .slice a l.length cap, .int .i64 x2] W fun e w' => e = .returned (.tuple #[.int .i64 (wholeV c l x2).1, .int .i64 (wholeV c l x2).2]) ∧ Below W.heap.size W w') := fun hs hl W h => whole_any c W ((HI.cam hs).below h) a cap l hl (hI.below h) x2
  have HSd := Lib.hid (sound_of c x1 l x2)
  have HNo : Hid ((planV c x1 l x2).2 ≠ 0 → (planV c x1 l x2).1 = []) := fun h => by
    rcases planV_cases c x1 l x2 with ⟨-, h2⟩ | ⟨h2, -⟩
    · exact h2
    · exact absurd h2 h
  have HBy := Lib.hid HI.lies.2.1
  have HIn : Hid (In.Ints .i64 w a l) := hI
  obtain ⟨⟨vl, ve⟩, hV⟩ : ∃ V, Hid (planV c x1 l x2 = V) := ⟨_, rfl⟩
  rw [hV.out] at C1 HSd HNo
  dsimp only at HSd HNo
  clear h1 h2 h3 h4 h5 hI hlw hV
  clear HI
  obtain ⟨W0, hW0⟩ : ∃ W0, Hid ((w.alloc (.cells c.val 27)).alloc (.cells #[.int .i64 x1, .int .i64 x2] 28) = W0) := ⟨_, rfl⟩
  rw [hW0.out] at hB0
  have HB0 := hB0
  by_cases hlen : (20 : Int) < (l.length : Int)
  · clear HSd HNo C1 CFt C3
    unfold CatIn.val at *
    go_enter Try.func5, Try.ntmps5
    go_upto_region 1 with (fail)
    rw [hW0.out]
    clear hW0
    obtain ⟨⟨-, l0, d0_0, d0_1, d0_2, d0_3, d0_4, d0_5, d0_6, d0_7⟩, m0, n0_0, n0_1⟩ := hB0.out
    go_wp2_with (first
      | (go_at_call 7; (have tok := HB1; (with_reducible refine (CA.out _).mono ?_); rintro e w20 ⟨rfl, hb20⟩; clear tok; have HZ := Lib.hid (below2 (box2_b HB1.out) hb20); clear hb20))
      | (go_at_call 6; (have tok := HB0; (with_reducible refine (CF.out _ (box2_b HB0.out)).mono ?_); rintro e w1 ⟨b, rfl, HS, hb1⟩; clear tok; have HB1 := Lib.hid (box2_next HB0.out hb1); obtain ⟨⟨-, l1, d1_0, d1_1, d1_2, d1_3, d1_4, d1_5, d1_6, d1_7⟩, m1, n1_0, n1_1⟩ := HB1.out; clear HB0 l0 d0_0 d0_1 d0_2 d0_3 d0_4 d0_5 d0_6 d0_7 m0 n0_0 n0_1; (cases b <;> (try (replace HS := Lib.hid (HS.out rfl)))))))
    all_goals go_ret
    all_goals exact ⟨rfl, HZ.out⟩
  · have hl20 : l.length ≤ 20 := by omega
    by_cases hve : ve = 0
    · subst hve
      have HSo := Lib.hid (HSd.out rfl)
      have hlenv := HSo.out.len
      have C2 : Hid (Small c → l.length ≤ 20 → ∀ W (a2 : Option Addr) (c2 : Nat), Below w.heap.size w W → Stks W a2 vl → Calls Try.prog 15 #[.agg c.val, .int .i64 x1, .slice a l.length cap, .int .i64 x2, .slice a2 l.length c2] W fun e w' => e = .returned (.bool true) ∧ Below W.heap.size W w') := fun hs hl W a2 c2 h hst => by
        have h3 := CFt.out vl (by omega) HSo.out.wf hs hl W a2 c2 h hst
        rw [HSo.out.fits, hlenv] at h3
        exact h3
      obtain ⟨⟨wt, we⟩, hWt⟩ : ∃ V, Hid (wholeV c l x2 = V) := ⟨_, rfl⟩
      have HEn : Hid (∀ k, k < l.length → (vl.getD k (0, 0)).2 ≤ wt) := fun k hk => by
        have := HSo.out.ends k hk
        rw [hWt.out] at this
        exact this
      have hwe : we = 0 := by
        have := HSo.out.whole
        rw [hWt.out] at this
        exact this
      subst hwe
      rw [hWt.out] at C3
      have HBg := Lib.hid HSo.out.begs
      have HRp := Lib.hid HSo.out.pos
      obtain ⟨hby1, hby2⟩ := HSo.out.bay
      clear HSd HNo CFt HSo hWt
      obtain ⟨q, hq⟩ : ∃ q : Nat, x1 = (q : Int) + 1 := ⟨(x1 - 1).toNat, by omega⟩
      have HX1 := Lib.hid hq
      have hqb : q < c.bays.length := by omega
      have C1 : Hid (Small c → l.length ≤ 20 → ∀ W, Below w.heap.size w W → Calls Try.prog 8 #[.agg c.val, .int .i64 x1, .slice a l.length cap, .int .i64 x2] W fun e w' => ∃ a2 c2, e = .returned (.tuple #[.slice a2 l.length c2, .int .i64 0]) ∧ Hid (Stks w' a2 vl) ∧ Hid (Below W.heap.size W w')) := fun hs hl W h => by
        have h3 := C1.out hs hl W h
        unfold PlanRes at h3
        rw [hlenv] at h3
        exact h3
      obtain ⟨yb, yo, hya, hybl, y0, y1, y2, y3⟩ := HBy.out q hqb
      have HBS : Hid (c.bays.length ≤ 12 → True) := fun _ => trivial
      unfold CatIn.val at *
      obtain ⟨mk, hmk⟩ : ∃ mk, Hid ((c.bays.getD q noy).make = mk) := ⟨_, rfl⟩
      rw [hmk.out] at y1
      have HYA := Lib.hid hya
      clear hya
      have hq0 : (0 : Int) ≤ (q : Int) := by omega
      have hq1 : ¬ (x1 < 1) := by omega
      have hq2 : ¬ ((c.bays.length : Int) < x1) := by omega
      have hq3 : (q : Int) < (c.bays.length : Int) := by omega
      have eq1 : IntKind.i64.wrap (x1 - 1) = (q : Int) := by
        have h6 : IntKind.i64.max = 9223372036854775807 := by decide
        simp [Lit.wf] at hx1
        rw [IntKind.wrap_i64]; omega
      have EQ1 := Lib.hid eq1
      have HY1 := Lib.hid y1
      have HYB := Lib.hid hybl
      have HLV := Lib.hid hlenv
      have HQ := Lib.hid hqb
      have HQ1 := Lib.hid hq1
      have HQ2 := Lib.hid hq2
      have HQ3 := Lib.hid hq3
      clear HBS HBy eq1 y0 y1 y2 y3 hybl hlenv hqb hby1 hby2 hq1 hq2 hq3 hq hq0
      go_enter Try.func5, Try.ntmps5
      go_upto_region 1 with (fail)
      rw [hW0.out]
      clear hW0
      obtain ⟨⟨-, l0, d0_0, d0_1, d0_2, d0_3, d0_4, d0_5, d0_6, d0_7⟩, m0, n0_0, n0_1⟩ := hB0.out
      go_wp2_with (first
        | (go_at_call 17; (have tok := HB3; (with_reducible refine (C3.out HS.out hl20 _ (box2_b HB3.out)).mono ?_); rintro e w4 ⟨rfl, hb4⟩; clear tok; have HB4 := Lib.hid (box2_next HB3.out hb4); have P4 := Lib.hid (P3.out.below hb4); obtain ⟨⟨-, l4, d4_0, d4_1, d4_2, d4_3, d4_4, d4_5, d4_6, d4_7⟩, m4, n4_0, n4_1⟩ := HB4.out; clear HB3 l3 d3_0 d3_1 d3_2 d3_3 d3_4 d3_5 d3_6 d3_7 m3 n3_0 n3_1))
        | (go_at_call 15; (have tok := HB2; (with_reducible refine (C2.out HS.out hl20 _ _ _ (box2_b HB2.out) P2.out).mono ?_); rintro e w3 ⟨rfl, hb3⟩; clear tok; have HB3 := Lib.hid (box2_next HB2.out hb3); have P3 := Lib.hid (P2.out.below hb3); obtain ⟨⟨-, l3, d3_0, d3_1, d3_2, d3_3, d3_4, d3_5, d3_6, d3_7⟩, m3, n3_0, n3_1⟩ := HB3.out; clear HB2 l2 d2_0 d2_1 d2_2 d2_3 d2_4 d2_5 d2_6 d2_7 m2 n2_0 n2_1))
        | (go_at_call 7; (have tok := HB1; (with_reducible refine (CA.out _).mono ?_); rintro e w20 ⟨rfl, hb20⟩; clear tok; have HZ := Lib.hid (below2 (box2_b HB1.out) hb20); clear hb20))
        | (go_at_call 8; (have tok := HB1; (with_reducible refine (C1.out HS.out hl20 _ (box2_b HB1.out)).mono ?_); rintro e w2 ⟨pa, pc, rfl, P2, hq2⟩; clear tok; have HB2 := Lib.hid (box2_next HB1.out hq2.out); obtain ⟨⟨-, l2, d2_0, d2_1, d2_2, d2_3, d2_4, d2_5, d2_6, d2_7⟩, m2, n2_0, n2_1⟩ := HB2.out; clear HB1 l1 d1_0 d1_1 d1_2 d1_3 d1_4 d1_5 d1_6 d1_7 m1 n1_0 n1_1))
        | (go_at_call 6; (have tok := HB0; (with_reducible refine (CF.out _ (box2_b HB0.out)).mono ?_); rintro e w1 ⟨b, rfl, HS, hb1⟩; clear tok; have HB1 := Lib.hid (box2_next HB0.out hb1); obtain ⟨⟨-, l1, d1_0, d1_1, d1_2, d1_3, d1_4, d1_5, d1_6, d1_7⟩, m1, n1_0, n1_1⟩ := HB1.out; clear HB0 l0 d0_0 d0_1 d0_2 d0_3 d0_4 d0_5 d0_6 d0_7 m0 n0_0 n0_1; (cases b <;> (try (replace HS := Lib.hid (HS.out rfl)))))))
      · go_ret
        exact ⟨rfl, HZ.out⟩
      · clear CF C1 C2 C3 HS
        go_loopw [11, 12] (fun v11 v12 wr => wr = w4 ∧ ∃ j k : Nat, j ≤ k ∧ k ≤ l.length ∧ v11 = .int .i64 (j : Int) ∧ v12 = .int .i64 (k : Int)) (fun _ v12 _ => l.length - (intOf v12).toNat)
        case atStart => exact ⟨rfl, 0, 0, Nat.le_refl _, Nat.zero_le _, rfl, rfl⟩
        case round =>
          obtain ⟨hwr, j, k, hjk, hkl, rfl, rfl⟩ := hrel
          replace hwr := hwr.symm
          subst hwr
          by_cases hk : k < l.length
          · have hk1 : (k : Int) < (l.length : Int) := by omega
            have hk0 : (0 : Int) ≤ (k : Int) := by omega
            have hk20 : (k : Int) ≤ 20 := by omega
            have hj0 : (0 : Int) ≤ (j : Int) := by omega
            have hj20 : (j : Int) ≤ 20 := by omega
            obtain ⟨sb, so, rfl, hsb, s0, s1⟩ := P4.out k (by rw [HLV.out]; exact hk)
            obtain ⟨rb, ro, rfl, hrb, r0⟩ := HIn.out k hk
            have r4 := ((box2_b HB4.out).cell (p := ⟨rb, ro + k, none⟩) hrb).trans r0
            have hrb4 := Nat.lt_of_lt_of_le hrb (box2_b HB4.out).size
            have hE := HEn.out k hk
            generalize (vl.getD k (0, 0)).2 = E at *
            have hEw : ¬ wt < E := by omega
            have dE : decide (wt < E) = false := decide_eq_false hEw
            generalize l.getD k 0 = r at *
            clear s0 r0 hE
            by_cases hr : 0 < r
            · have dr : decide (0 < r) = true := decide_eq_true hr
              go_wp2
              go_roundw
              case rel => exact ⟨(by first | trivial | rfl), j + 1, k + 1, by omega, by omega, by go_num, by go_num⟩
              case measure => simp [intOf]; omega
            · have dr : decide (0 < r) = false := decide_eq_false hr
              go_wp2
              go_roundw
              case rel => exact ⟨(by first | trivial | rfl), j, k + 1, by omega, by omega, rfl, by go_num⟩
              case measure => simp [intOf]; omega
          · have hkn : ¬ (k : Int) < (l.length : Int) := by omega
            have hq1 := HQ1.out
            have hq2 := HQ2.out
            have hq3 := HQ3.out
            have eq1 := EQ1.out
            have hq0 : (0 : Int) ≤ (q : Int) := by omega
            have y4 := ((box2_b HB4.out).cell (p := ⟨yb, yo + q * 4 + 1, none⟩) HYB.out).trans HY1.out
            have yb4 := Nat.lt_of_lt_of_le HYB.out (box2_b HB4.out).size
            rw [HYA.out] at d4_3
            by_cases hj : mk < (j : Int)
            · have dj : decide (mk < (j : Int)) = true := decide_eq_true hj
              go_wp2_with (go_at_call 7; ((with_reducible refine (CA.out _).mono ?_); rintro e w20 ⟨rfl, hb20⟩; have HZ := Lib.hid (below2 (box2_b HB4.out) hb20); clear hb20))
              go_ret
              exact ⟨rfl, HZ.out⟩
            · have dj : decide (mk < (j : Int)) = false := decide_eq_false hj
              go_wp2
              clear hq1 hq2 hq3 eq1 y4 yb4 dj hj hkn
              go_loopw [13] (fun v13 wr => Hid (Below w4.heap.size w4 wr) ∧ ∃ k : Nat, k ≤ l.length ∧ v13 = .int .i64 (k : Int)) (fun v13 _ => l.length - (intOf v13).toNat)
              case atStart => exact ⟨Below.refl _ _, 0, Nat.zero_le _, rfl⟩
              case round =>
                clear hjk hkl hk
                obtain ⟨HO, k, hkl, rfl⟩ := hrel
                obtain ⟨wo, hwo⟩ : ∃ wo, wo = wr := ⟨_, rfl⟩
                subst hwo
                by_cases hk : k < l.length
                · have hk1 : (k : Int) < (l.length : Int) := by omega
                  have hk0 : (0 : Int) ≤ (k : Int) := by omega
                  have hk20 : (k : Int) ≤ 20 := by omega
                  have HBk := Lib.hid (HBg.out k hk)
                  obtain ⟨sb, so, rfl, hsb, s0, s1⟩ := P4.out k (by rw [HLV.out]; exact hk)
                  obtain ⟨St, hSt⟩ : ∃ St, Hid ((vl.getD k (0, 0)).1 = St) := ⟨_, rfl⟩
                  rw [hSt.out] at s0
                  clear s1
                  have s0o := (HO.out.cell (p := ⟨sb, so + k * 2, none⟩) hsb).trans s0
                  have sbo := Nat.lt_of_lt_of_le hsb HO.out.size
                  go_wp2
                  go_loopw [14, 15] (fun v14 v15 wr => Hid (Below w4.heap.size w4 wr) ∧ ∃ (i : Nat) (B : Bool), i ≤ l.length ∧ v14 = .bool B ∧ Hid (bkTo l vl k i = B) ∧ v15 = .int .i64 (i : Int)) (fun _ v15 _ => l.length - (intOf v15).toNat)
                  case atStart => exact ⟨HO.out, 0, _, Nat.zero_le _, rfl, (by show bkTo l vl k 0 = _; unfold bkTo; rw [hSt.out]; rfl), rfl⟩
                  case round =>
                    obtain ⟨HW, i, B, hil, rfl, hB, rfl⟩ := hrel
                    by_cases hi : i < l.length
                    · have hi1 : (i : Int) < (l.length : Int) := by omega
                      have hi0 : (0 : Int) ≤ (i : Int) := by omega
                      have hi20 : (i : Int) ≤ 20 := by omega
                      obtain ⟨sb2, so2, he, hsb2, e0, e1⟩ := P4.out i (by rw [HLV.out]; exact hi)
                      injection he with he
                      injection he with he1 he2
                      subst he1 he2
                      obtain ⟨rb, ro, rfl, hrb, r0⟩ := HIn.out i hi
                      have r4 := ((box2_b HB4.out).cell (p := ⟨rb, ro + i, none⟩) hrb).trans r0
                      have hrb4 := Nat.lt_of_lt_of_le hrb (box2_b HB4.out).size
                      have HBn : Hid (bkTo l vl k (i + 1) = (B || (decide (0 < l.getD i 0) && decide ((vl.getD i (0, 0)).2 = St)))) := by show _ = _; rw [bkTo, hB.out, hSt.out]
                      have hrp := HRp.out i
                      generalize (vl.getD i (0, 0)).2 = E at *
                      generalize l.getD i 0 = r at *
                      clear e0 r0 hrb hsb2
                      have HD : Hid (Below w4.heap.size w4 wr.drew) := below2 HW.out (Below.refl _ _).drew
                      have S0 := (HD.out.cell (p := ⟨sb, so + k * 2, none⟩) hsb).trans s0
                      have E1 := (HD.out.cell (p := ⟨sb, so + i * 2 + 1, none⟩) hsb).trans e1
                      have R4 := (HD.out.cell (p := ⟨rb, ro + i, none⟩) hrb4).trans r4
                      have rbr := Nat.lt_of_lt_of_le hrb4 HW.out.size
                      have sbr := Nat.lt_of_lt_of_le hsb HW.out.size
                      cases B
                      · by_cases hr : 0 < r
                        · have dr : decide (0 < r) = true := decide_eq_true hr
                          rw [dr, Bool.false_or, Bool.true_and] at HBn
                          by_cases hes : E = St
                          · have des : (E == St) = true := beq_iff_eq.2 hes
                            rw [decide_eq_true hes] at HBn
                            go_wp2
                            go_region_held3 (fun W' => W'.cell? ⟨rb, ro + i, none⟩ = some (.int .i64 r) ∧ W'.cell? ⟨sb, so + i * 2 + 1, none⟩ = some (.int .i64 E) ∧ W'.cell? ⟨sb, so + k * 2, none⟩ = some (.int .i64 St)) (exact ⟨R4, E1, S0⟩) (fail)
                            go_wp2
                            go_roundw
                            case rel => exact ⟨HD.out, i + 1, true, by omega, rfl, HBn, by go_num⟩
                            case measure => simp [intOf]; omega
                          · have des : (E == St) = false := beq_eq_false_iff_ne.2 hes
                            rw [decide_eq_false hes] at HBn
                            go_wp2
                            go_region_held3 (fun W' => W'.cell? ⟨rb, ro + i, none⟩ = some (.int .i64 r) ∧ W'.cell? ⟨sb, so + i * 2 + 1, none⟩ = some (.int .i64 E) ∧ W'.cell? ⟨sb, so + k * 2, none⟩ = some (.int .i64 St)) (exact ⟨R4, E1, S0⟩) (fail)
                            go_wp2
                            go_roundw
                            case rel => exact ⟨HD.out, i + 1, false, by omega, rfl, HBn, by go_num⟩
                            case measure => simp [intOf]; omega
                        · have dr : decide (0 < r) = false := decide_eq_false hr
                          rw [dr, Bool.false_or, Bool.false_and] at HBn
                          have hr0 : r = 0 := by omega
                          subst hr0
                          clear dr hr
                          go_wp2
                          refine wp_region_held_drew (S := (fun W' => W'.cell? ⟨rb, ro + i, none⟩ = some (.int .i64 0) ∧ W'.cell? ⟨sb, so + i * 2 + 1, none⟩ = some (.int .i64 E) ∧ W'.cell? ⟨sb, so + k * 2, none⟩ = some (.int .i64 St))) (by kernel_rfl) ⟨R4, E1, S0⟩ (fun hHeld => ?_)
                          refine takeH (i := 0) (v := ?_) 137 rfl rfl (by kernel_rfl) (by kernel_rfl) (by kernel_rfl) (fun _ _ _ h => h) (Or.inl ⟨by rfl, ?_⟩) hHeld ?_
                          rotate_left
                          · intro w hSw; (try dsimp only at hSw); go_simp; (try with_reducible rfl)
                          try simp only [Act.put, List.setIfInBounds_toArray, List.set_cons_zero, List.set_cons_succ]
                          refine takeH (i := 1) (v := ?_) 138 rfl rfl (by kernel_rfl) (by kernel_rfl) (by kernel_rfl) (fun _ _ _ h => h) (Or.inl ⟨by rfl, ?_⟩) hHeld ?_
                          rotate_left
                          · intro w hSw; (try dsimp only at hSw); go_simp; (try with_reducible rfl)
                          try simp only [Act.put, List.setIfInBounds_toArray, List.set_cons_zero, List.set_cons_succ]
                          refine takeH (i := 2) (v := ?_) 139 rfl rfl (by kernel_rfl) (by kernel_rfl) (by kernel_rfl) (fun _ _ _ h => h) (Or.inl ⟨by rfl, ?_⟩) hHeld ?_
                          rotate_left
                          · intro w hSw; (try dsimp only at hSw); go_simp; (try with_reducible rfl)
                          try simp only [Act.put, List.setIfInBounds_toArray, List.set_cons_zero, List.set_cons_succ]
                          refine takeH (i := 3) (v := ?_) 140 rfl rfl (by kernel_rfl) (by kernel_rfl) (by kernel_rfl) (fun _ _ _ h => h) (Or.inl ⟨by rfl, ?_⟩) hHeld ?_
                          rotate_left
                          · intro w hSw; (try dsimp only at hSw); go_simp; (try with_reducible rfl)
                          try simp only [Act.put, List.setIfInBounds_toArray, List.set_cons_zero, List.set_cons_succ]
                          refine takeH (i := 4) (v := ?_) 141 rfl rfl (by kernel_rfl) (by kernel_rfl) (by kernel_rfl) (fun _ _ _ h => h) (Or.inl ⟨by rfl, ?_⟩) hHeld ?_
                          rotate_left
                          · intro w hSw; (try dsimp only at hSw); go_simp; (try with_reducible rfl)
                          try simp only [Act.put, List.setIfInBounds_toArray, List.set_cons_zero, List.set_cons_succ]
                          refine takeH (i := 5) (v := ?_) 142 rfl rfl (by kernel_rfl) (by kernel_rfl) (by kernel_rfl) (fun _ _ _ h => h) (Or.inl ⟨by rfl, ?_⟩) hHeld ?_
                          rotate_left
                          · intro w hSw; (try dsimp only at hSw); go_simp; (try with_reducible rfl)
                          try simp only [Act.put, List.setIfInBounds_toArray, List.set_cons_zero, List.set_cons_succ]
                          refine takeH (i := 6) (v := ?_) 143 rfl rfl (by kernel_rfl) (by kernel_rfl) (by kernel_rfl) (fun _ _ _ h => h) (Or.inl ⟨by rfl, ?_⟩) hHeld ?_
                          rotate_left
                          · intro w hSw; (try dsimp only at hSw); go_simp; (try with_reducible rfl)
                          try simp only [Act.put, List.setIfInBounds_toArray, List.set_cons_zero, List.set_cons_succ]
                          refine takeH (i := 7) (v := ?_) 144 rfl rfl (by kernel_rfl) (by kernel_rfl) (by kernel_rfl) (fun _ _ _ h => h) (Or.inl ⟨by rfl, ?_⟩) hHeld ?_
                          rotate_left
                          · intro w hSw; (try dsimp only at hSw); go_simp; (try with_reducible rfl)
                          try simp only [Act.put, List.setIfInBounds_toArray, List.set_cons_zero, List.set_cons_succ]
                          refine takeH (i := 8) (v := undef) 145 rfl rfl (by kernel_rfl) (by kernel_rfl) (by kernel_rfl) (fun _ _ _ h => h) (Or.inr ⟨by kernel_rfl, rfl⟩) hHeld ?_
                          try simp only [Act.put, List.setIfInBounds_toArray, List.set_cons_zero, List.set_cons_succ]
                          refine takeH (i := 9) (v := undef) 146 rfl rfl (by kernel_rfl) (by kernel_rfl) (by kernel_rfl) (fun _ _ _ h => h) (Or.inr ⟨by kernel_rfl, rfl⟩) hHeld ?_
                          try simp only [Act.put, List.setIfInBounds_toArray, List.set_cons_zero, List.set_cons_succ]
                          refine takeH (i := 10) (v := undef) 147 rfl rfl (by kernel_rfl) (by kernel_rfl) (by kernel_rfl) (fun _ _ _ h => h) (Or.inr ⟨by kernel_rfl, rfl⟩) hHeld ?_
                          try simp only [Act.put, List.setIfInBounds_toArray, List.set_cons_zero, List.set_cons_succ]
                          refine takeH (i := 11) (v := undef) 148 rfl rfl (by kernel_rfl) (by kernel_rfl) (by kernel_rfl) (fun _ _ _ h => h) (Or.inr ⟨by kernel_rfl, rfl⟩) hHeld ?_
                          try simp only [Act.put, List.setIfInBounds_toArray, List.set_cons_zero, List.set_cons_succ]
                          refine takeH (i := 12) (v := undef) 149 rfl rfl (by kernel_rfl) (by kernel_rfl) (by kernel_rfl) (fun _ _ _ h => h) (Or.inr ⟨by kernel_rfl, rfl⟩) hHeld ?_
                          try simp only [Act.put, List.setIfInBounds_toArray, List.set_cons_zero, List.set_cons_succ]
                          refine takeH (i := 13) (v := undef) 150 rfl rfl (by kernel_rfl) (by kernel_rfl) (by kernel_rfl) (fun _ _ _ h => h) (Or.inr ⟨by kernel_rfl, rfl⟩) hHeld ?_
                          try simp only [Act.put, List.setIfInBounds_toArray, List.set_cons_zero, List.set_cons_succ]
                          refine takeH (i := 14) (v := undef) 151 rfl rfl (by kernel_rfl) (by kernel_rfl) (by kernel_rfl) (fun _ _ _ h => h) (Or.inr ⟨by kernel_rfl, rfl⟩) hHeld ?_
                          try simp only [Act.put, List.setIfInBounds_toArray, List.set_cons_zero, List.set_cons_succ]
                          refine takeH (i := 15) (v := undef) 152 rfl rfl (by kernel_rfl) (by kernel_rfl) (by kernel_rfl) (fun _ _ _ h => h) (Or.inr ⟨by kernel_rfl, rfl⟩) hHeld ?_
                          try simp only [Act.put, List.setIfInBounds_toArray, List.set_cons_zero, List.set_cons_succ]
                          refine takeH (i := 16) (v := undef) 153 rfl rfl (by kernel_rfl) (by kernel_rfl) (by kernel_rfl) (fun _ _ _ h => h) (Or.inr ⟨by kernel_rfl, rfl⟩) hHeld ?_
                          try simp only [Act.put, List.setIfInBounds_toArray, List.set_cons_zero, List.set_cons_succ]
                          refine takeH (i := 17) (v := undef) 154 rfl rfl (by kernel_rfl) (by kernel_rfl) (by kernel_rfl) (fun _ _ _ h => h) (Or.inr ⟨by kernel_rfl, rfl⟩) hHeld ?_
                          try simp only [Act.put, List.setIfInBounds_toArray, List.set_cons_zero, List.set_cons_succ]
                          refine takeH (i := 18) (v := undef) 155 rfl rfl (by kernel_rfl) (by kernel_rfl) (by kernel_rfl) (fun _ _ _ h => h) (Or.inr ⟨by kernel_rfl, rfl⟩) hHeld ?_
                          try simp only [Act.put, List.setIfInBounds_toArray, List.set_cons_zero, List.set_cons_succ]
                          refine takeH (i := 19) (v := ?_) 156 rfl rfl (by kernel_rfl) (by kernel_rfl) (by kernel_rfl) (fun _ _ _ h => h) (Or.inl ⟨by rfl, ?_⟩) hHeld ?_
                          rotate_left
                          · intro w hSw; (try dsimp only at hSw); go_simp; (try with_reducible rfl)
                          try simp only [Act.put, List.setIfInBounds_toArray, List.set_cons_zero, List.set_cons_succ]
                          refine takeH (i := 20) (v := ?_) 157 rfl rfl (by kernel_rfl) (by kernel_rfl) (by kernel_rfl) (fun _ _ _ h => h) (Or.inl ⟨by rfl, ?_⟩) hHeld ?_
                          rotate_left
                          · intro w hSw; (try dsimp only at hSw); go_simp; (try with_reducible rfl)
                          try simp only [Act.put, List.setIfInBounds_toArray, List.set_cons_zero, List.set_cons_succ]
                          refine takeH (i := 21) (v := ?_) 14 rfl rfl (by kernel_rfl) (by kernel_rfl) (by kernel_rfl) (fun _ _ _ h => h) (Or.inl ⟨by rfl, ?_⟩) hHeld ?_
                          rotate_left
                          · intro w hSw; (try dsimp only at hSw); go_simp; (try with_reducible rfl)
                          try simp only [Act.put, List.setIfInBounds_toArray, List.set_cons_zero, List.set_cons_succ]
                          refine wpAnyH_done (by kernel_rfl) ?_ _
                          go_wp2
                          go_roundw
                          case rel => exact ⟨HD.out, i + 1, false, by omega, rfl, HBn, by go_num⟩
                          case measure => simp [intOf]; omega
                      · rw [Bool.true_or] at HBn
                        go_wp2
                        refine wp_region_held_drew (S := (fun W' => W'.cell? ⟨rb, ro + i, none⟩ = some (.int .i64 r) ∧ W'.cell? ⟨sb, so + i * 2 + 1, none⟩ = some (.int .i64 E) ∧ W'.cell? ⟨sb, so + k * 2, none⟩ = some (.int .i64 St))) (by kernel_rfl) ⟨R4, E1, S0⟩ (fun hHeld => ?_)
                        refine takeH (i := 0) (v := ?_) 137 rfl rfl (by kernel_rfl) (by kernel_rfl) (by kernel_rfl) (fun _ _ _ h => h) (Or.inl ⟨by rfl, ?_⟩) hHeld ?_
                        rotate_left
                        · intro w hSw; (try dsimp only at hSw); go_simp; (try with_reducible rfl)
                        try simp only [Act.put, List.setIfInBounds_toArray, List.set_cons_zero, List.set_cons_succ]
                        refine takeH (i := 1) (v := ?_) 138 rfl rfl (by kernel_rfl) (by kernel_rfl) (by kernel_rfl) (fun _ _ _ h => h) (Or.inl ⟨by rfl, ?_⟩) hHeld ?_
                        rotate_left
                        · intro w hSw; (try dsimp only at hSw); go_simp; (try with_reducible rfl)
                        try simp only [Act.put, List.setIfInBounds_toArray, List.set_cons_zero, List.set_cons_succ]
                        refine takeH (i := 2) (v := undef) 139 rfl rfl (by kernel_rfl) (by kernel_rfl) (by kernel_rfl) (fun _ _ _ h => h) (Or.inr ⟨by kernel_rfl, rfl⟩) hHeld ?_
                        try simp only [Act.put, List.setIfInBounds_toArray, List.set_cons_zero, List.set_cons_succ]
                        refine takeH (i := 3) (v := undef) 140 rfl rfl (by kernel_rfl) (by kernel_rfl) (by kernel_rfl) (fun _ _ _ h => h) (Or.inr ⟨by kernel_rfl, rfl⟩) hHeld ?_
                        try simp only [Act.put, List.setIfInBounds_toArray, List.set_cons_zero, List.set_cons_succ]
                        refine takeH (i := 4) (v := undef) 141 rfl rfl (by kernel_rfl) (by kernel_rfl) (by kernel_rfl) (fun _ _ _ h => h) (Or.inr ⟨by kernel_rfl, rfl⟩) hHeld ?_
                        try simp only [Act.put, List.setIfInBounds_toArray, List.set_cons_zero, List.set_cons_succ]
                        refine takeH (i := 5) (v := undef) 142 rfl rfl (by kernel_rfl) (by kernel_rfl) (by kernel_rfl) (fun _ _ _ h => h) (Or.inr ⟨by kernel_rfl, rfl⟩) hHeld ?_
                        try simp only [Act.put, List.setIfInBounds_toArray, List.set_cons_zero, List.set_cons_succ]
                        refine takeH (i := 6) (v := undef) 143 rfl rfl (by kernel_rfl) (by kernel_rfl) (by kernel_rfl) (fun _ _ _ h => h) (Or.inr ⟨by kernel_rfl, rfl⟩) hHeld ?_
                        try simp only [Act.put, List.setIfInBounds_toArray, List.set_cons_zero, List.set_cons_succ]
                        refine takeH (i := 7) (v := undef) 144 rfl rfl (by kernel_rfl) (by kernel_rfl) (by kernel_rfl) (fun _ _ _ h => h) (Or.inr ⟨by kernel_rfl, rfl⟩) hHeld ?_
                        try simp only [Act.put, List.setIfInBounds_toArray, List.set_cons_zero, List.set_cons_succ]
                        refine takeH (i := 8) (v := undef) 145 rfl rfl (by kernel_rfl) (by kernel_rfl) (by kernel_rfl) (fun _ _ _ h => h) (Or.inr ⟨by kernel_rfl, rfl⟩) hHeld ?_
                        try simp only [Act.put, List.setIfInBounds_toArray, List.set_cons_zero, List.set_cons_succ]
                        refine takeH (i := 9) (v := undef) 146 rfl rfl (by kernel_rfl) (by kernel_rfl) (by kernel_rfl) (fun _ _ _ h => h) (Or.inr ⟨by kernel_rfl, rfl⟩) hHeld ?_
                        try simp only [Act.put, List.setIfInBounds_toArray, List.set_cons_zero, List.set_cons_succ]
                        refine takeH (i := 10) (v := undef) 147 rfl rfl (by kernel_rfl) (by kernel_rfl) (by kernel_rfl) (fun _ _ _ h => h) (Or.inr ⟨by kernel_rfl, rfl⟩) hHeld ?_
                        try simp only [Act.put, List.setIfInBounds_toArray, List.set_cons_zero, List.set_cons_succ]
                        refine takeH (i := 11) (v := undef) 148 rfl rfl (by kernel_rfl) (by kernel_rfl) (by kernel_rfl) (fun _ _ _ h => h) (Or.inr ⟨by kernel_rfl, rfl⟩) hHeld ?_
                        try simp only [Act.put, List.setIfInBounds_toArray, List.set_cons_zero, List.set_cons_succ]
                        refine takeH (i := 12) (v := undef) 149 rfl rfl (by kernel_rfl) (by kernel_rfl) (by kernel_rfl) (fun _ _ _ h => h) (Or.inr ⟨by kernel_rfl, rfl⟩) hHeld ?_
                        try simp only [Act.put, List.setIfInBounds_toArray, List.set_cons_zero, List.set_cons_succ]
                        refine takeH (i := 13) (v := undef) 150 rfl rfl (by kernel_rfl) (by kernel_rfl) (by kernel_rfl) (fun _ _ _ h => h) (Or.inr ⟨by kernel_rfl, rfl⟩) hHeld ?_
                        try simp only [Act.put, List.setIfInBounds_toArray, List.set_cons_zero, List.set_cons_succ]
                        refine takeH (i := 14) (v := undef) 151 rfl rfl (by kernel_rfl) (by kernel_rfl) (by kernel_rfl) (fun _ _ _ h => h) (Or.inr ⟨by kernel_rfl, rfl⟩) hHeld ?_
                        try simp only [Act.put, List.setIfInBounds_toArray, List.set_cons_zero, List.set_cons_succ]
                        refine takeH (i := 15) (v := undef) 152 rfl rfl (by kernel_rfl) (by kernel_rfl) (by kernel_rfl) (fun _ _ _ h => h) (Or.inr ⟨by kernel_rfl, rfl⟩) hHeld ?_
                        try simp only [Act.put, List.setIfInBounds_toArray, List.set_cons_zero, List.set_cons_succ]
                        refine takeH (i := 16) (v := undef) 153 rfl rfl (by kernel_rfl) (by kernel_rfl) (by kernel_rfl) (fun _ _ _ h => h) (Or.inr ⟨by kernel_rfl, rfl⟩) hHeld ?_
                        try simp only [Act.put, List.setIfInBounds_toArray, List.set_cons_zero, List.set_cons_succ]
                        refine takeH (i := 17) (v := undef) 154 rfl rfl (by kernel_rfl) (by kernel_rfl) (by kernel_rfl) (fun _ _ _ h => h) (Or.inr ⟨by kernel_rfl, rfl⟩) hHeld ?_
                        try simp only [Act.put, List.setIfInBounds_toArray, List.set_cons_zero, List.set_cons_succ]
                        refine takeH (i := 18) (v := undef) 155 rfl rfl (by kernel_rfl) (by kernel_rfl) (by kernel_rfl) (fun _ _ _ h => h) (Or.inr ⟨by kernel_rfl, rfl⟩) hHeld ?_
                        try simp only [Act.put, List.setIfInBounds_toArray, List.set_cons_zero, List.set_cons_succ]
                        refine takeH (i := 19) (v := undef) 156 rfl rfl (by kernel_rfl) (by kernel_rfl) (by kernel_rfl) (fun _ _ _ h => h) (Or.inr ⟨by kernel_rfl, rfl⟩) hHeld ?_
                        try simp only [Act.put, List.setIfInBounds_toArray, List.set_cons_zero, List.set_cons_succ]
                        refine takeH (i := 20) (v := ?_) 157 rfl rfl (by kernel_rfl) (by kernel_rfl) (by kernel_rfl) (fun _ _ _ h => h) (Or.inl ⟨by rfl, ?_⟩) hHeld ?_
                        rotate_left
                        · intro w hSw; (try dsimp only at hSw); go_simp; (try with_reducible rfl)
                        try simp only [Act.put, List.setIfInBounds_toArray, List.set_cons_zero, List.set_cons_succ]
                        refine takeH (i := 21) (v := ?_) 14 rfl rfl (by kernel_rfl) (by kernel_rfl) (by kernel_rfl) (fun _ _ _ h => h) (Or.inl ⟨by rfl, ?_⟩) hHeld ?_
                        rotate_left
                        · intro w hSw; (try dsimp only at hSw); go_simp; (try with_reducible rfl)
                        try simp only [Act.put, List.setIfInBounds_toArray, List.set_cons_zero, List.set_cons_succ]
                        refine wpAnyH_done (by kernel_rfl) ?_ _
                        go_wp2
                        go_roundw
                        case rel => exact ⟨HD.out, i + 1, true, by omega, rfl, HBn, by go_num⟩
                        case measure => simp [intOf]; omega
                    · have hin : ¬ (i : Int) < (l.length : Int) := by omega
                      have hie : i = l.length := by omega
                      have hBt : B = true := by rw [← hB.out, hie]; exact HBk.out
                      subst hBt
                      clear hie
                      go_wp2
                      go_roundw
                      case rel => exact ⟨HW.out, k + 1, by omega, by go_num⟩
                      case measure => simp [intOf]; omega
                · have hkn : ¬ (k : Int) < (l.length : Int) := by omega
                  go_wp2_with (go_at_call 7; ((with_reducible refine (CA.out _).mono ?_); rintro e w20 ⟨rfl, hb20⟩; have HZ := Lib.hid (below2 (below2 (box2_b HB4.out) HO.out) hb20); clear hb20))
                  go_ret
                  exact ⟨rfl, HZ.out⟩
    · have hvl : vl = [] := HNo.out hve
      subst hvl
      have dve : (ve != 0) = true := bne_iff_ne.2 hve
      clear HSd HNo CFt C3
      unfold CatIn.val PlanRes at *
      go_enter Try.func5, Try.ntmps5
      go_upto_region 1 with (fail)
      rw [hW0.out]
      clear hW0
      obtain ⟨⟨-, l0, d0_0, d0_1, d0_2, d0_3, d0_4, d0_5, d0_6, d0_7⟩, m0, n0_0, n0_1⟩ := hB0.out
      go_wp2_with (first
        | (go_at_call 7; (have tok := HB2; (with_reducible refine (CA.out _).mono ?_); rintro e w20 ⟨rfl, hb20⟩; clear tok; have HZ := Lib.hid (below2 (box2_b HB2.out) hb20); clear hb20))
        | (go_at_call 7; (have tok := HB1; (with_reducible refine (CA.out _).mono ?_); rintro e w20 ⟨rfl, hb20⟩; clear tok; have HZ := Lib.hid (below2 (box2_b HB1.out) hb20); clear hb20))
        | (go_at_call 8; (have tok := HB1; (with_reducible refine (C1.out HS.out hl20 _ (box2_b HB1.out)).mono ?_); rintro e w2 ⟨pa, pc, rfl, P2, hq2⟩; clear tok; have HB2 := Lib.hid (box2_next HB1.out hq2.out); obtain ⟨⟨-, l2, d2_0, d2_1, d2_2, d2_3, d2_4, d2_5, d2_6, d2_7⟩, m2, n2_0, n2_1⟩ := HB2.out; clear HB1 l1 d1_0 d1_1 d1_2 d1_3 d1_4 d1_5 d1_6 d1_7 m1 n1_0 n1_1))
        | (go_at_call 6; (have tok := HB0; (with_reducible refine (CF.out _ (box2_b HB0.out)).mono ?_); rintro e w1 ⟨b, rfl, HS, hb1⟩; clear tok; have HB1 := Lib.hid (box2_next HB0.out hb1); obtain ⟨⟨-, l1, d1_0, d1_1, d1_2, d1_3, d1_4, d1_5, d1_6, d1_7⟩, m1, n1_0, n1_1⟩ := HB1.out; clear HB0 l0 d0_0 d0_1 d0_2 d0_3 d0_4 d0_5 d0_6 d0_7 m0 n0_0 n0_1; (cases b <;> (try (replace HS := Lib.hid (HS.out rfl)))))))
      all_goals go_ret
      all_goals exact ⟨rfl, HZ.out⟩
end Quo
end Go.Proofs.Ytiabnjmblcogmaa
end
