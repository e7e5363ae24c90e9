/- The walk of RecipeNeeds. -/
import Derived.Test.YtblefohjnmmpmaaRecL
import Derived.Deep.RegionHeld3
import Derived.Deep.DeepCutAuto
namespace Go.Proofs.Ytblefohjnmmpmaa
open Go.RowKit
namespace Rec
/-- What stays over the calls of the last line. -/
def NH (w : World) (b : BlueIn) (ga gb : Nat) (p1 p2 : Int) (a1 a2 : Option Addr) (l : List Stk) (W : World) : Prop :=
  Below w.heap.size w W ∧ w.heap.size < W.heap.size ∧ ga < W.heap.size ∧ gb < W.heap.size ∧ Stks W a1 l ∧ Stks W a2 l ∧ Boxed W w.heap.size b ∧ W.cell? ⟨ga, 0, none⟩ = some (.int .i64 p1) ∧ W.cell? ⟨ga, 1, none⟩ = some (.int .i64 p2) ∧ W.cell? ⟨gb, 0, none⟩ = some (.int .i64 p1) ∧ W.cell? ⟨gb, 1, none⟩ = some (.int .i64 p2)
theorem nh_next {w : World} {b : BlueIn} {ga gb : Nat} {p1 p2 : Int} {a1 a2 : Option Addr} {l : List Stk} {W W1 : World} (h : NH w b ga gb p1 p2 a1 a2 l W) (hb : Below W.heap.size W W1) : NH w b ga gb p1 p2 a1 a2 l W1 := by
  obtain ⟨h1, h2, h3, h4, h5, h6, h7, r0, r1, q0, q1⟩ := h
  exact ⟨below2 h1 hb, lt_next hb h2, lt_next hb h3, lt_next hb h4, h5.below hb, h6.below hb, boxed_next hb h2 h7, (hb.cell h3).trans r0, (hb.cell h3).trans r1, (hb.cell h4).trans q0, (hb.cell h4).trans q1⟩
theorem nh_flat {w : World} {b : BlueIn} {ga gb : Nat} {p1 p2 : Int} {a1 a2 : Option Addr} {l : List Stk} {W : World} (h : Hid (NH w b ga gb p1 p2 a1 a2 l W)) : W.cell? ⟨w.heap.size, 0, none⟩ = some (.int .i64 b.makes) ∧ W.cell? ⟨w.heap.size, 1, none⟩ = some (.int .i64 b.per) ∧ W.cell? ⟨w.heap.size, 2, none⟩ = some (.int .i64 b.time) ∧ W.cell? ⟨w.heap.size, 3, none⟩ = some (.slice b.addr b.needs.length b.cap) ∧ W.cell? ⟨w.heap.size, 4, none⟩ = some (.int .i64 b.copy) ∧ W.cell? ⟨w.heap.size, 5, none⟩ = some (.int .i64 b.study) ∧ W.cell? ⟨w.heap.size, 6, none⟩ = some (.int .i64 b.most) ∧ W.cell? ⟨ga, 0, none⟩ = some (.int .i64 p1) ∧ W.cell? ⟨ga, 1, none⟩ = some (.int .i64 p2) ∧ W.cell? ⟨gb, 0, none⟩ = some (.int .i64 p1) ∧ W.cell? ⟨gb, 1, none⟩ = some (.int .i64 p2) ∧ Hid (NH w b ga gb p1 p2 a1 a2 l W) := by
  obtain ⟨h1, h2, h3, h4, h5, h6, ⟨c0, c1, c2, c3, c4, c5, c6⟩, r0, r1, q0, q1⟩ := h.out
  exact ⟨c0, c1, c2, c3, c4, c5, c6, r0, r1, q0, q1, h⟩
theorem nh_drew {w : World} {b : BlueIn} {ga gb : Nat} {p1 p2 : Int} {a1 a2 : Option Addr} {l : List Stk} {W : World} (h : NH w b ga gb p1 p2 a1 a2 l W) : NH w b ga gb p1 p2 a1 a2 l W.drew := by
  obtain ⟨h1, h2⟩ := h
  exact ⟨h1.drew, h2⟩
theorem nh_b {w : World} {b : BlueIn} {ga gb : Nat} {p1 p2 : Int} {a1 a2 : Option Addr} {l : List Stk} {W : World} (h : NH w b ga gb p1 p2 a1 a2 l W) : Below w.heap.size w W := h.1
theorem nh_s {w : World} {b : BlueIn} {ga gb : Nat} {p1 p2 : Int} {a1 a2 : Option Addr} {l : List Stk} {W : World} (h : NH w b ga gb p1 p2 a1 a2 l W) : Stks W a1 l := h.2.2.2.2.1
theorem nh_t {w : World} {b : BlueIn} {ga gb : Nat} {p1 p2 : Int} {a1 a2 : Option Addr} {l : List Stk} {W : World} (h : NH w b ga gb p1 p2 a1 a2 l W) : Stks W a2 l := h.2.2.2.2.2.1
theorem needsV_small (b : BlueIn) (x y : Int) (h : b.needs.length ≤ 12) : (needsV b x y).1.length ≤ 12 := by
  unfold needsV
  split
  · split
    · show (nds _ _ _ _).length ≤ 12
      rw [nds_length]
      exact h
    · exact Nat.zero_le _
  · exact Nat.zero_le _
set_option maxRecDepth 100000 in
set_option maxHeartbeats 8000000 in
theorem needs_walk (w : World) (v : Value) (b : BlueIn) (hv : IsBlue w v b) (x : Int) (_hx : (Lit.int .i64 x).wf = true) (y : Int) (_hy : (Lit.int .i64 y).wf = true) :
    Calls Try.prog 3 #[v, .int .i64 x, .int .i64 y] w fun e w' => e = .returned (.bool true) ∧ Below w.heap.size w w' := by
  obtain ⟨rfl, hmx, hst, hwf, hwm⟩ := hv
  have hbw := Lib.hid ((Below.refl w.heap.size w).alloc (Nat.le_refl _) (.cells #[.int .i64 b.makes, .int .i64 b.per, .int .i64 b.time, .slice b.addr b.needs.length b.cap, .int .i64 b.copy, .int .i64 b.study, .int .i64 b.most] 24))
  by_cases hlen : b.needs.length ≤ 12
  case neg =>
    have dl : decide ((12 : Int) < (b.needs.length : Int)) = true := decide_eq_true (by omega)
    clear hlen
    unfold BlueIn.val
    go_enter Try.func3, Try.ntmps3
    go_wp2_with (go_at_call 7; ((with_reducible refine (awake_any _).mono ?_); rintro e w1 ⟨rfl, hb1⟩))
    go_ret
    exact ⟨rfl, hbw.out.trans (hb1.mono (by simp))⟩
  have HB : Hid (Came w b) := ⟨hlen, hst, hwf, hwm⟩
  have dl : decide ((12 : Int) < (b.needs.length : Int)) = false := decide_eq_false (by omega)
  clear hst hwf hwm hlen hmx
  have C1 : Hid (∀ W : World, Below w.heap.size w W → Calls Try.prog 8 #[.agg #[.int .i64 b.makes, .int .i64 b.per, .int .i64 b.time, .slice b.addr b.needs.length b.cap, .int .i64 b.copy, .int .i64 b.study, .int .i64 b.most], .int .i64 x, .int .i64 y] W fun e w' => ∃ a c, e = .returned (.tuple #[.slice a (needsV b x y).1.length c, .int .i64 (needsV b x y).2]) ∧ Hid (Stks w' a (needsV b x y).1) ∧ Below W.heap.size W w') := fun W h => needs_any b x y W (HB.out.below h)
  have C2 : Hid (∀ W : World, Below w.heap.size w W → Calls Try.prog 9 #[.agg #[.int .i64 b.makes, .int .i64 b.per, .int .i64 b.time, .slice b.addr b.needs.length b.cap, .int .i64 b.copy, .int .i64 b.study, .int .i64 b.most], .int .i64 x, .int .i64 y] W fun e w' => ∃ a c, e = .returned (.tuple #[.slice a (needsV b x y).1.length c, .int .i64 (needsV b x y).2]) ∧ Hid (Stks w' a (needsV b x y).1) ∧ Below W.heap.size W w') := fun W h => refNeeds_any b x y W (HB.out.below h)
  have C3 : Hid (∀ W : World, Below w.heap.size w W → Calls Try.prog 10 #[.agg #[.int .i64 b.makes, .int .i64 b.per, .int .i64 b.time, .slice b.addr b.needs.length b.cap, .int .i64 b.copy, .int .i64 b.study, .int .i64 b.most], .int .i64 y] W fun e w' => e = .returned (.tuple #[.agg #[.int .i64 (makesV b y).1.1, .int .i64 (makesV b y).1.2], .int .i64 (makesV b y).2]) ∧ Below W.heap.size W w') := fun W h => makes_any b y W (HB.out.below h)
  have C4 : Hid (∀ W : World, Below w.heap.size w W → Calls Try.prog 11 #[.agg #[.int .i64 b.makes, .int .i64 b.per, .int .i64 b.time, .slice b.addr b.needs.length b.cap, .int .i64 b.copy, .int .i64 b.study, .int .i64 b.most], .int .i64 y] W fun e w' => e = .returned (.tuple #[.agg #[.int .i64 (makesV b y).1.1, .int .i64 (makesV b y).1.2], .int .i64 (makesV b y).2]) ∧ Below W.heap.size W w') := fun W h => refMakes_any b y W (HB.out.below h)
  have C5 : Hid (∀ W : World, Below w.heap.size w W → Calls Try.prog 12 #[.agg #[.int .i64 b.makes, .int .i64 b.per, .int .i64 b.time, .slice b.addr b.needs.length b.cap, .int .i64 b.copy, .int .i64 b.study, .int .i64 b.most], .int .i64 x, .int .i64 y] W fun e w' => e = .returned (.tuple #[.int .i64 (timeV b x y).1, .int .i64 (timeV b x y).2]) ∧ Below W.heap.size W w') := fun W h => time_any b x y W (HB.out.below h)
  have C6 : Hid (∀ W : World, Below w.heap.size w W → Calls Try.prog 13 #[.agg #[.int .i64 b.makes, .int .i64 b.per, .int .i64 b.time, .slice b.addr b.needs.length b.cap, .int .i64 b.copy, .int .i64 b.study, .int .i64 b.most], .int .i64 x, .int .i64 y] W fun e w' => e = .returned (.tuple #[.int .i64 (timeV b x y).1, .int .i64 (timeV b x y).2]) ∧ Below W.heap.size W w') := fun W h => refTime_any b x y W (HB.out.below h)
  have C8 : Hid (∀ W : World, Below w.heap.size w W → Calls Try.prog 15 #[.agg #[.int .i64 b.makes, .int .i64 b.per, .int .i64 b.time, .slice b.addr b.needs.length b.cap, .int .i64 b.copy, .int .i64 b.study, .int .i64 b.most], .int .i64 x] W fun e w' => e = .returned (.int .i64 (bchk b x)) ∧ Below W.heap.size W w') := fun W h => check_any b x W (HB.out.below h)
  have C9 : Hid (∀ W : World, Below w.heap.size w W → Calls Try.prog 16 #[.agg #[.int .i64 b.makes, .int .i64 b.per, .int .i64 b.time, .slice b.addr b.needs.length b.cap, .int .i64 b.copy, .int .i64 b.study, .int .i64 b.most], .int .i64 x] W fun e w' => e = .returned (.int .i64 (bchk b x)) ∧ Below W.heap.size W w') := fun W h => refCheck12_any b x W (HB.out.below h)
  have C10 : Hid (∀ W : World, Below w.heap.size w W → Calls Try.prog 15 #[.agg #[.int .i64 b.makes, .int .i64 b.per, .int .i64 b.time, .slice b.addr b.needs.length b.cap, .int .i64 b.copy, .int .i64 b.study, .int .i64 b.most], .int .i64 32] W fun e w' => e = .returned (.int .i64 (bchk b 32)) ∧ Below W.heap.size W w') := fun W h => check_any b 32 W (HB.out.below h)
  have C11 : Hid (∀ W : World, Below w.heap.size w W → Calls Try.prog 16 #[.agg #[.int .i64 b.makes, .int .i64 b.per, .int .i64 b.time, .slice b.addr b.needs.length b.cap, .int .i64 b.copy, .int .i64 b.study, .int .i64 b.most], .int .i64 32] W fun e w' => e = .returned (.int .i64 (bchk b 32)) ∧ Below W.heap.size W w') := fun W h => refCheck12_any b 32 W (HB.out.below h)
  have C7 : Hid (∀ (W : World) a1 c1 a2 c2, Stks W a1 (needsV b x y).1 → Stks W a2 (needsV b x y).1 → Calls Try.prog 14 #[.slice a1 (needsV b x y).1.length c1, .slice a2 (needsV b x y).1.length c2] W fun e w' => e = .returned (.bool true) ∧ Below W.heap.size W w') := fun W a1 c1 a2 c2 h1 h2 => by
    have hl := needsV_small b x y HB.out.1
    refine (same_any a1 a2 c1 c2 _ _ (by omega) (by omega) W h1 h2).mono fun e w' ⟨h3, h4⟩ => ⟨?_, h4⟩
    rw [h3, decide_eq_true rfl]
  generalize (needsV b x y).1 = Vl at *
  generalize (needsV b x y).2 = Ve at *
  generalize (makesV b y).1.1 = p1 at *
  generalize (makesV b y).1.2 = p2 at *
  generalize (makesV b y).2 = Vm at *
  generalize (timeV b x y).1 = Vt at *
  generalize (timeV b x y).2 = Vu at *
  generalize bchk b x = K1 at *
  generalize bchk b 32 = K2 at *
  unfold BlueIn.val
  go_enter Try.func3, Try.ntmps3
  go_upto_region 9 with (first
    | (go_at_call 8; ((with_reducible refine (C1.out _ hbw.out).mono ?_); rintro e w1 ⟨a1, k1, rfl, HS1, hb1⟩; have hB1 := Lib.hid (hbw.out.trans (hb1.mono (by simp))); have X1 := Lib.hid (boxed_first hb1); have s1 := Lib.hid (box_lt hb1); obtain ⟨c0, c1, c2, c3, c4, c5, c6⟩ := X1.out))
    | (go_at_call 9; ((with_reducible refine (C2.out _ hB1.out).mono ?_); rintro e w2 ⟨a2, k2, rfl, HT2, hb2⟩; have hB2 := Lib.hid (below2 hB1.out hb2); have X2 := Lib.hid (boxed_next hb2 s1.out X1.out); have s2 := Lib.hid (lt_next hb2 s1.out); clear c0 c1 c2 c3 c4 c5 c6; obtain ⟨c0, c1, c2, c3, c4, c5, c6⟩ := X2.out; have HS2 := Lib.hid (HS1.out.below hb2)))
    | (go_at_call 10; ((with_reducible refine (C3.out _ hB2.out).mono ?_); rintro e w3 ⟨rfl, hb3⟩; have hB3 := Lib.hid (below2 hB2.out hb3); have X3 := Lib.hid (boxed_next hb3 s2.out X2.out); have s3 := Lib.hid (lt_next hb3 s2.out); clear c0 c1 c2 c3 c4 c5 c6; obtain ⟨c0, c1, c2, c3, c4, c5, c6⟩ := X3.out; have HS3 := Lib.hid (HS2.out.below hb3); have HT3 := Lib.hid (HT2.out.below hb3); have lt3 := s3.out))
    | (go_at_call 11; ((with_reducible refine (C4.out _ (below_al hB3.out _)).mono ?_); rintro e w4 ⟨rfl, hb4⟩; have hB4 := Lib.hid (below2 (below_al hB3.out _) hb4); have X4 := Lib.hid (boxed_next hb4 (lt_alloc _ s3.out) (boxed_alloc _ s3.out X3.out)); have s4 := Lib.hid (lt_next hb4 (lt_alloc _ s3.out)); clear c0 c1 c2 c3 c4 c5 c6; obtain ⟨c0, c1, c2, c3, c4, c5, c6⟩ := X4.out; have HS4 := Lib.hid ((HS3.out.below ((Below.refl _ _).alloc (Nat.le_refl _) _)).below hb4); have HT4 := Lib.hid ((HT3.out.below ((Below.refl _ _).alloc (Nat.le_refl _) _)).below hb4); have R4 := Lib.hid (And.intro (box_cell hb4 0) (box_cell hb4 1)); have t4 := Lib.hid (box_lt hb4); have lt4 := s4.out))
    | (go_at_call 12; ((with_reducible refine (C5.out _ (below_al hB4.out _)).mono ?_); rintro e w5 ⟨rfl, hb5⟩; have hB5 := Lib.hid (below2 (below_al hB4.out _) hb5); have X5 := Lib.hid (boxed_next hb5 (lt_alloc _ s4.out) (boxed_alloc _ s4.out X4.out)); have s5 := Lib.hid (lt_next hb5 (lt_alloc _ s4.out)); clear c0 c1 c2 c3 c4 c5 c6; obtain ⟨c0, c1, c2, c3, c4, c5, c6⟩ := X5.out; have HN5 : Hid (NH w b w3.heap.size w4.heap.size p1 p2 a1 a2 Vl w5) := ⟨hB5.out, s5.out, Nat.lt_trans t4.out (box_lt hb5), box_lt hb5, (HS4.out.below ((Below.refl _ _).alloc (Nat.le_refl _) _)).below hb5, (HT4.out.below ((Below.refl _ _).alloc (Nat.le_refl _) _)).below hb5, X5.out, (box_old hb5 t4.out 0).trans R4.out.1, (box_old hb5 t4.out 1).trans R4.out.2, box_cell hb5 0, box_cell hb5 1⟩))
    | (go_at_call 13; ((with_reducible refine (C6.out _ hB5.out).mono ?_); rintro e w6 ⟨rfl, hb6⟩; have hB6 := Lib.hid (below2 hB5.out hb6); have X6 := Lib.hid (boxed_next hb6 s5.out X5.out); have s6 := Lib.hid (lt_next hb6 s5.out); clear c0 c1 c2 c3 c4 c5 c6; obtain ⟨c0, c1, c2, c3, c4, c5, c6⟩ := X6.out; have HN6 := Lib.hid (nh_next HN5.out hb6))))
  have HN6 := Lib.hid (nh_drew HN6.out)
  go_region_held3 (fun W' => W'.cell? ⟨w.heap.size, 0, none⟩ = some (.int .i64 b.makes) ∧ W'.cell? ⟨w.heap.size, 1, none⟩ = some (.int .i64 b.per) ∧ W'.cell? ⟨w.heap.size, 2, none⟩ = some (.int .i64 b.time) ∧ W'.cell? ⟨w.heap.size, 3, none⟩ = some (.slice b.addr b.needs.length b.cap) ∧ W'.cell? ⟨w.heap.size, 4, none⟩ = some (.int .i64 b.copy) ∧ W'.cell? ⟨w.heap.size, 5, none⟩ = some (.int .i64 b.study) ∧ W'.cell? ⟨w.heap.size, 6, none⟩ = some (.int .i64 b.most) ∧ W'.cell? ⟨w3.heap.size, 0, none⟩ = some (.int .i64 p1) ∧ W'.cell? ⟨w3.heap.size, 1, none⟩ = some (.int .i64 p2) ∧ W'.cell? ⟨w4.heap.size, 0, none⟩ = some (.int .i64 p1) ∧ W'.cell? ⟨w4.heap.size, 1, none⟩ = some (.int .i64 p2) ∧ Hid (NH w b w3.heap.size w4.heap.size p1 p2 a1 a2 Vl W')) (first | exact nh_flat HN12 | exact nh_flat HN11 | exact nh_flat HN10 | exact nh_flat HN9 | exact nh_flat HN8 | exact nh_flat HN7 | exact nh_flat HN6)
    (first
    | (go_at_call 7; (have tok := HN11; (with_reducible refine (awake_any _).mono ?_); rintro e w12 ⟨rfl, hb12⟩; clear tok; have HN12 := Lib.hid (nh_next HN11.out hb12)))
    | (go_at_call 16; (have tok := HN10; (with_reducible refine (C11.out _ (nh_b HN10.out)).mono ?_); rintro e w11 ⟨rfl, hb11⟩; clear tok; have HN11 := Lib.hid (nh_next HN10.out hb11)))
    | (go_at_call 15; (have tok := HN9; (with_reducible refine (C10.out _ (nh_b HN9.out)).mono ?_); rintro e w10 ⟨rfl, hb10⟩; clear tok; have HN10 := Lib.hid (nh_next HN9.out hb10)))
    | (go_at_call 16; (have tok := HN8; (with_reducible refine (C9.out _ (nh_b HN8.out)).mono ?_); rintro e w9 ⟨rfl, hb9⟩; clear tok; have HN9 := Lib.hid (nh_next HN8.out hb9)))
    | (go_at_call 15; (have tok := HN7; (with_reducible refine (C8.out _ (nh_b HN7.out)).mono ?_); rintro e w8 ⟨rfl, hb8⟩; clear tok; have HN8 := Lib.hid (nh_next HN7.out hb8)))
    | (go_at_call 14; (have tok := HN6; (with_reducible refine (C7.out _ _ _ _ _ (nh_s HN6.out) (nh_t HN6.out)).mono ?_); rintro e w7 ⟨rfl, hb7⟩; clear tok; have HN7 := Lib.hid (nh_next HN6.out hb7))))
  go_wp2
  go_ret
  exact ⟨rfl, nh_b HN12.out⟩
end Rec
end Go.Proofs.Ytblefohjnmmpmaa
