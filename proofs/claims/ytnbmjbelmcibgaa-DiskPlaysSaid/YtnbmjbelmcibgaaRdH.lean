/- The document's disk: bytes are put behind a file: the walk. -/
import Derived.Test.YtnbmjbelmcibgaaRdG
set_option linter.unusedSimpArgs false
set_option linter.unusedVariables false
namespace Go.Proofs.Ytnbmjbelmcibgaa
open Go.RowKit Go.Great Go.Maps
namespace Dsk
set_option maxRecDepth 100000 in
set_option maxHeartbeats 8000000 in
theorem rappend_any (w : World) (g B : Nat) (v : Value) (d : DkIn) (h : RD w g B v d) (hd : Dok d) (hn : d.files.length < 80000) (s b : ByteArray) (hs : s.size ≤ 1000000000) (hbs' : b.size ≤ 1000000000) (hb : bytesOf d.files ≤ 1000000000) : Calls Try.prog 32 #[.pointer (some ⟨g, 0, none⟩), .string s, .string b] w fun e w' => e = .returned (.int .i64 (appendV d s.data.toList b.data.toList).1) ∧ (∃ v', Hid (RD w' g B v' (appendV d s.data.toList b.data.toList).2)) ∧ Hid (Below B w w') := by
  have HP := Lib.hid h
  have hbs := h.hB
  have hlo := h.lo
  have CN : Hid (∀ W, Calls Try.prog 41 #[.string s] W fun e w' => e = .returned (.bool (isName s.data.toList)) ∧ Below W.heap.size W w') := fun W => refName_any s hs W
  have CU : Hid (∀ W, RD W g B v d → Calls Try.prog 20 #[.pointer (some ⟨g, 0, none⟩)] W fun e w' => e = .returned (.int .i64 (usedV d)) ∧ w' = W) := fun W h => (rused_any W g B v d h (by omega) hb).mono fun e w' ⟨he, hw⟩ => ⟨he, hw.symm⟩
  have HLB : Hid (b.data.toList.length = b.size) := sz_str b
  obtain ⟨c0, c1, -, -, -, c5⟩ := h.cells
  have hgl := h.lt
  clear h
  cases hdd : d.dead with
  | true =>
    have e : appendV d s.data.toList b.data.toList = (14, d) := by unfold appendV; rw [hdd, if_pos rfl]
    rw [e]
    rw [hdd] at c5
    go_enter Try.func32, Try.ntmps32
    go_wp2
    go_ret
    exact ⟨rfl, ⟨_, HP.out⟩, Below.refl _ _⟩
  | false =>
    rw [hdd] at c5
    cases hnm : isName s.data.toList with
    | false =>
      have e : appendV d s.data.toList b.data.toList = (1, d) := by unfold appendV; rw [hdd, if_neg (by decide), if_pos hnm]
      rw [e]
      rw [hnm] at CN
      go_enter Try.func32, Try.ntmps32
      go_wp2_with (go_at_call 41; (with_reducible refine (CN.out _).mono ?_); rintro e w1 ⟨rfl, hb1⟩; have HB1 := Lib.hid hb1; have HP1 := Lib.hid (HP.out.below hb1); clear hb1)
      go_ret
      exact ⟨rfl, ⟨_, HP1.out⟩, HB1.out.mono hbs⟩
    | true =>
      rw [hnm] at CN
      obtain ⟨hr0, hr1⟩ := hd.room
      have hu0 : 0 ≤ usedV d ∧ usedV d ≤ 1000000000 := by unfold usedV; split <;> omega
      obtain ⟨U, hU⟩ : ∃ U, Hid (usedV d = U) := ⟨_, rfl⟩
      rw [hU.out] at hu0 CU
      obtain ⟨hu1, hu2⟩ := hu0
      have ew : IntKind.i64.wrap (d.room - U) = d.room - U := by rw [IntKind.wrap_i64]; omega
      by_cases hf : d.room - U < (b.size : Int)
      · have df : decide (d.room - U < (b.size : Int)) = true := decide_eq_true hf
        have e3 : appendV d s.data.toList b.data.toList = (4, d) := by unfold appendV; rw [hdd, if_neg (by decide), if_neg (by rw [hnm]; decide), hU.out, HLB.out, if_pos hf]
        rw [e3]
        go_enter Try.func32, Try.ntmps32
        go_upto_region 5 with (go_at_call 41; (with_reducible refine (CN.out _).mono ?_); rintro e w1 ⟨rfl, hb1⟩; have HB1 := Lib.hid hb1; have HP1 := Lib.hid (HP.out.below hb1); clear hb1)
        obtain ⟨-, p1, -⟩ := HP1.out.cells
        go_quiet ((go_at_call 20; exact Calls.quiet_of_same (CU.out _ (HP1.out.below (below_dN (Below.refl _ _) _)))))
        go_wp2
        go_ret
        exact ⟨rfl, ⟨_, HP1.out.below (below_dN (Below.refl _ _) nq)⟩, (below_dN HB1.out nq).mono hbs⟩
      · have df : decide (d.room - U < (b.size : Int)) = false := decide_eq_false hf
        obtain ⟨f, hff⟩ : ∃ f, Hid ((find s.data.toList d.files).getD ⟨s.data.toList, [], 0⟩ = f) := ⟨_, rfl⟩
        have e3 : appendV d s.data.toList b.data.toList = ((opV { d with files := putF ⟨s.data.toList, f.by' ++ b.data.toList, f.sure⟩ d.files }).2.1, (opV { d with files := putF ⟨s.data.toList, f.by' ++ b.data.toList, f.sure⟩ d.files }).2.2) := by
          unfold appendV
          rw [hdd, if_neg (by decide), if_neg (by rw [hnm]; decide), hU.out, HLB.out, if_neg hf, hff.out]
        have hok : Dok { d with files := putF ⟨s.data.toList, f.by' ++ b.data.toList, f.sure⟩ d.files } := ⟨hd.fok.put _ hnm (by rw [← hff.out]; exact more_ok hd.fok _ _), hd.room, hd.ops, hd.last⟩
        have CP : Hid (∀ W v, RD W g B v d → Calls Try.prog 43 #[.pointer (some ⟨g, 0, none⟩), .agg #[.string s, .string ⟨(f.by' ++ b.data.toList).toArray⟩, .int .i64 f.sure]] W fun e w' => e = .returned (.tuple #[]) ∧ (∃ v', Hid (RD w' g B v' { d with files := putF ⟨s.data.toList, f.by' ++ b.data.toList, f.sure⟩ d.files })) ∧ Hid (Bx g g W w')) := fun W v h => rput_any W g B v _ h (by omega) ⟨s.data.toList, f.by' ++ b.data.toList, f.sure⟩
        rw [e3]
        clear e3
        generalize ({ d with files := putF ⟨s.data.toList, f.by' ++ b.data.toList, f.sure⟩ d.files } : DkIn) = d2 at *
        have CO : Hid (∀ W v, RD W g B v d2 → Calls Try.prog 44 #[.pointer (some ⟨g, 0, none⟩)] W fun e w' => e = .returned (.tuple #[.bool (opV d2).1, .int .i64 (opV d2).2.1]) ∧ Hid (RD w' g B v (opV d2).2.2) ∧ Hid (Bx g g W w')) := fun W v h => rop_any W g B v d2 h hok
        have qs : (⟨f.by'.toArray⟩ : ByteArray) ++ b = ⟨(f.by' ++ b.data.toList).toArray⟩ := by
          apply ByteArray.ext
          simp
        cases hfi : find s.data.toList d.files with
        | none =>
          have hfe : f = ⟨s.data.toList, [], 0⟩ := by rw [← hff.out, hfi]; rfl
          subst hfe
          dsimp only at *
          have CF : Hid (∀ W, RD W g B v d → Calls Try.prog 42 #[.pointer (some ⟨g, 0, none⟩), .string s] W fun e w' => e = .returned (.int .i64 (-1)) ∧ W = w') := fun W h => rfind_none W g B v d h (by omega) s hfi
          go_enter Try.func32, Try.ntmps32
          go_upto_region 5 with (go_at_call 41; (with_reducible refine (CN.out _).mono ?_); rintro e w1 ⟨rfl, hb1⟩; have HB1 := Lib.hid hb1; have HP1 := Lib.hid (HP.out.below hb1); clear hb1)
          obtain ⟨-, p1, -⟩ := HP1.out.cells
          go_quiet ((go_at_call 20; exact Calls.quiet_of_same (CU.out _ (HP1.out.below (below_dN (Below.refl _ _) _)))))
          have HP2 : Hid (RD (w1.drewN nq) g B v d) := HP1.out.below (below_dN (Below.refl _ _) nq)
          have HB2 : Hid (Below w.heap.size w (w1.drewN nq)) := below_dN HB1.out nq
          generalize w1.drewN nq = w2 at *
          obtain ⟨p0, -⟩ := HP2.out.cells
          have CPn : Hid (∀ W v, RD W g B v d → Calls Try.prog 43 #[.pointer (some ⟨g, 0, none⟩), .agg #[.string s, .string ⟨b.data⟩, .int .i64 0]] W fun e w' => e = .returned (.tuple #[]) ∧ (∃ v', Hid (RD w' g B v' d2)) ∧ Hid (Bx g g W w')) := CP.out
          go_wp2_with (first
            | (go_at_call 42; (with_reducible refine (CF.out _ (HP2.out.below (below_al (Below.refl _ _) _))).mono ?_); rintro e w3 ⟨rfl, rfl⟩)
            | (go_at_call 43; (with_reducible refine (CPn.out _ _ (HP2.out.below (below_al (Below.refl _ _) _))).mono ?_); rintro e w4 ⟨rfl, ⟨v4, HP4⟩, HX4⟩)
            | (go_at_call 44; (with_reducible refine (CO.out _ _ HP4.out).mono ?_); rintro e w5 ⟨rfl, HP5, HX5⟩))
          go_ret
          have hb2 : B ≤ w2.heap.size := Nat.le_trans hbs HB2.out.size
          have hb4 : B ≤ w4.heap.size := Nat.le_trans hb2 (by have := HX4.out.size; simp at this; omega)
          exact ⟨rfl, ⟨_, HP5.out⟩, (((HB2.out.mono hbs).trans ((below_al (Below.refl w2.heap.size w2) _).mono hb2)).trans (toB HX4.out (by simp; omega) hlo)).trans (toB HX5.out hb4 hlo)⟩
        | some f' =>
          have hfe : f = f' := by rw [← hff.out, hfi]; rfl
          subst hfe
          obtain ⟨k, hk, ek, hr⟩ := found_some hd.fok hfi
          have CF : Hid (∀ W, RD W g B v d → Calls Try.prog 42 #[.pointer (some ⟨g, 0, none⟩), .string s] W fun e w' => e = .returned (.int .i64 (k : Int)) ∧ W = w') := fun W h => (rfind_any W g B v d h (by omega) s).mono fun e w' ⟨⟨r, he, h1⟩, hw⟩ => ⟨by rw [he, hr r h1], hw.symm⟩
          obtain ⟨L, hL⟩ : ∃ L, Hid (d.files.length = L) := ⟨_, rfl⟩
          obtain ⟨a, cap, rfl, HR⟩ := HP.out.form hL.out
          obtain ⟨gv, rfl, hg1, hg2, hg3, x0, x1, x2⟩ := HR k hk
          rw [ek] at x0 x1 x2
          have hfn : f.nm = s.data.toList := ((find_some hd.fok.rise _ f).1 hfi).2
          rw [hfn] at x0
          have HXS := Lib.hid (And.intro x0 (And.intro x1 x2))
          have hk0 : (0 : Int) ≤ (k : Int) := by omega
          have hk1 : decide ((0 : Int) ≤ (k : Int)) = true := decide_eq_true hk0
          have hkL : (k : Int) < (L : Int) := by have := hL.out; omega
          have hcat : ¬ 9223372036854775807 < f.by'.length + b.size := by
            have := bytes_mem ((find_some hd.fok.rise _ f).1 hfi).1
            omega
          clear hr HR x0 x1 x2
          go_enter Try.func32, Try.ntmps32
          go_upto_region 5 with (go_at_call 41; (with_reducible refine (CN.out _).mono ?_); rintro e w1 ⟨rfl, hb1⟩; have HB1 := Lib.hid hb1; have HP1 := Lib.hid (HP.out.below hb1); clear hb1)
          obtain ⟨-, p1, -⟩ := HP1.out.cells
          go_quiet ((go_at_call 20; exact Calls.quiet_of_same (CU.out _ (HP1.out.below (below_dN (Below.refl _ _) _)))))
          have HP2 : Hid (RD (w1.drewN nq) g B _ d) := HP1.out.below (below_dN (Below.refl _ _) nq)
          have HB2 : Hid (Below w.heap.size w (w1.drewN nq)) := below_dN HB1.out nq
          generalize w1.drewN nq = w2 at *
          obtain ⟨p0, -⟩ := HP2.out.cells
          have y0 := (HB2.out.cell (p := ⟨gv, k * 3, none⟩) hg2).trans HXS.out.1
          have y1 := (HB2.out.cell (p := ⟨gv, k * 3 + 1, none⟩) hg2).trans HXS.out.2.1
          have y2 := (HB2.out.cell (p := ⟨gv, k * 3 + 2, none⟩) hg2).trans HXS.out.2.2
          have hgv2 : gv < w2.heap.size := Nat.lt_of_lt_of_le hg2 HB2.out.size
          have hgl2 := HP2.out.lt
          have CPn : Hid (∀ W v, RD W g B v d → Calls Try.prog 43 #[.pointer (some ⟨g, 0, none⟩), .agg #[.string ⟨s.data⟩, .string ⟨(f.by' ++ b.data.toList).toArray⟩, .int .i64 f.sure]] W fun e w' => e = .returned (.tuple #[]) ∧ (∃ v', Hid (RD w' g B v' d2)) ∧ Hid (Bx g g W w')) := CP.out
          go_wp2_with (first
            | (go_at_call 43; (with_reducible refine (CPn.out _ _ (HP2.out.below (below_al (Below.refl _ _) _))).mono ?_); rintro e w4 ⟨rfl, ⟨v4, HP4⟩, HX4⟩)
            | (go_at_call 42; (with_reducible refine (CF.out _ (HP2.out.below (below_al (Below.refl _ _) _))).mono ?_); rintro e w3 ⟨rfl, rfl⟩)
            | (go_at_call 44; (with_reducible refine (CO.out _ _ HP4.out).mono ?_); rintro e w5 ⟨rfl, HP5, HX5⟩))
          go_ret
          have hb2 : B ≤ w2.heap.size := Nat.le_trans hbs HB2.out.size
          have hb4 : B ≤ w4.heap.size := Nat.le_trans hb2 (by have := HX4.out.size; simp at this; omega)
          exact ⟨rfl, ⟨_, HP5.out⟩, (((HB2.out.mono hbs).trans ((below_al (Below.refl w2.heap.size w2) _).mono hb2)).trans (toB HX4.out (by simp; omega) hlo)).trans (toB HX5.out hb4 hlo)⟩
end Dsk
end Go.Proofs.Ytnbmjbelmcibgaa
