/- Texts put together: CatLc. -/
import Derived.Test.YtfincohdchnniaaBm
import Derived.Test.YtfincohdchnniaaBq
import Derived.Test.YtfincohdchnniaaBo
import Derived.Test.YtfincohdchnniaaBf
import Derived.Deep.RegionHeld3
import Derived.Deep.QuietTactic
import Derived.BigQuiet
import Derived.ChangeKeysEq
set_option linter.all false
namespace Go.Proofs.Ytfincohdchnniaa
open Go.RowKit
namespace Cat
open Rec (BlueIn Stk Stks Came bchk inB stkVals stks_of_own stkVals_append)
open Gra (Prs)
open Pen (bs bs_append uintB uintS doneS below2 below_al below_dN uint_bounds)
/-- What came in. -/
structure ChkCame (w : World) (c : CatIn) : Prop where
  lies : Lies w c
  nums : Nums c
  bl : c.blues.length ≤ maxLen
  yl : c.bays.length ≤ maxLen
  nl : ∀ i, i < c.blues.length → (c.blues.getD i nob).needs.length ≤ maxLen
theorem cv_eight {w : World} {b : Nat} {c : CatIn} (h : w.rowIs b 27 8 (cv c)) : w.cell? ⟨b, 0, none⟩ = some (.int .i64 c.types) ∧ w.cell? ⟨b, 1, none⟩ = some (.slice c.baddr c.blues.length c.bcap) ∧ w.cell? ⟨b, 2, none⟩ = some (.int .i64 c.places) ∧ w.cell? ⟨b, 3, none⟩ = some (.slice c.yaddr c.bays.length c.ycap) ∧ w.cell? ⟨b, 4, none⟩ = some (.int .i64 c.chars) ∧ w.cell? ⟨b, 5, none⟩ = some (.int .i64 c.broker) ∧ w.cell? ⟨b, 6, none⟩ = some (.int .i64 c.least) ∧ w.cell? ⟨b, 7, none⟩ = some (.int .i64 c.sales) := row8 h
def c7x (a b c d e f g : Value) (i : Nat) : Value := if i = 0 then a else if i = 1 then b else if i = 2 then c else if i = 3 then d else if i = 4 then e else if i = 5 then f else g
def bv (b : BlueIn) : Nat → Value := c7x (.int .i64 b.makes) (.int .i64 b.per) (.int .i64 b.time) (.slice b.addr b.needs.length b.cap) (.int .i64 b.copy) (.int .i64 b.study) (.int .i64 b.most)
def yv (b : BayIn) : Nat → Value := fun i => if i = 0 then .int .i64 b.place else if i = 1 then .int .i64 b.make else if i = 2 then .int .i64 b.lab else .int .i64 b.rate
theorem bv_new {w : World} {g : Nat} (hg : w.heap.size = g) (b : BlueIn) : (w.alloc (.cells b.val 41)).rowIs g 41 7 (bv b) := by
  subst hg
  exact ⟨_, heap_alloc_new w _, rfl, fun i hi => by
    match i, hi with
    | 0, _ => rfl
    | 1, _ => rfl
    | 2, _ => rfl
    | 3, _ => rfl
    | 4, _ => rfl
    | 5, _ => rfl
    | 6, _ => rfl⟩
theorem yv_new {w : World} {g : Nat} (hg : w.heap.size = g) (b : BayIn) : (w.alloc (.cells b.val 50)).rowIs g 50 4 (yv b) := by
  subst hg
  exact ⟨_, heap_alloc_new w _, rfl, fun i hi => by
    match i, hi with
    | 0, _ => rfl
    | 1, _ => rfl
    | 2, _ => rfl
    | 3, _ => rfl⟩
/-- The boxes of a law's parts. -/
structure AR (w : World) (g2 g8 g10 g12 g14 : Nat) (c : CatIn) (E : BlueIn) (Y : BayIn) (W : World) : Prop where
  r2 : W.rowIs g2 27 8 (cv c)
  r8 : W.rowIs g8 41 7 (bv E)
  r10 : W.rowIs g10 41 7 (bv E)
  r12 : W.rowIs g12 50 4 (yv Y)
  r14 : W.rowIs g14 50 4 (yv Y)
  fr : Below w.heap.size w W
theorem AR.below {w W W' : World} {g2 g8 g10 g12 g14 : Nat} {c : CatIn} {E : BlueIn} {Y : BayIn} (h : AR w g2 g8 g10 g12 g14 c E Y W) (hb : Below W.heap.size W W') : AR w g2 g8 g10 g12 g14 c E Y W' :=
  ⟨h.r2.of_block (hb.block _ h.r2.lt), h.r8.of_block (hb.block _ h.r8.lt), h.r10.of_block (hb.block _ h.r10.lt), h.r12.of_block (hb.block _ h.r12.lt), h.r14.of_block (hb.block _ h.r14.lt), below2 h.fr hb⟩
theorem AR.drew {w W : World} {g2 g8 g10 g12 g14 : Nat} {c : CatIn} {E : BlueIn} {Y : BayIn} (h : AR w g2 g8 g10 g12 g14 c E Y W) : AR w g2 g8 g10 g12 g14 c E Y W.drew := ⟨h.r2, h.r8, h.r10, h.r12, h.r14, ⟨h.fr.os, h.fr.tape, h.fr.output, h.fr.size, h.fr.block⟩⟩
theorem ar_new {w w7 w8 : World} {g2 g8 g10 g12 : Nat} {c : CatIn} {E : BlueIn} {Y : BayIn} (hb : Below w7.heap.size w7 w8) (hw : Below w.heap.size w w8) (h2 : w7.rowIs g2 27 8 (cv c)) (h8 : w7.rowIs g8 41 7 (bv E)) (h10 : w7.rowIs g10 41 7 (bv E)) (h12 : w8.rowIs g12 50 4 (yv Y)) : AR w g2 g8 g10 g12 w8.heap.size c E Y (w8.alloc (.cells Y.val 50)) :=
  ⟨(h2.of_block (hb.block _ h2.lt)).alloc _, (h8.of_block (hb.block _ h8.lt)).alloc _, (h10.of_block (hb.block _ h10.lt)).alloc _, h12.alloc _, yv_new rfl Y, below_al hw _⟩
theorem at_came {w : World} {c : CatIn} (hl : Lies w c) (hs : Small c) (n : Int) : Stks w (atB c.blues n).1.addr (atB c.blues n).1.needs ∧ (atB c.blues n).1.needs.length ≤ 12 := by
  unfold atB
  split
  · rename_i h
    unfold inB at h
    simp only [Bool.and_eq_true, decide_eq_true_eq] at h
    exact ⟨hl.2.2 _ (by omega), hs.2.2 _ (by omega)⟩
  · exact ⟨fun i hi => absurd hi (Nat.not_lt_zero _), Nat.zero_le _⟩
theorem ar_cells {w W : World} {g2 g8 g10 g12 g14 : Nat} {c : CatIn} {E : BlueIn} {Y : BayIn} (h : AR w g2 g8 g10 g12 g14 c E Y W) : W.cell? ⟨g2, 0, none⟩ = some (.int .i64 c.types) ∧ W.cell? ⟨g2, 1, none⟩ = some (.slice c.baddr c.blues.length c.bcap) ∧ W.cell? ⟨g2, 2, none⟩ = some (.int .i64 c.places) ∧ W.cell? ⟨g2, 3, none⟩ = some (.slice c.yaddr c.bays.length c.ycap) ∧ W.cell? ⟨g2, 4, none⟩ = some (.int .i64 c.chars) ∧ W.cell? ⟨g2, 5, none⟩ = some (.int .i64 c.broker) ∧ W.cell? ⟨g2, 6, none⟩ = some (.int .i64 c.least) ∧ W.cell? ⟨g2, 7, none⟩ = some (.int .i64 c.sales) ∧ W.cell? ⟨g8, 0, none⟩ = some (.int .i64 E.makes) ∧ W.cell? ⟨g8, 1, none⟩ = some (.int .i64 E.per) ∧ W.cell? ⟨g8, 2, none⟩ = some (.int .i64 E.time) ∧ W.cell? ⟨g8, 3, none⟩ = some (.slice E.addr E.needs.length E.cap) ∧ W.cell? ⟨g8, 4, none⟩ = some (.int .i64 E.copy) ∧ W.cell? ⟨g8, 5, none⟩ = some (.int .i64 E.study) ∧ W.cell? ⟨g8, 6, none⟩ = some (.int .i64 E.most) ∧ W.cell? ⟨g10, 0, none⟩ = some (.int .i64 E.makes) ∧ W.cell? ⟨g10, 1, none⟩ = some (.int .i64 E.per) ∧ W.cell? ⟨g10, 2, none⟩ = some (.int .i64 E.time) ∧ W.cell? ⟨g10, 3, none⟩ = some (.slice E.addr E.needs.length E.cap) ∧ W.cell? ⟨g10, 4, none⟩ = some (.int .i64 E.copy) ∧ W.cell? ⟨g10, 5, none⟩ = some (.int .i64 E.study) ∧ W.cell? ⟨g10, 6, none⟩ = some (.int .i64 E.most) ∧ W.cell? ⟨g12, 0, none⟩ = some (.int .i64 Y.place) ∧ W.cell? ⟨g12, 1, none⟩ = some (.int .i64 Y.make) ∧ W.cell? ⟨g12, 2, none⟩ = some (.int .i64 Y.lab) ∧ W.cell? ⟨g12, 3, none⟩ = some (.int .i64 Y.rate) ∧ W.cell? ⟨g14, 0, none⟩ = some (.int .i64 Y.place) ∧ W.cell? ⟨g14, 1, none⟩ = some (.int .i64 Y.make) ∧ W.cell? ⟨g14, 2, none⟩ = some (.int .i64 Y.lab) ∧ W.cell? ⟨g14, 3, none⟩ = some (.int .i64 Y.rate) := by
  obtain ⟨a0, a1, a2, a3, a4, a5, a6, a7⟩ := row8 h.r2
  obtain ⟨b0, b1, b2, b3, b4, b5, b6, -⟩ := row7 h.r8
  obtain ⟨d0, d1, d2, d3, d4, d5, d6, -⟩ := row7 h.r10
  exact ⟨a0, a1, a2, a3, a4, a5, a6, a7, b0, b1, b2, b3, b4, b5, b6, d0, d1, d2, d3, d4, d5, d6, h.r12.cell (i := 0) (by decide), h.r12.cell (i := 1) (by decide), h.r12.cell (i := 2) (by decide), h.r12.cell (i := 3) (by decide), h.r14.cell (i := 0) (by decide), h.r14.cell (i := 1) (by decide), h.r14.cell (i := 2) (by decide), h.r14.cell (i := 3) (by decide)⟩
set_option maxRecDepth 100000 in
theorem pair_eq (P Q : Int) (w : World) : (Op.equalIn 10000 46 (.agg #[.int .i64 P, .int .i64 Q]) (.agg #[.int .i64 P, .int .i64 Q])).run Try.prog w = .ok true w := by
  obtain ⟨i, hi, -, -, -⟩ := info_parts Gra.info3
  have hc : Try.prog.cellsOf 3 = 1 := by kernel_rfl
  refine (run_equalIn_array (P := Try.prog) (w := w) 9999 #[.int .i64 P, .int .i64 Q] #[.int .i64 P, .int .i64 Q] Try.underlying46 hi).trans ?_
  rw [hc]
  show (Op.eqItems 9999 3 1 _ _ [0, 1]).run _ _ = _
  simp only [Op.eqItems]
  go_simp
set_option maxRecDepth 100000 in
set_option maxHeartbeats 32000000 in
theorem checks_any {w : World} (v : Value) (c : CatIn) (hc : IsCat w v c) (n : Int) (hn : (Lit.int .i64 n).wf = true) :
    Calls Try.prog 5 #[v, .int .i64 n] w fun e w' => e = .returned (.bool true) ∧ Below w.heap.size w w' := by
  obtain ⟨rfl, h1, h2, h3, h4, h5⟩ := hc
  have HI : ChkCame w c := ⟨h1, h2, h3, h4, h5⟩
  clear h1 h2 h3 h4 h5
  have CA : Hid (∀ W, Calls Try.prog 7 #[] W fun e w' => e = .returned (.bool true) ∧ Below W.heap.size W w') := fun W => awake_any W
  unfold CatIn.val
  go_enter Try.func5, Try.ntmps5
  go_wp2_with (first
    | (go_at_call 6; (have CX : Hid (Calls Try.prog 6 #[.agg #[.int .i64 c.types, .slice c.baddr c.blues.length c.bcap, .int .i64 c.places, .slice c.yaddr c.bays.length c.ycap, .int .i64 c.chars, .int .i64 c.broker, .int .i64 c.least, .int .i64 c.sales]] (w.alloc (.cells #[.int .i64 c.types, .slice c.baddr c.blues.length c.bcap, .int .i64 c.places, .slice c.yaddr c.bays.length c.ycap, .int .i64 c.chars, .int .i64 c.broker, .int .i64 c.least, .int .i64 c.sales] 27)) fun e w' => ∃ b : Bool, e = .returned (.bool b) ∧ Hid (b = true → Small c) ∧ Below (w.alloc (.cells #[.int .i64 c.types, .slice c.baddr c.blues.length c.bcap, .int .i64 c.places, .slice c.yaddr c.bays.length c.ycap, .int .i64 c.chars, .int .i64 c.broker, .int .i64 c.least, .int .i64 c.sales] 27)).heap.size (w.alloc (.cells #[.int .i64 c.types, .slice c.baddr c.blues.length c.bcap, .int .i64 c.places, .slice c.yaddr c.bays.length c.ycap, .int .i64 c.chars, .int .i64 c.broker, .int .i64 c.least, .int .i64 c.sales] 27)) w') := (Few_any c _ (HI.lies.below (below_al (Below.refl _ _) _)) HI.bl HI.yl HI.nl)); (with_reducible refine CX.out.mono ?_); rintro e w1 ⟨b, rfl, HS, hb1⟩; have R2 := Lib.hid ((cv_new rfl c).of_block (hb1.block _ (by simp))); have HB1 : Hid (Below w.heap.size w w1) := below2 (below_al (Below.refl _ _) _) hb1; clear hb1 CX; cases b)
    | (go_at_call 7; (with_reducible refine (CA.out _).mono ?_); rintro e w10 ⟨rfl, hb10⟩; have HBA := Lib.hid hb10; clear hb10))
  · go_ret
    exact ⟨rfl, below2 HB1.out HBA.out⟩
  · have HSM : Hid (Small c) := HS.out (by first | trivial | rfl)
    have hH0 := cv_eight R2.out
    go_region_held3 (fun W' => W'.cell? ⟨w.heap.size, 0, none⟩ = some (.int .i64 c.types) ∧ W'.cell? ⟨w.heap.size, 1, none⟩ = some (.slice c.baddr c.blues.length c.bcap) ∧ W'.cell? ⟨w.heap.size, 2, none⟩ = some (.int .i64 c.places) ∧ W'.cell? ⟨w.heap.size, 3, none⟩ = some (.slice c.yaddr c.bays.length c.ycap) ∧ W'.cell? ⟨w.heap.size, 4, none⟩ = some (.int .i64 c.chars) ∧ W'.cell? ⟨w.heap.size, 5, none⟩ = some (.int .i64 c.broker) ∧ W'.cell? ⟨w.heap.size, 6, none⟩ = some (.int .i64 c.least) ∧ W'.cell? ⟨w.heap.size, 7, none⟩ = some (.int .i64 c.sales)) (first | (with_reducible assumption) | go_keep) (first
      | (go_at_call 14; (have CX : Hid (Calls Try.prog 14 #[.agg #[.int .i64 c.types, .slice c.baddr c.blues.length c.bcap, .int .i64 c.places, .slice c.yaddr c.bays.length c.ycap, .int .i64 c.chars, .int .i64 c.broker, .int .i64 c.least, .int .i64 c.sales]] w1.drew fun e w' => ∃ v, e = .returned v ∧ Hid (w'.ownsRow (w1.drew.heap.size + 1) 46 2 v (needsOf c.blues).length (Rec.stkVals (needsOf c.blues))) ∧ Hid (Below w1.drew.heap.size w1.drew w')) := (Needs_any c _ ⟨HI.lies.below ⟨HB1.out.os, HB1.out.tape, HB1.out.output, HB1.out.size, HB1.out.block⟩, HSM.out, HI.nums⟩)); (with_reducible refine CX.out.mono ?_); rintro e w2 ⟨v1, rfl, HO1, HN1⟩; have R2b := Lib.hid (World.rowIs.of_block (World.rowIs.drew R2.out) (HN1.out.block _ R2.out.lt)); have HB2 : Hid (Below w.heap.size w w2) := below2 (b := w2) (a := w1.drew) ⟨HB1.out.os, HB1.out.tape, HB1.out.output, HB1.out.size, HB1.out.block⟩ HN1.out; have hS2 := cv_eight R2b.out; clear CX)
      | (go_at_call 15; (have CX : Hid (Calls Try.prog 15 #[.agg #[.int .i64 c.types, .slice c.baddr c.blues.length c.bcap, .int .i64 c.places, .slice c.yaddr c.bays.length c.ycap, .int .i64 c.chars, .int .i64 c.broker, .int .i64 c.least, .int .i64 c.sales]] w2 fun e w' => ∃ v, e = .returned v ∧ Hid (w'.ownsRow (w2.heap.size + 1) 46 2 v (needsOf c.blues).length (Rec.stkVals (needsOf c.blues))) ∧ Hid (Below w2.heap.size w2 w')) := (refNeeds_any c _ ⟨HI.lies.below HB2.out, HSM.out, HI.nums⟩)); (with_reducible refine CX.out.mono ?_); rintro e w3 ⟨v2, rfl, HO2, HN2⟩; have R2c := Lib.hid (R2b.out.of_block (HN2.out.block _ R2b.out.lt)); have HB3 : Hid (Below w.heap.size w w3) := below2 HB2.out HN2.out; have hS3 := cv_eight R2c.out; clear CX))
    clear hH0 hS2 hS3
    obtain ⟨a1, cap1, rfl, HP1⟩ := prs_of_own HO1.out
    obtain ⟨a2, cap2, rfl, HP2⟩ := prs_of_own HO2.out
    have HQ1 := Lib.hid (HP1.below HN2.out)
    have HQ2 := Lib.hid HP2
    have hL2 : (needsOf c.blues).length ≤ 240 := by
      have h := needsOf_take (i := c.blues.length) HSM.out.1 HSM.out.2.2
      rwa [List.take_length] at h
    obtain ⟨L, hL⟩ : ∃ L, Hid ((needsOf c.blues).length = L) := ⟨_, rfl⟩
    rw [hL.out] at hL2 ⊢
    have hLi : (L : Int) ≤ 240 := by omega
    clear HP1 HP2 HO1 HO2 HN1 HN2 R2 R2b HB2
    go_wp2
    go_loopw [7] (fun v7 wr => ∃ i : Nat, i ≤ L ∧ v7 = .int .i64 (i : Int) ∧ Hid (wr.rowIs w.heap.size 27 8 (cv c)) ∧ Hid (Below w3.heap.size w3 wr)) (fun v7 _ => L - (intOf v7).toNat)
    case atStart => exact ⟨0, by omega, rfl, R2c, Below.refl _ _⟩
    case round =>
      obtain ⟨i, hi, rfl, HR, HBq⟩ := hrel
      by_cases hlt : i < L
      · obtain ⟨b, off, rfl, hbl, c0, c1⟩ := (HQ1.out.below HBq.out) i (by rw [hL.out]; exact hlt)
        obtain ⟨b2, off2, rfl, hbl2, e0, e1⟩ := (HQ2.out.below HBq.out) i (by rw [hL.out]; exact hlt)
        generalize ((needsOf c.blues).getD i (0, 0)).1 = P at *
        generalize ((needsOf c.blues).getD i (0, 0)).2 = Q at *
        have hlt1 : (i : Int) < (L : Int) := by omega
        have hi0 : (0 : Int) ≤ (i : Int) := by omega
        have HPE := pair_eq P Q
        clear hlt
        go_wp2
        go_quiet (fail)
        go_wp2
        go_roundw
        case rel => exact ⟨i + 1, by omega, by go_num, HR, below_dN HBq.out _⟩
        case measure => simp [intOf]; omega
      · have hge : ¬ (i : Int) < (L : Int) := by omega
        have HBr : Hid (Below w.heap.size w wr) := below2 HB3.out HBq.out
        obtain ⟨⟨E, eb⟩, HEB⟩ : ∃ r, Hid (atB c.blues n = r) := ⟨_, rfl⟩
        obtain ⟨⟨Y, ey⟩, HEY⟩ : ∃ r, Hid (atY c.bays n = r) := ⟨_, rfl⟩
        obtain ⟨K, HK⟩ : ∃ r, Hid (chkC c = r) := ⟨_, rfl⟩
        have HEC : Hid (Stks w E.addr E.needs ∧ E.needs.length ≤ 12) := by
          have h := at_came HI.lies HSM.out n
          rw [HEB.out] at h
          exact h
        clear hlt HQ1 HQ2 R2c
        (obtain ⟨a0, ax1, ax2, a3, a4, a5, a6, a7, a8⟩ := cv_cells HR.out)
        go_wp2_with (first
          | (go_at_call 16; (have CX : Hid (Calls Try.prog 16 #[.agg #[.int .i64 c.types, .slice c.baddr c.blues.length c.bcap, .int .i64 c.places, .slice c.yaddr c.bays.length c.ycap, .int .i64 c.chars, .int .i64 c.broker, .int .i64 c.least, .int .i64 c.sales], .int .i64 n] wr fun e w' => e = .returned (.tuple #[.agg #[.int .i64 E.makes, .int .i64 E.per, .int .i64 E.time, .slice E.addr E.needs.length E.cap, .int .i64 E.copy, .int .i64 E.study, .int .i64 E.most], .int .i64 eb]) ∧ Below wr.heap.size wr w') := (by have h := Blue_any c n wr ⟨HI.lies.below HBr.out, HSM.out, HI.nums⟩; rw [HEB.out] at h; exact h)); (with_reducible refine CX.out.mono ?_); rintro e w5 ⟨rfl, hb5⟩; have R2e := Lib.hid (HR.out.of_block (hb5.block _ HR.out.lt)); have HB5 := Lib.hid (below2 HBr.out hb5); clear hb5 CX; clear a0 ax1 ax2 a3 a4 a5 a6 a7 a8; (obtain ⟨a0, a1, a2, a3, a4, a5, a6, a7, a8⟩ := cv_cells R2e.out))
          | (go_at_call 17; (have CX : Hid (Calls Try.prog 17 #[.agg #[.int .i64 c.types, .slice c.baddr c.blues.length c.bcap, .int .i64 c.places, .slice c.yaddr c.bays.length c.ycap, .int .i64 c.chars, .int .i64 c.broker, .int .i64 c.least, .int .i64 c.sales], .int .i64 n] (w5.alloc (.cells #[.int .i64 E.makes, .int .i64 E.per, .int .i64 E.time, .slice E.addr E.needs.length E.cap, .int .i64 E.copy, .int .i64 E.study, .int .i64 E.most] 41)) fun e w' => e = .returned (.tuple #[.agg #[.int .i64 E.makes, .int .i64 E.per, .int .i64 E.time, .slice E.addr E.needs.length E.cap, .int .i64 E.copy, .int .i64 E.study, .int .i64 E.most], .int .i64 eb]) ∧ Below (w5.alloc (.cells #[.int .i64 E.makes, .int .i64 E.per, .int .i64 E.time, .slice E.addr E.needs.length E.cap, .int .i64 E.copy, .int .i64 E.study, .int .i64 E.most] 41)).heap.size (w5.alloc (.cells #[.int .i64 E.makes, .int .i64 E.per, .int .i64 E.time, .slice E.addr E.needs.length E.cap, .int .i64 E.copy, .int .i64 E.study, .int .i64 E.most] 41)) w') := (by have h := refBlue_any c n (w5.alloc (.cells #[.int .i64 E.makes, .int .i64 E.per, .int .i64 E.time, .slice E.addr E.needs.length E.cap, .int .i64 E.copy, .int .i64 E.study, .int .i64 E.most] 41)) ⟨HI.lies.below (below_al HB5.out _), HSM.out, HI.nums⟩; rw [HEB.out] at h; exact h)); (with_reducible refine CX.out.mono ?_); rintro e w6 ⟨rfl, hb6⟩; have R2f := Lib.hid ((R2e.out.alloc _).of_block (hb6.block _ (by simp; have := R2e.out.lt; omega))); have R8 := Lib.hid ((bv_new (w := w5) rfl E).of_block (hb6.block _ (by simp))); have HB6 : Hid (Below w.heap.size w w6) := below2 (below_al HB5.out _) hb6; clear hb6 CX; clear a0 a1 a2 a3 a4 a5 a6 a7 a8; (obtain ⟨a0, a1, a2, a3, a4, a5, a6, a7, a8⟩ := cv_cells R2f.out))
          | (go_at_call 18; (have CX : Hid (Calls Try.prog 18 #[.agg #[.int .i64 c.types, .slice c.baddr c.blues.length c.bcap, .int .i64 c.places, .slice c.yaddr c.bays.length c.ycap, .int .i64 c.chars, .int .i64 c.broker, .int .i64 c.least, .int .i64 c.sales], .int .i64 n] (w6.alloc (.cells #[.int .i64 E.makes, .int .i64 E.per, .int .i64 E.time, .slice E.addr E.needs.length E.cap, .int .i64 E.copy, .int .i64 E.study, .int .i64 E.most] 41)) fun e w' => e = .returned (.tuple #[.agg #[.int .i64 Y.place, .int .i64 Y.make, .int .i64 Y.lab, .int .i64 Y.rate], .int .i64 ey]) ∧ Below (w6.alloc (.cells #[.int .i64 E.makes, .int .i64 E.per, .int .i64 E.time, .slice E.addr E.needs.length E.cap, .int .i64 E.copy, .int .i64 E.study, .int .i64 E.most] 41)).heap.size (w6.alloc (.cells #[.int .i64 E.makes, .int .i64 E.per, .int .i64 E.time, .slice E.addr E.needs.length E.cap, .int .i64 E.copy, .int .i64 E.study, .int .i64 E.most] 41)) w') := (by have h := Bay_any c n (w6.alloc (.cells #[.int .i64 E.makes, .int .i64 E.per, .int .i64 E.time, .slice E.addr E.needs.length E.cap, .int .i64 E.copy, .int .i64 E.study, .int .i64 E.most] 41)) ⟨HI.lies.below (below_al HB6.out _), HSM.out, HI.nums⟩; rw [HEY.out] at h; exact h)); (with_reducible refine CX.out.mono ?_); rintro e w7 ⟨rfl, hb7⟩; have R2g := Lib.hid ((R2f.out.alloc _).of_block (hb7.block _ (by simp; have := R2f.out.lt; omega))); have R8g := Lib.hid ((R8.out.alloc _).of_block (hb7.block _ (by simp; have := R8.out.lt; omega))); have R10 := Lib.hid ((bv_new (w := w6) rfl E).of_block (hb7.block _ (by simp))); have HB7 : Hid (Below w.heap.size w w7) := below2 (below_al HB6.out _) hb7; clear hb7 CX; clear a0 a1 a2 a3 a4 a5 a6 a7 a8; (obtain ⟨a0, a1, a2, a3, a4, a5, a6, a7, a8⟩ := cv_cells R2g.out))
          | (go_at_call 19; (have CX : Hid (Calls Try.prog 19 #[.agg #[.int .i64 c.types, .slice c.baddr c.blues.length c.bcap, .int .i64 c.places, .slice c.yaddr c.bays.length c.ycap, .int .i64 c.chars, .int .i64 c.broker, .int .i64 c.least, .int .i64 c.sales], .int .i64 n] (w7.alloc (.cells #[.int .i64 Y.place, .int .i64 Y.make, .int .i64 Y.lab, .int .i64 Y.rate] 50)) fun e w' => e = .returned (.tuple #[.agg #[.int .i64 Y.place, .int .i64 Y.make, .int .i64 Y.lab, .int .i64 Y.rate], .int .i64 ey]) ∧ Below (w7.alloc (.cells #[.int .i64 Y.place, .int .i64 Y.make, .int .i64 Y.lab, .int .i64 Y.rate] 50)).heap.size (w7.alloc (.cells #[.int .i64 Y.place, .int .i64 Y.make, .int .i64 Y.lab, .int .i64 Y.rate] 50)) w') := (by have h := refBay_any c n (w7.alloc (.cells #[.int .i64 Y.place, .int .i64 Y.make, .int .i64 Y.lab, .int .i64 Y.rate] 50)) ⟨HI.lies.below (below_al HB7.out _), HSM.out, HI.nums⟩; rw [HEY.out] at h; exact h)); (with_reducible refine CX.out.mono ?_); rintro e w8 ⟨rfl, hb8⟩; have A8 : Hid (AR w w.heap.size w5.heap.size w6.heap.size w7.heap.size w8.heap.size c E Y (w8.alloc (.cells #[.int .i64 Y.place, .int .i64 Y.make, .int .i64 Y.lab, .int .i64 Y.rate] 50))) := ar_new (below2 ((Below.refl w7.heap.size w7).alloc (Nat.le_refl _) (.cells #[.int .i64 Y.place, .int .i64 Y.make, .int .i64 Y.lab, .int .i64 Y.rate] 50)) hb8) (below2 (below_al HB7.out _) hb8) R2g.out R8g.out R10.out ((yv_new (w := w7) rfl Y).of_block (hb8.block _ (by simp))); clear hb8 CX; clear a0 a1 a2 a3 a4 a5 a6 a7 a8))
        generalize (w8.alloc (.cells #[.int .i64 Y.place, .int .i64 Y.make, .int .i64 Y.lab, .int .i64 Y.rate] 50)) = w9 at *
        have A9 := A8
        have hS9 := ar_cells A9.out
        go_region_held3 (fun W' => W'.cell? ⟨w.heap.size, 0, none⟩ = some (.int .i64 c.types) ∧ W'.cell? ⟨w.heap.size, 1, none⟩ = some (.slice c.baddr c.blues.length c.bcap) ∧ W'.cell? ⟨w.heap.size, 2, none⟩ = some (.int .i64 c.places) ∧ W'.cell? ⟨w.heap.size, 3, none⟩ = some (.slice c.yaddr c.bays.length c.ycap) ∧ W'.cell? ⟨w.heap.size, 4, none⟩ = some (.int .i64 c.chars) ∧ W'.cell? ⟨w.heap.size, 5, none⟩ = some (.int .i64 c.broker) ∧ W'.cell? ⟨w.heap.size, 6, none⟩ = some (.int .i64 c.least) ∧ W'.cell? ⟨w.heap.size, 7, none⟩ = some (.int .i64 c.sales) ∧ W'.cell? ⟨w5.heap.size, 0, none⟩ = some (.int .i64 E.makes) ∧ W'.cell? ⟨w5.heap.size, 1, none⟩ = some (.int .i64 E.per) ∧ W'.cell? ⟨w5.heap.size, 2, none⟩ = some (.int .i64 E.time) ∧ W'.cell? ⟨w5.heap.size, 3, none⟩ = some (.slice E.addr E.needs.length E.cap) ∧ W'.cell? ⟨w5.heap.size, 4, none⟩ = some (.int .i64 E.copy) ∧ W'.cell? ⟨w5.heap.size, 5, none⟩ = some (.int .i64 E.study) ∧ W'.cell? ⟨w5.heap.size, 6, none⟩ = some (.int .i64 E.most) ∧ W'.cell? ⟨w6.heap.size, 0, none⟩ = some (.int .i64 E.makes) ∧ W'.cell? ⟨w6.heap.size, 1, none⟩ = some (.int .i64 E.per) ∧ W'.cell? ⟨w6.heap.size, 2, none⟩ = some (.int .i64 E.time) ∧ W'.cell? ⟨w6.heap.size, 3, none⟩ = some (.slice E.addr E.needs.length E.cap) ∧ W'.cell? ⟨w6.heap.size, 4, none⟩ = some (.int .i64 E.copy) ∧ W'.cell? ⟨w6.heap.size, 5, none⟩ = some (.int .i64 E.study) ∧ W'.cell? ⟨w6.heap.size, 6, none⟩ = some (.int .i64 E.most) ∧ W'.cell? ⟨w7.heap.size, 0, none⟩ = some (.int .i64 Y.place) ∧ W'.cell? ⟨w7.heap.size, 1, none⟩ = some (.int .i64 Y.make) ∧ W'.cell? ⟨w7.heap.size, 2, none⟩ = some (.int .i64 Y.lab) ∧ W'.cell? ⟨w7.heap.size, 3, none⟩ = some (.int .i64 Y.rate) ∧ W'.cell? ⟨w8.heap.size, 0, none⟩ = some (.int .i64 Y.place) ∧ W'.cell? ⟨w8.heap.size, 1, none⟩ = some (.int .i64 Y.make) ∧ W'.cell? ⟨w8.heap.size, 2, none⟩ = some (.int .i64 Y.lab) ∧ W'.cell? ⟨w8.heap.size, 3, none⟩ = some (.int .i64 Y.rate)) (first | (with_reducible assumption) | go_keep) (first
          | (go_at_call 13; (have CX : Hid (Calls Try.prog 13 #[.agg #[.int .i64 c.types, .slice c.baddr c.blues.length c.bcap, .int .i64 c.places, .slice c.yaddr c.bays.length c.ycap, .int .i64 c.chars, .int .i64 c.broker, .int .i64 c.least, .int .i64 c.sales]] w9.drew fun e w' => e = .returned (.int .i64 K) ∧ Below w9.drew.heap.size w9.drew w') := (by have h := Check_any c w9.drew ⟨HI.lies.below A9.out.drew.fr, HSM.out, HI.nums⟩; rw [HK.out] at h; exact h)); (with_reducible refine CX.out.mono ?_); rintro e w20 ⟨rfl, hb20⟩; have A20 := Lib.hid (A9.out.drew.below hb20); have hS20 := ar_cells A20.out; clear hb20 CX)
          | (go_at_call 20; (have CX : Hid (Calls Try.prog 20 #[.agg #[.int .i64 c.types, .slice c.baddr c.blues.length c.bcap, .int .i64 c.places, .slice c.yaddr c.bays.length c.ycap, .int .i64 c.chars, .int .i64 c.broker, .int .i64 c.least, .int .i64 c.sales]] w20 fun e w' => e = .returned (.int .i64 K) ∧ Below w20.heap.size w20 w') := (by have h := refCheck_any c w20 ⟨HI.lies.below A20.out.fr, HSM.out, HI.nums⟩; rw [HK.out] at h; exact h)); (with_reducible refine CX.out.mono ?_); rintro e w21 ⟨rfl, hb21⟩; have A21 := Lib.hid (A20.out.below hb21); have hS21 := ar_cells A21.out; clear hb21 CX)
          | (go_at_call 21; (have CX : Hid (Calls Try.prog 21 #[.agg #[.int .i64 c.types, .slice c.baddr c.blues.length c.bcap, .int .i64 c.places, .slice c.yaddr c.bays.length c.ycap, .int .i64 c.chars, .int .i64 c.broker, .int .i64 c.least, .int .i64 c.sales], .int .i64 n] w21 fun e w' => e = .returned (.int .i64 (makerV c.blues n)) ∧ Below w21.heap.size w21 w') := (Maker_any c n w21 ⟨HI.lies.below A21.out.fr, HSM.out, HI.nums⟩)); (with_reducible refine CX.out.mono ?_); rintro e w22 ⟨rfl, hb22⟩; have A22 := Lib.hid (A21.out.below hb22); have hS22 := ar_cells A22.out; clear hb22 CX)
          | (go_at_call 22; (have CX : Hid (Calls Try.prog 22 #[.agg #[.int .i64 c.types, .slice c.baddr c.blues.length c.bcap, .int .i64 c.places, .slice c.yaddr c.bays.length c.ycap, .int .i64 c.chars, .int .i64 c.broker, .int .i64 c.least, .int .i64 c.sales], .int .i64 n] w22 fun e w' => e = .returned (.int .i64 (makerV c.blues n)) ∧ Below w22.heap.size w22 w') := (refMaker_any c n w22 ⟨HI.lies.below A22.out.fr, HSM.out, HI.nums⟩)); (with_reducible refine CX.out.mono ?_); rintro e w23 ⟨rfl, hb23⟩; have A23 := Lib.hid (A22.out.below hb23); have hS23 := ar_cells A23.out; clear hb23 CX)
          | (go_at_call 23; (have CX : Hid (Calls Try.prog 23 #[.agg #[.int .i64 E.makes, .int .i64 E.per, .int .i64 E.time, .slice E.addr E.needs.length E.cap, .int .i64 E.copy, .int .i64 E.study, .int .i64 E.most], .agg #[.int .i64 E.makes, .int .i64 E.per, .int .i64 E.time, .slice E.addr E.needs.length E.cap, .int .i64 E.copy, .int .i64 E.study, .int .i64 E.most]] w23 fun e w' => e = .returned (.bool true) ∧ Below w23.heap.size w23 w') := (by have h := SameBlue_any E E w23 (HEC.out.1.below A23.out.fr) (HEC.out.1.below A23.out.fr) (Nat.le_trans HEC.out.2 (by decide)) (Nat.le_trans HEC.out.2 (by decide)); rw [sameB_flat rfl] at h; exact h)); (with_reducible refine CX.out.mono ?_); rintro e w24 ⟨rfl, hb24⟩; have A24 := Lib.hid (A23.out.below hb24); have hS24 := ar_cells A24.out; clear hb24 CX)
          | (go_at_call 7; (with_reducible refine (CA.out _).mono ?_); rintro e w25 ⟨rfl, hb25⟩; have A25 := Lib.hid (A24.out.below hb25); have hS25 := ar_cells A25.out; clear hb25))
        go_wp2
        go_ret
        exact ⟨rfl, A25.out.fr⟩
end Cat
end Go.Proofs.Ytfincohdchnniaa
