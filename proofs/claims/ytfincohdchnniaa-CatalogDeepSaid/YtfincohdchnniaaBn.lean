/- Texts put together: CatD. -/
import Derived.Test.YtfincohdchnniaaBm
import Derived.IntWalk
set_option linter.all false
namespace Go.Proofs.Ytfincohdchnniaa
open Go.RowKit
namespace Cat
open Rec (BlueIn Stk Stks Came bchk inB stkVals stks_of_own stkVals_append)
open Pen (bs bs_append uintB uintS doneS below2 below_al below_dN uint_bounds)
def link (i : Nat) : BlueIn := ⟨(i : Int) + 2, 1, 1, [((i : Int) + 1, 1)], none, 0, 0, 0, 1⟩
def chain (n : Nat) : List BlueIn := (List.range n).map link
theorem chain_succ (n : Nat) : chain (n + 1) = chain n ++ [link n] := by unfold chain; rw [List.range_succ, List.map_append]; rfl
theorem chain_len (n : Nat) : (chain n).length = n := by simp [chain]
def back (t : Nat) : BlueIn := ⟨1, 1, 1, [((t : Int), 1)], none, 0, 0, 0, 1⟩
def deepF (t : Nat) (b : Bool) : CatIn := ⟨(t : Int), chain (t - 1) ++ (if b then [back t] else []), none, 0, 1, [], none, 0, 1, 0, 0, 0⟩
def deepW (t : Nat) (b : Bool) : Int := if b then 9 else if 9 < t then 5 else 0
theorem deep_chk : ∀ t : Fin 15, ∀ b : Bool, chkC (deepF (t.val + 2) b) = deepW (t.val + 2) b := by decide +kernel
theorem deep_ok : ∀ t : Fin 15, ∀ b : Bool, Small (deepF (t.val + 2) b) ∧ Nums (deepF (t.val + 2) b) := by
  unfold Small Nums BlueNums BayNums In64
  decide +kernel
theorem deep_of {t : Nat} (h2 : 2 ≤ t) (h16 : t ≤ 16) (b : Bool) : chkC (deepF t b) = deepW t b ∧ Small (deepF t b) ∧ Nums (deepF t b) := by
  have e : t - 2 + 2 = t := by omega
  have h1 := deep_chk ⟨t - 2, by omega⟩ b
  have h2 := deep_ok ⟨t - 2, by omega⟩ b
  simp only [e] at h1 h2
  exact ⟨h1, h2⟩
/-- What is there behind one link more. -/
theorem cg_start (w : World) (t : Int) : CG w w.heap.size (c8 (.int .i64 t) (.slice none 0 0) (.int .i64 1) (.slice none 0 0) (.int .i64 1) (.int .i64 0) (.int .i64 0) (.int .i64 0)) (.slice none 0 0) (.slice none 0 0) [] [] (w.alloc (.cells #[.int .i64 t, .slice none 0 0, .int .i64 1, .slice none 0 0, .int .i64 1, .int .i64 0, .int .i64 0, .int .i64 0] 27)) :=
  ⟨⟨_, heap_alloc_new w _, rfl, fun i hi => by
    match i, hi with
    | 0, _ => rfl
    | 1, _ => rfl
    | 2, _ => rfl
    | 3, _ => rfl
    | 4, _ => rfl
    | 5, _ => rfl
    | 6, _ => rfl
    | 7, _ => rfl⟩, World.ownsRow_nil _ _ _ _, (fun b hb => by cases hb), World.ownsRow_nil _ _ _ _, below_al (Below.refl _ _) _, Nat.le_refl _⟩
theorem flat_link (q : Nat) (h : 2 ≤ q) {a : Option Addr} {k : Nat} : flatB (⟨(q : Int), 1, 1, [((q : Int) - 1, 1)], a, k, 0, 0, 1⟩ : BlueIn) = link (q - 2) := by
  unfold flatB link
  have e1 : (((q - 2 : Nat) : Int) + 2) = (q : Int) := by omega
  have e2 : (((q - 2 : Nat) : Int) + 1) = (q : Int) - 1 := by omega
  rw [e1, e2]
theorem flat_deep1 {t : Nat} {l : List BlueIn} {ba : Option Addr} {bc : Nat} (h : l.map flatB = chain (t - 1)) : flatC (⟨(t : Int), l, ba, bc, 1, [], none, 0, 1, 0, 0, 0⟩ : CatIn) = deepF t false := by
  show (⟨(t : Int), l.map flatB, none, 0, 1, [], none, 0, 1, 0, 0, 0⟩ : CatIn) = ⟨(t : Int), chain (t - 1) ++ [], none, 0, 1, [], none, 0, 1, 0, 0, 0⟩
  rw [h, List.append_nil]
theorem flat_deep2 {t : Nat} {l : List BlueIn} {b : BlueIn} {ba : Option Addr} {bc : Nat} (h : l.map flatB = chain (t - 1)) (hb : flatB b = back t) : flatC (⟨(t : Int), l ++ [b], ba, bc, 1, [], none, 0, 1, 0, 0, 0⟩ : CatIn) = deepF t true := by
  show (⟨(t : Int), (l ++ [b]).map flatB, none, 0, 1, [], none, 0, 1, 0, 0, 0⟩ : CatIn) = ⟨(t : Int), chain (t - 1) ++ [back t], none, 0, 1, [], none, 0, 1, 0, 0, 0⟩
  rw [List.map_append, h]
  show (⟨_, chain (t - 1) ++ [flatB b], _, _, _, _, _, _, _, _, _, _⟩ : CatIn) = _
  rw [hb]
theorem cam_deep {c : CatIn} {t : Nat} {b : Bool} {W : World} (h : flatC c = deepF t b) (h2 : 2 ≤ t) (h16 : t ≤ 16) (hl : Lies W c) : Cam W c := ⟨hl, small_flat (by rw [h]; exact (deep_of h2 h16 b).2.1), nums_flat (by rw [h]; exact (deep_of h2 h16 b).2.2)⟩
theorem cg_lies {w W : World} {gc : Nat} {f : Nat → Value} {v : Value} {l : List BlueIn} {t : Int} (h : CG w gc f v (.slice none 0 0) l [] W) : ∃ ba bc, v = .slice ba l.length bc ∧ Lies W ⟨t, l, ba, bc, 1, [], none, 0, 1, 0, 0, 0⟩ := by
  obtain ⟨a1, a2, a3, a4, e1, e2, h1, h2, h3⟩ := lies_of h.ob h.on h.oy
  exact ⟨a1, a2, e1, h1, fun i hi => absurd hi (Nat.not_lt_zero _), h3⟩
theorem cg_lies2 {w W : World} {gc : Nat} {f : Nat → Value} {l : List BlueIn} {b : BlueIn} {t : Int} {gg cap : Nat} (h : CG w gc f (.slice (some ⟨gg, 0, none⟩) (l.length + 1) cap) (.slice none 0 0) (l ++ [b]) [] W) : Lies W ⟨t, l ++ [b], some ⟨gg, 0, none⟩, cap, 1, [], none, 0, 1, 0, 0, 0⟩ := by
  obtain ⟨ba, bc, e, hl⟩ := cg_lies (t := t) h
  injection e with e3 e4 e5
  subst e3
  exact ⟨hl.1, hl.2.1, hl.2.2⟩
set_option maxRecDepth 100000 in
set_option maxHeartbeats 8000000 in
theorem deep_any (a : Int) (ha : (Lit.int .u8 a).wf = true) (rb : Bool) (w : World) :
    Calls Try.prog 4 #[.int .u8 a, .bool rb] w fun e w' => e = .returned (.bool true) ∧ Below w.heap.size w w' := by
  have CA : Hid (∀ W, Calls Try.prog 7 #[] W fun e w' => e = .returned (.bool true) ∧ Below W.heap.size W w') := fun W => awake_any W
  have h0 : 0 ≤ a ∧ a ≤ 255 := by
    have h1 : IntKind.u8.min = 0 := by decide
    have h2 : IntKind.u8.max = 255 := by decide
    simp [Lit.wf] at ha
    omega
  go_enter Try.func4, Try.ntmps4
  go_wp2
  obtain ⟨t, hta⟩ : ∃ t : Nat, 2 + a % 15 = (t : Int) := ⟨(2 + a % 15).toNat, by omega⟩
  have ht : 2 ≤ t ∧ t ≤ 16 := by omega
  have hti : (t : Int) ≤ 16 := by omega
  have hti2 : (2 : Int) ≤ (t : Int) := by omega
  rw [hta]
  have HC0 := Lib.hid (cg_start w (t : Int))
  obtain ⟨i0, hi, hz0, hz1, hz2⟩ := info_parts blueinfo
  clear ha h0
  go_loopw [7] (fun v7 wr => ∃ q : Nat, 2 ≤ q ∧ q ≤ t + 1 ∧ v7 = .int .i64 (q : Int) ∧ ∃ v l, Hid (CG w w.heap.size (c8 (.int .i64 (t : Int)) v (.int .i64 1) (.slice none 0 0) (.int .i64 1) (.int .i64 0) (.int .i64 0) (.int .i64 0)) v (.slice none 0 0) l [] wr) ∧ Hid (l.map flatB = chain (q - 2))) (fun v7 _ => t + 1 - (intOf v7).toNat)
  case atStart => exact ⟨2, by omega, by omega, rfl, _, [], HC0, rfl⟩
  case round =>
    obtain ⟨q, hq2, hqt, rfl, v, l, HC, HL⟩ := hrel
    have hl9 : l.length ≤ 16 := by have := congrArg List.length HL.out; rw [List.length_map, chain_len] at this; omega
    have hsz : w.heap.size ≤ wr.heap.size := HC.out.fr.size
    by_cases hlt : q ≤ t
    · have hlt1 : (q : Int) ≤ (t : Int) := by omega
      have hq1 : (2 : Int) ≤ (q : Int) := by omega
      have cv1 := HC.out.row.cell (i := 1) (by decide)
      simp only [c8, if_true, if_false, Nat.one_ne_zero] at cv1
      clear hlt hta
      go_wp2_with ((at_builtin; go_must (refine wpList_append_lies _ rfl (.tmp 21) (.tmp 28) 22 rfl w.heap.size 41 i0 _ 7 72 Try.underlying22 hi hz0 hz1 hz2 rfl (by omega) v l.length _ rfl ((HC.out.ob.alloc _).alloc _) ⟨wr.heap.size + 1, 0, none⟩ 1 1 [.int .i64 (q : Int), .int .i64 1, .int .i64 1, .slice (some ⟨wr.heap.size, 0, none⟩) 1 1, .int .i64 0, .int .i64 0, .int .i64 1] rfl (by rfl) (World.news_of_block (cs := #[.int .i64 (q : Int), .int .i64 1, .int .i64 1, .slice (some ⟨wr.heap.size, 0, none⟩) 1 1, .int .i64 0, .int .i64 0, .int .i64 1]) (t := 41) (fr := (0, 0)) (heap_at (by simp) _)) (by simp [Value.oneCell']) (by omega) (by unfold maxLen; omega) (by omega) (by simp; omega) (wr.heap.size + 1 + 1) (by simp) ?_; intro gg cap9 w5 hown hgr hat hlt; have HOW := Lib.hid hown; have HG5 := Lib.hid (grw_al _ hgr); clear hown hgr hat hlt; have CG4 := Lib.hid (HC.out.alloc (.cells #[.int .i64 ((q : Int) - 1), .int .i64 1] 38)); have hnd : NeedRow (wr.alloc (.cells #[.int .i64 ((q : Int) - 1), .int .i64 1] 38)) w.heap.size (⟨(q : Int), 1, 1, [((q : Int) - 1, 1)], some ⟨wr.heap.size, 0, none⟩, 1, 0, 0, 1⟩ : BlueIn) := own_lit rfl (by omega) (Nat.le_of_ble_eq_true rfl) rfl; have hro := row_grown CG4.out.row HG5.out (own_kind CG4.out.ob CG4.out.row (by decide)); have c1 := hro.cell (i := 1) (by decide); have f1 := hro.frozen 1; have CG6 := Lib.hid (CG.flat (CG.push (b := (⟨(q : Int), 1, 1, [((q : Int) - 1, 1)], some ⟨wr.heap.size, 0, none⟩, 1, 0, 0, 1⟩ : BlueIn)) CG4.out hnd HG5.out HOW.out)))))
      go_roundw
      case rel => exact ⟨q + 1, by omega, by omega, by go_num, _, _, CG6, by show _ = _; rw [List.map_append, HL.out, show q + 1 - 2 = q - 2 + 1 by omega, chain_succ]; congr 1; show [_] = [_]; rw [flat_link q hq2]⟩
      case measure => simp [intOf]; omega
    · have hge : ¬ (q : Int) ≤ (t : Int) := by omega
      have hqe : q = t + 1 := by omega
      rw [hqe, show t + 1 - 2 = t - 1 by omega] at HL
      clear hlt hta
      have cv1 := HC.out.row.cell (i := 1) (by decide)
      simp only [c8, if_true, if_false, Nat.one_ne_zero] at cv1
      by_cases h9 : 9 < t
      · have h9i : (9 : Int) < (t : Int) := by omega
        cases rb with
        | true =>
          go_wp2_with (first
            | (at_builtin; go_must (refine wpList_append_lies _ rfl (.tmp 35) (.tmp 40) 22 rfl w.heap.size 41 i0 _ 7 72 Try.underlying22 hi hz0 hz1 hz2 rfl (by omega) v l.length _ rfl ((HC.out.ob.alloc _).alloc _) ⟨wr.heap.size + 1, 0, none⟩ 1 1 [.int .i64 1, .int .i64 1, .int .i64 1, .slice (some ⟨wr.heap.size, 0, none⟩) 1 1, .int .i64 0, .int .i64 0, .int .i64 1] rfl (by rfl) (World.news_of_block (cs := #[.int .i64 1, .int .i64 1, .int .i64 1, .slice (some ⟨wr.heap.size, 0, none⟩) 1 1, .int .i64 0, .int .i64 0, .int .i64 1]) (t := 41) (fr := (0, 0)) (heap_at (by simp) _)) (by simp [Value.oneCell']) (by omega) (by unfold maxLen; omega) (by omega) (by simp; omega) (wr.heap.size + 1 + 1) (by simp) ?_; intro gg cap9 w5 hown hgr hat hlt; have HOW := Lib.hid hown; have HG5 := Lib.hid (grw_al _ hgr); clear hown hgr hat hlt; have CG4 := Lib.hid (HC.out.alloc (.cells #[.int .i64 (t : Int), .int .i64 1] 38)); have hnd : NeedRow (wr.alloc (.cells #[.int .i64 (t : Int), .int .i64 1] 38)) w.heap.size (⟨1, 1, 1, [((t : Int), 1)], some ⟨wr.heap.size, 0, none⟩, 1, 0, 0, 1⟩ : BlueIn) := own_lit rfl (by omega) (Nat.le_of_ble_eq_true rfl) rfl; have hro := row_grown CG4.out.row HG5.out (own_kind CG4.out.ob CG4.out.row (by decide)); have c1 := hro.cell (i := 1) (by decide); have f1 := hro.frozen 1; have CG6 := Lib.hid (CG.flat (CG.push (b := (⟨1, 1, 1, [((t : Int), 1)], some ⟨wr.heap.size, 0, none⟩, 1, 0, 0, 1⟩ : BlueIn)) CG4.out hnd HG5.out HOW.out)); have HFL : Hid (flatC (⟨(t : Int), l ++ [(⟨1, 1, 1, [((t : Int), 1)], some ⟨wr.heap.size, 0, none⟩, 1, 0, 0, 1⟩ : BlueIn)], some ⟨gg, 0, none⟩, cap9, 1, [], none, 0, 1, 0, 0, 0⟩ : CatIn) = deepF t true) := flat_deep2 HL.out rfl; have HCM := Lib.hid (cam_deep HFL.out ht.1 ht.2 (cg_lies2 CG6.out)); (obtain ⟨y0, y1, y2, y3, y4, y5, y6, y7⟩ := row8 CG6.out.row); simp only [c8, if_true, if_false, Nat.reduceEqDiff, Nat.one_ne_zero, Nat.zero_ne_one] at y0 y1 y2 y3 y4 y5 y6 y7))
            | (go_at_call 13; (have CX : Hid (Calls Try.prog 13 #[.agg #[.int .i64 (t : Int), .slice (some ⟨gg, 0, none⟩) (l.length + 1) cap9, .int .i64 1, .slice none 0 0, .int .i64 1, .int .i64 0, .int .i64 0, .int .i64 0]] (w5.setCell ⟨w.heap.size, 1, none⟩ (.slice (some ⟨gg, 0, none⟩) (l.length + 1) cap9)) fun e w' => e = .returned (.int .i64 9) ∧ Below (w5.setCell ⟨w.heap.size, 1, none⟩ (.slice (some ⟨gg, 0, none⟩) (l.length + 1) cap9)).heap.size (w5.setCell ⟨w.heap.size, 1, none⟩ (.slice (some ⟨gg, 0, none⟩) (l.length + 1) cap9)) w') := (by have h := Check_any _ _ HCM.out; rw [← chkC_flat, HFL.out, (deep_of ht.1 ht.2 _).1] at h; rw [show CatIn.val (⟨(t : Int), l ++ [(⟨1, 1, 1, [((t : Int), 1)], some ⟨wr.heap.size, 0, none⟩, 1, 0, 0, 1⟩ : BlueIn)], some ⟨gg, 0, none⟩, cap9, 1, [], none, 0, 1, 0, 0, 0⟩ : CatIn) = #[.int .i64 (t : Int), .slice (some ⟨gg, 0, none⟩) (l.length + 1) cap9, .int .i64 1, .slice none 0 0, .int .i64 1, .int .i64 0, .int .i64 0, .int .i64 0] from by unfold CatIn.val; simp] at h; rw [show deepW t true = 9 from rfl] at h; exact h)); (with_reducible refine CX.out.mono ?_); rintro e w7 ⟨rfl, hb7⟩; have HB7 := Lib.hid hb7; clear hb7 CX)
            | (go_at_call 7; (with_reducible refine (CA.out _).mono ?_); rintro e w8 ⟨rfl, hb8⟩; have HB8 := Lib.hid hb8; clear hb8))
          go_ret
          exact ⟨rfl, below2 (below2 CG6.out.fr HB7.out) HB8.out⟩
        | false =>
          obtain ⟨ba, bc, rfl, hlie⟩ := cg_lies HC.out
          have HFL : Hid (flatC (⟨(t : Int), l, ba, bc, 1, [], none, 0, 1, 0, 0, 0⟩ : CatIn) = deepF t false) := flat_deep1 HL.out
          have HCM := Lib.hid (cam_deep HFL.out ht.1 ht.2 hlie)
          obtain ⟨y0, y1, y2, y3, y4, y5, y6, y7⟩ := row8 HC.out.row
          simp only [c8, if_true, if_false, Nat.reduceEqDiff, Nat.one_ne_zero, Nat.zero_ne_one] at y0 y1 y2 y3 y4 y5 y6 y7
          go_wp2_with (first
            | (go_at_call 13; (have CX : Hid (Calls Try.prog 13 #[.agg #[.int .i64 (t : Int), .slice ba l.length bc, .int .i64 1, .slice none 0 0, .int .i64 1, .int .i64 0, .int .i64 0, .int .i64 0]] wr fun e w' => e = .returned (.int .i64 5) ∧ Below wr.heap.size wr w') := (by have h := Check_any _ _ HCM.out; rw [← chkC_flat, HFL.out, (deep_of ht.1 ht.2 _).1] at h; rw [show deepW t false = 5 from by unfold deepW; simp; omega] at h; exact h)); (with_reducible refine CX.out.mono ?_); rintro e w7 ⟨rfl, hb7⟩; have HB7 := Lib.hid hb7; clear hb7 CX)
            | (go_at_call 7; (with_reducible refine (CA.out _).mono ?_); rintro e w8 ⟨rfl, hb8⟩; have HB8 := Lib.hid hb8; clear hb8))
          go_ret
          exact ⟨rfl, below2 (below2 HC.out.fr HB7.out) HB8.out⟩
      · have h9i : ¬ (9 : Int) < (t : Int) := by omega
        cases rb with
        | true =>
          go_wp2_with (first
            | (at_builtin; go_must (refine wpList_append_lies _ rfl (.tmp 35) (.tmp 40) 22 rfl w.heap.size 41 i0 _ 7 72 Try.underlying22 hi hz0 hz1 hz2 rfl (by omega) v l.length _ rfl ((HC.out.ob.alloc _).alloc _) ⟨wr.heap.size + 1, 0, none⟩ 1 1 [.int .i64 1, .int .i64 1, .int .i64 1, .slice (some ⟨wr.heap.size, 0, none⟩) 1 1, .int .i64 0, .int .i64 0, .int .i64 1] rfl (by rfl) (World.news_of_block (cs := #[.int .i64 1, .int .i64 1, .int .i64 1, .slice (some ⟨wr.heap.size, 0, none⟩) 1 1, .int .i64 0, .int .i64 0, .int .i64 1]) (t := 41) (fr := (0, 0)) (heap_at (by simp) _)) (by simp [Value.oneCell']) (by omega) (by unfold maxLen; omega) (by omega) (by simp; omega) (wr.heap.size + 1 + 1) (by simp) ?_; intro gg cap9 w5 hown hgr hat hlt; have HOW := Lib.hid hown; have HG5 := Lib.hid (grw_al _ hgr); clear hown hgr hat hlt; have CG4 := Lib.hid (HC.out.alloc (.cells #[.int .i64 (t : Int), .int .i64 1] 38)); have hnd : NeedRow (wr.alloc (.cells #[.int .i64 (t : Int), .int .i64 1] 38)) w.heap.size (⟨1, 1, 1, [((t : Int), 1)], some ⟨wr.heap.size, 0, none⟩, 1, 0, 0, 1⟩ : BlueIn) := own_lit rfl (by omega) (Nat.le_of_ble_eq_true rfl) rfl; have hro := row_grown CG4.out.row HG5.out (own_kind CG4.out.ob CG4.out.row (by decide)); have c1 := hro.cell (i := 1) (by decide); have f1 := hro.frozen 1; have CG6 := Lib.hid (CG.flat (CG.push (b := (⟨1, 1, 1, [((t : Int), 1)], some ⟨wr.heap.size, 0, none⟩, 1, 0, 0, 1⟩ : BlueIn)) CG4.out hnd HG5.out HOW.out)); have HFL : Hid (flatC (⟨(t : Int), l ++ [(⟨1, 1, 1, [((t : Int), 1)], some ⟨wr.heap.size, 0, none⟩, 1, 0, 0, 1⟩ : BlueIn)], some ⟨gg, 0, none⟩, cap9, 1, [], none, 0, 1, 0, 0, 0⟩ : CatIn) = deepF t true) := flat_deep2 HL.out rfl; have HCM := Lib.hid (cam_deep HFL.out ht.1 ht.2 (cg_lies2 CG6.out)); (obtain ⟨y0, y1, y2, y3, y4, y5, y6, y7⟩ := row8 CG6.out.row); simp only [c8, if_true, if_false, Nat.reduceEqDiff, Nat.one_ne_zero, Nat.zero_ne_one] at y0 y1 y2 y3 y4 y5 y6 y7))
            | (go_at_call 13; (have CX : Hid (Calls Try.prog 13 #[.agg #[.int .i64 (t : Int), .slice (some ⟨gg, 0, none⟩) (l.length + 1) cap9, .int .i64 1, .slice none 0 0, .int .i64 1, .int .i64 0, .int .i64 0, .int .i64 0]] (w5.setCell ⟨w.heap.size, 1, none⟩ (.slice (some ⟨gg, 0, none⟩) (l.length + 1) cap9)) fun e w' => e = .returned (.int .i64 9) ∧ Below (w5.setCell ⟨w.heap.size, 1, none⟩ (.slice (some ⟨gg, 0, none⟩) (l.length + 1) cap9)).heap.size (w5.setCell ⟨w.heap.size, 1, none⟩ (.slice (some ⟨gg, 0, none⟩) (l.length + 1) cap9)) w') := (by have h := Check_any _ _ HCM.out; rw [← chkC_flat, HFL.out, (deep_of ht.1 ht.2 _).1] at h; rw [show CatIn.val (⟨(t : Int), l ++ [(⟨1, 1, 1, [((t : Int), 1)], some ⟨wr.heap.size, 0, none⟩, 1, 0, 0, 1⟩ : BlueIn)], some ⟨gg, 0, none⟩, cap9, 1, [], none, 0, 1, 0, 0, 0⟩ : CatIn) = #[.int .i64 (t : Int), .slice (some ⟨gg, 0, none⟩) (l.length + 1) cap9, .int .i64 1, .slice none 0 0, .int .i64 1, .int .i64 0, .int .i64 0, .int .i64 0] from by unfold CatIn.val; simp] at h; rw [show deepW t true = 9 from rfl] at h; exact h)); (with_reducible refine CX.out.mono ?_); rintro e w7 ⟨rfl, hb7⟩; have HB7 := Lib.hid hb7; clear hb7 CX)
            | (go_at_call 7; (with_reducible refine (CA.out _).mono ?_); rintro e w8 ⟨rfl, hb8⟩; have HB8 := Lib.hid hb8; clear hb8))
          go_ret
          exact ⟨rfl, below2 (below2 CG6.out.fr HB7.out) HB8.out⟩
        | false =>
          obtain ⟨ba, bc, rfl, hlie⟩ := cg_lies HC.out
          have HFL : Hid (flatC (⟨(t : Int), l, ba, bc, 1, [], none, 0, 1, 0, 0, 0⟩ : CatIn) = deepF t false) := flat_deep1 HL.out
          have HCM := Lib.hid (cam_deep HFL.out ht.1 ht.2 hlie)
          obtain ⟨y0, y1, y2, y3, y4, y5, y6, y7⟩ := row8 HC.out.row
          simp only [c8, if_true, if_false, Nat.reduceEqDiff, Nat.one_ne_zero, Nat.zero_ne_one] at y0 y1 y2 y3 y4 y5 y6 y7
          go_wp2_with (first
            | (go_at_call 13; (have CX : Hid (Calls Try.prog 13 #[.agg #[.int .i64 (t : Int), .slice ba l.length bc, .int .i64 1, .slice none 0 0, .int .i64 1, .int .i64 0, .int .i64 0, .int .i64 0]] wr fun e w' => e = .returned (.int .i64 0) ∧ Below wr.heap.size wr w') := (by have h := Check_any _ _ HCM.out; rw [← chkC_flat, HFL.out, (deep_of ht.1 ht.2 _).1] at h; rw [show deepW t false = 0 from by unfold deepW; simp; omega] at h; exact h)); (with_reducible refine CX.out.mono ?_); rintro e w7 ⟨rfl, hb7⟩; have HB7 := Lib.hid hb7; clear hb7 CX)
            | (go_at_call 7; (with_reducible refine (CA.out _).mono ?_); rintro e w8 ⟨rfl, hb8⟩; have HB8 := Lib.hid hb8; clear hb8))
          go_ret
          exact ⟨rfl, below2 (below2 HC.out.fr HB7.out) HB8.out⟩
end Cat
end Go.Proofs.Ytfincohdchnniaa
