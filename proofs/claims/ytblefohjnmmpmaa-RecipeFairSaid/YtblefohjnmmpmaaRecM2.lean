/- How many there are of a type, of stacks that may be: the walks. -/
import Derived.Test.YtblefohjnmmpmaaRecM
import Derived.WalkArith
namespace Go.Proofs.Ytblefohjnmmpmaa
open Go.RowKit Go.Maps
namespace Rec
theorem law3 : Keyed Try.prog 3 := int_keyed Try.underlying3
theorem zero3 (w : World) : (zeroValue 3).run Try.prog w = .ok (.int .i64 0) w := by kernel_rfl
set_option maxRecDepth 100000 in
set_option maxHeartbeats 1000000 in
theorem counts_any (a : Option Addr) (cap : Nat) (l : List Stk) (hl : l.length ≤ maxLen) (hf : Fair l) (hw : ∀ k, k < l.length → (Lit.int .i64 (l.getD k (0, 0)).1).wf = true) (w : World) (ha : Stks w a l) :
    Calls Try.prog 35 #[.slice a l.length cap] w fun e w' => ∃ B, e = .returned (.tuple #[.map (some B), .int .i64 0]) ∧ w'.ownsMap Try.prog 3 (plainElem Try.prog 3) B l.length (DM l l.length) ∧ Below w.heap.size w w' := by
  have hmm := @run_makeMap Try.prog
  have CC := Lib.hid (contains_no a cap l hl hf w ha)
  unfold maxLen at hl
  have HA := Lib.hid ha
  have HF := Lib.hid hf
  have HW := Lib.hid hw
  clear ha hf hw
  go_enter Try.func35, Try.ntmps35
  go_wp2_with (go_at_call 38; ((with_reducible refine CC.out.mono ?_); rintro e w1 ⟨rfl, hb1⟩))
  go_loopw [5, 15] (fun o i wr => ∃ k : Nat, k ≤ l.length ∧ i = .int .i64 k ∧ o = .bool false ∧ wr.ownsMap Try.prog 3 (plainElem Try.prog 3) w1.heap.size k (DM l k) ∧ Below w.heap.size w wr) (fun _ i _ => l.length - (intOf i).toNat)
  case atStart => exact ⟨0, by omega, rfl, rfl, World.ownsMap_made _ _ _ _, below_al hb1 _⟩
  case round =>
    obtain ⟨k, hk, rfl, rfl, hown, hb⟩ := hrel
    by_cases hlt : k < l.length
    · obtain ⟨b, off, rfl, hbl, hc, hd⟩ := (Stks.below HA.out hb) k hlt
      have hlt1 : (k : Int) < (l.length : Int) := by omega
      have hp := fair_pos l HF.out k hlt
      have hq := (HF.out k hlt).2
      have hkey : keyOf Try.prog 3 (.int .i64 (l.getD k (0, 0)).1) = some (.int .i64 (l.getD k (0, 0)).1) := keyOf_int_mk Try.underlying3 (HW.out k hlt)
      have hnone : Hid (cnt l (l.getD k (0, 0)).1 k = 0) := cnt_none l _ k fun j hj => by have := fair_lt l HF.out j k hj hlt; omega
      have hat0 := dm_at l (l.getD k (0, 0)).1 k
      have hstep : Hid (DM l (k + 1) = (DM l k).put (.int .i64 (l.getD k (0, 0)).1) (.lit (.int .i64 (l.getD k (0, 0)).2))) := rfl
      generalize (l.getD k (0, 0)).1 = T at *
      generalize (l.getD k (0, 0)).2 = Q at *
      rw [hnone.out] at hat0
      have HAT := Lib.hid hat0
      clear hat0 hnone
      have AD := add_small 0 Q (Int.le_refl 0) (by omega) (by omega)
      rw [Int.zero_add] at AD
      have AD := Lib.hid AD
      have dq : decide (1125899906842624 < Q) = false := decide_eq_false (by omega)
      have nq : ¬ 1125899906842624 < Q := by omega
      have hwf : (Lit.int .i64 Q).wf = true := WalkArith.wf_i64 (by omega)
      have HKEY := Lib.hid hkey
      have HWF := Lib.hid hwf
      clear hkey hwf hq hp
      go_wp2_with (first
        | (at_lookup; refine wpList_lookup_own_int _ rfl _ _ 59 rfl 3 3 .i64 law3 Try.underlying59 Try.underlying3 (zero3 _) w1.heap.size k _ rfl (hown.alloc _) _ _ rfl HKEY.out ?_; intro c hat hwc; obtain rfl : c = 0 := by (have := hat.symm.trans HAT.out; simpa using this))
        | (go_at_call 40; ((with_reducible refine (AD.out _).mono ?_); rintro e w2 ⟨rfl, rfl⟩))
        | (at_mapUpdate; refine wpList_mapUpdate_own _ rfl _ _ _ 59 rfl 3 3 law3 Try.underlying59 _ w1.heap.size k _ rfl (hown.alloc _) (by unfold maxLen; omega) _ _ _ rfl rfl HKEY.out _ [] (plainElem_int Try.underlying3 HWF.out) ?_; intro w3 hown1 hgrow1))
      go_roundw
      case rel => exact ⟨k + 1, by omega, by go_num, rfl, by rw [hstep.out]; exact hown1, (below_al hb _).grown hgrow1 (below_al hb _).size (fun j hj => by cases hj; exact hb1.size)⟩
      case measure => simp [intOf]; omega
    · have hke : k = l.length := by omega
      subst hke
      go_wp2
      go_ret2
      exact ⟨_, rfl, hown, hb⟩
theorem count_any (a : Option Addr) (cap : Nat) (l : List Stk) (hl : l.length ≤ maxLen) (hf : Fair l) (hw : ∀ k, k < l.length → (Lit.int .i64 (l.getD k (0, 0)).1).wf = true) (x : Int) (hx : (Lit.int .i64 x).wf = true) (w : World) (ha : Stks w a l) :
    Calls Try.prog 30 #[.slice a l.length cap, .int .i64 x] w fun e w' => e = .returned (.int .i64 (cnt l x l.length)) ∧ Below w.heap.size w w' := by
  have CC := Lib.hid (counts_any a cap l hl hf hw w ha)
  have HKEY := Lib.hid (show keyOf Try.prog 3 (.int .i64 x) = some (.int .i64 x) from keyOf_int_mk Try.underlying3 hx)
  have HAT := Lib.hid (dm_at l x l.length)
  clear hl hf hw ha hx
  go_enter Try.func30, Try.ntmps30
  go_wp2_with (first
    | (go_at_call 35; ((with_reducible refine CC.out.mono ?_); rintro e w1 ⟨B, rfl, hown, hb1⟩))
    | (at_lookup; refine wpList_lookup_own_int _ rfl _ _ 59 rfl 3 3 .i64 law3 Try.underlying59 Try.underlying3 (zero3 _) B _ _ rfl hown _ _ rfl HKEY.out ?_; intro c hat hwc))
  have hc : c = cnt l x l.length := by have := hat.symm.trans HAT.out; simpa using this
  go_ret
  exact ⟨by rw [← hc]; rfl, hb1⟩
end Rec
end Go.Proofs.Ytblefohjnmmpmaa
