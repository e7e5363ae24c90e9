/- Texts put together: AskQ. -/
import Derived.Test.YtlhalhilnkneeaaGreatDoorM29
set_option linter.all false
section
set_option maxRecDepth 100000
namespace Go.Proofs.YtlhalhilnkneeaaGreatDoor
open Go.RowKit Go.Great Go.Sort
namespace Asm
open Pen (bs)
open In (strVals Strs)
open Frm (rows put)
open Rec (below2 below_al below_dN Stk Stks stkVals)
open Cmd (Gives Snum CmdIn fi fn nm names place chkV Cok Lies Stand Eqv zeroC kindOf nameOf cmdB putV Clear takeV GivesT size_val val_get)
theorem one_all (c : CmdIn) : c.val.all (·.oneCell') = true := by simp [CmdIn.val, Value.oneCell']
set_option maxHeartbeats 16000000 in
theorem many4096 (w : World) (hE : Env w) : Calls Tryz.prog 5 #[.bool false] w fun e w' => e = .returned (.bool true) ∧ Below w.heap.size w w' := by
  have AW : Hid (∀ W, Below w.heap.size w W → Calls Tryz.prog 7 #[] W fun e w' => e = .returned (.bool true) ∧ Below W.heap.size W w') := fun W hb => awake_any W (hE.below hb)
  obtain ⟨L, hL⟩ : ∃ L, Hid (CL 4096 = L) := ⟨_, Lib.hid rfl⟩
  have hlen : Hid (L.length = 4096) := by rw [← hL.out]; exact CL_len _
  have hokl : Hid (Okl L) := by rw [← hL.out]; exact CL_okl _
  obtain ⟨T, hT⟩ : ∃ T, Hid (CT 4096 = T) := ⟨_, Lib.hid rfl⟩
  have HTL : Hid (T.length ≤ 1000000) := by
    show _ ≤ _
    have := CT_len 4096
    rw [hT.out] at this
    omega
  have hTT : textT L = T := by rw [← hL.out, ← hT.out]; rfl
  obtain ⟨htx, hpk⟩ := text_most
  obtain ⟨m1, hs1, hm1⟩ := script_most
  obtain ⟨m2, hu2, hm2⟩ := unpack_pack (CL 4096) (CL_good _) (by rw [CL_len]; exact Nat.le_refl _)
  have hpl := CP_len 4096
  rw [hT.out] at hs1 htx
  rw [hL.out] at htx hpk hm1 hu2 hm2 hpl
  obtain ⟨S, hS⟩ : ∃ S, Hid (packT L = S) := ⟨_, Lib.hid rfl⟩
  rw [hS.out] at hpk hu2 hpl
  have C15 : Hid (∀ g W, Below w.heap.size w W → Cmds W (some ⟨g, 0, none⟩) L → Calls Tryz.prog 15 #[.slice (some ⟨g, 0, none⟩) 4096 4096] W fun e w' => e = .returned (.tuple #[.string (bs S), .int .i64 0]) ∧ Below W.heap.size W w') := fun g W hb h => by
    have := pack_any (some ⟨g, 0, none⟩) 4096 L 4096 hlen.out hokl.out W h (hE.below hb)
    rw [hpk] at this
    exact this
  have C14 : Hid (∀ g W, Below w.heap.size w W → Cmds W (some ⟨g, 0, none⟩) L → Calls Tryz.prog 14 #[.slice (some ⟨g, 0, none⟩) 4096 4096] W fun e w' => e = .returned (.tuple #[.string (bs T), .int .i64 0]) ∧ Below W.heap.size W w') := fun g W hb h => by
    have := text_any (some ⟨g, 0, none⟩) 4096 L 4096 hlen.out hokl.out W h (hE.below hb)
    rw [htx] at this
    exact this
  have C8 : Hid (∀ W, Below w.heap.size w W → Calls Tryz.prog 8 #[.string (bs T)] W fun e w' => ∃ a1 k1, e = .returned (.tuple #[.slice a1 4096 k1, .int .i64 0, .int .i64 0]) ∧ Hid (Below W.heap.size W w')) := fun W hb => (script_any T HTL.out W (hE.below hb)).mono fun e w' ⟨v, l1, q1, q2, q3, q4⟩ => by
    rw [hs1] at q1 q3
    obtain ⟨a1, k1, rfl, hcm⟩ := q2.out.cmds
    have h0 : l1.length = 4096 := by rw [q3.out.length, hm1.length]; exact hlen.out
    exact ⟨a1, k1, by rw [q1, h0], q4⟩
  have C17 : Hid (∀ W, Below w.heap.size w W → Calls Tryz.prog 17 #[.string (bs S)] W fun e w' => ∃ a1 k1, e = .returned (.tuple #[.slice a1 4096 k1, .int .i64 0]) ∧ Hid (Below W.heap.size W w')) := fun W hb => (unpack_any (bs S) (by rw [Pen.bs_size]; omega) W (hE.below hb)).mono fun e w' ⟨v, l1, q1, q2, q3, q4⟩ => by
    rw [show (bs S).data.toList = S from rfl, hu2] at q1 q3
    obtain ⟨a1, k1, rfl, hcm⟩ := q2.out.cmds
    have h0 : l1.length = 4096 := by rw [q3.out.length, hm2.length]; exact hlen.out
    exact ⟨a1, k1, by rw [q1, h0], q4⟩
  clear hE hTT hs1 htx hpk hu2 hpl
  go_enter Tryz.func5, Tryz.ntmps5
  go_wp2_with (refine make_cmds rfl (.tmp 20) (.tmp 20) rfl 4096 rfl rfl (by decide) ?_; refine Cmd.wpl_named fun W0 hW0 => ?_; have HR0 : Hid (RB w W0 w.heap.size 4096 0) := (by show RB _ _ _ _ _; rw [hW0]; exact rb_new w _); clear hW0)
  obtain ⟨g, hg⟩ : ∃ g, Hid (w.heap.size = g) := ⟨_, Lib.hid rfl⟩
  rw [hg.out] at HR0 ⊢
  go_loopw [6] (fun i wr => ∃ k : Nat, k ≤ 4096 ∧ i = .int .i64 (k : Int) ∧ Hid (RB w wr g 4096 k)) (fun i _ => 4096 - (intOf i).toNat)
  case atStart => exact ⟨0, Nat.zero_le _, rfl, HR0.out⟩
  case round =>
    obtain ⟨k, hk, rfl, HR⟩ := hrel
    by_cases hlt : k < 4096
    · have dk : decide ((k : Int) < 4096) = true := decide_eq_true (by omega)
      have hlt1 : (k : Int) < 4096 := by omega
      have HTH := Lib.hid (HR.out.there hlt)
      go_wp2_with (first
        | (refine wpList_buildTo rfl 41 _ rfl (some 29) rfl cc.val (by as_aux_lemma => kernel_rfl) ?_)
        | (refine wpList_store_mid rfl 41 (.tmp 30) (.tmp 29) rfl g (k * 22) cc.val rfl rfl HTH.out (size_val cc) (one_all cc) ?_; refine Cmd.wpl_named fun W2 hW2 => ?_; have HS : Hid (RB w W2 g 4096 (k + 1)) := (by show RB _ _ _ _ _; rw [hW2]; exact HR.out.step hlt); clear hW2))
      go_roundw
      case rel => exact ⟨k + 1, by omega, by go_num, HS⟩
      case measure => simp [intOf]; omega
    · have dk : decide ((k : Int) < 4096) = false := decide_eq_false (by omega)
      have hlt1 : ¬ (k : Int) < 4096 := by omega
      obtain rfl : k = 4096 := by omega
      have HCM : Hid (Cmds wr (some ⟨g, 0, none⟩) L) := by rw [← hL.out]; exact HR.out.cmds
      have HBL := Lib.hid HR.out.bel
      go_wp2
      go_loopw [5, 7] (fun v i wx => ∃ j : Nat, j ≤ 12 ∧ i = .int .i64 (j : Int) ∧ v = .string (bs (CT (2 ^ j))) ∧ Hid (Below wr.heap.size wr wx)) (fun _ i _ => 12 - (intOf i).toNat)
      case atStart => exact ⟨0, Nat.zero_le _, rfl, by rw [show (2 : Nat) ^ 0 = 1 from rfl, CT_one]; rfl, Below.refl _ _⟩
      case round =>
        obtain ⟨j, hj, rfl, rfl, HBx⟩ := hrel
        by_cases hlj : j < 12
        · have dj : decide ((j : Int) < 12) = true := decide_eq_true (by omega)
          have hlj1 : (j : Int) < 12 := by omega
          have h2j : 2 ^ j ≤ 2 ^ 12 := Nat.pow_le_pow_right (by decide) hj
          have hcl := CT_len (2 ^ j)
          have z1 : ¬ 9223372036854775807 < (bs (CT (2 ^ j))).size + (bs (CT (2 ^ j))).size := by rw [Pen.bs_size]; omega
          have EE : Hid (bs (CT (2 ^ j)) ++ bs (CT (2 ^ j)) = bs (CT (2 ^ (j + 1)))) := by
            show _ = _
            rw [bs_add, ← CT_add, show 2 ^ j + 2 ^ j = 2 ^ (j + 1) by rw [Nat.pow_succ]; omega]
          clear h2j hcl
          generalize CT (2 ^ j) = X at *
          go_wp2
          go_roundw
          case rel => exact ⟨j + 1, by omega, by go_num, congrArg Value.string EE.out, HBx⟩
          case measure => simp [intOf]; omega
        · have dj : decide ((j : Int) < 12) = false := decide_eq_false (by omega)
          have hlj1 : ¬ (j : Int) < 12 := by omega
          obtain rfl : j = 12 := by omega
          rw [show (2 : Nat) ^ 12 = 4096 from by decide]
          have HB0 := Lib.hid (below2 HBL.out HBx.out)
          have HC0 := Lib.hid (HCM.out.below HBx.out)
          rw [hT.out]
          go_wp2_with (first
            | (go_at_call 15; (with_reducible refine (C15.out _ _ HB0.out HC0.out).mono ?_); rintro e w1 ⟨rfl, hb1⟩; have HB1 := Lib.hid (below2 HB0.out hb1); have HC1 := Lib.hid (HC0.out.below hb1); clear hb1)
            | (go_at_call 14; (with_reducible refine (C14.out _ _ HB1.out HC1.out).mono ?_); rintro e w2 ⟨rfl, hb2⟩; have HB2 := Lib.hid (below2 HB1.out hb2); clear hb2)
            | (go_at_call 8; (with_reducible refine (C8.out _ HB2.out).mono ?_); rintro e w3 ⟨a3, k3, rfl, hb3⟩; have HB3 := Lib.hid (below2 HB2.out hb3.out); clear hb3)
            | (go_at_call 17; (with_reducible refine (C17.out _ HB3.out).mono ?_); rintro e w4 ⟨a4, k4, rfl, hb4⟩; have HB4 := Lib.hid (below2 HB3.out hb4.out); clear hb4)
            | (go_at_call 7; (with_reducible refine (AW.out _ HB4.out).mono ?_); rintro e w5 ⟨rfl, hb5⟩; have HB5 := Lib.hid (below2 HB4.out hb5); clear hb5))
          go_ret
          exact ⟨rfl, HB5.out⟩
set_option maxHeartbeats 16000000 in
theorem many4097 (w : World) (hE : Env w) : Calls Tryz.prog 5 #[.bool true] w fun e w' => e = .returned (.bool true) ∧ Below w.heap.size w w' := by
  have AW : Hid (∀ W, Below w.heap.size w W → Calls Tryz.prog 7 #[] W fun e w' => e = .returned (.bool true) ∧ Below W.heap.size W w') := fun W hb => awake_any W (hE.below hb)
  obtain ⟨L, hL⟩ : ∃ L, Hid (CL 4097 = L) := ⟨_, Lib.hid rfl⟩
  have hlen : Hid (L.length = 4097) := by rw [← hL.out]; exact CL_len _
  have hokl : Hid (Okl L) := by rw [← hL.out]; exact CL_okl _
  obtain ⟨T, hT⟩ : ∃ T, Hid (CT 4097 = T) := ⟨_, Lib.hid rfl⟩
  have HTL : Hid (T.length ≤ 1000000) := by
    show _ ≤ _
    have := CT_len 4097
    rw [hT.out] at this
    omega
  have hTT : textT L = T := by rw [← hL.out, ← hT.out]; rfl
  obtain ⟨htx, hpk⟩ := text_more
  rw [hL.out] at htx hpk
  have C15 : Hid (∀ g W, Below w.heap.size w W → Cmds W (some ⟨g, 0, none⟩) L → Calls Tryz.prog 15 #[.slice (some ⟨g, 0, none⟩) 4097 4097] W fun e w' => e = .returned (.tuple #[.string ⟨#[]⟩, .int .i64 1]) ∧ Below W.heap.size W w') := fun g W hb h => by
    have := pack_any (some ⟨g, 0, none⟩) 4097 L 4097 hlen.out hokl.out W h (hE.below hb)
    rw [hpk] at this
    exact this
  have C14 : Hid (∀ g W, Below w.heap.size w W → Cmds W (some ⟨g, 0, none⟩) L → Calls Tryz.prog 14 #[.slice (some ⟨g, 0, none⟩) 4097 4097] W fun e w' => e = .returned (.tuple #[.string ⟨#[]⟩, .int .i64 1]) ∧ Below W.heap.size W w') := fun g W hb h => by
    have := text_any (some ⟨g, 0, none⟩) 4097 L 4097 hlen.out hokl.out W h (hE.below hb)
    rw [htx] at this
    exact this
  have C8 : Hid (∀ W, Below w.heap.size w W → Calls Tryz.prog 8 #[.string (bs T)] W fun e w' => ∃ a1 k1, e = .returned (.tuple #[.slice a1 0 k1, .int .i64 4097, .int .i64 4]) ∧ Hid (Below W.heap.size W w')) := fun W hb => (script_any T HTL.out W (hE.below hb)).mono fun e w' ⟨v, l1, q1, q2, q3, q4⟩ => by
    rw [← hT.out, script_more] at q1 q3
    obtain ⟨a1, k1, rfl, hcm⟩ := q2.out.cmds
    have h0 : l1.length = 0 := q3.out.length
    exact ⟨a1, k1, by rw [q1, h0], q4⟩
  clear hE hTT htx hpk
  go_enter Tryz.func5, Tryz.ntmps5
  go_wp2_with (refine make_cmds rfl (.tmp 20) (.tmp 20) rfl 4097 rfl rfl (by decide) ?_; refine Cmd.wpl_named fun W0 hW0 => ?_; have HR0 : Hid (RB w W0 w.heap.size 4097 0) := (by show RB _ _ _ _ _; rw [hW0]; exact rb_new w _); clear hW0)
  obtain ⟨g, hg⟩ : ∃ g, Hid (w.heap.size = g) := ⟨_, Lib.hid rfl⟩
  rw [hg.out] at HR0 ⊢
  go_loopw [6] (fun i wr => ∃ k : Nat, k ≤ 4097 ∧ i = .int .i64 (k : Int) ∧ Hid (RB w wr g 4097 k)) (fun i _ => 4097 - (intOf i).toNat)
  case atStart => exact ⟨0, Nat.zero_le _, rfl, HR0.out⟩
  case round =>
    obtain ⟨k, hk, rfl, HR⟩ := hrel
    by_cases hlt : k < 4097
    · have dk : decide ((k : Int) < 4097) = true := decide_eq_true (by omega)
      have hlt1 : (k : Int) < 4097 := by omega
      have HTH := Lib.hid (HR.out.there hlt)
      go_wp2_with (first
        | (refine wpList_buildTo rfl 41 _ rfl (some 29) rfl cc.val (by as_aux_lemma => kernel_rfl) ?_)
        | (refine wpList_store_mid rfl 41 (.tmp 30) (.tmp 29) rfl g (k * 22) cc.val rfl rfl HTH.out (size_val cc) (one_all cc) ?_; refine Cmd.wpl_named fun W2 hW2 => ?_; have HS : Hid (RB w W2 g 4097 (k + 1)) := (by show RB _ _ _ _ _; rw [hW2]; exact HR.out.step hlt); clear hW2))
      go_roundw
      case rel => exact ⟨k + 1, by omega, by go_num, HS⟩
      case measure => simp [intOf]; omega
    · have dk : decide ((k : Int) < 4097) = false := decide_eq_false (by omega)
      have hlt1 : ¬ (k : Int) < 4097 := by omega
      obtain rfl : k = 4097 := by omega
      have HCM : Hid (Cmds wr (some ⟨g, 0, none⟩) L) := by rw [← hL.out]; exact HR.out.cmds
      have HBL := Lib.hid HR.out.bel
      go_wp2
      go_loopw [5, 7] (fun v i wx => ∃ j : Nat, j ≤ 12 ∧ i = .int .i64 (j : Int) ∧ v = .string (bs (CT (2 ^ j))) ∧ Hid (Below wr.heap.size wr wx)) (fun _ i _ => 12 - (intOf i).toNat)
      case atStart => exact ⟨0, Nat.zero_le _, rfl, by rw [show (2 : Nat) ^ 0 = 1 from rfl, CT_one]; rfl, Below.refl _ _⟩
      case round =>
        obtain ⟨j, hj, rfl, rfl, HBx⟩ := hrel
        by_cases hlj : j < 12
        · have dj : decide ((j : Int) < 12) = true := decide_eq_true (by omega)
          have hlj1 : (j : Int) < 12 := by omega
          have h2j : 2 ^ j ≤ 2 ^ 12 := Nat.pow_le_pow_right (by decide) hj
          have hcl := CT_len (2 ^ j)
          have z1 : ¬ 9223372036854775807 < (bs (CT (2 ^ j))).size + (bs (CT (2 ^ j))).size := by rw [Pen.bs_size]; omega
          have EE : Hid (bs (CT (2 ^ j)) ++ bs (CT (2 ^ j)) = bs (CT (2 ^ (j + 1)))) := by
            show _ = _
            rw [bs_add, ← CT_add, show 2 ^ j + 2 ^ j = 2 ^ (j + 1) by rw [Nat.pow_succ]; omega]
          clear h2j hcl
          generalize CT (2 ^ j) = X at *
          go_wp2
          go_roundw
          case rel => exact ⟨j + 1, by omega, by go_num, congrArg Value.string EE.out, HBx⟩
          case measure => simp [intOf]; omega
        · have dj : decide ((j : Int) < 12) = false := decide_eq_false (by omega)
          have hlj1 : ¬ (j : Int) < 12 := by omega
          obtain rfl : j = 12 := by omega
          rw [show (2 : Nat) ^ 12 = 4096 from by decide]
          have HB0 := Lib.hid (below2 HBL.out HBx.out)
          have HC0 := Lib.hid (HCM.out.below HBx.out)
          have hcl := CT_len 4096
          have z1 : ¬ 9223372036854775807 < (bs (CT 4096)).size + 6 := by rw [Pen.bs_size]; omega
          have EE : bs (CT 4096) ++ (⟨#[99, 108, 111, 99, 107, 10]⟩ : ByteArray) = bs T := by
            rw [show (⟨#[99, 108, 111, 99, 107, 10]⟩ : ByteArray) = bs (CT 1) by rw [CT_one]; rfl, bs_add, ← CT_add, hT.out]
          clear hcl
          generalize CT 4096 = X at *
          have hne : (⟨#[]⟩ : ByteArray).toList.isEmpty = true := by rw [show (⟨#[]⟩ : ByteArray) = bs [] from rfl, bs_toList]; rfl
          go_wp2_with (first
            | (go_at_call 15; (with_reducible refine (C15.out _ _ HB0.out HC0.out).mono ?_); rintro e w1 ⟨rfl, hb1⟩; have HB1 := Lib.hid (below2 HB0.out hb1); have HC1 := Lib.hid (HC0.out.below hb1); clear hb1)
            | (go_at_call 14; (with_reducible refine (C14.out _ _ HB1.out HC1.out).mono ?_); rintro e w2 ⟨rfl, hb2⟩; have HB2 := Lib.hid (below2 HB1.out hb2); clear hb2)
            | (go_at_call 8; (with_reducible refine (C8.out _ HB2.out).mono ?_); rintro e w3 ⟨a3, k3, rfl, hb3⟩; have HB3 := Lib.hid (below2 HB2.out hb3.out); clear hb3)
            | (go_at_call 7; (with_reducible refine (AW.out _ HB3.out).mono ?_); rintro e w4 ⟨rfl, hb4⟩; have HB4 := Lib.hid (below2 HB3.out hb4); clear hb4))
          go_ret
          exact ⟨rfl, HB4.out⟩
theorem many_walk (b : Bool) (w : World) (hE : Env w) : Calls Tryz.prog 5 #[.bool b] w fun e w' => e = .returned (.bool true) ∧ Below w.heap.size w w' := by
  cases b with
  | true => exact many4097 w hE
  | false => exact many4096 w hE
end Asm
end Go.Proofs.YtlhalhilnkneeaaGreatDoor
end
