/- Texts put together: AskN. -/
import Derived.Test.YtlhalhilnkneeaaGreatDoorM27
set_option linter.all false
section
set_option maxRecDepth 100000
namespace Go.Proofs.YtlhalhilnkneeaaGreatDoor
open Go.RowKit Go.Great Go.Sort
namespace Asm
open Pen (bs)
open In (strVals Strs)
open Frm (rows put)
open Rec (below2 below_al below_dN Stk Stks stkVals)
open Cmd (Gives Snum CmdIn fi fn nm names place chkV Cok Lies Stand Eqv zeroC kindOf nameOf cmdB putV Clear takeV GivesT)
theorem asm_text {l : List CmdIn} (h : ∀ c ∈ l, Good c) (hn : l.length ≤ 20) : asmV (textT l) = (packT l, 0, 0) ∧ ∃ m, scriptV (textT l) = (m, 0, 0) ∧ EqvL m l := by
  have ht := text_len l h
  have : 1016 * l.length ≤ 1016 * 20 := Nat.mul_le_mul_left _ hn
  obtain ⟨m, h1, h2⟩ := script_text l h (by omega) (by omega)
  refine ⟨?_, m, h1, h2⟩
  unfold asmV
  rw [h1]
  dsimp only
  rw [if_pos rfl, (textV_eqv h2).2]
  unfold packV
  rw [if_neg (by omega), if_neg (by rw [bad_of fun c hc => (h c hc).chk]; decide)]
theorem dis_pack {l : List CmdIn} (h : ∀ c ∈ l, Good c) (hn : l.length ≤ 20) : disV (packT l) = (textT l, 0) := by
  obtain ⟨m, h1, h2⟩ := unpack_pack l h (by omega)
  unfold disV
  rw [h1]
  dsimp only
  rw [if_pos rfl, (textV_eqv h2).1]
  unfold textV
  rw [if_neg (by omega), if_neg (by rw [bad_of fun c hc => (h c hc).chk]; decide)]
theorem pack_len : ∀ l : List CmdIn, (∀ c ∈ l, Good c) → (packT l).length ≤ 4104 * l.length
  | [], _ => Nat.zero_le _
  | c :: l, h => by
    have hc := cmd_len c (h c (List.mem_cons_self ..))
    have h2 := pack_len l fun d hd => h d (List.mem_cons_of_mem _ hd)
    have e : packT (c :: l) = put (cmdB c) ++ packT l := rfl
    rw [e, List.length_append, Frm.put_length, List.length_cons]
    omega
theorem cmds_take {W : World} {a : Option Addr} {l : List CmdIn} (h : Cmds W a l) (k : Nat) : Cmds W a (l.take k) := fun i hi => by
  have h1 : i < k ∧ i < l.length := by rw [List.length_take] at hi; omega
  have e : (l.take k).getD i zeroC = l.getD i zeroC := by
    rw [List.getD_eq_getElem?_getD, List.getD_eq_getElem?_getD, List.getElem?_take, if_pos h1.1]
  rw [e]
  exact h i h1.2
/-- The first commands of a row. -/
theorem slice_head {ops : Array Oper} {rest : List Oper} {o : Oper} {a : Act} {w : World} {Q : Exit → Act → World → Prop} (hg : o.guard = none) (x y : Operand) (hop : o.op = Op.slice 23 x none (some y) none) (p : Option Addr) (n cap z : Nat) (hx : a.eval x = .slice p n cap) (hy : a.eval y = .int .i64 (z : Int)) (hz : z ≤ cap)
    (h : ∀ p', (∀ W l, Cmds W p l → Cmds W p' l) → wpList Tryz.prog ops Q rest (a.put o.dst (.slice p' z cap)) w) : wpList Tryz.prog ops Q (o :: rest) a w := by
  refine wpList_plain hg fun K' hK' => ?_
  obtain ⟨i0, hi, hz0, hz1, hz2⟩ := info_parts cinfo
  have hu := Tryz.underlying23
  have hrun : (Instr.sliceAt 23 (.slice p n cap) none (some (.int .i64 (z : Int))) none).run Tryz.prog w = .ok (.slice (if cap = 0 then p else p.map (·.add 0)) z cap) w := by
    have h1 : (0 : Int) ≤ (z : Int) ∧ (z : Int) ≤ (cap : Int) := by omega
    simp [Instr.sliceAt, Instr.slice, Instr.sliceBounds, Instr.sliceBound, Sem.run_bind, run_underlying hu w, sizeOf, typeInfo, hi, hz1, asIntOf, h1]
    exact fun hh => absurd hh (by omega)
  unfold Oper.wp
  simp [execOp, hop, hx, hy, hrun, Result.andThen]
  refine hK' _ _ (h _ fun W l hc i hl => ?_)
  obtain ⟨b, off, rfl, h1, h2, h3⟩ := hc i hl
  have hadd : (⟨b, off, none⟩ : Addr).add 0 = ⟨b, off, none⟩ := by unfold Addr.add; split <;> simp_all
  refine ⟨b, off, ?_, h1, h2, h3⟩
  split
  · rfl
  · rw [Option.map_some, hadd]
set_option maxHeartbeats 16000000 in
theorem back_walk (a : Option Addr) (cap : Nat) (l : List CmdIn) (c : Int) (hc0 : 0 ≤ c ∧ c ≤ 65535) (w : World) (hlc : l.length ≤ cap) (ha : Cmds w a l) (hc : ∀ c ∈ l, (c.gives.length ≤ 100 ∧ c.wants.length ≤ 100 → Cok c) ∧ Clear c) (hE : Env w) : Calls Tryz.prog 4 #[.slice a l.length cap, .int .u16 c] w fun e w' => e = .returned (.bool true) ∧ Below w.heap.size w w' := by
  obtain ⟨n, hn⟩ : ∃ n, Hid (l.length = n) := ⟨_, Lib.hid rfl⟩
  have AW : Hid (∀ W, Below w.heap.size w W → Calls Tryz.prog 7 #[] W fun e w' => e = .returned (.bool true) ∧ Below W.heap.size W w') := fun W hb => awake_any W (hE.below hb)
  rw [hn.out] at hlc ⊢
  by_cases hf : FewL l 20
  · obtain ⟨h20, h12⟩ := hf
    have hok := few_okl hc h12
    have FY : Hid (Calls Tryz.prog 13 #[.slice a n cap, .int .i64 20] w fun e w' => e = .returned (.bool true) ∧ Below w.heap.size w w') := few_yes a cap l n 20 hn.out (by decide) ⟨h20, h12⟩ w ha
    have C14 : Hid (∀ W, Below w.heap.size w W → Calls Tryz.prog 14 #[.slice a n cap] W fun e w' => e = .returned (.tuple #[.string (bs (textV l).1), .int .i64 (textV l).2]) ∧ Below W.heap.size W w') := fun W hb => text_any a cap l n hn.out hok W (ha.below hb) (hE.below hb)
    have C15 : Hid (∀ W, Below w.heap.size w W → Calls Tryz.prog 15 #[.slice a n cap] W fun e w' => e = .returned (.tuple #[.string (bs (packV l).1), .int .i64 (packV l).2]) ∧ Below W.heap.size W w') := fun W hb => pack_any a cap l n hn.out hok W (ha.below hb) (hE.below hb)
    cases hb : bad l with
    | true =>
      have e1 : textV l = ([], 1) := by unfold textV; rw [if_neg (by omega), if_pos hb]
      have e2 : packV l = ([], 1) := by unfold packV; rw [if_neg (by omega), if_pos hb]
      rw [e1] at C14
      rw [e2] at C15
      have hne : (bs ([] : List UInt8)).toList.isEmpty = true := by rw [bs_toList]; rfl
      clear hE hc ha hok hb e1 e2 h12
      go_enter Tryz.func4, Tryz.ntmps4
      go_wp2_with (first
        | (go_at_call 13; (with_reducible refine FY.out.mono ?_); rintro e w0 ⟨rfl, hb0⟩; have HB0 := Lib.hid hb0; clear hb0)
        | (go_at_call 14; (with_reducible refine (C14.out _ HB0.out).mono ?_); rintro e w1 ⟨rfl, hb1⟩; have HB1 := Lib.hid (below2 HB0.out hb1); clear hb1)
        | (go_at_call 15; (with_reducible refine (C15.out _ HB1.out).mono ?_); rintro e w2 ⟨rfl, hb2⟩; have HB2 := Lib.hid (below2 HB1.out hb2); clear hb2)
        | (go_at_call 7; (with_reducible refine (AW.out _ HB2.out).mono ?_); rintro e w3 ⟨rfl, hb3⟩; have HB3 := Lib.hid (below2 HB2.out hb3); clear hb3))
      go_ret
      exact ⟨rfl, HB3.out⟩
    | false =>
      have hG := hok.good hb
      have e1 : textV l = (textT l, 0) := by unfold textV; rw [if_neg (by omega), if_neg (by rw [hb]; decide)]
      have e2 : packV l = (packT l, 0) := by unfold packV; rw [if_neg (by omega), if_neg (by rw [hb]; decide)]
      rw [e1] at C14
      rw [e2] at C15
      obtain ⟨ha1, m1, hs1, hm1⟩ := asm_text hG h20
      have hd1 := dis_pack hG h20
      obtain ⟨m2, hu2, hm2⟩ := unpack_pack l hG (by omega)
      have htl := text_len l hG
      have hpl := pack_len l hG
      have h20a : 1016 * l.length ≤ 1016 * 20 := Nat.mul_le_mul_left _ h20
      have h20b : 4104 * l.length ≤ 4104 * 20 := Nat.mul_le_mul_left _ h20
      have C10 : Hid (∀ W, Below w.heap.size w W → Calls Tryz.prog 10 #[.string (bs (textT l))] W fun e w' => e = .returned (.tuple #[.string (bs (packT l)), .int .i64 0, .int .i64 0]) ∧ Below W.heap.size W w') := fun W hb => by
        have := assemble_any (textT l) (by omega) W (hE.below hb)
        rw [ha1] at this
        exact this
      have C16 : Hid (∀ W, Below w.heap.size w W → Calls Tryz.prog 16 #[.string (bs (packT l))] W fun e w' => e = .returned (.tuple #[.string (bs (textT l)), .int .i64 0]) ∧ Below W.heap.size W w') := fun W hb => by
        have := disassemble_any (bs (packT l)) (by rw [Pen.bs_size]; omega) W (hE.below hb)
        rw [show (bs (packT l)).data.toList = packT l from rfl, hd1] at this
        exact this
      have C8 : Hid (∀ W, Below w.heap.size w W → Calls Tryz.prog 8 #[.string (bs (textT l))] W fun e w' => ∃ a1 k1 l1, e = .returned (.tuple #[.slice a1 n k1, .int .i64 0, .int .i64 0]) ∧ Hid (Cmds w' a1 l1) ∧ Hid (EqvL l1 l) ∧ Hid (Below W.heap.size W w')) := fun W hb => (script_any (textT l) (by omega) W (hE.below hb)).mono fun e w' ⟨v, l1, q1, q2, q3, q4⟩ => by
        obtain ⟨a1, k1, rfl, hcm⟩ := q2.out.cmds
        have he : EqvL l1 l := by have := q3.out; rw [hs1] at this; exact EqvL.trans this hm1
        refine ⟨a1, k1, l1, ?_, hcm, he, q4⟩
        rw [q1, hs1, he.length, hn.out]
      have C17 : Hid (∀ W, Below w.heap.size w W → Calls Tryz.prog 17 #[.string (bs (packT l))] W fun e w' => ∃ a1 k1 l1, e = .returned (.tuple #[.slice a1 n k1, .int .i64 0]) ∧ Hid (Cmds w' a1 l1) ∧ Hid (EqvL l1 l) ∧ Hid (Below W.heap.size W w')) := fun W hb => (unpack_any (bs (packT l)) (by rw [Pen.bs_size]; omega) W (hE.below hb)).mono fun e w' ⟨v, l1, q1, q2, q3, q4⟩ => by
        rw [show (bs (packT l)).data.toList = packT l from rfl, hu2] at q1 q3
        obtain ⟨a1, k1, rfl, hcm⟩ := q2.out.cmds
        have he : EqvL l1 l := EqvL.trans q3.out hm2
        refine ⟨a1, k1, l1, ?_, hcm, he, q4⟩
        rw [q1, he.length, hn.out]
      have C12 : Hid (∀ (a1 : Option Addr) (k1 : Nat) (l1 : List CmdIn), EqvL l1 l → ∀ W, Below w.heap.size w W → Cmds W a1 l1 → Calls Tryz.prog 12 #[.slice a1 n k1, .slice a n cap] W fun e w' => e = .returned (.bool true) ∧ Below W.heap.size W w') := fun a1 k1 l1 he W hb h1 =>
        sameL_any a1 a k1 cap l1 l n (by rw [he.length]; exact hn.out) (by have := hn.out; omega) he (fun c hc => (Okl.eqv he hok c hc).1.few) W h1 (ha.below hb)
      have HA := Lib.hid ha
      obtain ⟨cu, hcu⟩ : ∃ cu : Nat, c = (cu : Int) := ⟨c.toNat, by omega⟩
      subst hcu
      obtain ⟨S, hS⟩ : ∃ S, Hid (packT l = S) := ⟨_, Lib.hid rfl⟩
      obtain ⟨T, hT⟩ : ∃ T, Hid (textT l = T) := ⟨_, Lib.hid rfl⟩
      obtain ⟨kk, hkk⟩ : ∃ kk, Hid (cu % (S.length + 1) = kk) := ⟨_, Lib.hid rfl⟩
      have hkS : kk ≤ S.length := by rw [← hkk.out]; exact Nat.le_of_lt_succ (Nat.mod_lt cu (Nat.succ_pos S.length))
      have hSz : (bs S).size = S.length := Pen.bs_size S
      have hSl : S.length ≤ 100000 := by rw [← hS.out]; omega
      have hcub : cu ≤ 65535 := by omega
      have hex : (bs S).extract 0 kk = bs (S.take kk) := by
        apply ByteArray.ext
        rw [ByteArray.data_extract]
        apply Array.toList_inj.1
        rw [Array.toList_extract]
        show (S.drop 0).take (kk - 0) = S.take kk
        simp
      have hmod : Int.tmod (cu : Int) ((S.length : Int) + 1) = (kk : Int) := by
        rw [← hkk.out]
        rw [show ((S.length : Int) + 1) = ((S.length + 1 : Nat) : Int) by omega, ← Int.ofNat_tmod]
      have hcut := unpack_cut l hG (by omega) kk (by rw [hS.out]; exact hkS)
      rw [hS.out] at hcut
      have UZ : Hid (∀ W, Below w.heap.size w W → Calls Tryz.prog 17 #[.string (bs (S.take kk))] W (GivesU (unpackV (S.take kk)) W)) := fun W hb => unpack_any (bs (S.take kk)) (by rw [Pen.bs_size, List.length_take]; omega) W (hE.below hb)
      rw [hS.out] at C15 C10 C16 C17
      rw [hT.out] at C14 C10 C16 C8
      have hnz : ¬ ((S.length : Int) + 1 = 0) := by omega
      rcases hcut with hz | ⟨m3, k3, hk3, hz, hm3⟩
      · have CZ : Hid (∀ W, Below w.heap.size w W → Calls Tryz.prog 17 #[.string (bs (S.take kk))] W fun e w' => ∃ a1 k1, e = .returned (.tuple #[.slice a1 0 k1, .int .i64 2]) ∧ Hid (Below W.heap.size W w')) := fun W hb => (UZ.out W hb).mono fun e w' ⟨v, l1, q1, q2, q3, q4⟩ => by
          rw [hz] at q1 q3
          obtain ⟨a1, k1, rfl, hcm⟩ := q2.out.cmds
          have h0 : l1.length = 0 := q3.out.length
          exact ⟨a1, k1, by rw [q1, h0], q4⟩
        clear hE hc ha hok hb e1 e2 h12 hG ha1 hs1 hd1 hu2 htl hpl h20a h20b UZ hz hm1 hm2
        go_enter Tryz.func4, Tryz.ntmps4
        go_wp2_with (first
          | (go_at_call 13; (with_reducible refine FY.out.mono ?_); rintro e w0 ⟨rfl, hb0⟩; have HB0 := Lib.hid hb0; clear hb0)
          | (go_at_call 14; (with_reducible refine (C14.out _ HB0.out).mono ?_); rintro e w1 ⟨rfl, hb1⟩; have HB1 := Lib.hid (below2 HB0.out hb1); clear hb1)
          | (go_at_call 15; (with_reducible refine (C15.out _ HB1.out).mono ?_); rintro e w2 ⟨rfl, hb2⟩; have HB2 := Lib.hid (below2 HB1.out hb2); clear hb2)
          | (go_at_call 10; (with_reducible refine (C10.out _ HB2.out).mono ?_); rintro e w3 ⟨rfl, hb3⟩; have HB3 := Lib.hid (below2 HB2.out hb3); clear hb3)
          | (go_at_call 16; (with_reducible refine (C16.out _ HB3.out).mono ?_); rintro e w4 ⟨rfl, hb4⟩; have HB4 := Lib.hid (below2 HB3.out hb4); clear hb4)
          | (go_at_call 8; (with_reducible refine (C8.out _ HB4.out).mono ?_); rintro e w5 ⟨a5, k5, l5, rfl, HC5, HE5, HB45⟩; have HB5 := Lib.hid (below2 HB4.out HB45.out))
          | (go_at_call 17; (with_reducible refine (C17.out _ HB5.out).mono ?_); rintro e w6 ⟨a6, k6, l6, rfl, HC6, HE6, HB56⟩; have HB6 := Lib.hid (below2 HB5.out HB56.out); have HC5b := Lib.hid (HC5.out.below HB56.out))
          | (go_at_call 12; (with_reducible refine (C12.out _ _ _ HE5.out _ HB6.out HC5b.out).mono ?_); rintro e w7 ⟨rfl, hb7⟩; have HB7 := Lib.hid (below2 HB6.out hb7); have HC6b := Lib.hid (HC6.out.below hb7); clear hb7)
          | (go_at_call 12; (with_reducible refine (C12.out _ _ _ HE6.out _ HB7.out HC6b.out).mono ?_); rintro e w8 ⟨rfl, hb8⟩; have HB8 := Lib.hid (below2 HB7.out hb8); clear hb8)
          | (go_at_call 17; (with_reducible refine (CZ.out _ HB8.out).mono ?_); rintro e w9 ⟨a9, k9, rfl, HB89⟩; have HB9 := Lib.hid (below2 HB8.out HB89.out))
          | (go_at_call 7; (with_reducible refine (AW.out _ HB9.out).mono ?_); rintro e w10 ⟨rfl, hb10⟩; have HB10 := Lib.hid (below2 HB9.out hb10); clear hb10))
        go_ret
        exact ⟨rfl, HB10.out⟩
      · have hl3 : m3.length ≤ n := by rw [hm3.length, List.length_take, ← hn.out]; omega
        obtain ⟨z3, hz3⟩ : ∃ z, Hid (m3.length = z) := ⟨_, Lib.hid rfl⟩
        have hz3n : z3 ≤ n := by rw [← hz3.out]; exact hl3
        have CZ : Hid (∀ W, Below w.heap.size w W → Calls Tryz.prog 17 #[.string (bs (S.take kk))] W fun e w' => ∃ a1 k1 l1, e = .returned (.tuple #[.slice a1 z3 k1, .int .i64 0]) ∧ Hid (Cmds w' a1 l1) ∧ Hid (EqvL l1 (l.take z3)) ∧ Hid (Below W.heap.size W w')) := fun W hb => (UZ.out W hb).mono fun e w' ⟨v, l1, q1, q2, q3, q4⟩ => by
          rw [hz] at q1 q3
          obtain ⟨a1, k1, rfl, hcm⟩ := q2.out.cmds
          have hk : z3 = k3 := by rw [← hz3.out, hm3.length, List.length_take]; omega
          have he : EqvL l1 (l.take z3) := by rw [hk]; exact EqvL.trans q3.out hm3
          refine ⟨a1, k1, l1, ?_, hcm, he, q4⟩
          rw [q1, q3.out.length, hz3.out]
        have CS3 : Hid (∀ (a1 p' : Option Addr) (k1 : Nat) (l1 : List CmdIn), EqvL l1 (l.take z3) → (∀ W l, Cmds W a l → Cmds W p' l) → ∀ W, Below w.heap.size w W → Cmds W a1 l1 → Calls Tryz.prog 12 #[.slice a1 z3 k1, .slice p' z3 cap] W fun e w' => e = .returned (.bool true) ∧ Below W.heap.size W w') := fun a1 p' k1 l1 he hp W hb h1 =>
          sameL_any a1 p' k1 cap l1 (l.take z3) z3 (by rw [he.length, List.length_take, hn.out]; omega) (by have := hn.out; omega) he (fun c hc => (Okl.eqv he (hok.take z3) c hc).1.few) W h1 (hp _ _ (cmds_take (HA.out.below hb) z3))
        have hz3c : z3 ≤ cap := by omega
        clear hE hc ha hok hb e1 e2 h12 hG ha1 hs1 hd1 hu2 htl hpl h20a h20b UZ hz hm1 hm2 hm3 hl3
        go_enter Tryz.func4, Tryz.ntmps4
        go_wp2_with (first
          | (go_at_call 13; (with_reducible refine FY.out.mono ?_); rintro e w0 ⟨rfl, hb0⟩; have HB0 := Lib.hid hb0; clear hb0)
          | (go_at_call 14; (with_reducible refine (C14.out _ HB0.out).mono ?_); rintro e w1 ⟨rfl, hb1⟩; have HB1 := Lib.hid (below2 HB0.out hb1); clear hb1)
          | (go_at_call 15; (with_reducible refine (C15.out _ HB1.out).mono ?_); rintro e w2 ⟨rfl, hb2⟩; have HB2 := Lib.hid (below2 HB1.out hb2); clear hb2)
          | (go_at_call 10; (with_reducible refine (C10.out _ HB2.out).mono ?_); rintro e w3 ⟨rfl, hb3⟩; have HB3 := Lib.hid (below2 HB2.out hb3); clear hb3)
          | (go_at_call 16; (with_reducible refine (C16.out _ HB3.out).mono ?_); rintro e w4 ⟨rfl, hb4⟩; have HB4 := Lib.hid (below2 HB3.out hb4); clear hb4)
          | (go_at_call 8; (with_reducible refine (C8.out _ HB4.out).mono ?_); rintro e w5 ⟨a5, k5, l5, rfl, HC5, HE5, HB45⟩; have HB5 := Lib.hid (below2 HB4.out HB45.out))
          | (go_at_call 17; (with_reducible refine (C17.out _ HB5.out).mono ?_); rintro e w6 ⟨a6, k6, l6, rfl, HC6, HE6, HB56⟩; have HB6 := Lib.hid (below2 HB5.out HB56.out); have HC5b := Lib.hid (HC5.out.below HB56.out))
          | (go_at_call 12; (with_reducible refine (C12.out _ _ _ HE5.out _ HB6.out HC5b.out).mono ?_); rintro e w7 ⟨rfl, hb7⟩; have HB7 := Lib.hid (below2 HB6.out hb7); have HC6b := Lib.hid (HC6.out.below hb7); clear hb7)
          | (go_at_call 12; (with_reducible refine (C12.out _ _ _ HE6.out _ HB7.out HC6b.out).mono ?_); rintro e w8 ⟨rfl, hb8⟩; have HB8 := Lib.hid (below2 HB7.out hb8); clear hb8)
          | (go_at_call 17; (with_reducible refine (CZ.out _ HB8.out).mono ?_); rintro e w9 ⟨a9, k9, l9, rfl, HC9, HE9, HB89⟩; have HB9 := Lib.hid (below2 HB8.out HB89.out))
          | (refine wpl_unguard rfl ?_; refine slice_head rfl (.tmp 148) (.tmp 150) rfl a n cap z3 rfl rfl hz3c ?_; intro p9 hp9; have HP9 := Lib.hid hp9; clear hp9)
          | (go_at_call 12; (with_reducible refine (CS3.out _ _ _ _ HE9.out HP9.out _ HB9.out HC9.out).mono ?_); rintro e w10 ⟨rfl, hb10⟩; have HB10 := Lib.hid (below2 HB9.out hb10); clear hb10)
          | (go_at_call 7; (with_reducible refine (AW.out _ HB10.out).mono ?_); rintro e w11 ⟨rfl, hb11⟩; have HB11 := Lib.hid (below2 HB10.out hb11); clear hb11))
        go_ret
        exact ⟨rfl, HB11.out⟩
  · have FY : Hid (Calls Tryz.prog 13 #[.slice a n cap, .int .i64 20] w fun e w' => e = .returned (.bool false) ∧ Below w.heap.size w w') := few_no a cap l n 20 hn.out (by decide) hf w ha
    clear hE hc ha hf
    go_enter Tryz.func4, Tryz.ntmps4
    go_wp2_with (first
      | (go_at_call 13; (with_reducible refine FY.out.mono ?_); rintro e w0 ⟨rfl, hb0⟩; have HB0 := Lib.hid hb0; clear hb0)
      | (go_at_call 7; (with_reducible refine (AW.out _ HB0.out).mono ?_); rintro e w1 ⟨rfl, hb1⟩; have HB1 := Lib.hid (below2 HB0.out hb1); clear hb1))
    go_ret
    exact ⟨rfl, HB1.out⟩
end Asm
end Go.Proofs.YtlhalhilnkneeaaGreatDoor
end
