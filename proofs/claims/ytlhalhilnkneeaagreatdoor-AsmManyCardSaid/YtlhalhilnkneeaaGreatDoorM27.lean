/- Texts put together: AskM. -/
import Derived.Test.YtlhalhilnkneeaaGreatDoorM26
import Derived.ChangeKeysEq
import Derived.Laws.StructEq
set_option linter.all false
section
set_option maxRecDepth 100000
namespace Go.Proofs.YtlhalhilnkneeaaGreatDoor
open Go.RowKit Go.Great Go.Sort
namespace Asm
open Pen (bs)
open In (strVals Strs)
open Frm (rows put)
open Rec (below2 below_al below_dN Stk Stks stkVals)
open Cmd (Gives Snum CmdIn fi fn nm names place chkV Cok Lies Stand Eqv zeroC kindOf nameOf cmdB putV Clear takeV GivesT)
theorem items_same (f : Nat → Int) (d : Nat) (w : World) : ∀ is : List Nat, (∀ i ∈ is, i < 26) → (Op.eqItems (d + 1) 3 1 (cntArr f) (cntArr f) is).run Tryz.prog w = .ok true w
  | [], _ => by simp [Op.eqItems]
  | i :: is, h => by
    have hp : Tryz.prog.plainKey 3 = true := by kernel_rfl
    have hx : (cntArr f)[i * 1]? = some (.int .i64 (f i)) := by rw [Nat.mul_one]; exact cnt_get f i (h i (List.mem_cons_self ..))
    have p1 := run_part_plain (P := Tryz.prog) w hp hx
    have p2 := run_equalIn_int (P := Tryz.prog) w d 3 .i64 .i64 (f i) (f i) Tryz.underlying3
    rw [beq_self_eq_true] at p2
    simp only [Op.eqItems, Sem.run_bind, p1, p2, Result.andThen_ok]
    simpa using items_same f d w is fun j hj => h j (List.mem_cons_of_mem _ hj)
theorem run_eql_cnt (f : Nat → Int) (w : World) : (Go.binOp .eql 43 (.agg (cntArr f)) (.agg (cntArr f))).run Tryz.prog w = .ok (.bool true) w := by
  obtain ⟨i, hi⟩ : ∃ i, Tryz.prog.info? 3 = some i := Option.isSome_iff_exists.1 (by kernel_rfl)
  have hc : Tryz.prog.cellsOf 3 = 1 := by kernel_rfl
  rw [run_eql_struct, show (10000 : Nat) = 9999 + 1 from rfl, run_equalIn_array w 9999 _ _ Tryz.underlying43 hi, hc, show (9999 : Nat) = 9998 + 1 from rfl, items_same f 9998 w (List.range 26) (fun i hi => List.mem_range.1 hi)]
  rfl
/-- Counts that are the same. -/
theorem eql_cnt {ops : Array Oper} {rest : List Oper} {o : Oper} {a : Act} {w : World} {Q : Exit → Act → World → Prop} (hg : o.guard = none) (x y : Operand) (hop : o.op = Op.binOp .eql 43 x y 43) (f : Nat → Int) (hx : a.eval x = .agg (cntArr f)) (hy : a.eval y = .agg (cntArr f))
    (h : wpList Tryz.prog ops Q rest (a.put o.dst (.bool true)) w) : wpList Tryz.prog ops Q (o :: rest) a w := by
  refine wpList_plain hg fun K' hK' => ?_
  have hrun := run_eql_cnt f w
  have hgd := run_eqGuard_agg (P := Tryz.prog) w .eql 43 x y (cntArr f) (cntArr f) (by kernel_rfl)
  unfold Oper.wp
  simp [execOp, hop, hx, hy, hrun, hgd, Sem.run_bind, Result.andThen]
  exact hK' _ _ h
theorem few_okl {l : List CmdIn} (h : ∀ c ∈ l, (c.gives.length ≤ 100 ∧ c.wants.length ≤ 100 → Cok c) ∧ Clear c) (hf : ∀ c ∈ l, c.gives.length ≤ 12 ∧ c.wants.length ≤ 12) : Okl l := fun c hc => by
  obtain ⟨h1, h2⟩ := h c hc
  have := hf c hc
  exact ⟨h1 ⟨by omega, by omega⟩, h2⟩
theorem gives_u {r : List CmdIn × Int} {W w' : World} {e : Ending} (h : GivesU r W e w') : ∃ a cap l, e = .returned (.tuple #[.slice a (List.length l) cap, .int .i64 r.2]) ∧ Hid (Cmds w' a l) ∧ Hid (EqvL l r.1) ∧ Hid (Below W.heap.size W w') := by
  obtain ⟨v, l, h1, h2, h3, h4⟩ := h
  obtain ⟨a, cap, rfl, hc⟩ := h2.out.cmds
  exact ⟨a, cap, l, h1, hc, h3, h4⟩
set_option maxHeartbeats 8000000 in
theorem packs_walk (a : Option Addr) (cap : Nat) (l : List CmdIn) (s : ByteArray) (w : World) (ha : Cmds w a l) (hc : ∀ c ∈ l, (c.gives.length ≤ 100 ∧ c.wants.length ≤ 100 → Cok c) ∧ Clear c) (hE : Env w) : Calls Tryz.prog 6 #[.slice a l.length cap, .string s] w fun e w' => e = .returned (.bool true) ∧ Below w.heap.size w w' := by
  obtain ⟨n, hn⟩ : ∃ n, Hid (l.length = n) := ⟨_, Lib.hid rfl⟩
  have AW : Hid (∀ W, Below w.heap.size w W → Calls Tryz.prog 7 #[] W fun e w' => e = .returned (.bool true) ∧ Below W.heap.size W w') := fun W hb => awake_any W (hE.below hb)
  rw [hn.out]
  by_cases hfl : FewL l 20 ∧ s.size ≤ 2048
  · obtain ⟨⟨h20, h12⟩, hs⟩ := hfl
    have hok := few_okl hc h12
    have gs : ¬ (2048 : Int) < (s.size : Int) := by omega
    have HA := Lib.hid ha
    have hnb : n ≤ 20 := by rw [← hn.out]; exact h20
    have ht : s.size ≤ 10000000 := by omega
    have hls : s.data.toList.length ≤ 1000000 := by simp; omega
    have C14 : Hid (∀ W, Below w.heap.size w W → Calls Tryz.prog 14 #[.slice a n cap] W fun e w' => e = .returned (.tuple #[.string (bs (textV l).1), .int .i64 (textV l).2]) ∧ Below W.heap.size W w') := fun W hb => text_any a cap l n hn.out hok W (HA.out.below hb) (hE.below hb)
    have C18 : Hid (∀ W, Below w.heap.size w W → Calls Tryz.prog 18 #[.slice a n cap] W fun e w' => e = .returned (.tuple #[.string (bs (textV l).1), .int .i64 (textV l).2]) ∧ Below W.heap.size W w') := fun W hb => refText_any a cap l n hn.out hok W (HA.out.below hb)
    have C15 : Hid (∀ W, Below w.heap.size w W → Calls Tryz.prog 15 #[.slice a n cap] W fun e w' => e = .returned (.tuple #[.string (bs (packV l).1), .int .i64 (packV l).2]) ∧ Below W.heap.size W w') := fun W hb => pack_any a cap l n hn.out hok W (HA.out.below hb) (hE.below hb)
    have C19 : Hid (∀ W, Below w.heap.size w W → Calls Tryz.prog 19 #[.slice a n cap] W fun e w' => e = .returned (.tuple #[.string (bs (packV l).1), .int .i64 (packV l).2]) ∧ Below W.heap.size W w') := fun W hb => refPack_any a cap l n hn.out hok W (HA.out.below hb)
    have C17 : Hid (∀ W, Below w.heap.size w W → Calls Tryz.prog 17 #[.string s] W fun e w' => ∃ a cap l, e = .returned (.tuple #[.slice a (List.length l) cap, .int .i64 (unpackV s.data.toList).2]) ∧ Hid (Cmds w' a l) ∧ Hid (EqvL l (unpackV s.data.toList).1) ∧ Hid (Below W.heap.size W w')) := fun W hb => (unpack_any s ht W (hE.below hb)).mono fun _ _ h => gives_u h
    have C20 : Hid (∀ W, Below w.heap.size w W → Calls Tryz.prog 20 #[.string s] W fun e w' => ∃ a cap l, e = .returned (.tuple #[.slice a (List.length l) cap, .int .i64 (unpackV s.data.toList).2]) ∧ Hid (Cmds w' a l) ∧ Hid (EqvL l (unpackV s.data.toList).1) ∧ Hid (Below W.heap.size W w')) := fun W hb => (refUnpack_any s ht W).mono fun _ _ h => gives_u h
    have C16 : Hid (∀ W, Below w.heap.size w W → Calls Tryz.prog 16 #[.string s] W fun e w' => e = .returned (.tuple #[.string (bs (disV s.data.toList).1), .int .i64 (disV s.data.toList).2]) ∧ Below W.heap.size W w') := fun W hb => disassemble_any s ht W (hE.below hb)
    have C21 : Hid (∀ W, Below w.heap.size w W → Calls Tryz.prog 21 #[.string s] W fun e w' => e = .returned (.tuple #[.string (bs (disV s.data.toList).1), .int .i64 (disV s.data.toList).2]) ∧ Below W.heap.size W w') := fun W hb => refDisassemble_any s ht W
    have C22 : Hid (∀ W, Below w.heap.size w W → Calls Tryz.prog 22 #[.slice a n cap] W fun e w' => e = .returned (.agg (cntArr (cntF l))) ∧ Below W.heap.size W w') := fun W hb => counts_any a cap l n hn.out (by omega) W (HA.out.below hb)
    have C23 : Hid (∀ W, Below w.heap.size w W → Calls Tryz.prog 23 #[.slice a n cap] W fun e w' => e = .returned (.agg (cntArr (cntF l))) ∧ Below W.heap.size W w') := fun W hb => refCounts_any a cap l n hn.out (by omega) W (HA.out.below hb)
    obtain ⟨hok2, hln⟩ := unpackV_ok s.data.toList
    have C12 : Hid (∀ (a b : Option Addr) (c1 c2 : Nat) (l m : List CmdIn), EqvL l (unpackV s.data.toList).1 → EqvL m (unpackV s.data.toList).1 → ∀ W, Cmds W a l → Cmds W b m → Calls Tryz.prog 12 #[.slice a (List.length l) c1, .slice b (List.length m) c2] W fun e w' => e = .returned (.bool true) ∧ Below W.heap.size W w') := fun a b c1 c2 l m h1 h2 W h3 h4 => by
      have he := EqvL.trans h1 h2.symm
      have := sameL_any a b c1 c2 l m l.length rfl (by rw [h1.length]; omega) he (fun c hc => (Okl.eqv h1 (fun c hc => ⟨(hok2 c hc).cok, (hok2 c hc).clear⟩) c hc).1.few) W h3 h4
      rw [he.length] at this ⊢
      exact this
    have FW2 : Hid (Calls Tryz.prog 13 #[.slice a n cap, .int .i64 20] w fun e w' => e = .returned (.bool true) ∧ Below w.heap.size w w') := few_yes a cap l n 20 hn.out (by decide) ⟨h20, h12⟩ w ha
    generalize (textV l).1 = x1 at *
    generalize (textV l).2 = x2 at *
    generalize (packV l).1 = y1 at *
    generalize (packV l).2 = y2 at *
    generalize (unpackV s.data.toList).1 = m0 at *
    generalize (unpackV s.data.toList).2 = u2 at *
    generalize (disV s.data.toList).1 = z1 at *
    generalize (disV s.data.toList).2 = z2 at *
    generalize cntF l = f at *
    clear hE hc ha hok hok2 hln h12 ht hls
    go_enter Tryz.func6, Tryz.ntmps6
    go_wp2_with (first
      | (go_at_call 13; (with_reducible refine FW2.out.mono ?_); rintro e w0 ⟨rfl, hb0⟩; have HB0 := Lib.hid hb0; clear hb0)
      | (go_at_call 14; (with_reducible refine (C14.out _ HB0.out).mono ?_); rintro e w1 ⟨rfl, hb1⟩; have HB1 := Lib.hid (below2 HB0.out hb1); clear hb1)
      | (go_at_call 18; (with_reducible refine (C18.out _ HB1.out).mono ?_); rintro e w2 ⟨rfl, hb2⟩; have HB2 := Lib.hid (below2 HB1.out hb2); clear hb2)
      | (go_at_call 15; (with_reducible refine (C15.out _ HB2.out).mono ?_); rintro e w3 ⟨rfl, hb3⟩; have HB3 := Lib.hid (below2 HB2.out hb3); clear hb3)
      | (go_at_call 19; (with_reducible refine (C19.out _ HB3.out).mono ?_); rintro e w4 ⟨rfl, hb4⟩; have HB4 := Lib.hid (below2 HB3.out hb4); clear hb4)
      | (go_at_call 17; (with_reducible refine (C17.out _ HB4.out).mono ?_); rintro e w5 ⟨a5, k5, l5, rfl, HC5, HE5, HB45⟩; have HB5 := Lib.hid (below2 HB4.out HB45.out))
      | (go_at_call 20; (with_reducible refine (C20.out _ HB5.out).mono ?_); rintro e w6 ⟨a6, k6, l6, rfl, HC6, HE6, HB56⟩; have HB6 := Lib.hid (below2 HB5.out HB56.out))
      | (go_at_call 16; (with_reducible refine (C16.out _ HB6.out).mono ?_); rintro e w7 ⟨rfl, hb7⟩; have HB67 := Lib.hid hb7; have HB7 := Lib.hid (below2 HB6.out hb7); clear hb7)
      | (go_at_call 21; (with_reducible refine (C21.out _ HB7.out).mono ?_); rintro e w8 ⟨rfl, hb8⟩; have HB68 := Lib.hid (below2 HB67.out hb8); have HB8 := Lib.hid (below2 HB7.out hb8); clear hb8; have HCA := Lib.hid (HC5.out.below (below2 HB56.out HB68.out)); have HCB := Lib.hid (HC6.out.below HB68.out))
      | (go_at_call 12; (with_reducible refine (C12.out _ _ _ _ _ _ HE5.out HE6.out _ HCA.out HCB.out).mono ?_); rintro e w9 ⟨rfl, hb9⟩; have HB9 := Lib.hid (below2 HB8.out hb9); clear hb9)
      | (go_at_call 22; (with_reducible refine (C22.out _ HB9.out).mono ?_); rintro e w10 ⟨rfl, hb10⟩; have HB10 := Lib.hid (below2 HB9.out hb10); clear hb10)
      | (go_at_call 23; (with_reducible refine (C23.out _ HB10.out).mono ?_); rintro e w11 ⟨rfl, hb11⟩; have HB11 := Lib.hid (below2 HB10.out hb11); clear hb11)
      | (refine wpl_unguard rfl ?_; refine eql_cnt rfl (.tmp 110) (.tmp 112) rfl f rfl rfl ?_)
      | (go_at_call 7; (with_reducible refine (AW.out _ HB11.out).mono ?_); rintro e w12 ⟨rfl, hb12⟩; have HB12 := Lib.hid (below2 HB11.out hb12); clear hb12))
    go_ret
    exact ⟨rfl, HB12.out⟩
  · have HA := Lib.hid ha
    by_cases hf : FewL l 20
    · have gs : (2048 : Int) < (s.size : Int) := by
        have : ¬ s.size ≤ 2048 := fun h => hfl ⟨hf, h⟩
        omega
      have FY : Hid (Calls Tryz.prog 13 #[.slice a n cap, .int .i64 20] w fun e w' => e = .returned (.bool true) ∧ Below w.heap.size w w') := few_yes a cap l n 20 hn.out (by decide) hf w ha
      clear hE hc ha hfl hf
      go_enter Tryz.func6, Tryz.ntmps6
      go_wp2_with (first
        | (go_at_call 13; (with_reducible refine FY.out.mono ?_); rintro e w0 ⟨rfl, hb0⟩; have HB0 := Lib.hid hb0; clear hb0)
        | (go_at_call 7; (with_reducible refine (AW.out _ HB0.out).mono ?_); rintro e w1 ⟨rfl, hb1⟩; have HB1 := Lib.hid (below2 HB0.out hb1); clear hb1))
      go_ret
      exact ⟨rfl, HB1.out⟩
    · have FY : Hid (Calls Tryz.prog 13 #[.slice a n cap, .int .i64 20] w fun e w' => e = .returned (.bool false) ∧ Below w.heap.size w w') := few_no a cap l n 20 hn.out (by decide) hf w ha
      clear hE hc ha hfl hf
      go_enter Tryz.func6, Tryz.ntmps6
      go_wp2_with (first
        | (go_at_call 13; (with_reducible refine FY.out.mono ?_); rintro e w0 ⟨rfl, hb0⟩; have HB0 := Lib.hid hb0; clear hb0)
        | (go_at_call 7; (with_reducible refine (AW.out _ HB0.out).mono ?_); rintro e w1 ⟨rfl, hb1⟩; have HB1 := Lib.hid (below2 HB0.out hb1); clear hb1))
      go_ret
      exact ⟨rfl, HB1.out⟩
end Asm
end Go.Proofs.YtlhalhilnkneeaaGreatDoor
end
