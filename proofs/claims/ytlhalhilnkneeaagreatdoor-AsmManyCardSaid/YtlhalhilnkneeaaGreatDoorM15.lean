/- Texts put together: CmdW, CmdM. -/
import Derived.Test.YtlhalhilnkneeaaGreatDoorM14
import Derived.Test.YtlhalhilnkneeaaGreatDoorM07
set_option linter.all false
section
namespace Go.Proofs.YtlhalhilnkneeaaGreatDoor
open Go.RowKit Go.Great
namespace Cmd
open Pen (bs bs_append uintB intB I64 intS uintS doneS)
open In (Strs)
open Cat (Rd Rs QP QR Bx rrU_any rrI_any rrD_any rrNew rrBad)
open Rec (below2 below_al below_dN Stk Stks stkVals stkVals_append stks_of_own list_pair pair_new)
theorem tkS_none (n : Nat) : (tkS n none).2 = none := by
  induction n with
  | zero => rfl
  | succ n ih => rw [tkS]; exact ih
/-- Stacks that the document's reader gives back. -/
def GivesR (g : Nat) (o : Cat.Left) (w : World) (e : Ending) (w' : World) : Prop := ∃ a cap l, e = .returned (.slice a l.length cap) ∧ Hid (Stks w' a l) ∧ Hid (Rd 121 QR w' g (stS o).2) ∧ Hid (Bx w.heap.size (fun k => k = g) w w') ∧ Hid (∀ x, a = some x → w.heap.size ≤ x.block) ∧ ((stS o).2 ≠ none → l = (stS o).1) ∧ l.length ≤ 8
theorem own_setCell {w : World} {base : Nat} {e : TypeId} {size n : Nat} {v : Value} {xs : List Value} (h : w.ownsRow base e size v n xs) {p : Addr} (hne : v.ownBlock ≠ some p.block) (u : Value) : (w.setCell p u).ownsRow base e size v n xs :=
  h.kept (⟨rfl, rfl, rfl, by simp, fun j hj hne => Below.heap_setCell _ _ _ _ (fun e => hne (by rw [e]))⟩ : w.grownBy (w.setCell p u) (some p.block)) (.inr hne)
theorem pair_new2 {w : World} {g : Nat} (hg : w.heap.size = g) (u0 u1 : Value) (t : TypeId) : (w.alloc (.cells #[u0, u1] t)).cell? ((⟨g, 0, none⟩ : Addr).add 0) = some u0 ∧ (w.alloc (.cells #[u0, u1] t)).cell? ((⟨g, 0, none⟩ : Addr).add 1) = some u1 := by
  subst hg
  exact pair_new w u0 u1 t
theorem row2_new (w : World) (x y : Int) : (w.alloc (.cells #[.int .i64 x, .int .i64 y] 106)).rowIs w.heap.size 106 2 (fun i => if i = 0 then .int .i64 x else .int .i64 y) :=
  World.rowIs_alloc w #[.int .i64 x, .int .i64 y] 106 (fun i => if i = 0 then .int .i64 x else .int .i64 y) (fun i hi => by
    have h : i = 0 ∨ i = 1 := by simp at hi; omega
    rcases h with rfl | rfl <;> rfl)
set_option maxRecDepth 100000 in
set_option maxHeartbeats 2000000 in
theorem takeStacks_any (g : Nat) (o : Cat.Left) (w : World) (h : Rd 121 QR w g o) : Calls Tryz.prog 93 #[.pointer (some ⟨g, 0, none⟩)] w (GivesR g o w) := by
  have HR0 := Lib.hid h
  have hgw : g < w.heap.size := h.lt
  have CU : Hid (∀ W, Rd 121 QR W g o → Calls Tryz.prog 91 #[.pointer (some ⟨g, 0, none⟩), .int .i64 8] W (Rs 121 QR W g (uintS 8 o))) := fun W h => rrU_any g o 8 W h
  have CI : Hid (∀ o W, Rd 121 QR W g o → Calls Tryz.prog 92 #[.pointer (some ⟨g, 0, none⟩)] W (Rs 121 QR W g (intS o))) := fun o W h => rrI_any g o W h
  unfold Rs at *
  obtain ⟨i0, hi0, hz0, hz1, hz2⟩ := info_parts stkinfo
  obtain ⟨r, hr⟩ : ∃ r, Hid (uintS 8 o = r) := ⟨_, rfl⟩
  obtain ⟨r0, r8, -⟩ := Pen.uint_bounds 8 o (by decide)
  rw [hr.out] at r0 r8
  obtain ⟨n, hn⟩ : ∃ n : Nat, r.1 = (n : Int) := ⟨r.1.toNat, by omega⟩
  have hn8 : n ≤ 8 := by omega
  have HST : Hid (stS o = tkS n r.2) := by show _ = _; unfold stS; rw [hr.out, hn]; rfl
  clear h
  go_enter Tryz.func93, Tryz.ntmps93
  go_wp2_with (go_at_call 91; (with_reducible refine (CU.out _ HR0.out).mono ?_); rintro e w1 ⟨rfl, HR1, HG1⟩; rw [hr.out] at HR1 ⊢; rw [hn])
  have HX1 : Hid (Bx w.heap.size (fun k => k = g) w w1) := (Bx.refl _ _ _).grown HG1.out (Nat.le_refl _) (fun k e => .inr (by cases e; rfl))
  have hs1 : w.heap.size ≤ w1.heap.size := HG1.out.size
  go_loopw [4, 5] (fun v i wr => ∃ (q : Nat) (l : List Stk) (o2 : Cat.Left), q ≤ n ∧ i = .int .i64 q ∧ Hid (l.length = q) ∧ Hid ((l ++ (tkS (n - q) o2).1, (tkS (n - q) o2).2) = tkS n r.2) ∧ Hid (wr.ownsRow w.heap.size 106 2 v l.length (stkVals l)) ∧ Hid (Rd 121 QR wr g o2) ∧ Hid (Bx w.heap.size (fun k => k = g) w wr)) (fun _ i _ => n - (intOf i).toNat)
  case atStart => exact ⟨0, [], r.2, by omega, rfl, rfl, by show _ = _; simp, ⟨rfl, .inl ⟨rfl, rfl⟩⟩, HR1, HX1⟩
  case round =>
    rename_i v0 _
    obtain ⟨q, l, o2, hq, rfl, HLEN, HTQ, HV, HR, HX⟩ := hrel
    have hbad := rrBad HR.out
    have hsr : w.heap.size ≤ wr.heap.size := HX.out.size
    by_cases hqn : q < n
    · have hltq : (q : Int) < (n : Int) := by omega
      have dq : decide ((q : Int) < (n : Int)) = true := decide_eq_true hltq
      cases o2 with
      | none =>
        have HSO : Hid ((stS o).2 = none) := by
          have h := HTQ.out
          show _ = _
          rw [HST.out, ← h]
          exact tkS_none _
        rw [show (none : Cat.Left).isNone = true from rfl] at hbad
        clear HTQ
        go_wp2
        go_ret
        obtain ⟨a, cap, rfl, hst⟩ := stks_of_own HV.out
        have hfar := own_far HV.out
        exact ⟨a, cap, l, rfl, hst, by rw [HSO.out]; exact HR, HX, hfar, fun hne => absurd HSO.out hne, by rw [HLEN.out]; omega⟩
      | some o3 =>
        rw [show (some o3 : Cat.Left).isNone = false from rfl] at hbad
        have HTQ' := Lib.hid (tkS_step hqn HTQ.out)
        obtain ⟨r1, h1⟩ : ∃ r, Hid (intS (some o3) = r) := ⟨_, rfl⟩
        obtain ⟨r2, h2⟩ : ∃ r, Hid (intS r1.2 = r) := ⟨_, rfl⟩
        rw [h1.out, h2.out] at HTQ'
        have hll : l.length ≤ 8 := by rw [HLEN.out]; omega
        clear HTQ
        go_wp2_with (first
          | (go_at_call 92; (with_reducible refine (CI.out _ _ HR.out).mono ?_); rintro e w2 ⟨rfl, HR2, HG2⟩; rw [h1.out] at HR2 ⊢; have HV2 := Lib.hid (kept_of HV.out HG2.out hgw); have HX2 : Hid (Bx w.heap.size (fun k => k = g) w w2) := (HX.out.grown HG2.out hsr (fun k e => .inr (by cases e; rfl))); have HR2' := Lib.hid (HR2.out.alloc (.cells #[.int .i64 r1.1, .int .i64 0] 106)); have HP2 := Lib.hid (row2_new w2 r1.1 0))
          | (go_at_call 92; (with_reducible refine (CI.out _ _ HR2'.out).mono ?_); rintro e w3 ⟨rfl, HR3, HG3⟩; rw [h2.out] at HR3 ⊢; have hs2 : w.heap.size ≤ w2.heap.size := HX2.out.size; have HP3 := Lib.hid (row_grown HP2.out HG3.out (fun e => by have := Option.some.inj e; omega)); have c0 := HP3.out.cell (i := 0) (by decide); have c1 := HP3.out.cell (i := 1) (by decide); have fx := HP3.out.frozen 1; have HV3 := Lib.hid (kept_of (HV2.out.alloc (.cells #[.int .i64 r1.1, .int .i64 0] 106)) HG3.out hgw); have HX3 : Hid (Bx w.heap.size (fun k => k = g) w w3) := ((HX2.out.alloc hs2 _).grown HG3.out (by simp; omega) (fun k e => .inr (by cases e; rfl))))
          | (at_builtin; have hvo : u4.ownBlock ≠ some w2.heap.size := (fun e => by have := (HV2.out.lt _ e).2; omega); have HV4 := Lib.hid (own_setCell HV3.out (p := ⟨w2.heap.size, 1, none⟩) hvo (.int .i64 r2.1)); refine list_pair rfl (.tmp 27) (.tmp 29) 39 rfl w.heap.size 106 i0 _ 16 Tryz.underlying39 hi0 hz0 hz1 hz2 rfl _ l.length _ rfl _ _ (.int .i64 r1.1) (.int .i64 r2.1) rfl (HV4.out.alloc _) (pair_new2 (by simp) _ _ _).1 (pair_new2 (by simp) _ _ _).2 rfl rfl ?h1 ?h2 ?h3 ?_; (case h1 => unfold maxLen; omega); (case h2 => omega); (case h3 => have := HX3.out.size; simp; omega); intro v' w4 hown hgrow))
        go_roundw
        case rel =>
          have hz3 := HX3.out.size
          exact ⟨q + 1, l ++ [(r1.1, r2.1)], r2.2, by omega, by go_num, by show _ = _; rw [List.length_append, HLEN.out]; rfl, HTQ', by rw [stkVals_append, List.length_append]; exact hown, ((HR3.out.set (by show w2.heap.size ≠ g; omega) _).alloc _).grown hgrow (fun e => by have := (HV4.out.lt _ e).1; omega), (((HX3.out.set _ _ (.inl hs2)).alloc (by simp; omega) _).grown hgrow (by simp; omega) (fun k e => .inl (HV4.out.lt _ e).1))⟩
        case measure => simp [intOf]; omega
    · have hqe : q = n := by omega
      have n2 : ¬ (q : Int) < (n : Int) := by omega
      have d2 : decide ((q : Int) < (n : Int)) = false := decide_eq_false n2
      have HSO : Hid (stS o = (l, o2)) := by
        have h := HTQ.out
        rw [hqe, Nat.sub_self, tkS, List.append_nil] at h
        show _ = _
        rw [HST.out]
        exact h.symm
      clear HTQ
      go_wp2
      go_ret
      obtain ⟨a, cap, rfl, hst⟩ := stks_of_own HV.out
      have hfar := own_far HV.out
      exact ⟨a, cap, l, rfl, hst, by rw [HSO.out]; exact HR, HX, hfar, fun _ => by rw [HSO.out], by rw [HLEN.out]; omega⟩
end Cmd
end Go.Proofs.YtlhalhilnkneeaaGreatDoor
end
section
namespace Go.Proofs.YtlhalhilnkneeaaGreatDoor
open Go.RowKit Go.Great
namespace Cmd
open Pen (bs bs_append uintB intB I64 intS uintS doneS)
open In (Strs)
open Rec (below2 below_al below_dN Stk Stks stkVals stkVals_append stks_of_own)
theorem wpList_unguard {P : Program} {ops : Array Oper} {rest : List Oper} {o : Oper} {a : Act} {w : World} {Q : Exit → Act → World → Prop} (hw : Region.wanted o (yielded ops a.tmps) = true) (h : wpList P ops Q ({ o with guard := none } :: rest) a w) : wpList P ops Q (o :: rest) a w := by
  have h' : (if Region.wanted { o with guard := none } (yielded ops a.tmps) = true then Oper.wp P { o with guard := none } a w (wpList P ops Q rest) Q ∨ (Oper.asks P { o with guard := none } a w ∧ LetsOut Q) else wpList P ops Q rest (a.put o.dst undef) w) := h
  rw [if_pos (show Region.wanted { o with guard := none } (yielded ops a.tmps) = true from rfl)] at h'
  show (if Region.wanted o (yielded ops a.tmps) = true then Oper.wp P o a w (wpList P ops Q rest) Q ∨ (Oper.asks P o a w ∧ LetsOut Q) else wpList P ops Q rest (a.put o.dst undef) w)
  rw [if_pos hw]
  exact h'
theorem wpl_named {P : Program} {ops : Array Oper} {Q : Exit → Act → World → Prop} {l : List Oper} {a : Act} {w : World} (h : ∀ W, W = w → wpList P ops Q l a W) : wpList P ops Q l a w := h w rfl
theorem num_ext {a b : CmdIn} (ha : Clear a) (hb : Clear b) (h : ∀ i, i < 19 → a.num i = b.num i) : a.num = b.num := by
  funext i
  by_cases hi : i < 19
  · exact h i hi
  · rw [ha i (by omega), hb i (by omega)]
def cTick : CmdIn := ⟨20, fun i => if i = 9 then 5 else 0, [], none, 0, [], none, 0⟩
def cTock : CmdIn := ⟨20, fun i => if i = 9 then 5 else if i = 0 then 1 else 0, [], none, 0, [], none, 0⟩
def cDeliver : CmdIn := ⟨13, fun i => if i = 0 then 2 else if i = 3 then 3 else 0, [], none, 0, [], none, 0⟩
theorem cok_few (k : Int) (f : Nat → Int) (hk : I64 k) (hf : ∀ i, i < 19 → I64 (f i)) : Cok ⟨k, f, [], none, 0, [], none, 0⟩ :=
  ⟨hk, hf, fun i hi => absurd hi (Nat.not_lt_zero _), fun i hi => absurd hi (Nat.not_lt_zero _), Nat.zero_le _, Nat.zero_le _⟩
theorem lies_few (w : World) (k : Int) (f : Nat → Int) : Lies w ⟨k, f, [], none, 0, [], none, 0⟩ := ⟨fun i hi => absurd hi (Nat.not_lt_zero _), fun i hi => absurd hi (Nat.not_lt_zero _)⟩
theorem cTick_ok : Cok cTick := cok_few _ _ (by unfold I64; decide) (fun i _ => by split <;> (unfold I64; decide))
theorem cTock_ok : Cok cTock := cok_few _ _ (by unfold I64; decide) (fun i _ => by split; (unfold I64; decide); split <;> (unfold I64; decide))
theorem put_tick : putV cTick = ([20, 10], 0) := by decide +kernel
theorem put_tock : putV cTock = ([], 1) := by decide +kernel
theorem take_del : (takeV [13, 4, 6]).2 = 0 := by decide +kernel
theorem take_del_eqv : Eqv (takeV [13, 4, 6]).1 cDeliver := by
  obtain ⟨h1, h2, h3, h4⟩ := put_take _ take_del
  refine ⟨by decide +kernel, num_ext h2 (fun i hi => ?_) (by decide +kernel), by decide +kernel, by decide +kernel⟩
  show (if i = 0 then (2 : Int) else if i = 3 then 3 else 0) = 0
  rw [if_neg (by omega), if_neg (by omega)]
theorem Eqv.trans {a b c : CmdIn} (h : Eqv a b) (h2 : Eqv b c) : Eqv a c := ⟨h.kind.trans h2.kind, h.num.trans h2.num, h.gives.trans h2.gives, h.wants.trans h2.wants⟩
theorem Eqv.symm {a b : CmdIn} (h : Eqv a b) : Eqv b a := ⟨h.kind.symm, h.num.symm, h.gives.symm, h.wants.symm⟩
theorem place_id : place ⟨#[105, 100]⟩ = some 3 := by decide +kernel
theorem name_4 : nameOf 4 = ⟨#[102, 111, 117, 110, 100]⟩ := by decide +kernel
theorem kind_clock : kindOf ⟨#[99, 108, 111, 99, 107]⟩ = 25 := by decide +kernel
theorem fn_7 : fn 7 = [⟨#[119, 104, 111]⟩, ⟨#[97, 115]⟩, ⟨#[116, 111]⟩, ⟨#[110]⟩] := by decide +kernel
theorem str4 (w : World) : Strs (w.alloc (.cells #[.string ⟨#[119, 104, 111]⟩, .string ⟨#[97, 115]⟩, .string ⟨#[116, 111]⟩, .string ⟨#[110]⟩] 9)) (some ⟨w.heap.size, 0, none⟩) (fn 7) := by
  have h := strs_new (w := w) rfl (fn 7) 9
  rw [fn_7] at h ⊢
  exact h
end Cmd
end Go.Proofs.YtlhalhilnkneeaaGreatDoor
end
