/- A command that is read: the document's stacks. -/
import Derived.Test.YtbjlkeneeodghaaDoorCmdJ
set_option linter.unusedSimpArgs false
set_option linter.unusedVariables false
namespace Go.Proofs.YtbjlkeneeodghaaDoor
open Go.RowKit Go.Great
namespace Cmd
open Pen (bs bs_append uintB intB I64 intS uintS doneS)
open In (Strs)
open Cat (Rd Rs QP QR Bx rrU_any rrI_any rrD_any rrNew rrBad)
open Rec (below2 below_al below_dN Stk Stks stkVals stkVals_append stks_of_own list_pair pair_new)
theorem tkS_none (n : Nat) : (tkS n none).2 = none := by
  induction n with
  | zero => rfl
  | succ n ih => rw [tkS]; exact ih
/-- Stacks that the document's reader gives back. -/
def GivesR (g : Nat) (o : Cat.Left) (w : World) (e : Ending) (w' : World) : Prop := ∃ a cap l, e = .returned (.slice a l.length cap) ∧ Hid (Stks w' a l) ∧ Hid (Rd 62 QR w' g (stS o).2) ∧ Hid (Bx w.heap.size (fun k => k = g) w w') ∧ Hid (∀ x, a = some x → w.heap.size ≤ x.block) ∧ ((stS o).2 ≠ none → l = (stS o).1) ∧ l.length ≤ 8
theorem own_setCell {w : World} {base : Nat} {e : TypeId} {size n : Nat} {v : Value} {xs : List Value} (h : w.ownsRow base e size v n xs) {p : Addr} (hne : v.ownBlock ≠ some p.block) (u : Value) : (w.setCell p u).ownsRow base e size v n xs :=
  h.kept (⟨rfl, rfl, rfl, by simp, fun j hj hne => Below.heap_setCell _ _ _ _ (fun e => hne (by rw [e]))⟩ : w.grownBy (w.setCell p u) (some p.block)) (.inr hne)
theorem pair_new2 {w : World} {g : Nat} (hg : w.heap.size = g) (u0 u1 : Value) (t : TypeId) : (w.alloc (.cells #[u0, u1] t)).cell? ((⟨g, 0, none⟩ : Addr).add 0) = some u0 ∧ (w.alloc (.cells #[u0, u1] t)).cell? ((⟨g, 0, none⟩ : Addr).add 1) = some u1 := by
  subst hg
  exact pair_new w u0 u1 t
theorem row2_new (w : World) (x y : Int) : (w.alloc (.cells #[.int .i64 x, .int .i64 y] 52)).rowIs w.heap.size 52 2 (fun i => if i = 0 then .int .i64 x else .int .i64 y) :=
  World.rowIs_alloc w #[.int .i64 x, .int .i64 y] 52 (fun i => if i = 0 then .int .i64 x else .int .i64 y) (fun i hi => by
    have h : i = 0 ∨ i = 1 := by simp at hi; omega
    rcases h with rfl | rfl <;> rfl)
set_option maxRecDepth 100000 in
set_option maxHeartbeats 2000000 in
theorem takeStacks_any (g : Nat) (o : Cat.Left) (w : World) (h : Rd 62 QR w g o) : Calls Tryd.prog 39 #[.pointer (some ⟨g, 0, none⟩)] w (GivesR g o w) := by
  have HR0 := Lib.hid h
  have hgw : g < w.heap.size := h.lt
  have CU : Hid (∀ W, Rd 62 QR W g o → Calls Tryd.prog 37 #[.pointer (some ⟨g, 0, none⟩), .int .i64 8] W (Rs 62 QR W g (uintS 8 o))) := fun W h => rrU_any g o 8 W h
  have CI : Hid (∀ o W, Rd 62 QR W g o → Calls Tryd.prog 38 #[.pointer (some ⟨g, 0, none⟩)] W (Rs 62 QR W g (intS o))) := fun o W h => rrI_any g o W h
  unfold Rs at *
  obtain ⟨i0, hi0, hz0, hz1, hz2⟩ := info_parts stkinfo
  obtain ⟨r, hr⟩ : ∃ r, Hid (uintS 8 o = r) := ⟨_, rfl⟩
  obtain ⟨r0, r8, -⟩ := Pen.uint_bounds 8 o (by decide)
  rw [hr.out] at r0 r8
  obtain ⟨n, hn⟩ : ∃ n : Nat, r.1 = (n : Int) := ⟨r.1.toNat, by omega⟩
  have hn8 : n ≤ 8 := by omega
  have HST : Hid (stS o = tkS n r.2) := by show _ = _; unfold stS; rw [hr.out, hn]; rfl
  clear h
  go_enter Tryd.func39, Tryd.ntmps39
  go_wp2_with (go_at_call 37; (with_reducible refine (CU.out _ HR0.out).mono ?_); rintro e w1 ⟨rfl, HR1, HG1⟩; rw [hr.out] at HR1 ⊢; rw [hn])
  have HX1 : Hid (Bx w.heap.size (fun k => k = g) w w1) := (Bx.refl _ _ _).grown HG1.out (Nat.le_refl _) (fun k e => .inr (by cases e; rfl))
  have hs1 : w.heap.size ≤ w1.heap.size := HG1.out.size
  go_loopw [4, 5] (fun v i wr => ∃ (q : Nat) (l : List Stk) (o2 : Cat.Left), q ≤ n ∧ i = .int .i64 q ∧ Hid (l.length = q) ∧ Hid ((l ++ (tkS (n - q) o2).1, (tkS (n - q) o2).2) = tkS n r.2) ∧ Hid (wr.ownsRow w.heap.size 52 2 v l.length (stkVals l)) ∧ Hid (Rd 62 QR wr g o2) ∧ Hid (Bx w.heap.size (fun k => k = g) w wr)) (fun _ i _ => n - (intOf i).toNat)
  case atStart => exact ⟨0, [], r.2, by omega, rfl, rfl, by show _ = _; simp, ⟨rfl, .inl ⟨rfl, rfl⟩⟩, HR1, HX1⟩
  case round =>
    rename_i v0 _
    obtain ⟨q, l, o2, hq, rfl, HLEN, HTQ, HV, HR, HX⟩ := hrel
    have hbad := rrBad HR.out
    have hsr : w.heap.size ≤ wr.heap.size := HX.out.size
    by_cases hqn : q < n
    · have hltq : (q : Int) < (n : Int) := by omega
      have dq : decide ((q : Int) < (n : Int)) = true := decide_eq_true hltq
      cases o2 with
      | none =>
        have HSO : Hid ((stS o).2 = none) := by
          have h := HTQ.out
          show _ = _
          rw [HST.out, ← h]
          exact tkS_none _
        rw [show (none : Cat.Left).isNone = true from rfl] at hbad
        clear HTQ
        go_wp2
        go_ret
        obtain ⟨a, cap, rfl, hst⟩ := stks_of_own HV.out
        have hfar := own_far HV.out
        exact ⟨a, cap, l, rfl, hst, by rw [HSO.out]; exact HR, HX, hfar, fun hne => absurd HSO.out hne, by rw [HLEN.out]; omega⟩
      | some o3 =>
        rw [show (some o3 : Cat.Left).isNone = false from rfl] at hbad
        have HTQ' := Lib.hid (tkS_step hqn HTQ.out)
        obtain ⟨r1, h1⟩ : ∃ r, Hid (intS (some o3) = r) := ⟨_, rfl⟩
        obtain ⟨r2, h2⟩ : ∃ r, Hid (intS r1.2 = r) := ⟨_, rfl⟩
        rw [h1.out, h2.out] at HTQ'
        have hll : l.length ≤ 8 := by rw [HLEN.out]; omega
        clear HTQ
        go_wp2_with (first
          | (go_at_call 38; (with_reducible refine (CI.out _ _ HR.out).mono ?_); rintro e w2 ⟨rfl, HR2, HG2⟩; rw [h1.out] at HR2 ⊢; have HV2 := Lib.hid (kept_of HV.out HG2.out hgw); have HX2 : Hid (Bx w.heap.size (fun k => k = g) w w2) := (HX.out.grown HG2.out hsr (fun k e => .inr (by cases e; rfl))); have HR2' := Lib.hid (HR2.out.alloc (.cells #[.int .i64 r1.1, .int .i64 0] 52)); have HP2 := Lib.hid (row2_new w2 r1.1 0))
          | (go_at_call 38; (with_reducible refine (CI.out _ _ HR2'.out).mono ?_); rintro e w3 ⟨rfl, HR3, HG3⟩; rw [h2.out] at HR3 ⊢; have hs2 : w.heap.size ≤ w2.heap.size := HX2.out.size; have HP3 := Lib.hid (row_grown HP2.out HG3.out (fun e => by have := Option.some.inj e; omega)); have c0 := HP3.out.cell (i := 0) (by decide); have c1 := HP3.out.cell (i := 1) (by decide); have fx := HP3.out.frozen 1; have HV3 := Lib.hid (kept_of (HV2.out.alloc (.cells #[.int .i64 r1.1, .int .i64 0] 52)) HG3.out hgw); have HX3 : Hid (Bx w.heap.size (fun k => k = g) w w3) := ((HX2.out.alloc hs2 _).grown HG3.out (by simp; omega) (fun k e => .inr (by cases e; rfl))))
          | (at_builtin; have hvo : u4.ownBlock ≠ some w2.heap.size := (fun e => by have := (HV2.out.lt _ e).2; omega); have HV4 := Lib.hid (own_setCell HV3.out (p := ⟨w2.heap.size, 1, none⟩) hvo (.int .i64 r2.1)); refine list_pair rfl (.tmp 27) (.tmp 29) 22 rfl w.heap.size 52 i0 _ 16 Tryd.underlying22 hi0 hz0 hz1 hz2 rfl _ l.length _ rfl _ _ (.int .i64 r1.1) (.int .i64 r2.1) rfl (HV4.out.alloc _) (pair_new2 (by simp) _ _ _).1 (pair_new2 (by simp) _ _ _).2 rfl rfl ?h1 ?h2 ?h3 ?_; (case h1 => unfold maxLen; omega); (case h2 => omega); (case h3 => have := HX3.out.size; simp; omega); intro v' w4 hown hgrow))
        go_roundw
        case rel =>
          have hz3 := HX3.out.size
          exact ⟨q + 1, l ++ [(r1.1, r2.1)], r2.2, by omega, by go_num, by show _ = _; rw [List.length_append, HLEN.out]; rfl, HTQ', by rw [stkVals_append, List.length_append]; exact hown, ((HR3.out.set (by show w2.heap.size ≠ g; omega) _).alloc _).grown hgrow (fun e => by have := (HV4.out.lt _ e).1; omega), (((HX3.out.set _ _ (.inl hs2)).alloc (by simp; omega) _).grown hgrow (by simp; omega) (fun k e => .inl (HV4.out.lt _ e).1))⟩
        case measure => simp [intOf]; omega
    · have hqe : q = n := by omega
      have n2 : ¬ (q : Int) < (n : Int) := by omega
      have d2 : decide ((q : Int) < (n : Int)) = false := decide_eq_false n2
      have HSO : Hid (stS o = (l, o2)) := by
        have h := HTQ.out
        rw [hqe, Nat.sub_self, tkS, List.append_nil] at h
        show _ = _
        rw [HST.out]
        exact h.symm
      clear HTQ
      go_wp2
      go_ret
      obtain ⟨a, cap, rfl, hst⟩ := stks_of_own HV.out
      have hfar := own_far HV.out
      exact ⟨a, cap, l, rfl, hst, by rw [HSO.out]; exact HR, HX, hfar, fun _ => by rw [HSO.out], by rw [HLEN.out]; omega⟩
end Cmd
end Go.Proofs.YtbjlkeneeodghaaDoor
