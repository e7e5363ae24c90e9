/- Whether commands are the same. -/
import Derived.Test.YtbjlkeneeodghaaDoorCmdY
set_option linter.unusedSimpArgs false
set_option linter.unusedVariables false
namespace Go.Proofs.YtbjlkeneeodghaaDoor
open Go.RowKit Go.Great
namespace Cmd
open Pen (bs)
open In (Strs)
open Rec (below2 below_al below_dN Stk Stks stkVals)
theorem run_load_cmd {o : Oper} {ev : Operand → Value} {w : World} {g : Nat} {c : CmdIn} (x : Operand) (ho : o.op = .load 24 x) (hx : ev x = .pointer (some ⟨g, 0, none⟩)) (hs : Stand w g c) : (execOp ev o).run Tryd.prog w = .ok (.value (.agg c.val)) w := by
  unfold execOp
  simp only [ho, hx, Instr.loadAt, Instr.sureAddr, Sem.run_bind, Sem.run_pure, Result.andThen_ok, run_loadVar_row _ _ _ _ c.val _ _ hs.heap Tryd.underlying24 rfl (size_val c)]
set_option maxRecDepth 100000 in
set_option maxHeartbeats 4000000 in
theorem sameC_any (a b : CmdIn) (w : World) (hab : Eqv a b) (hla : Lies w a) (hlb : Lies w b) (hn : a.gives.length ≤ 100 ∧ a.wants.length ≤ 100) : Calls Tryd.prog 13 #[.agg a.val, .agg b.val] w fun e w' => e = .returned (.bool true) ∧ Below w.heap.size w w' := by
  have HLA := Lib.hid hla
  have HLB := Lib.hid hlb
  have HN := Lib.hid hn
  have HE := Lib.hid hab
  clear hla hlb hn hab
  have CA : Hid (∀ W, Calls Tryd.prog 41 #[.agg a.val] W (GivesN a.num W)) := fun W => all_any a W
  have CB : Hid (∀ W, Calls Tryd.prog 41 #[.agg b.val] W (GivesN a.num W)) := fun W => by rw [HE.out.num]; exact all_any b W
  have CG : Hid (∀ (x y : Option Addr) (c1 c2 : Nat) (l : List Stk) (n1 n2 : Nat), l.length = n1 → l.length = n2 → n1 ≤ 100 → ∀ w, Stks w x l → Stks w y l → Calls Tryd.prog 42 #[.slice x n1 c1, .slice y n2 c2] w fun e w' => e = .returned (.bool true) ∧ Below w.heap.size w w') := fun x y c1 c2 l n1 n2 e1 e2 hl w hx hy => by
    subst e1 e2
    refine (Rec.same_any x y c1 c2 l l (by omega) (by omega) w hx hy).mono ?_
    rintro e w' ⟨rfl, hb⟩
    exact ⟨by rw [decide_eq_true rfl], hb⟩
  have HSA := Lib.hid ((stand_new (w := w) rfl a).below (below_al (Below.refl _ _) (.cells b.val 24)))
  have HSB : Hid (Stand ((w.alloc (.cells a.val 24)).alloc (.cells b.val 24)) (w.heap.size + 1) b) := stand_new (w := w.alloc (.cells a.val 24)) (by simp) b
  obtain ⟨VA, hVA⟩ : ∃ V, Hid (a.val = V) := ⟨_, rfl⟩
  obtain ⟨VB, hVB⟩ : ∃ V, Hid (b.val = V) := ⟨_, rfl⟩
  rw [hVA.out, hVB.out]
  go_enter Tryd.func13, Tryd.ntmps13
  go_wp2
  rw [← hVA.out, ← hVB.out]
  refine wp_named fun W hW => ?_
  have hH0 : Stand W.drew w.heap.size a ∧ Stand W.drew (w.heap.size + 1) b := by rw [hW]; exact ⟨HSA.out, HSB.out⟩
  have HB : Hid (Below w.heap.size w W) := by rw [hW]; exact below_al (below_al (Below.refl _ _) _) _
  clear hW
  refine Ord.wp_region_U (fun W' => Stand W' w.heap.size a ∧ Stand W' (w.heap.size + 1) b) [] (by kernel_rfl) ?_
  have hHeld := hH0
  refine Ord.wpAnyU_take (i := 0) (v := .agg a.val) rfl (by kernel_rfl) (by kernel_rfl) (by kernel_rfl) (by kernel_rfl) (by kernel_rfl) (by kernel_rfl) (by kernel_rfl) (fun _ _ _ h => h) (Or.inl ⟨by rfl, ?_⟩) hHeld ?_
  · exact fun W2 hS2 => run_load_cmd (.tmp 2) rfl rfl hS2.1
  try simp only [Act.put, List.setIfInBounds_toArray, List.set_cons_zero, List.set_cons_succ]
  refine Ord.wpAnyU_take (i := 2) (v := .agg b.val) rfl (by kernel_rfl) (by kernel_rfl) (by kernel_rfl) (by kernel_rfl) (by kernel_rfl) (by kernel_rfl) (by kernel_rfl) (fun _ _ _ h => h) (Or.inl ⟨by rfl, ?_⟩) hHeld ?_
  · exact fun W2 hS2 => run_load_cmd (.tmp 3) rfl rfl hS2.2
  try simp only [Act.put, List.setIfInBounds_toArray, List.set_cons_zero, List.set_cons_succ]
  refine Ord.wpAnyU_one (i := 1) (by kernel_rfl) rfl (fun K hK => ?_)
  go_simp
  go_wp2_with ((go_at_call 41; (with_reducible refine (CA.out _).mono ?_); rintro e w1 ⟨g1, rfl, hg1, HN1, HB1⟩; have hs1 : _ ∧ _ := ⟨hH0.1.below HB1.out, hH0.2.below HB1.out⟩))
  refine hK.out _ _ (fun _ => hs1) ?_
  clear hK K
  try simp only [Act.put, List.setIfInBounds_toArray, List.set_cons_zero, List.set_cons_succ]
  refine Ord.wpAnyU_one (i := 3) (by kernel_rfl) rfl (fun K hK => ?_)
  go_simp
  go_wp2_with ((go_at_call 41; (with_reducible refine (CB.out _).mono ?_); rintro e w2 ⟨g2, rfl, hg2, HN2, HB2⟩; have hs2 : _ ∧ _ := ⟨hs1.1.below HB2.out, hs1.2.below HB2.out⟩))
  refine hK.out _ _ (fun _ => hs2) ?_
  clear hK K
  try simp only [Act.put, List.setIfInBounds_toArray, List.set_cons_zero, List.set_cons_succ]
  refine Ord.wpAnyU_one (i := 4) (by kernel_rfl) rfl (fun K hK => ?_)
  go_simp
  refine hK.out _ _ (fun _ => hs2) ?_
  clear hK K
  try simp only [Act.put, List.setIfInBounds_toArray, List.set_cons_zero, List.set_cons_succ]
  refine Ord.wpAnyU_one (i := 5) (by kernel_rfl) rfl (fun K hK => ?_)
  go_simp
  refine hK.out _ _ (fun _ => hs2) ?_
  clear hK K
  try simp only [Act.put, List.setIfInBounds_toArray, List.set_cons_zero, List.set_cons_succ]
  refine Ord.wpAnyU_done (by kernel_rfl) ?_ _
  have HS2 := Lib.hid hs2
  have HN12 := Lib.hid (HN1.out.below HB2.out)
  have HB3 : Hid (Below w.heap.size w w2) := below2 (below_dN HB.out 1) (below2 HB1.out HB2.out)
  have HL3A := Lib.hid (HLA.out.below HB3.out)
  have HL3B := Lib.hid (HLB.out.below HB3.out)
  clear hs1 hs2 hH0 hHeld
  go_wp2
  go_loopw [7] (fun i wr => ∃ k : Nat, k ≤ 19 ∧ i = .int .i64 k ∧ Hid (Below w2.heap.size w2 wr)) (fun i _ => 19 - (intOf i).toNat)
  case atStart => exact ⟨0, by omega, rfl, Below.refl _ _⟩
  case round =>
    obtain ⟨k, hk, rfl, hb⟩ := hrel
    by_cases hlt : k < 19
    · have cx1 := (HN12.out.below hb.out).cell k hlt
      have cx2 := (HN2.out.below hb.out).cell k hlt
      have hlt1 : (k : Int) < 19 := by omega
      have d1 : decide ((k : Int) < 19) = true := decide_eq_true hlt1
      have hk0 : (0 : Int) ≤ k := by omega
      have n0 : ¬ (k : Int) < 0 := by omega
      generalize a.num k = X at *
      go_wp2
      go_quiet (fail)
      go_wp2
      go_roundw
      case rel => exact ⟨k + 1, by omega, by go_num, below_dN hb.out _⟩
      case measure => simp [intOf]; omega
    · have n1 : ¬ (k : Int) < 19 := by omega
      have d1 : decide ((k : Int) < 19) = false := decide_eq_false n1
      obtain ⟨x0, x20, x21⟩ := (HS2.out.1.below hb.out).three
      obtain ⟨y0, y20, y21⟩ := (HS2.out.2.below hb.out).three
      have HLRA := Lib.hid (HL3A.out.below hb.out)
      have HLRB := Lib.hid (HL3B.out.below hb.out)
      rw [← HE.out.kind] at y0
      go_wp2_with (first
        | (go_at_call 42; (with_reducible refine (CG.out _ _ _ _ a.gives _ _ rfl (by rw [HE.out.gives]) HN.out.1 _ HLRA.out.g (by rw [HE.out.gives]; exact HLRB.out.g)).mono ?_); rintro e w4 ⟨rfl, hb4⟩; have HB4 := Lib.hid hb4; clear hb4; have z21 := (HB4.out.cell (p := ⟨w.heap.size, 21, none⟩) (World.rowIs.lt (HS2.out.1.below hb.out))).trans x21; have z22 := (HB4.out.cell (p := ⟨w.heap.size + 1, 21, none⟩) (World.rowIs.lt (HS2.out.2.below hb.out))).trans y21)
        | (go_at_call 42; (with_reducible refine (CG.out _ _ _ _ a.wants _ _ rfl (by rw [HE.out.wants]) HN.out.2 _ (HLRA.out.below HB4.out).w (by rw [HE.out.wants]; exact (HLRB.out.below HB4.out).w)).mono ?_); rintro e w5 ⟨rfl, hb5⟩; have HB5 := Lib.hid hb5; clear hb5))
      go_ret
      exact ⟨rfl, HB3.out.trans ((below2 hb.out (below2 HB4.out HB5.out)).mono HB3.out.size)⟩
end Cmd
end Go.Proofs.YtbjlkeneeodghaaDoor
